import Derived.Test.YtfcimcoanlgldaaGreatRows
import Derived.Test.YtfcimcoanlgldaaGreatB06

/-
  The functions of the seat in the small language: printed by a program (wip/tools/irdump.lean), each held against the model's code. No condition.
-/


namespace Go.Proofs.YtfcimcoanlgldaaGreat
namespace A
set_option linter.unusedVariables false
/- loop.example/g03011/laws.FnExactReviveWork -/
def F3 : Fun := ⟨101,
  .seq (.reg [o 2 (.box 8 (.t 0)), o 4 (.mv (.c (.bool false)))])
  (.seq (.reg [o 5 (.mv (.c (.int .i64 1048576)))])
  (.seq (.reg [o 16 (.load (some 8) (.t 2)), o 17 (.mv (.t 5)), o 18 (.call 5 [(.t 16), (.t 17)]), o 5 (.mv (.t 18))])
  (.seq (.seq (.reg [o 19 (.mv (.t 5)), o 20 (.bin .lss (.t 19) (.c (.int .i64 0)))])
  (.cond (.t 20) (.seq (.reg [o 4 (.mv (.c (.bool true)))])
   (.ret)) (.skip)))
  (.seq (.reg [o 22 (.load (some 8) (.t 2)), o 23 (.call 7 [(.t 22)]), o 24 (.mv (.t 1)), o 25 (.call 6 [(.t 23), (.t 24)]), o 21 (.mv (.t 25)), o 26 (.extract (.t 21) 0), o 27 (.extract (.t 21) 1), o 6 (.new 8 [.nsl, .nsl, .nsl, .nsl, .nsl, .nsl, (.int .i64 0), (.int .i64 0)]), st (.store 8 (.t 6) (.t 26)), o 7 (.mv (.t 27))])
  (.seq (.reg [o 28 (.load (some 8) (.t 2)), o 29 (.call 7 [(.t 28)]), o 8 (.new 8 [.nsl, .nsl, .nsl, .nsl, .nsl, .nsl, (.int .i64 0), (.int .i64 0)]), st (.store 8 (.t 8) (.t 29))])
  (.seq (.reg [o 31 (.load (some 8) (.t 8)), o 32 (.mv (.t 1)), o 33 (.call 8 [(.t 31), (.t 32)]), o 30 (.mv (.t 33)), o 34 (.extract (.t 30) 0), o 35 (.extract (.t 30) 1), o 9 (.new 8 [.nsl, .nsl, .nsl, .nsl, .nsl, .nsl, (.int .i64 0), (.int .i64 0)]), st (.store 8 (.t 9) (.t 34)), o 10 (.mv (.t 35))])
  (.seq (.seq (.reg [o 36 (.load (some 8) (.t 9)), o 37 (.load (some 8) (.t 6)), o 38 (.call 9 [(.t 36), (.t 37)]), o 39 (.un .not (.t 38)), o 40 (.mv (.t 39)), og 41 (.mv (.t 10)) 40 false, og 42 (.mv (.t 7)) 40 false, og 43 (.binb .neq (.t 41) (.t 42)) 40 false, o 44 (.pick (.t 40) (.c (.bool true)) (.t 43))])
  (.cond (.t 44) (.seq (.reg [o 4 (.mv (.c (.bool false)))])
   (.ret)) (.skip)))
  (.seq (.seq (.draw [o 45 (.load (some 8) (.t 8)), o 46 (.load (some 8) (.t 2)), o 47 (.callF 7 [(.t 46)]), o 48 (.callF 9 [(.t 45), (.t 47)]), o 49 (.un .not (.t 48))])
  (.cond (.t 49) (.seq (.reg [o 4 (.mv (.c (.bool false)))])
   (.ret)) (.skip)))
  (.seq (.reg [o 11 (.mv (.c (.int .i64 1)))])
  (.seq (.reg [o 50 (.load (some 8) (.t 8)), o 51 (.mv (.t 11)), o 52 (.call 10 [(.t 50), (.t 51)]), o 11 (.mv (.t 52))])
  (.seq (.seq (.reg [o 53 (.mv (.t 11)), o 54 (.bin .lss (.t 53) (.c (.int .i64 0))), o 55 (.mv (.t 54)), og 56 (.load (some 8) (.t 9)) 55 false, og 57 (.load (some 8) (.t 6)) 55 false, og 58 (.call 9 [(.t 56), (.t 57)]) 55 false, og 59 (.un .not (.t 58)) 55 false, o 60 (.pick (.t 55) (.c (.bool true)) (.t 59)), o 61 (.mv (.t 60)), og 62 (.mv (.t 10)) 61 false, og 63 (.mv (.t 7)) 61 false, og 64 (.binb .neq (.t 62) (.t 63)) 61 false, o 65 (.pick (.t 61) (.c (.bool true)) (.t 64))])
  (.cond (.t 65) (.seq (.reg [o 4 (.mv (.c (.bool false)))])
   (.ret)) (.skip)))
  (.seq (.reg [o 12 (.mv (.c (.int .i64 1)))])
  (.seq (.reg [o 66 (.load (some 8) (.t 9)), o 67 (.mv (.t 12)), o 68 (.call 10 [(.t 66), (.t 67)]), o 12 (.mv (.t 68))])
  (.seq (.reg [o 13 (.mv (.c (.int .i64 1)))])
  (.seq (.reg [o 69 (.load (some 8) (.t 9)), o 70 (.mv (.t 13)), o 71 (.call 11 [(.t 69), (.t 70)]), o 13 (.mv (.t 71))])
  (.seq (.seq (.reg [o 72 (.mv (.t 13)), o 73 (.bin .lss (.t 72) (.c (.int .i64 0)))])
  (.cond (.t 73) (.seq (.reg [o 4 (.mv (.c (.bool false)))])
   (.ret)) (.skip)))
  (.seq (.seq (.reg [o 74 (.mv (.t 13)), o 75 (.mv (.t 12)), o 76 (.bin .neq (.t 74) (.t 75))])
  (.cond (.t 76) (.seq (.reg [o 4 (.mv (.c (.bool false)))])
   (.ret)) (.skip)))
  (.seq (.reg [o 78 (.load (some 8) (.t 2)), o 79 (.call 7 [(.t 78)]), o 80 (.mv (.t 1)), o 81 (.call 8 [(.t 79), (.t 80)]), o 77 (.mv (.t 81)), o 82 (.extract (.t 77) 0), o 83 (.extract (.t 77) 1), o 14 (.new 8 [.nsl, .nsl, .nsl, .nsl, .nsl, .nsl, (.int .i64 0), (.int .i64 0)]), st (.store 8 (.t 14) (.t 82)), o 15 (.mv (.t 83))])
  (.seq (.seq (.reg [o 84 (.load (some 8) (.t 14)), o 85 (.load (some 8) (.t 6)), o 86 (.call 9 [(.t 84), (.t 85)]), o 87 (.un .not (.t 86)), o 88 (.mv (.t 87)), og 89 (.mv (.t 15)) 88 false, og 90 (.mv (.t 7)) 88 false, og 91 (.binb .neq (.t 89) (.t 90)) 88 false, o 92 (.pick (.t 88) (.c (.bool true)) (.t 91))])
  (.cond (.t 92) (.seq (.reg [o 4 (.mv (.c (.bool false)))])
   (.ret)) (.skip)))
  (.seq (.reg [o 13 (.mv (.c (.int .i64 1)))])
  (.seq (.reg [o 93 (.load (some 8) (.t 9)), o 94 (.mv (.t 13)), o 95 (.call 11 [(.t 93), (.t 94)]), o 13 (.mv (.t 95))])
  (.seq (.seq (.reg [o 96 (.mv (.t 13)), o 97 (.bin .lss (.t 96) (.c (.int .i64 0)))])
  (.cond (.t 97) (.seq (.reg [o 4 (.mv (.c (.bool false)))])
   (.ret)) (.skip)))
  (.seq (.seq (.reg [o 98 (.mv (.t 13)), o 99 (.mv (.t 12)), o 100 (.bin .neq (.t 98) (.t 99))])
  (.cond (.t 100) (.seq (.reg [o 4 (.mv (.c (.bool false)))])
   (.ret)) (.skip)))
  (.seq (.reg [o 4 (.mv (.c (.bool true)))])
  (.ret))))))))))))))))))))))))),
  [.tmp 4]⟩
/- loop.example/g03011/laws.FnExactStartWork -/
def F4 : Fun := ⟨101,
  .seq (.reg [o 2 (.box 8 (.t 0)), o 4 (.mv (.c (.bool false)))])
  (.seq (.reg [o 5 (.mv (.c (.int .i64 1048576)))])
  (.seq (.reg [o 16 (.load (some 8) (.t 2)), o 17 (.mv (.t 5)), o 18 (.call 5 [(.t 16), (.t 17)]), o 5 (.mv (.t 18))])
  (.seq (.seq (.reg [o 19 (.mv (.t 5)), o 20 (.bin .lss (.t 19) (.c (.int .i64 0)))])
  (.cond (.t 20) (.seq (.reg [o 4 (.mv (.c (.bool true)))])
   (.ret)) (.skip)))
  (.seq (.reg [o 22 (.load (some 8) (.t 2)), o 23 (.call 7 [(.t 22)]), o 24 (.mv (.t 1)), o 25 (.call 12 [(.t 23), (.t 24)]), o 21 (.mv (.t 25)), o 26 (.extract (.t 21) 0), o 27 (.extract (.t 21) 1), o 6 (.new 8 [.nsl, .nsl, .nsl, .nsl, .nsl, .nsl, (.int .i64 0), (.int .i64 0)]), st (.store 8 (.t 6) (.t 26)), o 7 (.mv (.t 27))])
  (.seq (.reg [o 28 (.load (some 8) (.t 2)), o 29 (.call 7 [(.t 28)]), o 8 (.new 8 [.nsl, .nsl, .nsl, .nsl, .nsl, .nsl, (.int .i64 0), (.int .i64 0)]), st (.store 8 (.t 8) (.t 29))])
  (.seq (.reg [o 31 (.load (some 8) (.t 8)), o 32 (.mv (.t 1)), o 33 (.call 13 [(.t 31), (.t 32)]), o 30 (.mv (.t 33)), o 34 (.extract (.t 30) 0), o 35 (.extract (.t 30) 1), o 9 (.new 8 [.nsl, .nsl, .nsl, .nsl, .nsl, .nsl, (.int .i64 0), (.int .i64 0)]), st (.store 8 (.t 9) (.t 34)), o 10 (.mv (.t 35))])
  (.seq (.seq (.reg [o 36 (.load (some 8) (.t 9)), o 37 (.load (some 8) (.t 6)), o 38 (.call 9 [(.t 36), (.t 37)]), o 39 (.un .not (.t 38)), o 40 (.mv (.t 39)), og 41 (.mv (.t 10)) 40 false, og 42 (.mv (.t 7)) 40 false, og 43 (.binb .neq (.t 41) (.t 42)) 40 false, o 44 (.pick (.t 40) (.c (.bool true)) (.t 43))])
  (.cond (.t 44) (.seq (.reg [o 4 (.mv (.c (.bool false)))])
   (.ret)) (.skip)))
  (.seq (.seq (.draw [o 45 (.load (some 8) (.t 8)), o 46 (.load (some 8) (.t 2)), o 47 (.callF 7 [(.t 46)]), o 48 (.callF 9 [(.t 45), (.t 47)]), o 49 (.un .not (.t 48))])
  (.cond (.t 49) (.seq (.reg [o 4 (.mv (.c (.bool false)))])
   (.ret)) (.skip)))
  (.seq (.reg [o 11 (.mv (.c (.int .i64 1)))])
  (.seq (.reg [o 50 (.load (some 8) (.t 8)), o 51 (.mv (.t 11)), o 52 (.call 10 [(.t 50), (.t 51)]), o 11 (.mv (.t 52))])
  (.seq (.seq (.reg [o 53 (.mv (.t 11)), o 54 (.bin .lss (.t 53) (.c (.int .i64 0))), o 55 (.mv (.t 54)), og 56 (.load (some 8) (.t 9)) 55 false, og 57 (.load (some 8) (.t 6)) 55 false, og 58 (.call 9 [(.t 56), (.t 57)]) 55 false, og 59 (.un .not (.t 58)) 55 false, o 60 (.pick (.t 55) (.c (.bool true)) (.t 59)), o 61 (.mv (.t 60)), og 62 (.mv (.t 10)) 61 false, og 63 (.mv (.t 7)) 61 false, og 64 (.binb .neq (.t 62) (.t 63)) 61 false, o 65 (.pick (.t 61) (.c (.bool true)) (.t 64))])
  (.cond (.t 65) (.seq (.reg [o 4 (.mv (.c (.bool false)))])
   (.ret)) (.skip)))
  (.seq (.reg [o 12 (.mv (.c (.int .i64 1)))])
  (.seq (.reg [o 66 (.load (some 8) (.t 9)), o 67 (.mv (.t 12)), o 68 (.call 10 [(.t 66), (.t 67)]), o 12 (.mv (.t 68))])
  (.seq (.reg [o 13 (.mv (.c (.int .i64 1)))])
  (.seq (.reg [o 69 (.load (some 8) (.t 9)), o 70 (.mv (.t 13)), o 71 (.call 11 [(.t 69), (.t 70)]), o 13 (.mv (.t 71))])
  (.seq (.seq (.reg [o 72 (.mv (.t 13)), o 73 (.bin .lss (.t 72) (.c (.int .i64 0)))])
  (.cond (.t 73) (.seq (.reg [o 4 (.mv (.c (.bool false)))])
   (.ret)) (.skip)))
  (.seq (.seq (.reg [o 74 (.mv (.t 13)), o 75 (.mv (.t 12)), o 76 (.bin .neq (.t 74) (.t 75))])
  (.cond (.t 76) (.seq (.reg [o 4 (.mv (.c (.bool false)))])
   (.ret)) (.skip)))
  (.seq (.reg [o 78 (.load (some 8) (.t 2)), o 79 (.call 7 [(.t 78)]), o 80 (.mv (.t 1)), o 81 (.call 13 [(.t 79), (.t 80)]), o 77 (.mv (.t 81)), o 82 (.extract (.t 77) 0), o 83 (.extract (.t 77) 1), o 14 (.new 8 [.nsl, .nsl, .nsl, .nsl, .nsl, .nsl, (.int .i64 0), (.int .i64 0)]), st (.store 8 (.t 14) (.t 82)), o 15 (.mv (.t 83))])
  (.seq (.seq (.reg [o 84 (.load (some 8) (.t 14)), o 85 (.load (some 8) (.t 6)), o 86 (.call 9 [(.t 84), (.t 85)]), o 87 (.un .not (.t 86)), o 88 (.mv (.t 87)), og 89 (.mv (.t 15)) 88 false, og 90 (.mv (.t 7)) 88 false, og 91 (.binb .neq (.t 89) (.t 90)) 88 false, o 92 (.pick (.t 88) (.c (.bool true)) (.t 91))])
  (.cond (.t 92) (.seq (.reg [o 4 (.mv (.c (.bool false)))])
   (.ret)) (.skip)))
  (.seq (.reg [o 13 (.mv (.c (.int .i64 1)))])
  (.seq (.reg [o 93 (.load (some 8) (.t 9)), o 94 (.mv (.t 13)), o 95 (.call 11 [(.t 93), (.t 94)]), o 13 (.mv (.t 95))])
  (.seq (.seq (.reg [o 96 (.mv (.t 13)), o 97 (.bin .lss (.t 96) (.c (.int .i64 0)))])
  (.cond (.t 97) (.seq (.reg [o 4 (.mv (.c (.bool false)))])
   (.ret)) (.skip)))
  (.seq (.seq (.reg [o 98 (.mv (.t 13)), o 99 (.mv (.t 12)), o 100 (.bin .neq (.t 98) (.t 99))])
  (.cond (.t 100) (.seq (.reg [o 4 (.mv (.c (.bool false)))])
   (.ret)) (.skip)))
  (.seq (.reg [o 4 (.mv (.c (.bool true)))])
  (.ret))))))))))))))))))))))))),
  [.tmp 4]⟩
/- loop.example/g03011/laws.szServer -/
def F5 : Fun := ⟨42,
  .seq (.reg [o 2 (.box 8 (.t 0)), o 4 (.mv (.c (.int .i64 0)))])
  (.seq (.reg [o 5 (.faddr 0 (.t 2)), o 6 (.load none (.t 5)), o 7 (.mv (.t 1)), o 8 (.call 14 [(.t 6), (.t 7)]), o 1 (.mv (.t 8))])
  (.seq (.seq (.reg [o 9 (.mv (.t 1)), o 10 (.bin .lss (.t 9) (.c (.int .i64 0)))])
  (.cond (.t 10) (.seq (.reg [o 4 (.mv (.c (.int .i64 (-1))))])
   (.ret)) (.skip)))
  (.seq (.reg [o 11 (.faddr 1 (.t 2)), o 12 (.load none (.t 11)), o 13 (.mv (.t 1)), o 14 (.call 15 [(.t 12), (.t 13)]), o 1 (.mv (.t 14))])
  (.seq (.seq (.reg [o 15 (.mv (.t 1)), o 16 (.bin .lss (.t 15) (.c (.int .i64 0)))])
  (.cond (.t 16) (.seq (.reg [o 4 (.mv (.c (.int .i64 (-1))))])
   (.ret)) (.skip)))
  (.seq (.reg [o 17 (.faddr 2 (.t 2)), o 18 (.load none (.t 17)), o 19 (.mv (.t 1)), o 20 (.call 16 [(.t 18), (.t 19)]), o 1 (.mv (.t 20))])
  (.seq (.seq (.reg [o 21 (.mv (.t 1)), o 22 (.bin .lss (.t 21) (.c (.int .i64 0)))])
  (.cond (.t 22) (.seq (.reg [o 4 (.mv (.c (.int .i64 (-1))))])
   (.ret)) (.skip)))
  (.seq (.reg [o 23 (.faddr 3 (.t 2)), o 24 (.load none (.t 23)), o 25 (.mv (.t 1)), o 26 (.call 17 [(.t 24), (.t 25)]), o 1 (.mv (.t 26))])
  (.seq (.seq (.reg [o 27 (.mv (.t 1)), o 28 (.bin .lss (.t 27) (.c (.int .i64 0)))])
  (.cond (.t 28) (.seq (.reg [o 4 (.mv (.c (.int .i64 (-1))))])
   (.ret)) (.skip)))
  (.seq (.reg [o 29 (.faddr 4 (.t 2)), o 30 (.load none (.t 29)), o 31 (.mv (.t 1)), o 32 (.call 18 [(.t 30), (.t 31)]), o 1 (.mv (.t 32))])
  (.seq (.seq (.reg [o 33 (.mv (.t 1)), o 34 (.bin .lss (.t 33) (.c (.int .i64 0)))])
  (.cond (.t 34) (.seq (.reg [o 4 (.mv (.c (.int .i64 (-1))))])
   (.ret)) (.skip)))
  (.seq (.reg [o 35 (.faddr 5 (.t 2)), o 36 (.load none (.t 35)), o 37 (.mv (.t 1)), o 38 (.call 19 [(.t 36), (.t 37)]), o 1 (.mv (.t 38))])
  (.seq (.seq (.reg [o 39 (.mv (.t 1)), o 40 (.bin .lss (.t 39) (.c (.int .i64 0)))])
  (.cond (.t 40) (.seq (.reg [o 4 (.mv (.c (.int .i64 (-1))))])
   (.ret)) (.skip)))
  (.seq (.reg [o 41 (.mv (.t 1)), o 4 (.mv (.t 41))])
  (.ret)))))))))))))),
  [.tmp 4]⟩
/- loop.example/g03011/spec.ReviveWork -/
def F6 : Fun := ⟨38,
  .seq (.reg [o 2 (.box 8 (.t 0)), o 4 (.new 8 [.nsl, .nsl, .nsl, .nsl, .nsl, .nsl, (.int .i64 0), (.int .i64 0)]), o 5 (.mv (.c (.bool false)))])
  (.seq (.reg [o 7 (.load (some 8) (.t 2)), o 8 (.call 20 [(.t 7)]), o 6 (.new 8 [.nsl, .nsl, .nsl, .nsl, .nsl, .nsl, (.int .i64 0), (.int .i64 0)]), st (.store 8 (.t 6) (.t 8))])
  (.seq (.seq (.reg [o 9 (.mv (.t 1)), o 10 (.faddr 4 (.t 2)), o 11 (.load none (.t 10)), o 12 (.lenL (.t 11)), o 13 (.bin .sub (.t 12) (.c (.int .i64 1))), o 14 (.call 21 [(.t 9), (.c (.int .i64 0)), (.t 13)]), o 15 (.un .not (.t 14)), o 16 (.mv (.t 15)), og 17 (.faddr 4 (.t 2)) 16 false, og 18 (.load none (.t 17)) 16 false, og 19 (.mv (.t 1)) 16 false, og 20 (.iaddr 9 (.t 18) (.t 19)) 16 false, og 21 (.faddr 0 (.t 20)) 16 false, og 22 (.load none (.t 21)) 16 false, og 23 (.bin .neq (.t 22) (.c (.int .i64 2))) 16 false, o 24 (.pick (.t 16) (.c (.bool true)) (.t 23))])
  (.cond (.t 24) (.seq (.reg [o 25 (.load (some 8) (.t 6)), st (.store 8 (.t 4) (.t 25)), o 5 (.mv (.c (.bool false)))])
   (.ret)) (.skip)))
  (.seq (.reg [o 26 (.faddr 4 (.t 6)), o 27 (.load none (.t 26)), o 28 (.mv (.t 1)), o 29 (.build [(.int .i64 0), (.int .i64 0), (.str []), .nsl, .nsl, (.str []), (.str []), .nsl, (.int .i64 0)] []), o 30 (.iaddr 9 (.t 27) (.t 28)), st (.store 9 (.t 30) (.t 29))])
  (.seq (.reg [o 31 (.faddr 1 (.t 2)), o 32 (.load none (.t 31)), o 33 (.mv (.t 1)), o 34 (.bin .add (.t 33) (.c (.int .i64 1))), o 35 (.call 22 [(.t 32), (.t 34)]), o 36 (.faddr 1 (.t 6)), st (.store 1 (.t 36) (.t 35))])
  (.seq (.reg [o 37 (.load (some 8) (.t 6)), st (.store 8 (.t 4) (.t 37)), o 5 (.mv (.c (.bool true)))])
  (.ret)))))),
  [.cell 4 (some 8), .tmp 5]⟩
/- loop.example/g03011/laws.toServer -/
def F7 : Fun := ⟨35,
  .seq (.reg [o 1 (.box 8 (.t 0)), o 2 (.new 8 [.nsl, .nsl, .nsl, .nsl, .nsl, .nsl, (.int .i64 0), (.int .i64 0)])])
  (.seq (.reg [o 3 (.new 8 [.nsl, .nsl, .nsl, .nsl, .nsl, .nsl, (.int .i64 0), (.int .i64 0)])])
  (.seq (.reg [o 4 (.faddr 0 (.t 1)), o 5 (.load none (.t 4)), o 6 (.call 23 [(.t 5)]), o 7 (.faddr 0 (.t 3)), st (.store 1 (.t 7) (.t 6))])
  (.seq (.reg [o 8 (.faddr 1 (.t 1)), o 9 (.load none (.t 8)), o 10 (.call 24 [(.t 9)]), o 11 (.faddr 1 (.t 3)), st (.store 1 (.t 11) (.t 10))])
  (.seq (.reg [o 12 (.faddr 2 (.t 1)), o 13 (.load none (.t 12)), o 14 (.call 25 [(.t 13)]), o 15 (.faddr 2 (.t 3)), st (.store 1 (.t 15) (.t 14))])
  (.seq (.reg [o 16 (.faddr 3 (.t 1)), o 17 (.load none (.t 16)), o 18 (.call 26 [(.t 17)]), o 19 (.faddr 3 (.t 3)), st (.store 1 (.t 19) (.t 18))])
  (.seq (.reg [o 20 (.faddr 4 (.t 1)), o 21 (.load none (.t 20)), o 22 (.call 27 [(.t 21)]), o 23 (.faddr 4 (.t 3)), st (.store 1 (.t 23) (.t 22))])
  (.seq (.reg [o 24 (.faddr 5 (.t 1)), o 25 (.load none (.t 24)), o 26 (.call 28 [(.t 25)]), o 27 (.faddr 5 (.t 3)), st (.store 1 (.t 27) (.t 26))])
  (.seq (.reg [o 28 (.faddr 6 (.t 1)), o 29 (.load none (.t 28)), o 30 (.faddr 6 (.t 3)), st (.store 1 (.t 30) (.t 29))])
  (.seq (.reg [o 31 (.faddr 7 (.t 1)), o 32 (.load none (.t 31)), o 33 (.faddr 7 (.t 3)), st (.store 1 (.t 33) (.t 32))])
  (.seq (.reg [o 34 (.load (some 8) (.t 3)), st (.store 8 (.t 2) (.t 34))])
  (.ret))))))))))),
  [.cell 2 (some 8)]⟩
/- loop.example/g03011/impl.ReviveWork -/
def F8 : Fun := ⟨38,
  .seq (.reg [o 2 (.box 8 (.t 0)), o 4 (.new 8 [.nsl, .nsl, .nsl, .nsl, .nsl, .nsl, (.int .i64 0), (.int .i64 0)]), o 5 (.mv (.c (.bool false)))])
  (.seq (.reg [o 7 (.load (some 8) (.t 2)), o 8 (.call 29 [(.t 7)]), o 6 (.new 8 [.nsl, .nsl, .nsl, .nsl, .nsl, .nsl, (.int .i64 0), (.int .i64 0)]), st (.store 8 (.t 6) (.t 8))])
  (.seq (.seq (.reg [o 9 (.mv (.t 1)), o 10 (.faddr 4 (.t 2)), o 11 (.load none (.t 10)), o 12 (.lenL (.t 11)), o 13 (.bin .sub (.t 12) (.c (.int .i64 1))), o 14 (.call 30 [(.t 9), (.c (.int .i64 0)), (.t 13)]), o 15 (.un .not (.t 14)), o 16 (.mv (.t 15)), og 17 (.faddr 4 (.t 2)) 16 false, og 18 (.load none (.t 17)) 16 false, og 19 (.mv (.t 1)) 16 false, og 20 (.iaddr 9 (.t 18) (.t 19)) 16 false, og 21 (.faddr 0 (.t 20)) 16 false, og 22 (.load none (.t 21)) 16 false, og 23 (.bin .neq (.t 22) (.c (.int .i64 2))) 16 false, o 24 (.pick (.t 16) (.c (.bool true)) (.t 23))])
  (.cond (.t 24) (.seq (.reg [o 25 (.load (some 8) (.t 6)), st (.store 8 (.t 4) (.t 25)), o 5 (.mv (.c (.bool false)))])
   (.ret)) (.skip)))
  (.seq (.reg [o 26 (.faddr 4 (.t 6)), o 27 (.load none (.t 26)), o 28 (.mv (.t 1)), o 29 (.build [(.int .i64 0), (.int .i64 0), (.str []), .nsl, .nsl, (.str []), (.str []), .nsl, (.int .i64 0)] []), o 30 (.iaddr 9 (.t 27) (.t 28)), st (.store 9 (.t 30) (.t 29))])
  (.seq (.reg [o 31 (.faddr 1 (.t 6)), o 32 (.load none (.t 31)), o 33 (.mv (.t 1)), o 34 (.bin .add (.t 33) (.c (.int .i64 1))), o 35 (.call 31 [(.t 32), (.t 34)]), o 36 (.faddr 1 (.t 6)), st (.store 1 (.t 36) (.t 35))])
  (.seq (.reg [o 37 (.load (some 8) (.t 6)), st (.store 8 (.t 4) (.t 37)), o 5 (.mv (.c (.bool true)))])
  (.ret)))))),
  [.cell 4 (some 8), .tmp 5]⟩
/- loop.example/g03011/laws.eqServer -/
def F9 : Fun := ⟨51,
  .seq (.reg [o 2 (.box 8 (.t 0)), o 3 (.box 8 (.t 1)), o 4 (.mv (.c (.bool false)))])
  (.seq (.seq (.reg [o 5 (.faddr 0 (.t 2)), o 6 (.load none (.t 5)), o 7 (.faddr 0 (.t 3)), o 8 (.load none (.t 7)), o 9 (.call 32 [(.t 6), (.t 8)]), o 10 (.un .not (.t 9))])
  (.cond (.t 10) (.seq (.reg [o 4 (.mv (.c (.bool false)))])
   (.ret)) (.skip)))
  (.seq (.seq (.reg [o 11 (.faddr 1 (.t 2)), o 12 (.load none (.t 11)), o 13 (.faddr 1 (.t 3)), o 14 (.load none (.t 13)), o 15 (.call 33 [(.t 12), (.t 14)]), o 16 (.un .not (.t 15))])
  (.cond (.t 16) (.seq (.reg [o 4 (.mv (.c (.bool false)))])
   (.ret)) (.skip)))
  (.seq (.seq (.reg [o 17 (.faddr 2 (.t 2)), o 18 (.load none (.t 17)), o 19 (.faddr 2 (.t 3)), o 20 (.load none (.t 19)), o 21 (.call 34 [(.t 18), (.t 20)]), o 22 (.un .not (.t 21))])
  (.cond (.t 22) (.seq (.reg [o 4 (.mv (.c (.bool false)))])
   (.ret)) (.skip)))
  (.seq (.seq (.reg [o 23 (.faddr 3 (.t 2)), o 24 (.load none (.t 23)), o 25 (.faddr 3 (.t 3)), o 26 (.load none (.t 25)), o 27 (.call 35 [(.t 24), (.t 26)]), o 28 (.un .not (.t 27))])
  (.cond (.t 28) (.seq (.reg [o 4 (.mv (.c (.bool false)))])
   (.ret)) (.skip)))
  (.seq (.seq (.reg [o 29 (.faddr 4 (.t 2)), o 30 (.load none (.t 29)), o 31 (.faddr 4 (.t 3)), o 32 (.load none (.t 31)), o 33 (.call 36 [(.t 30), (.t 32)]), o 34 (.un .not (.t 33))])
  (.cond (.t 34) (.seq (.reg [o 4 (.mv (.c (.bool false)))])
   (.ret)) (.skip)))
  (.seq (.seq (.reg [o 35 (.faddr 5 (.t 2)), o 36 (.load none (.t 35)), o 37 (.faddr 5 (.t 3)), o 38 (.load none (.t 37)), o 39 (.call 37 [(.t 36), (.t 38)]), o 40 (.un .not (.t 39))])
  (.cond (.t 40) (.seq (.reg [o 4 (.mv (.c (.bool false)))])
   (.ret)) (.skip)))
  (.seq (.seq (.reg [o 41 (.faddr 6 (.t 2)), o 42 (.load none (.t 41)), o 43 (.faddr 6 (.t 3)), o 44 (.load none (.t 43)), o 45 (.bin .neq (.t 42) (.t 44))])
  (.cond (.t 45) (.seq (.reg [o 4 (.mv (.c (.bool false)))])
   (.ret)) (.skip)))
  (.seq (.seq (.reg [o 46 (.faddr 7 (.t 2)), o 47 (.load none (.t 46)), o 48 (.faddr 7 (.t 3)), o 49 (.load none (.t 48)), o 50 (.bin .neq (.t 47) (.t 49))])
  (.cond (.t 50) (.seq (.reg [o 4 (.mv (.c (.bool false)))])
   (.ret)) (.skip)))
  (.seq (.reg [o 4 (.mv (.c (.bool true)))])
  (.ret)))))))))),
  [.tmp 4]⟩
/- loop.example/g03011/laws.markServer -/
def F10 : Fun := ⟨30,
  .seq (.reg [o 2 (.box 8 (.t 0)), o 4 (.mv (.c (.int .i64 0)))])
  (.seq (.reg [o 5 (.faddr 0 (.t 2)), o 6 (.load none (.t 5)), o 7 (.mv (.t 1)), o 8 (.call 38 [(.t 6), (.t 7)]), o 1 (.mv (.t 8))])
  (.seq (.reg [o 9 (.faddr 1 (.t 2)), o 10 (.load none (.t 9)), o 11 (.mv (.t 1)), o 12 (.call 39 [(.t 10), (.t 11)]), o 1 (.mv (.t 12))])
  (.seq (.reg [o 13 (.faddr 2 (.t 2)), o 14 (.load none (.t 13)), o 15 (.mv (.t 1)), o 16 (.call 40 [(.t 14), (.t 15)]), o 1 (.mv (.t 16))])
  (.seq (.reg [o 17 (.faddr 3 (.t 2)), o 18 (.load none (.t 17)), o 19 (.mv (.t 1)), o 20 (.call 41 [(.t 18), (.t 19)]), o 1 (.mv (.t 20))])
  (.seq (.reg [o 21 (.faddr 4 (.t 2)), o 22 (.load none (.t 21)), o 23 (.mv (.t 1)), o 24 (.call 42 [(.t 22), (.t 23)]), o 1 (.mv (.t 24))])
  (.seq (.reg [o 25 (.faddr 5 (.t 2)), o 26 (.load none (.t 25)), o 27 (.mv (.t 1)), o 28 (.call 43 [(.t 26), (.t 27)]), o 1 (.mv (.t 28))])
  (.seq (.reg [o 29 (.mv (.t 1)), o 4 (.mv (.t 29))])
  (.ret)))))))),
  [.tmp 4]⟩
/- loop.example/g03011/laws.heldServer -/
def F11 : Fun := ⟨42,
  .seq (.reg [o 2 (.box 8 (.t 0)), o 4 (.mv (.c (.int .i64 0)))])
  (.seq (.reg [o 5 (.faddr 0 (.t 2)), o 6 (.load none (.t 5)), o 7 (.mv (.t 1)), o 8 (.call 44 [(.t 6), (.t 7)]), o 1 (.mv (.t 8))])
  (.seq (.seq (.reg [o 9 (.mv (.t 1)), o 10 (.bin .lss (.t 9) (.c (.int .i64 0)))])
  (.cond (.t 10) (.seq (.reg [o 4 (.mv (.c (.int .i64 (-1))))])
   (.ret)) (.skip)))
  (.seq (.reg [o 11 (.faddr 1 (.t 2)), o 12 (.load none (.t 11)), o 13 (.mv (.t 1)), o 14 (.call 45 [(.t 12), (.t 13)]), o 1 (.mv (.t 14))])
  (.seq (.seq (.reg [o 15 (.mv (.t 1)), o 16 (.bin .lss (.t 15) (.c (.int .i64 0)))])
  (.cond (.t 16) (.seq (.reg [o 4 (.mv (.c (.int .i64 (-1))))])
   (.ret)) (.skip)))
  (.seq (.reg [o 17 (.faddr 2 (.t 2)), o 18 (.load none (.t 17)), o 19 (.mv (.t 1)), o 20 (.call 46 [(.t 18), (.t 19)]), o 1 (.mv (.t 20))])
  (.seq (.seq (.reg [o 21 (.mv (.t 1)), o 22 (.bin .lss (.t 21) (.c (.int .i64 0)))])
  (.cond (.t 22) (.seq (.reg [o 4 (.mv (.c (.int .i64 (-1))))])
   (.ret)) (.skip)))
  (.seq (.reg [o 23 (.faddr 3 (.t 2)), o 24 (.load none (.t 23)), o 25 (.mv (.t 1)), o 26 (.call 47 [(.t 24), (.t 25)]), o 1 (.mv (.t 26))])
  (.seq (.seq (.reg [o 27 (.mv (.t 1)), o 28 (.bin .lss (.t 27) (.c (.int .i64 0)))])
  (.cond (.t 28) (.seq (.reg [o 4 (.mv (.c (.int .i64 (-1))))])
   (.ret)) (.skip)))
  (.seq (.reg [o 29 (.faddr 4 (.t 2)), o 30 (.load none (.t 29)), o 31 (.mv (.t 1)), o 32 (.call 48 [(.t 30), (.t 31)]), o 1 (.mv (.t 32))])
  (.seq (.seq (.reg [o 33 (.mv (.t 1)), o 34 (.bin .lss (.t 33) (.c (.int .i64 0)))])
  (.cond (.t 34) (.seq (.reg [o 4 (.mv (.c (.int .i64 (-1))))])
   (.ret)) (.skip)))
  (.seq (.reg [o 35 (.faddr 5 (.t 2)), o 36 (.load none (.t 35)), o 37 (.mv (.t 1)), o 38 (.call 49 [(.t 36), (.t 37)]), o 1 (.mv (.t 38))])
  (.seq (.seq (.reg [o 39 (.mv (.t 1)), o 40 (.bin .lss (.t 39) (.c (.int .i64 0)))])
  (.cond (.t 40) (.seq (.reg [o 4 (.mv (.c (.int .i64 (-1))))])
   (.ret)) (.skip)))
  (.seq (.reg [o 41 (.mv (.t 1)), o 4 (.mv (.t 41))])
  (.ret)))))))))))))),
  [.tmp 4]⟩
/- loop.example/g03011/spec.StartWork -/
def F12 : Fun := ⟨111,
  .seq (.reg [o 2 (.box 8 (.t 0)), o 4 (.new 8 [.nsl, .nsl, .nsl, .nsl, .nsl, .nsl, (.int .i64 0), (.int .i64 0)]), o 5 (.mv (.c (.bool false)))])
  (.seq (.reg [o 13 (.load (some 8) (.t 2)), o 14 (.call 20 [(.t 13)]), o 6 (.new 8 [.nsl, .nsl, .nsl, .nsl, .nsl, .nsl, (.int .i64 0), (.int .i64 0)]), st (.store 8 (.t 6) (.t 14))])
  (.seq (.seq (.reg [o 15 (.mv (.t 1)), o 16 (.faddr 4 (.t 2)), o 17 (.load none (.t 16)), o 18 (.lenL (.t 17)), o 19 (.bin .sub (.t 18) (.c (.int .i64 1))), o 20 (.call 21 [(.t 15), (.c (.int .i64 0)), (.t 19)]), o 21 (.un .not (.t 20)), o 22 (.mv (.t 21)), og 23 (.faddr 4 (.t 2)) 22 false, og 24 (.load none (.t 23)) 22 false, og 25 (.mv (.t 1)) 22 false, og 26 (.iaddr 9 (.t 24) (.t 25)) 22 false, og 27 (.faddr 0 (.t 26)) 22 false, og 28 (.load none (.t 27)) 22 false, og 29 (.bin .neq (.t 28) (.c (.int .i64 0))) 22 false, o 30 (.pick (.t 22) (.c (.bool true)) (.t 29))])
  (.cond (.t 30) (.seq (.reg [o 31 (.load (some 8) (.t 6)), st (.store 8 (.t 4) (.t 31)), o 5 (.mv (.c (.bool false)))])
   (.ret)) (.skip)))
  (.seq (.seq (.reg [o 7 (.mv (.c (.int .i64 0)))])
  (.block 0 (.loop (.seq (.seq (.reg [o 32 (.mv (.t 7)), o 33 (.faddr 3 (.t 2)), o 34 (.load none (.t 33)), o 35 (.lenL (.t 34)), o 36 (.bin .lss (.t 32) (.t 35))])
    (.cond (.t 36) (.skip) (.exit 0)))
    (.seq (.block 1 (.seq (.reg [o 39 (.faddr 3 (.t 6)), o 40 (.load none (.t 39)), o 41 (.mv (.t 7)), o 42 (.iaddr 5 (.t 40) (.t 41)), o 43 (.load (some 5) (.t 42)), o 8 (.new 5 [(.int .i64 0), (.str []), .nsl, .nsl, (.str [])]), st (.store 5 (.t 8) (.t 43))])
     (.seq (.reg [o 9 (.mv (.c (.str [])))])
     (.seq (.seq (.reg [o 44 (.faddr 4 (.t 8)), o 45 (.load none (.t 44)), o 46 (.bin .neq (.t 45) (.c (.str [])))])
     (.cond (.t 46) (.seq (.reg [o 48 (.faddr 2 (.t 2)), o 49 (.load none (.t 48)), o 50 (.faddr 4 (.t 8)), o 51 (.load none (.t 50)), o 52 (.mv (.t 1)), o 53 (.bin .add (.t 52) (.c (.int .i64 1))), o 54 (.faddr 7 (.t 2)), o 55 (.load none (.t 54)), o 56 (.call 50 [(.t 49), (.t 51), (.t 53), (.t 55)]), o 47 (.mv (.t 56)), o 57 (.extract (.t 47) 0), o 58 (.extract (.t 47) 1), o 59 (.extract (.t 47) 2), o 10 (.mv (.t 57)), o 11 (.mv (.t 58)), o 12 (.mv (.t 59))])
      (.seq (.seq (.reg [o 60 (.mv (.t 12)), o 61 (.bin .eql (.t 60) (.c (.int .i64 2))), o 62 (.mv (.t 61)), og 63 (.mv (.t 12)) 62 false, og 64 (.bin .eql (.t 63) (.c (.int .i64 1))) 62 false, o 65 (.pick (.t 62) (.c (.bool true)) (.t 64))])
      (.cond (.t 65) (.exit 1) (.skip)))
      (.seq (.seq (.reg [o 66 (.mv (.t 12)), o 67 (.bin .eql (.t 66) (.c (.int .i64 3)))])
      (.cond (.t 67) (.reg [o 68 (.faddr 4 (.t 8)), st (.store 1 (.t 68) (.c (.str [])))]) (.skip)))
      (.seq (.reg [o 69 (.mv (.t 10)), o 70 (.faddr 2 (.t 6)), st (.store 1 (.t 70) (.t 69))])
      (.reg [o 71 (.mv (.t 11)), o 9 (.mv (.t 71))]))))) (.skip)))
     (.seq (.reg [o 72 (.faddr 3 (.t 6)), o 73 (.load none (.t 72)), o 74 (.mv (.t 7)), o 75 (.slice 5 (.t 73) none (some (.t 74))), o 76 (.faddr 3 (.t 6)), o 77 (.load none (.t 76)), o 78 (.mv (.t 7)), o 79 (.bin .add (.t 78) (.c (.int .i64 1))), o 80 (.slice 5 (.t 77) (some (.t 79)) none), o 81 (.append 5 88 (.t 75) (.t 80)), o 82 (.faddr 3 (.t 6)), st (.store 1 (.t 82) (.t 81))])
     (.seq (.reg [o 83 (.faddr 4 (.t 6)), o 84 (.load none (.t 83)), o 85 (.mv (.t 1)), o 86 (.iaddr 9 (.t 84) (.t 85)), o 87 (.faddr 0 (.t 86)), st (.store 1 (.t 87) (.c (.int .i64 1)))])
     (.seq (.reg [o 88 (.faddr 4 (.t 6)), o 89 (.load none (.t 88)), o 90 (.mv (.t 1)), o 91 (.load (some 5) (.t 8)), o 92 (.iaddr 9 (.t 89) (.t 90)), o 93 (.faddr 1 (.t 92)), st (.store 5 (.t 93) (.t 91))])
     (.seq (.reg [o 94 (.faddr 4 (.t 6)), o 95 (.load none (.t 94)), o 96 (.mv (.t 1)), o 97 (.mv (.t 9)), o 98 (.iaddr 9 (.t 95) (.t 96)), o 99 (.faddr 6 (.t 98)), st (.store 1 (.t 99) (.t 97))])
     (.seq (.reg [o 100 (.faddr 4 (.t 6)), o 101 (.load none (.t 100)), o 102 (.mv (.t 1)), o 104 (.faddr 0 (.t 2)), o 105 (.load none (.t 104)), o 103 (.bslice 3 [(.str []), (.str []), (.int .i64 0)] 0 []), st (.chk none (.t 100) (.t 101)), o 106 (.append 3 40 (.t 103) (.t 105)), st (.chk none (.t 100) (.t 101)), o 107 (.iaddr 9 (.t 101) (.t 102)), o 108 (.faddr 7 (.t 107)), st (.store 1 (.t 108) (.t 106))])
     (.seq (.reg [o 109 (.load (some 8) (.t 6)), st (.store 8 (.t 4) (.t 109)), o 5 (.mv (.c (.bool true)))])
     (.ret)))))))))))
    (.reg [o 37 (.mv (.t 7)), o 38 (.bin .add (.t 37) (.c (.int .i64 1))), o 7 (.mv (.t 38))]))))))
  (.seq (.reg [o 110 (.load (some 8) (.t 6)), st (.store 8 (.t 4) (.t 110)), o 5 (.mv (.c (.bool false)))])
  (.ret))))),
  [.cell 4 (some 8), .tmp 5]⟩
/- loop.example/g03011/impl.StartWork -/
def F13 : Fun := ⟨91,
  .seq (.reg [o 2 (.box 8 (.t 0)), o 4 (.new 8 [.nsl, .nsl, .nsl, .nsl, .nsl, .nsl, (.int .i64 0), (.int .i64 0)]), o 5 (.mv (.c (.bool false)))])
  (.seq (.reg [o 13 (.load (some 8) (.t 2)), o 14 (.call 29 [(.t 13)]), o 6 (.new 8 [.nsl, .nsl, .nsl, .nsl, .nsl, .nsl, (.int .i64 0), (.int .i64 0)]), st (.store 8 (.t 6) (.t 14))])
  (.seq (.seq (.reg [o 15 (.mv (.t 1)), o 16 (.faddr 4 (.t 2)), o 17 (.load none (.t 16)), o 18 (.lenL (.t 17)), o 19 (.bin .sub (.t 18) (.c (.int .i64 1))), o 20 (.call 30 [(.t 15), (.c (.int .i64 0)), (.t 19)]), o 21 (.un .not (.t 20)), o 22 (.mv (.t 21)), og 23 (.faddr 4 (.t 2)) 22 false, og 24 (.load none (.t 23)) 22 false, og 25 (.mv (.t 1)) 22 false, og 26 (.iaddr 9 (.t 24) (.t 25)) 22 false, og 27 (.faddr 0 (.t 26)) 22 false, og 28 (.load none (.t 27)) 22 false, og 29 (.bin .neq (.t 28) (.c (.int .i64 0))) 22 false, o 30 (.pick (.t 22) (.c (.bool true)) (.t 29))])
  (.cond (.t 30) (.seq (.reg [o 31 (.load (some 8) (.t 6)), st (.store 8 (.t 4) (.t 31)), o 5 (.mv (.c (.bool false)))])
   (.ret)) (.skip)))
  (.seq (.seq (.reg [o 32 (.faddr 3 (.t 6)), o 33 (.load none (.t 32)), o 34 (.lenL (.t 33)), o 35 (.mv (.c (.int .i64 0)))])
  (.block 0 (.loop (.seq (.reg [o 36 (.bin .lss (.t 35) (.t 34))])
    (.seq (.cond (.t 36) (.skip) (.exit 0))
    (.seq (.block 1 (.seq (.reg [o 37 (.mv (.t 35)), o 38 (.iaddr 5 (.t 33) (.t 35)), o 39 (.load (some 5) (.t 38)), o 8 (.new 5 [(.int .i64 0), (.str []), .nsl, .nsl, (.str [])]), o 7 (.mv (.t 37)), st (.store 5 (.t 8) (.t 39))])
     (.seq (.reg [o 9 (.mv (.c (.str [])))])
     (.seq (.seq (.reg [o 40 (.faddr 4 (.t 8)), o 41 (.load none (.t 40)), o 42 (.bin .neq (.t 41) (.c (.str [])))])
     (.cond (.t 42) (.seq (.reg [o 44 (.faddr 2 (.t 6)), o 45 (.load none (.t 44)), o 46 (.faddr 4 (.t 8)), o 47 (.load none (.t 46)), o 48 (.mv (.t 1)), o 49 (.bin .add (.t 48) (.c (.int .i64 1))), o 50 (.faddr 7 (.t 6)), o 51 (.load none (.t 50)), o 52 (.call 51 [(.t 45), (.t 47), (.t 49), (.t 51)]), o 43 (.mv (.t 52)), o 53 (.extract (.t 43) 0), o 54 (.extract (.t 43) 1), o 55 (.extract (.t 43) 2), o 10 (.mv (.t 53)), o 11 (.mv (.t 54)), o 12 (.mv (.t 55))])
      (.seq (.reg [o 56 (.mv (.t 12))])
      (.block 2 (.seq (.reg [o 58 (.bin .eql (.t 56) (.c (.int .i64 0))), o 57 (.mv (.t 58))])
       (.cond (.t 57) (.seq (.reg [o 59 (.mv (.t 10)), o 60 (.faddr 2 (.t 6)), st (.store 1 (.t 60) (.t 59))])
        (.reg [o 61 (.mv (.t 11)), o 9 (.mv (.t 61))])) (.seq (.reg [o 63 (.bin .eql (.t 56) (.c (.int .i64 3))), o 62 (.mv (.t 63))])
        (.cond (.t 62) (.reg [o 64 (.faddr 4 (.t 8)), st (.store 1 (.t 64) (.c (.str [])))]) (.exit 1)))))))) (.skip)))
     (.seq (.reg [o 65 (.faddr 3 (.t 6)), o 66 (.load none (.t 65)), o 67 (.mv (.t 7)), o 68 (.mv (.t 7)), o 69 (.bin .add (.t 68) (.c (.int .i64 1))), o 70 (.call 52 [(.t 66), (.t 67), (.t 69)]), o 71 (.faddr 3 (.t 6)), st (.store 1 (.t 71) (.t 70))])
     (.seq (.reg [o 72 (.faddr 4 (.t 6)), o 73 (.load none (.t 72)), o 74 (.mv (.t 1)), o 75 (.load (some 5) (.t 8)), o 76 (.mv (.t 9)), o 77 (.faddr 0 (.t 6)), o 78 (.load none (.t 77)), o 80 (.faddr 4 (.t 6)), o 81 (.load none (.t 80)), o 82 (.mv (.t 1)), o 83 (.iaddr 9 (.t 81) (.t 82)), o 84 (.faddr 8 (.t 83)), o 85 (.load none (.t 84)), o 79 (.call 53 [(.t 78)]), st (.chk none (.t 72) (.t 73)), st (.chk (some 5) (.t 8) (.t 75)), st (.chk none (.t 80) (.t 81)), st (.chk none (.t 84) (.t 85)), o 86 (.build [(.int .i64 0), (.int .i64 0), (.str []), .nsl, .nsl, (.str []), (.str []), .nsl, (.int .i64 0)] [(0, 1, (.c (.int .i64 1))), (1, 5, (.t 75)), (6, 1, (.t 76)), (7, 1, (.t 79)), (8, 1, (.t 85))]), st (.chk none (.t 72) (.t 73)), o 87 (.iaddr 9 (.t 73) (.t 74)), st (.store 9 (.t 87) (.t 86))])
     (.seq (.reg [o 88 (.load (some 8) (.t 6)), st (.store 8 (.t 4) (.t 88)), o 5 (.mv (.c (.bool true)))])
     (.ret))))))))
    (.reg [o 89 (.bin .add (.t 35) (.c (.int .i64 1))), o 35 (.mv (.t 89))])))))))
  (.seq (.reg [o 90 (.load (some 8) (.t 6)), st (.store 8 (.t 4) (.t 90)), o 5 (.mv (.c (.bool false)))])
  (.ret))))),
  [.cell 4 (some 8), .tmp 5]⟩
/- loop.example/g03011/laws.szFileS -/
def F14 : Fun := ⟨27,
  .seq (.reg [o 4 (.mv (.c (.int .i64 0)))])
  (.seq (.reg [o 6 (.mv (.t 1)), o 7 (.mv (.t 0)), o 8 (.lenL (.t 7)), o 9 (.bin .sub (.t 6) (.t 8)), o 1 (.mv (.t 9))])
  (.seq (.seq (.reg [o 10 (.mv (.t 1)), o 11 (.bin .lss (.t 10) (.c (.int .i64 0)))])
  (.cond (.t 11) (.seq (.reg [o 4 (.mv (.c (.int .i64 (-1))))])
   (.ret)) (.skip)))
  (.seq (.seq (.reg [o 5 (.mv (.c (.int .i64 0)))])
  (.block 0 (.loop (.seq (.seq (.reg [o 12 (.mv (.t 5)), o 13 (.mv (.t 0)), o 14 (.lenL (.t 13)), o 15 (.bin .lss (.t 12) (.t 14))])
    (.cond (.t 15) (.skip) (.exit 0)))
    (.seq (.block 1 (.seq (.reg [o 18 (.mv (.t 0)), o 19 (.mv (.t 5)), o 20 (.iaddr 3 (.t 18) (.t 19)), o 21 (.load (some 3) (.t 20)), o 22 (.mv (.t 1)), o 23 (.call 54 [(.t 21), (.t 22)]), o 1 (.mv (.t 23))])
     (.seq (.reg [o 24 (.mv (.t 1)), o 25 (.bin .lss (.t 24) (.c (.int .i64 0)))])
     (.cond (.t 25) (.seq (.reg [o 4 (.mv (.c (.int .i64 (-1))))])
      (.ret)) (.skip)))))
    (.reg [o 16 (.mv (.t 5)), o 17 (.bin .add (.t 16) (.c (.int .i64 1))), o 5 (.mv (.t 17))]))))))
  (.seq (.reg [o 26 (.mv (.t 1)), o 4 (.mv (.t 26))])
  (.ret))))),
  [.tmp 4]⟩
/- loop.example/g03011/laws.szLineS -/
def F15 : Fun := ⟨27,
  .seq (.reg [o 4 (.mv (.c (.int .i64 0)))])
  (.seq (.reg [o 6 (.mv (.t 1)), o 7 (.mv (.t 0)), o 8 (.lenL (.t 7)), o 9 (.bin .sub (.t 6) (.t 8)), o 1 (.mv (.t 9))])
  (.seq (.seq (.reg [o 10 (.mv (.t 1)), o 11 (.bin .lss (.t 10) (.c (.int .i64 0)))])
  (.cond (.t 11) (.seq (.reg [o 4 (.mv (.c (.int .i64 (-1))))])
   (.ret)) (.skip)))
  (.seq (.seq (.reg [o 5 (.mv (.c (.int .i64 0)))])
  (.block 0 (.loop (.seq (.seq (.reg [o 12 (.mv (.t 5)), o 13 (.mv (.t 0)), o 14 (.lenL (.t 13)), o 15 (.bin .lss (.t 12) (.t 14))])
    (.cond (.t 15) (.skip) (.exit 0)))
    (.seq (.block 1 (.seq (.reg [o 18 (.mv (.t 0)), o 19 (.mv (.t 5)), o 20 (.iaddr 4 (.t 18) (.t 19)), o 21 (.load (some 4) (.t 20)), o 22 (.mv (.t 1)), o 23 (.call 55 [(.t 21), (.t 22)]), o 1 (.mv (.t 23))])
     (.seq (.reg [o 24 (.mv (.t 1)), o 25 (.bin .lss (.t 24) (.c (.int .i64 0)))])
     (.cond (.t 25) (.seq (.reg [o 4 (.mv (.c (.int .i64 (-1))))])
      (.ret)) (.skip)))))
    (.reg [o 16 (.mv (.t 5)), o 17 (.bin .add (.t 16) (.c (.int .i64 1))), o 5 (.mv (.t 17))]))))))
  (.seq (.reg [o 26 (.mv (.t 1)), o 4 (.mv (.t 26))])
  (.ret))))),
  [.tmp 4]⟩
/- loop.example/g03011/laws.szSessionS -/
def F16 : Fun := ⟨27,
  .seq (.reg [o 4 (.mv (.c (.int .i64 0)))])
  (.seq (.reg [o 6 (.mv (.t 1)), o 7 (.mv (.t 0)), o 8 (.lenL (.t 7)), o 9 (.bin .sub (.t 6) (.t 8)), o 1 (.mv (.t 9))])
  (.seq (.seq (.reg [o 10 (.mv (.t 1)), o 11 (.bin .lss (.t 10) (.c (.int .i64 0)))])
  (.cond (.t 11) (.seq (.reg [o 4 (.mv (.c (.int .i64 (-1))))])
   (.ret)) (.skip)))
  (.seq (.seq (.reg [o 5 (.mv (.c (.int .i64 0)))])
  (.block 0 (.loop (.seq (.seq (.reg [o 12 (.mv (.t 5)), o 13 (.mv (.t 0)), o 14 (.lenL (.t 13)), o 15 (.bin .lss (.t 12) (.t 14))])
    (.cond (.t 15) (.skip) (.exit 0)))
    (.seq (.block 1 (.seq (.reg [o 18 (.mv (.t 0)), o 19 (.mv (.t 5)), o 20 (.iaddr 4 (.t 18) (.t 19)), o 21 (.load (some 4) (.t 20)), o 22 (.mv (.t 1)), o 23 (.call 56 [(.t 21), (.t 22)]), o 1 (.mv (.t 23))])
     (.seq (.reg [o 24 (.mv (.t 1)), o 25 (.bin .lss (.t 24) (.c (.int .i64 0)))])
     (.cond (.t 25) (.seq (.reg [o 4 (.mv (.c (.int .i64 (-1))))])
      (.ret)) (.skip)))))
    (.reg [o 16 (.mv (.t 5)), o 17 (.bin .add (.t 16) (.c (.int .i64 1))), o 5 (.mv (.t 17))]))))))
  (.seq (.reg [o 26 (.mv (.t 1)), o 4 (.mv (.t 26))])
  (.ret))))),
  [.tmp 4]⟩
/- loop.example/g03011/laws.szJobS -/
def F17 : Fun := ⟨27,
  .seq (.reg [o 4 (.mv (.c (.int .i64 0)))])
  (.seq (.reg [o 6 (.mv (.t 1)), o 7 (.mv (.t 0)), o 8 (.lenL (.t 7)), o 9 (.bin .sub (.t 6) (.t 8)), o 1 (.mv (.t 9))])
  (.seq (.seq (.reg [o 10 (.mv (.t 1)), o 11 (.bin .lss (.t 10) (.c (.int .i64 0)))])
  (.cond (.t 11) (.seq (.reg [o 4 (.mv (.c (.int .i64 (-1))))])
   (.ret)) (.skip)))
  (.seq (.seq (.reg [o 5 (.mv (.c (.int .i64 0)))])
  (.block 0 (.loop (.seq (.seq (.reg [o 12 (.mv (.t 5)), o 13 (.mv (.t 0)), o 14 (.lenL (.t 13)), o 15 (.bin .lss (.t 12) (.t 14))])
    (.cond (.t 15) (.skip) (.exit 0)))
    (.seq (.block 1 (.seq (.reg [o 18 (.mv (.t 0)), o 19 (.mv (.t 5)), o 20 (.iaddr 5 (.t 18) (.t 19)), o 21 (.load (some 5) (.t 20)), o 22 (.mv (.t 1)), o 23 (.call 57 [(.t 21), (.t 22)]), o 1 (.mv (.t 23))])
     (.seq (.reg [o 24 (.mv (.t 1)), o 25 (.bin .lss (.t 24) (.c (.int .i64 0)))])
     (.cond (.t 25) (.seq (.reg [o 4 (.mv (.c (.int .i64 (-1))))])
      (.ret)) (.skip)))))
    (.reg [o 16 (.mv (.t 5)), o 17 (.bin .add (.t 16) (.c (.int .i64 1))), o 5 (.mv (.t 17))]))))))
  (.seq (.reg [o 26 (.mv (.t 1)), o 4 (.mv (.t 26))])
  (.ret))))),
  [.tmp 4]⟩
/- loop.example/g03011/laws.szWorkerS -/
def F18 : Fun := ⟨27,
  .seq (.reg [o 4 (.mv (.c (.int .i64 0)))])
  (.seq (.reg [o 6 (.mv (.t 1)), o 7 (.mv (.t 0)), o 8 (.lenL (.t 7)), o 9 (.bin .sub (.t 6) (.t 8)), o 1 (.mv (.t 9))])
  (.seq (.seq (.reg [o 10 (.mv (.t 1)), o 11 (.bin .lss (.t 10) (.c (.int .i64 0)))])
  (.cond (.t 11) (.seq (.reg [o 4 (.mv (.c (.int .i64 (-1))))])
   (.ret)) (.skip)))
  (.seq (.seq (.reg [o 5 (.mv (.c (.int .i64 0)))])
  (.block 0 (.loop (.seq (.seq (.reg [o 12 (.mv (.t 5)), o 13 (.mv (.t 0)), o 14 (.lenL (.t 13)), o 15 (.bin .lss (.t 12) (.t 14))])
    (.cond (.t 15) (.skip) (.exit 0)))
    (.seq (.block 1 (.seq (.reg [o 18 (.mv (.t 0)), o 19 (.mv (.t 5)), o 20 (.iaddr 9 (.t 18) (.t 19)), o 21 (.load (some 9) (.t 20)), o 22 (.mv (.t 1)), o 23 (.call 58 [(.t 21), (.t 22)]), o 1 (.mv (.t 23))])
     (.seq (.reg [o 24 (.mv (.t 1)), o 25 (.bin .lss (.t 24) (.c (.int .i64 0)))])
     (.cond (.t 25) (.seq (.reg [o 4 (.mv (.c (.int .i64 (-1))))])
      (.ret)) (.skip)))))
    (.reg [o 16 (.mv (.t 5)), o 17 (.bin .add (.t 16) (.c (.int .i64 1))), o 5 (.mv (.t 17))]))))))
  (.seq (.reg [o 26 (.mv (.t 1)), o 4 (.mv (.t 26))])
  (.ret))))),
  [.tmp 4]⟩
/- loop.example/g03011/laws.szAnswerS -/
def F19 : Fun := ⟨27,
  .seq (.reg [o 4 (.mv (.c (.int .i64 0)))])
  (.seq (.reg [o 6 (.mv (.t 1)), o 7 (.mv (.t 0)), o 8 (.lenL (.t 7)), o 9 (.bin .sub (.t 6) (.t 8)), o 1 (.mv (.t 9))])
  (.seq (.seq (.reg [o 10 (.mv (.t 1)), o 11 (.bin .lss (.t 10) (.c (.int .i64 0)))])
  (.cond (.t 11) (.seq (.reg [o 4 (.mv (.c (.int .i64 (-1))))])
   (.ret)) (.skip)))
  (.seq (.seq (.reg [o 5 (.mv (.c (.int .i64 0)))])
  (.block 0 (.loop (.seq (.seq (.reg [o 12 (.mv (.t 5)), o 13 (.mv (.t 0)), o 14 (.lenL (.t 13)), o 15 (.bin .lss (.t 12) (.t 14))])
    (.cond (.t 15) (.skip) (.exit 0)))
    (.seq (.block 1 (.seq (.reg [o 18 (.mv (.t 0)), o 19 (.mv (.t 5)), o 20 (.iaddr 11 (.t 18) (.t 19)), o 21 (.load (some 11) (.t 20)), o 22 (.mv (.t 1)), o 23 (.call 59 [(.t 21), (.t 22)]), o 1 (.mv (.t 23))])
     (.seq (.reg [o 24 (.mv (.t 1)), o 25 (.bin .lss (.t 24) (.c (.int .i64 0)))])
     (.cond (.t 25) (.seq (.reg [o 4 (.mv (.c (.int .i64 (-1))))])
      (.ret)) (.skip)))))
    (.reg [o 16 (.mv (.t 5)), o 17 (.bin .add (.t 16) (.c (.int .i64 1))), o 5 (.mv (.t 17))]))))))
  (.seq (.reg [o 26 (.mv (.t 1)), o 4 (.mv (.t 26))])
  (.ret))))),
  [.tmp 4]⟩
/- loop.example/g03011/spec.l39Copy -/
def F20 : Fun := ⟨80,
  .seq (.reg [o 1 (.box 8 (.t 0)), o 2 (.new 8 [.nsl, .nsl, .nsl, .nsl, .nsl, .nsl, (.int .i64 0), (.int .i64 0)])])
  (.seq (.reg [o 7 (.load (some 8) (.t 1)), o 3 (.new 8 [.nsl, .nsl, .nsl, .nsl, .nsl, .nsl, (.int .i64 0), (.int .i64 0)]), st (.store 8 (.t 3) (.t 7))])
  (.seq (.reg [o 8 (.bslice 3 [(.str []), (.str []), (.int .i64 0)] 0 []), o 9 (.faddr 0 (.t 1)), o 10 (.load none (.t 9)), o 11 (.append 3 40 (.t 8) (.t 10)), o 12 (.faddr 0 (.t 3)), st (.store 1 (.t 12) (.t 11))])
  (.seq (.reg [o 13 (.faddr 1 (.t 1)), o 14 (.load none (.t 13)), o 15 (.call 60 [(.t 14)]), o 16 (.faddr 1 (.t 3)), st (.store 1 (.t 16) (.t 15))])
  (.seq (.reg [o 17 (.bslice 4 [(.str []), (.str []), (.int .i64 0), (.int .i64 0)] 0 []), o 18 (.faddr 2 (.t 1)), o 19 (.load none (.t 18)), o 20 (.append 4 48 (.t 17) (.t 19)), o 21 (.faddr 2 (.t 3)), st (.store 1 (.t 21) (.t 20))])
  (.seq (.reg [o 22 (.faddr 3 (.t 3)), st (.store 1 (.t 22) (.c .nsl))])
  (.seq (.seq (.reg [o 4 (.mv (.c (.int .i64 0)))])
  (.block 0 (.loop (.seq (.seq (.reg [o 23 (.mv (.t 4)), o 24 (.faddr 3 (.t 1)), o 25 (.load none (.t 24)), o 26 (.lenL (.t 25)), o 27 (.bin .lss (.t 23) (.t 26))])
    (.cond (.t 27) (.skip) (.exit 0)))
    (.seq (.block 1 (.reg [o 30 (.faddr 3 (.t 3)), o 31 (.load none (.t 30)), o 32 (.faddr 3 (.t 1)), o 33 (.load none (.t 32)), o 34 (.mv (.t 4)), o 35 (.iaddr 5 (.t 33) (.t 34)), o 36 (.load (some 5) (.t 35)), o 37 (.call 61 [(.t 36)]), st (.chk none (.t 30) (.t 31)), o 38 (.bslice 5 [(.int .i64 0), (.str []), .nsl, .nsl, (.str [])] 1 [(0, (.t 37))]), st (.chk none (.t 30) (.t 31)), o 39 (.append 5 88 (.t 31) (.t 38)), o 40 (.faddr 3 (.t 3)), st (.store 1 (.t 40) (.t 39))]))
    (.reg [o 28 (.mv (.t 4)), o 29 (.bin .add (.t 28) (.c (.int .i64 1))), o 4 (.mv (.t 29))]))))))
  (.seq (.reg [o 41 (.faddr 4 (.t 3)), st (.store 1 (.t 41) (.c .nsl))])
  (.seq (.seq (.reg [o 5 (.mv (.c (.int .i64 0)))])
  (.block 2 (.loop (.seq (.seq (.reg [o 42 (.mv (.t 5)), o 43 (.faddr 4 (.t 1)), o 44 (.load none (.t 43)), o 45 (.lenL (.t 44)), o 46 (.bin .lss (.t 42) (.t 45))])
    (.cond (.t 46) (.skip) (.exit 2)))
    (.seq (.block 3 (.reg [o 49 (.faddr 4 (.t 3)), o 50 (.load none (.t 49)), o 51 (.faddr 4 (.t 1)), o 52 (.load none (.t 51)), o 53 (.mv (.t 5)), o 54 (.iaddr 9 (.t 52) (.t 53)), o 55 (.load (some 9) (.t 54)), o 56 (.call 62 [(.t 55)]), st (.chk none (.t 49) (.t 50)), o 57 (.bslice 9 [(.int .i64 0), (.int .i64 0), (.str []), .nsl, .nsl, (.str []), (.str []), .nsl, (.int .i64 0)] 1 [(0, (.t 56))]), st (.chk none (.t 49) (.t 50)), o 58 (.append 9 144 (.t 50) (.t 57)), o 59 (.faddr 4 (.t 3)), st (.store 1 (.t 59) (.t 58))]))
    (.reg [o 47 (.mv (.t 5)), o 48 (.bin .add (.t 47) (.c (.int .i64 1))), o 5 (.mv (.t 48))]))))))
  (.seq (.reg [o 60 (.faddr 5 (.t 3)), st (.store 1 (.t 60) (.c .nsl))])
  (.seq (.seq (.reg [o 6 (.mv (.c (.int .i64 0)))])
  (.block 4 (.loop (.seq (.seq (.reg [o 61 (.mv (.t 6)), o 62 (.faddr 5 (.t 1)), o 63 (.load none (.t 62)), o 64 (.lenL (.t 63)), o 65 (.bin .lss (.t 61) (.t 64))])
    (.cond (.t 65) (.skip) (.exit 4)))
    (.seq (.block 5 (.reg [o 68 (.faddr 5 (.t 3)), o 69 (.load none (.t 68)), o 70 (.faddr 5 (.t 1)), o 71 (.load none (.t 70)), o 72 (.mv (.t 6)), o 73 (.iaddr 11 (.t 71) (.t 72)), o 74 (.load (some 11) (.t 73)), o 75 (.call 63 [(.t 74)]), st (.chk none (.t 68) (.t 69)), o 76 (.bslice 11 [(.int .i64 0), (.str []), .nsl, (.str []), .nsl, .nsl, (.str []), (.int .i64 0), .nsl, (.str []), (.str [])] 1 [(0, (.t 75))]), st (.chk none (.t 68) (.t 69)), o 77 (.append 11 192 (.t 69) (.t 76)), o 78 (.faddr 5 (.t 3)), st (.store 1 (.t 78) (.t 77))]))
    (.reg [o 66 (.mv (.t 6)), o 67 (.bin .add (.t 66) (.c (.int .i64 1))), o 6 (.mv (.t 67))]))))))
  (.seq (.reg [o 79 (.load (some 8) (.t 3)), st (.store 8 (.t 2) (.t 79))])
  (.ret)))))))))))),
  [.cell 2 (some 8)]⟩
/- loop.example/g03011/spec.l1In -/
def F21 : Fun := ⟨15,
  .seq (.reg [o 6 (.mv (.c (.bool false)))])
  (.seq (.reg [o 7 (.mv (.t 0)), o 8 (.mv (.t 1)), o 9 (.bin .geq (.t 7) (.t 8)), o 10 (.mv (.t 9)), og 11 (.mv (.t 0)) 10 true, og 12 (.mv (.t 2)) 10 true, og 13 (.bin .leq (.t 11) (.t 12)) 10 true, o 14 (.pick (.t 10) (.t 13) (.c (.bool false))), o 6 (.mv (.t 14))])
  (.ret)),
  [.tmp 6]⟩
/- loop.example/g03011/spec.Recover -/
def F22 : Fun := ⟨18,
  .seq (.reg [o 4 (.mv (.c .nsl))])
  (.seq (.reg [o 6 (.mv (.t 0)), o 7 (.call 60 [(.t 6)]), o 5 (.mv (.t 7))])
  (.seq (.seq (.reg [o 8 (.mv (.t 0)), o 9 (.call 64 [(.t 8)]), o 10 (.mv (.t 9)), og 11 (.mv (.t 1)) 10 true, og 12 (.bin .gtr (.t 11) (.c (.int .i64 0))) 10 true, o 13 (.pick (.t 10) (.t 12) (.c (.bool false)))])
  (.cond (.t 13) (.reg [o 14 (.mv (.t 5)), o 15 (.mv (.t 1)), o 16 (.call 65 [(.t 14), (.t 15)])]) (.skip)))
  (.seq (.reg [o 17 (.mv (.t 5)), o 4 (.mv (.t 17))])
  (.ret)))),
  [.tmp 4]⟩
/- loop.example/g03011/laws.toFileS -/
def F23 : Fun := ⟨23,
  .seq (.reg [o 2 (.mv (.c .nsl))])
  (.seq (.reg [o 5 (.mv (.t 0)), o 6 (.lenL (.t 5)), o 7 (.mkslice 3 [(.str []), (.str []), (.int .i64 0)] 40 (.t 6) (.t 6)), o 3 (.mv (.t 7))])
  (.seq (.seq (.reg [o 4 (.mv (.c (.int .i64 0)))])
  (.block 0 (.loop (.seq (.seq (.reg [o 8 (.mv (.t 4)), o 9 (.mv (.t 0)), o 10 (.lenL (.t 9)), o 11 (.bin .lss (.t 8) (.t 10))])
    (.cond (.t 11) (.skip) (.exit 0)))
    (.seq (.block 1 (.reg [o 14 (.mv (.t 3)), o 15 (.mv (.t 4)), o 16 (.mv (.t 0)), o 17 (.mv (.t 4)), o 18 (.iaddr 3 (.t 16) (.t 17)), o 19 (.load (some 3) (.t 18)), o 20 (.call 66 [(.t 19)]), o 21 (.iaddr 3 (.t 14) (.t 15)), st (.store 3 (.t 21) (.t 20))]))
    (.reg [o 12 (.mv (.t 4)), o 13 (.bin .add (.t 12) (.c (.int .i64 1))), o 4 (.mv (.t 13))]))))))
  (.seq (.reg [o 22 (.mv (.t 3)), o 2 (.mv (.t 22))])
  (.ret)))),
  [.tmp 2]⟩
/- loop.example/g03011/laws.toLineS -/
def F24 : Fun := ⟨23,
  .seq (.reg [o 2 (.mv (.c .nsl))])
  (.seq (.reg [o 5 (.mv (.t 0)), o 6 (.lenL (.t 5)), o 7 (.mkslice 4 [(.int .i64 0), (.int .i64 0), (.int .i64 0), .nsl] 48 (.t 6) (.t 6)), o 3 (.mv (.t 7))])
  (.seq (.seq (.reg [o 4 (.mv (.c (.int .i64 0)))])
  (.block 0 (.loop (.seq (.seq (.reg [o 8 (.mv (.t 4)), o 9 (.mv (.t 0)), o 10 (.lenL (.t 9)), o 11 (.bin .lss (.t 8) (.t 10))])
    (.cond (.t 11) (.skip) (.exit 0)))
    (.seq (.block 1 (.reg [o 14 (.mv (.t 3)), o 15 (.mv (.t 4)), o 16 (.mv (.t 0)), o 17 (.mv (.t 4)), o 18 (.iaddr 4 (.t 16) (.t 17)), o 19 (.load (some 4) (.t 18)), o 20 (.call 67 [(.t 19)]), o 21 (.iaddr 4 (.t 14) (.t 15)), st (.store 4 (.t 21) (.t 20))]))
    (.reg [o 12 (.mv (.t 4)), o 13 (.bin .add (.t 12) (.c (.int .i64 1))), o 4 (.mv (.t 13))]))))))
  (.seq (.reg [o 22 (.mv (.t 3)), o 2 (.mv (.t 22))])
  (.ret)))),
  [.tmp 2]⟩
/- loop.example/g03011/laws.toSessionS -/
def F25 : Fun := ⟨23,
  .seq (.reg [o 2 (.mv (.c .nsl))])
  (.seq (.reg [o 5 (.mv (.t 0)), o 6 (.lenL (.t 5)), o 7 (.mkslice 4 [(.str []), (.str []), (.int .i64 0), (.int .i64 0)] 48 (.t 6) (.t 6)), o 3 (.mv (.t 7))])
  (.seq (.seq (.reg [o 4 (.mv (.c (.int .i64 0)))])
  (.block 0 (.loop (.seq (.seq (.reg [o 8 (.mv (.t 4)), o 9 (.mv (.t 0)), o 10 (.lenL (.t 9)), o 11 (.bin .lss (.t 8) (.t 10))])
    (.cond (.t 11) (.skip) (.exit 0)))
    (.seq (.block 1 (.reg [o 14 (.mv (.t 3)), o 15 (.mv (.t 4)), o 16 (.mv (.t 0)), o 17 (.mv (.t 4)), o 18 (.iaddr 4 (.t 16) (.t 17)), o 19 (.load (some 4) (.t 18)), o 20 (.call 68 [(.t 19)]), o 21 (.iaddr 4 (.t 14) (.t 15)), st (.store 4 (.t 21) (.t 20))]))
    (.reg [o 12 (.mv (.t 4)), o 13 (.bin .add (.t 12) (.c (.int .i64 1))), o 4 (.mv (.t 13))]))))))
  (.seq (.reg [o 22 (.mv (.t 3)), o 2 (.mv (.t 22))])
  (.ret)))),
  [.tmp 2]⟩
/- loop.example/g03011/laws.toJobS -/
def F26 : Fun := ⟨23,
  .seq (.reg [o 2 (.mv (.c .nsl))])
  (.seq (.reg [o 5 (.mv (.t 0)), o 6 (.lenL (.t 5)), o 7 (.mkslice 5 [(.int .i64 0), (.str []), .nsl, .nsl, (.str [])] 88 (.t 6) (.t 6)), o 3 (.mv (.t 7))])
  (.seq (.seq (.reg [o 4 (.mv (.c (.int .i64 0)))])
  (.block 0 (.loop (.seq (.seq (.reg [o 8 (.mv (.t 4)), o 9 (.mv (.t 0)), o 10 (.lenL (.t 9)), o 11 (.bin .lss (.t 8) (.t 10))])
    (.cond (.t 11) (.skip) (.exit 0)))
    (.seq (.block 1 (.reg [o 14 (.mv (.t 3)), o 15 (.mv (.t 4)), o 16 (.mv (.t 0)), o 17 (.mv (.t 4)), o 18 (.iaddr 5 (.t 16) (.t 17)), o 19 (.load (some 5) (.t 18)), o 20 (.call 69 [(.t 19)]), o 21 (.iaddr 5 (.t 14) (.t 15)), st (.store 5 (.t 21) (.t 20))]))
    (.reg [o 12 (.mv (.t 4)), o 13 (.bin .add (.t 12) (.c (.int .i64 1))), o 4 (.mv (.t 13))]))))))
  (.seq (.reg [o 22 (.mv (.t 3)), o 2 (.mv (.t 22))])
  (.ret)))),
  [.tmp 2]⟩
/- loop.example/g03011/laws.toWorkerS -/
def F27 : Fun := ⟨23,
  .seq (.reg [o 2 (.mv (.c .nsl))])
  (.seq (.reg [o 5 (.mv (.t 0)), o 6 (.lenL (.t 5)), o 7 (.mkslice 9 [(.int .i64 0), (.int .i64 0), (.str []), .nsl, .nsl, (.str []), (.str []), .nsl, (.int .i64 0)] 144 (.t 6) (.t 6)), o 3 (.mv (.t 7))])
  (.seq (.seq (.reg [o 4 (.mv (.c (.int .i64 0)))])
  (.block 0 (.loop (.seq (.seq (.reg [o 8 (.mv (.t 4)), o 9 (.mv (.t 0)), o 10 (.lenL (.t 9)), o 11 (.bin .lss (.t 8) (.t 10))])
    (.cond (.t 11) (.skip) (.exit 0)))
    (.seq (.block 1 (.reg [o 14 (.mv (.t 3)), o 15 (.mv (.t 4)), o 16 (.mv (.t 0)), o 17 (.mv (.t 4)), o 18 (.iaddr 9 (.t 16) (.t 17)), o 19 (.load (some 9) (.t 18)), o 20 (.call 70 [(.t 19)]), o 21 (.iaddr 9 (.t 14) (.t 15)), st (.store 9 (.t 21) (.t 20))]))
    (.reg [o 12 (.mv (.t 4)), o 13 (.bin .add (.t 12) (.c (.int .i64 1))), o 4 (.mv (.t 13))]))))))
  (.seq (.reg [o 22 (.mv (.t 3)), o 2 (.mv (.t 22))])
  (.ret)))),
  [.tmp 2]⟩
/- loop.example/g03011/laws.toAnswerS -/
def F28 : Fun := ⟨23,
  .seq (.reg [o 2 (.mv (.c .nsl))])
  (.seq (.reg [o 5 (.mv (.t 0)), o 6 (.lenL (.t 5)), o 7 (.mkslice 11 [(.int .i64 0), (.str []), .nsl, (.str []), .nsl, .nsl, (.str []), (.int .i64 0), .nsl, (.str []), (.str [])] 192 (.t 6) (.t 6)), o 3 (.mv (.t 7))])
  (.seq (.seq (.reg [o 4 (.mv (.c (.int .i64 0)))])
  (.block 0 (.loop (.seq (.seq (.reg [o 8 (.mv (.t 4)), o 9 (.mv (.t 0)), o 10 (.lenL (.t 9)), o 11 (.bin .lss (.t 8) (.t 10))])
    (.cond (.t 11) (.skip) (.exit 0)))
    (.seq (.block 1 (.reg [o 14 (.mv (.t 3)), o 15 (.mv (.t 4)), o 16 (.mv (.t 0)), o 17 (.mv (.t 4)), o 18 (.iaddr 11 (.t 16) (.t 17)), o 19 (.load (some 11) (.t 18)), o 20 (.call 71 [(.t 19)]), o 21 (.iaddr 11 (.t 14) (.t 15)), st (.store 11 (.t 21) (.t 20))]))
    (.reg [o 12 (.mv (.t 4)), o 13 (.bin .add (.t 12) (.c (.int .i64 1))), o 4 (.mv (.t 13))]))))))
  (.seq (.reg [o 22 (.mv (.t 3)), o 2 (.mv (.t 22))])
  (.ret)))),
  [.tmp 2]⟩
/- loop.example/g03011/impl.copyServer -/
def F29 : Fun := ⟨92,
  .seq (.reg [o 1 (.box 8 (.t 0)), o 2 (.new 8 [.nsl, .nsl, .nsl, .nsl, .nsl, .nsl, (.int .i64 0), (.int .i64 0)])])
  (.seq (.reg [o 10 (.load (some 8) (.t 1)), o 3 (.new 8 [.nsl, .nsl, .nsl, .nsl, .nsl, .nsl, (.int .i64 0), (.int .i64 0)]), st (.store 8 (.t 3) (.t 10))])
  (.seq (.reg [o 11 (.faddr 0 (.t 1)), o 12 (.load none (.t 11)), o 13 (.call 53 [(.t 12)]), o 14 (.faddr 0 (.t 3)), st (.store 1 (.t 14) (.t 13))])
  (.seq (.reg [o 15 (.faddr 1 (.t 1)), o 16 (.load none (.t 15)), o 17 (.call 72 [(.t 16)]), o 18 (.faddr 1 (.t 3)), st (.store 1 (.t 18) (.t 17))])
  (.seq (.reg [o 19 (.faddr 2 (.t 1)), o 20 (.load none (.t 19)), o 21 (.call 73 [(.t 20)]), o 22 (.faddr 2 (.t 3)), st (.store 1 (.t 22) (.t 21))])
  (.seq (.reg [o 23 (.faddr 3 (.t 3)), st (.store 1 (.t 23) (.c .nsl))])
  (.seq (.seq (.reg [o 24 (.faddr 3 (.t 1)), o 25 (.load none (.t 24)), o 26 (.lenL (.t 25)), o 27 (.mv (.c (.int .i64 0)))])
  (.block 0 (.loop (.seq (.reg [o 28 (.bin .lss (.t 27) (.t 26))])
    (.seq (.cond (.t 28) (.skip) (.exit 0))
    (.seq (.block 1 (.seq (.reg [o 29 (.iaddr 5 (.t 25) (.t 27)), o 30 (.load (some 5) (.t 29)), o 5 (.new 5 [(.int .i64 0), (.str []), .nsl, .nsl, (.str [])]), st (.store 5 (.t 5) (.t 30))])
     (.reg [o 31 (.faddr 3 (.t 3)), o 32 (.load none (.t 31)), o 33 (.load (some 5) (.t 5)), o 34 (.call 74 [(.t 33)]), st (.chk none (.t 31) (.t 32)), o 35 (.bslice 5 [(.int .i64 0), (.str []), .nsl, .nsl, (.str [])] 1 [(0, (.t 34))]), st (.chk none (.t 31) (.t 32)), o 36 (.append 5 88 (.t 32) (.t 35)), o 37 (.faddr 3 (.t 3)), st (.store 1 (.t 37) (.t 36))])))
    (.reg [o 38 (.bin .add (.t 27) (.c (.int .i64 1))), o 27 (.mv (.t 38))])))))))
  (.seq (.reg [o 39 (.faddr 4 (.t 3)), st (.store 1 (.t 39) (.c .nsl))])
  (.seq (.seq (.reg [o 40 (.faddr 4 (.t 1)), o 41 (.load none (.t 40)), o 42 (.lenL (.t 41)), o 43 (.mv (.c (.int .i64 0)))])
  (.block 2 (.loop (.seq (.reg [o 44 (.bin .lss (.t 43) (.t 42))])
    (.seq (.cond (.t 44) (.skip) (.exit 2))
    (.seq (.block 3 (.seq (.reg [o 45 (.iaddr 9 (.t 41) (.t 43)), o 46 (.load (some 9) (.t 45)), o 7 (.new 9 [(.int .i64 0), (.int .i64 0), (.str []), .nsl, .nsl, (.str []), (.str []), .nsl, (.int .i64 0)]), st (.store 9 (.t 7) (.t 46))])
     (.seq (.reg [o 47 (.faddr 1 (.t 7)), o 48 (.load (some 5) (.t 47)), o 49 (.call 74 [(.t 48)]), o 50 (.faddr 1 (.t 7)), st (.store 5 (.t 50) (.t 49))])
     (.seq (.reg [o 51 (.faddr 7 (.t 7)), o 52 (.load none (.t 51)), o 53 (.call 53 [(.t 52)]), o 54 (.faddr 7 (.t 7)), st (.store 1 (.t 54) (.t 53))])
     (.reg [o 55 (.faddr 4 (.t 3)), o 56 (.load none (.t 55)), o 57 (.load (some 9) (.t 7)), o 58 (.bslice 9 [(.int .i64 0), (.int .i64 0), (.str []), .nsl, .nsl, (.str []), (.str []), .nsl, (.int .i64 0)] 1 [(0, (.t 57))]), o 59 (.append 9 144 (.t 56) (.t 58)), o 60 (.faddr 4 (.t 3)), st (.store 1 (.t 60) (.t 59))])))))
    (.reg [o 61 (.bin .add (.t 43) (.c (.int .i64 1))), o 43 (.mv (.t 61))])))))))
  (.seq (.reg [o 62 (.faddr 5 (.t 3)), st (.store 1 (.t 62) (.c .nsl))])
  (.seq (.seq (.reg [o 63 (.faddr 5 (.t 1)), o 64 (.load none (.t 63)), o 65 (.lenL (.t 64)), o 66 (.mv (.c (.int .i64 0)))])
  (.block 4 (.loop (.seq (.reg [o 67 (.bin .lss (.t 66) (.t 65))])
    (.seq (.cond (.t 67) (.skip) (.exit 4))
    (.seq (.block 5 (.seq (.reg [o 68 (.iaddr 11 (.t 64) (.t 66)), o 69 (.load (some 11) (.t 68)), o 9 (.new 11 [(.int .i64 0), (.str []), .nsl, (.str []), .nsl, .nsl, (.str []), (.int .i64 0), .nsl, (.str []), (.str [])]), st (.store 11 (.t 9) (.t 69))])
     (.seq (.reg [o 70 (.faddr 2 (.t 9)), o 71 (.load none (.t 70)), o 72 (.call 53 [(.t 71)]), o 73 (.faddr 2 (.t 9)), st (.store 1 (.t 73) (.t 72))])
     (.seq (.reg [o 74 (.faddr 3 (.t 9)), o 75 (.load (some 3) (.t 74)), o 76 (.call 75 [(.t 75)]), o 77 (.faddr 3 (.t 9)), st (.store 3 (.t 77) (.t 76))])
     (.seq (.reg [o 78 (.faddr 7 (.t 9)), o 79 (.faddr 1 (.t 78)), o 80 (.load none (.t 79)), o 81 (.call 76 [(.t 80)]), o 82 (.faddr 7 (.t 9)), o 83 (.faddr 1 (.t 82)), st (.store 1 (.t 83) (.t 81))])
     (.reg [o 84 (.faddr 5 (.t 3)), o 85 (.load none (.t 84)), o 86 (.load (some 11) (.t 9)), o 87 (.bslice 11 [(.int .i64 0), (.str []), .nsl, (.str []), .nsl, .nsl, (.str []), (.int .i64 0), .nsl, (.str []), (.str [])] 1 [(0, (.t 86))]), o 88 (.append 11 192 (.t 85) (.t 87)), o 89 (.faddr 5 (.t 3)), st (.store 1 (.t 89) (.t 88))]))))))
    (.reg [o 90 (.bin .add (.t 66) (.c (.int .i64 1))), o 66 (.mv (.t 90))])))))))
  (.seq (.reg [o 91 (.load (some 8) (.t 3)), st (.store 8 (.t 2) (.t 91))])
  (.ret)))))))))))),
  [.cell 2 (some 8)]⟩
/- loop.example/g03011/impl.InRange -/
def F30 : Fun := ⟨15,
  .seq (.reg [o 6 (.mv (.c (.bool false)))])
  (.seq (.reg [o 7 (.mv (.t 1)), o 8 (.mv (.t 0)), o 9 (.bin .leq (.t 7) (.t 8)), o 10 (.mv (.t 9)), og 11 (.mv (.t 0)) 10 true, og 12 (.mv (.t 2)) 10 true, og 13 (.bin .leq (.t 11) (.t 12)) 10 true, o 14 (.pick (.t 10) (.t 13) (.c (.bool false))), o 6 (.mv (.t 14))])
  (.ret)),
  [.tmp 6]⟩
/- loop.example/g03011/impl.Recover -/
def F31 : Fun := ⟨18,
  .seq (.reg [o 4 (.mv (.c .nsl))])
  (.seq (.reg [o 6 (.mv (.t 0)), o 7 (.call 72 [(.t 6)]), o 5 (.mv (.t 7))])
  (.seq (.seq (.reg [o 8 (.mv (.t 0)), o 9 (.call 77 [(.t 8)]), o 10 (.mv (.t 9)), og 11 (.mv (.t 1)) 10 true, og 12 (.bin .geq (.t 11) (.c (.int .i64 1))) 10 true, o 13 (.pick (.t 10) (.t 12) (.c (.bool false)))])
  (.cond (.t 13) (.reg [o 14 (.mv (.t 5)), o 15 (.mv (.t 1)), o 16 (.call 78 [(.t 14), (.t 15)])]) (.skip)))
  (.seq (.reg [o 17 (.mv (.t 5)), o 4 (.mv (.t 17))])
  (.ret)))),
  [.tmp 4]⟩
/- loop.example/g03011/laws.eqFileS -/
def F32 : Fun := ⟨27,
  .seq (.reg [o 4 (.mv (.c (.bool false)))])
  (.seq (.seq (.reg [o 6 (.mv (.t 0)), o 7 (.lenL (.t 6)), o 8 (.mv (.t 1)), o 9 (.lenL (.t 8)), o 10 (.bin .neq (.t 7) (.t 9))])
  (.cond (.t 10) (.seq (.reg [o 4 (.mv (.c (.bool false)))])
   (.ret)) (.skip)))
  (.seq (.seq (.reg [o 5 (.mv (.c (.int .i64 0)))])
  (.block 0 (.loop (.seq (.seq (.reg [o 11 (.mv (.t 5)), o 12 (.mv (.t 0)), o 13 (.lenL (.t 12)), o 14 (.bin .lss (.t 11) (.t 13))])
    (.cond (.t 14) (.skip) (.exit 0)))
    (.seq (.block 1 (.seq (.reg [o 17 (.mv (.t 0)), o 18 (.mv (.t 5)), o 19 (.iaddr 3 (.t 17) (.t 18)), o 20 (.load (some 3) (.t 19)), o 21 (.mv (.t 1)), o 22 (.mv (.t 5)), o 23 (.iaddr 3 (.t 21) (.t 22)), o 24 (.load (some 3) (.t 23)), o 25 (.callF 79 [(.t 20), (.t 24)]), o 26 (.un .not (.t 25))])
     (.cond (.t 26) (.seq (.reg [o 4 (.mv (.c (.bool false)))])
      (.ret)) (.skip))))
    (.reg [o 15 (.mv (.t 5)), o 16 (.bin .add (.t 15) (.c (.int .i64 1))), o 5 (.mv (.t 16))]))))))
  (.seq (.reg [o 4 (.mv (.c (.bool true)))])
  (.ret)))),
  [.tmp 4]⟩
/- loop.example/g03011/laws.eqLineS -/
def F33 : Fun := ⟨27,
  .seq (.reg [o 4 (.mv (.c (.bool false)))])
  (.seq (.seq (.reg [o 6 (.mv (.t 0)), o 7 (.lenL (.t 6)), o 8 (.mv (.t 1)), o 9 (.lenL (.t 8)), o 10 (.bin .neq (.t 7) (.t 9))])
  (.cond (.t 10) (.seq (.reg [o 4 (.mv (.c (.bool false)))])
   (.ret)) (.skip)))
  (.seq (.seq (.reg [o 5 (.mv (.c (.int .i64 0)))])
  (.block 0 (.loop (.seq (.seq (.reg [o 11 (.mv (.t 5)), o 12 (.mv (.t 0)), o 13 (.lenL (.t 12)), o 14 (.bin .lss (.t 11) (.t 13))])
    (.cond (.t 14) (.skip) (.exit 0)))
    (.seq (.block 1 (.seq (.reg [o 17 (.mv (.t 0)), o 18 (.mv (.t 5)), o 19 (.iaddr 4 (.t 17) (.t 18)), o 20 (.load (some 4) (.t 19)), o 21 (.mv (.t 1)), o 22 (.mv (.t 5)), o 23 (.iaddr 4 (.t 21) (.t 22)), o 24 (.load (some 4) (.t 23)), o 25 (.callF 80 [(.t 20), (.t 24)]), o 26 (.un .not (.t 25))])
     (.cond (.t 26) (.seq (.reg [o 4 (.mv (.c (.bool false)))])
      (.ret)) (.skip))))
    (.reg [o 15 (.mv (.t 5)), o 16 (.bin .add (.t 15) (.c (.int .i64 1))), o 5 (.mv (.t 16))]))))))
  (.seq (.reg [o 4 (.mv (.c (.bool true)))])
  (.ret)))),
  [.tmp 4]⟩
/- loop.example/g03011/laws.eqSessionS -/
def F34 : Fun := ⟨27,
  .seq (.reg [o 4 (.mv (.c (.bool false)))])
  (.seq (.seq (.reg [o 6 (.mv (.t 0)), o 7 (.lenL (.t 6)), o 8 (.mv (.t 1)), o 9 (.lenL (.t 8)), o 10 (.bin .neq (.t 7) (.t 9))])
  (.cond (.t 10) (.seq (.reg [o 4 (.mv (.c (.bool false)))])
   (.ret)) (.skip)))
  (.seq (.seq (.reg [o 5 (.mv (.c (.int .i64 0)))])
  (.block 0 (.loop (.seq (.seq (.reg [o 11 (.mv (.t 5)), o 12 (.mv (.t 0)), o 13 (.lenL (.t 12)), o 14 (.bin .lss (.t 11) (.t 13))])
    (.cond (.t 14) (.skip) (.exit 0)))
    (.seq (.block 1 (.seq (.reg [o 17 (.mv (.t 0)), o 18 (.mv (.t 5)), o 19 (.iaddr 4 (.t 17) (.t 18)), o 20 (.load (some 4) (.t 19)), o 21 (.mv (.t 1)), o 22 (.mv (.t 5)), o 23 (.iaddr 4 (.t 21) (.t 22)), o 24 (.load (some 4) (.t 23)), o 25 (.callF 81 [(.t 20), (.t 24)]), o 26 (.un .not (.t 25))])
     (.cond (.t 26) (.seq (.reg [o 4 (.mv (.c (.bool false)))])
      (.ret)) (.skip))))
    (.reg [o 15 (.mv (.t 5)), o 16 (.bin .add (.t 15) (.c (.int .i64 1))), o 5 (.mv (.t 16))]))))))
  (.seq (.reg [o 4 (.mv (.c (.bool true)))])
  (.ret)))),
  [.tmp 4]⟩
/- loop.example/g03011/laws.eqJobS -/
def F35 : Fun := ⟨27,
  .seq (.reg [o 4 (.mv (.c (.bool false)))])
  (.seq (.seq (.reg [o 6 (.mv (.t 0)), o 7 (.lenL (.t 6)), o 8 (.mv (.t 1)), o 9 (.lenL (.t 8)), o 10 (.bin .neq (.t 7) (.t 9))])
  (.cond (.t 10) (.seq (.reg [o 4 (.mv (.c (.bool false)))])
   (.ret)) (.skip)))
  (.seq (.seq (.reg [o 5 (.mv (.c (.int .i64 0)))])
  (.block 0 (.loop (.seq (.seq (.reg [o 11 (.mv (.t 5)), o 12 (.mv (.t 0)), o 13 (.lenL (.t 12)), o 14 (.bin .lss (.t 11) (.t 13))])
    (.cond (.t 14) (.skip) (.exit 0)))
    (.seq (.block 1 (.seq (.reg [o 17 (.mv (.t 0)), o 18 (.mv (.t 5)), o 19 (.iaddr 5 (.t 17) (.t 18)), o 20 (.load (some 5) (.t 19)), o 21 (.mv (.t 1)), o 22 (.mv (.t 5)), o 23 (.iaddr 5 (.t 21) (.t 22)), o 24 (.load (some 5) (.t 23)), o 25 (.callF 82 [(.t 20), (.t 24)]), o 26 (.un .not (.t 25))])
     (.cond (.t 26) (.seq (.reg [o 4 (.mv (.c (.bool false)))])
      (.ret)) (.skip))))
    (.reg [o 15 (.mv (.t 5)), o 16 (.bin .add (.t 15) (.c (.int .i64 1))), o 5 (.mv (.t 16))]))))))
  (.seq (.reg [o 4 (.mv (.c (.bool true)))])
  (.ret)))),
  [.tmp 4]⟩
/- loop.example/g03011/laws.eqWorkerS -/
def F36 : Fun := ⟨27,
  .seq (.reg [o 4 (.mv (.c (.bool false)))])
  (.seq (.seq (.reg [o 6 (.mv (.t 0)), o 7 (.lenL (.t 6)), o 8 (.mv (.t 1)), o 9 (.lenL (.t 8)), o 10 (.bin .neq (.t 7) (.t 9))])
  (.cond (.t 10) (.seq (.reg [o 4 (.mv (.c (.bool false)))])
   (.ret)) (.skip)))
  (.seq (.seq (.reg [o 5 (.mv (.c (.int .i64 0)))])
  (.block 0 (.loop (.seq (.seq (.reg [o 11 (.mv (.t 5)), o 12 (.mv (.t 0)), o 13 (.lenL (.t 12)), o 14 (.bin .lss (.t 11) (.t 13))])
    (.cond (.t 14) (.skip) (.exit 0)))
    (.seq (.block 1 (.seq (.reg [o 17 (.mv (.t 0)), o 18 (.mv (.t 5)), o 19 (.iaddr 9 (.t 17) (.t 18)), o 20 (.load (some 9) (.t 19)), o 21 (.mv (.t 1)), o 22 (.mv (.t 5)), o 23 (.iaddr 9 (.t 21) (.t 22)), o 24 (.load (some 9) (.t 23)), o 25 (.callF 83 [(.t 20), (.t 24)]), o 26 (.un .not (.t 25))])
     (.cond (.t 26) (.seq (.reg [o 4 (.mv (.c (.bool false)))])
      (.ret)) (.skip))))
    (.reg [o 15 (.mv (.t 5)), o 16 (.bin .add (.t 15) (.c (.int .i64 1))), o 5 (.mv (.t 16))]))))))
  (.seq (.reg [o 4 (.mv (.c (.bool true)))])
  (.ret)))),
  [.tmp 4]⟩
/- loop.example/g03011/laws.eqAnswerS -/
def F37 : Fun := ⟨27,
  .seq (.reg [o 4 (.mv (.c (.bool false)))])
  (.seq (.seq (.reg [o 6 (.mv (.t 0)), o 7 (.lenL (.t 6)), o 8 (.mv (.t 1)), o 9 (.lenL (.t 8)), o 10 (.bin .neq (.t 7) (.t 9))])
  (.cond (.t 10) (.seq (.reg [o 4 (.mv (.c (.bool false)))])
   (.ret)) (.skip)))
  (.seq (.seq (.reg [o 5 (.mv (.c (.int .i64 0)))])
  (.block 0 (.loop (.seq (.seq (.reg [o 11 (.mv (.t 5)), o 12 (.mv (.t 0)), o 13 (.lenL (.t 12)), o 14 (.bin .lss (.t 11) (.t 13))])
    (.cond (.t 14) (.skip) (.exit 0)))
    (.seq (.block 1 (.seq (.reg [o 17 (.mv (.t 0)), o 18 (.mv (.t 5)), o 19 (.iaddr 11 (.t 17) (.t 18)), o 20 (.load (some 11) (.t 19)), o 21 (.mv (.t 1)), o 22 (.mv (.t 5)), o 23 (.iaddr 11 (.t 21) (.t 22)), o 24 (.load (some 11) (.t 23)), o 25 (.callF 84 [(.t 20), (.t 24)]), o 26 (.un .not (.t 25))])
     (.cond (.t 26) (.seq (.reg [o 4 (.mv (.c (.bool false)))])
      (.ret)) (.skip))))
    (.reg [o 15 (.mv (.t 5)), o 16 (.bin .add (.t 15) (.c (.int .i64 1))), o 5 (.mv (.t 16))]))))))
  (.seq (.reg [o 4 (.mv (.c (.bool true)))])
  (.ret)))),
  [.tmp 4]⟩
/- loop.example/g03011/laws.markFileS -/
def F38 : Fun := ⟨36,
  .seq (.reg [o 4 (.mv (.c (.int .i64 0)))])
  (.seq (.seq (.reg [o 5 (.mv (.c (.int .i64 0)))])
  (.block 0 (.loop (.seq (.seq (.reg [o 6 (.mv (.t 5)), o 7 (.mv (.t 0)), o 8 (.lenL (.t 7)), o 9 (.bin .lss (.t 6) (.t 8))])
    (.cond (.t 9) (.skip) (.exit 0)))
    (.seq (.block 1 (.seq (.reg [o 12 (.mv (.t 0)), o 13 (.mv (.t 5)), o 14 (.mv (.t 1)), o 15 (.call 85 [(.t 14)]), o 16 (.iaddr 3 (.t 12) (.t 13)), o 17 (.faddr 0 (.t 16)), st (.store 1 (.t 17) (.t 15))])
     (.seq (.reg [o 18 (.mv (.t 1)), o 19 (.bin .add (.t 18) (.c (.int .i64 1))), o 1 (.mv (.t 19))])
     (.seq (.reg [o 20 (.mv (.t 0)), o 21 (.mv (.t 5)), o 22 (.mv (.t 1)), o 23 (.call 85 [(.t 22)]), o 24 (.iaddr 3 (.t 20) (.t 21)), o 25 (.faddr 1 (.t 24)), st (.store 1 (.t 25) (.t 23))])
     (.seq (.reg [o 26 (.mv (.t 1)), o 27 (.bin .add (.t 26) (.c (.int .i64 1))), o 1 (.mv (.t 27))])
     (.seq (.reg [o 28 (.mv (.t 0)), o 29 (.mv (.t 5)), o 30 (.mv (.t 1)), o 31 (.iaddr 3 (.t 28) (.t 29)), o 32 (.faddr 2 (.t 31)), st (.store 1 (.t 32) (.t 30))])
     (.reg [o 33 (.mv (.t 1)), o 34 (.bin .add (.t 33) (.c (.int .i64 1))), o 1 (.mv (.t 34))])))))))
    (.reg [o 10 (.mv (.t 5)), o 11 (.bin .add (.t 10) (.c (.int .i64 1))), o 5 (.mv (.t 11))]))))))
  (.seq (.reg [o 35 (.mv (.t 1)), o 4 (.mv (.t 35))])
  (.ret))),
  [.tmp 4]⟩
/- loop.example/g03011/laws.markLineS -/
def F39 : Fun := ⟨41,
  .seq (.reg [o 4 (.mv (.c (.int .i64 0)))])
  (.seq (.seq (.reg [o 5 (.mv (.c (.int .i64 0)))])
  (.block 0 (.loop (.seq (.seq (.reg [o 6 (.mv (.t 5)), o 7 (.mv (.t 0)), o 8 (.lenL (.t 7)), o 9 (.bin .lss (.t 6) (.t 8))])
    (.cond (.t 9) (.skip) (.exit 0)))
    (.seq (.block 1 (.seq (.reg [o 12 (.mv (.t 0)), o 13 (.mv (.t 5)), o 14 (.mv (.t 1)), o 15 (.iaddr 4 (.t 12) (.t 13)), o 16 (.faddr 0 (.t 15)), st (.store 1 (.t 16) (.t 14))])
     (.seq (.reg [o 17 (.mv (.t 1)), o 18 (.bin .add (.t 17) (.c (.int .i64 1))), o 1 (.mv (.t 18))])
     (.seq (.reg [o 19 (.mv (.t 0)), o 20 (.mv (.t 5)), o 21 (.mv (.t 1)), o 22 (.iaddr 4 (.t 19) (.t 20)), o 23 (.faddr 1 (.t 22)), st (.store 1 (.t 23) (.t 21))])
     (.seq (.reg [o 24 (.mv (.t 1)), o 25 (.bin .add (.t 24) (.c (.int .i64 1))), o 1 (.mv (.t 25))])
     (.seq (.reg [o 26 (.mv (.t 0)), o 27 (.mv (.t 5)), o 28 (.mv (.t 1)), o 29 (.iaddr 4 (.t 26) (.t 27)), o 30 (.faddr 2 (.t 29)), st (.store 1 (.t 30) (.t 28))])
     (.seq (.reg [o 31 (.mv (.t 1)), o 32 (.bin .add (.t 31) (.c (.int .i64 1))), o 1 (.mv (.t 32))])
     (.reg [o 33 (.mv (.t 0)), o 34 (.mv (.t 5)), o 35 (.iaddr 4 (.t 33) (.t 34)), o 36 (.faddr 3 (.t 35)), o 37 (.load none (.t 36)), o 38 (.mv (.t 1)), o 39 (.call 86 [(.t 37), (.t 38)]), o 1 (.mv (.t 39))]))))))))
    (.reg [o 10 (.mv (.t 5)), o 11 (.bin .add (.t 10) (.c (.int .i64 1))), o 5 (.mv (.t 11))]))))))
  (.seq (.reg [o 40 (.mv (.t 1)), o 4 (.mv (.t 40))])
  (.ret))),
  [.tmp 4]⟩
/- loop.example/g03011/laws.markSessionS -/
def F40 : Fun := ⟨43,
  .seq (.reg [o 4 (.mv (.c (.int .i64 0)))])
  (.seq (.seq (.reg [o 5 (.mv (.c (.int .i64 0)))])
  (.block 0 (.loop (.seq (.seq (.reg [o 6 (.mv (.t 5)), o 7 (.mv (.t 0)), o 8 (.lenL (.t 7)), o 9 (.bin .lss (.t 6) (.t 8))])
    (.cond (.t 9) (.skip) (.exit 0)))
    (.seq (.block 1 (.seq (.reg [o 12 (.mv (.t 0)), o 13 (.mv (.t 5)), o 14 (.mv (.t 1)), o 15 (.call 85 [(.t 14)]), o 16 (.iaddr 4 (.t 12) (.t 13)), o 17 (.faddr 0 (.t 16)), st (.store 1 (.t 17) (.t 15))])
     (.seq (.reg [o 18 (.mv (.t 1)), o 19 (.bin .add (.t 18) (.c (.int .i64 1))), o 1 (.mv (.t 19))])
     (.seq (.reg [o 20 (.mv (.t 0)), o 21 (.mv (.t 5)), o 22 (.mv (.t 1)), o 23 (.call 85 [(.t 22)]), o 24 (.iaddr 4 (.t 20) (.t 21)), o 25 (.faddr 1 (.t 24)), st (.store 1 (.t 25) (.t 23))])
     (.seq (.reg [o 26 (.mv (.t 1)), o 27 (.bin .add (.t 26) (.c (.int .i64 1))), o 1 (.mv (.t 27))])
     (.seq (.reg [o 28 (.mv (.t 0)), o 29 (.mv (.t 5)), o 30 (.mv (.t 1)), o 31 (.iaddr 4 (.t 28) (.t 29)), o 32 (.faddr 2 (.t 31)), st (.store 1 (.t 32) (.t 30))])
     (.seq (.reg [o 33 (.mv (.t 1)), o 34 (.bin .add (.t 33) (.c (.int .i64 1))), o 1 (.mv (.t 34))])
     (.seq (.reg [o 35 (.mv (.t 0)), o 36 (.mv (.t 5)), o 37 (.mv (.t 1)), o 38 (.iaddr 4 (.t 35) (.t 36)), o 39 (.faddr 3 (.t 38)), st (.store 1 (.t 39) (.t 37))])
     (.reg [o 40 (.mv (.t 1)), o 41 (.bin .add (.t 40) (.c (.int .i64 1))), o 1 (.mv (.t 41))])))))))))
    (.reg [o 10 (.mv (.t 5)), o 11 (.bin .add (.t 10) (.c (.int .i64 1))), o 5 (.mv (.t 11))]))))))
  (.seq (.reg [o 42 (.mv (.t 1)), o 4 (.mv (.t 42))])
  (.ret))),
  [.tmp 4]⟩
/- loop.example/g03011/laws.markJobS -/
def F41 : Fun := ⟨53,
  .seq (.reg [o 4 (.mv (.c (.int .i64 0)))])
  (.seq (.seq (.reg [o 5 (.mv (.c (.int .i64 0)))])
  (.block 0 (.loop (.seq (.seq (.reg [o 6 (.mv (.t 5)), o 7 (.mv (.t 0)), o 8 (.lenL (.t 7)), o 9 (.bin .lss (.t 6) (.t 8))])
    (.cond (.t 9) (.skip) (.exit 0)))
    (.seq (.block 1 (.seq (.reg [o 12 (.mv (.t 0)), o 13 (.mv (.t 5)), o 14 (.mv (.t 1)), o 15 (.iaddr 5 (.t 12) (.t 13)), o 16 (.faddr 0 (.t 15)), st (.store 1 (.t 16) (.t 14))])
     (.seq (.reg [o 17 (.mv (.t 1)), o 18 (.bin .add (.t 17) (.c (.int .i64 1))), o 1 (.mv (.t 18))])
     (.seq (.reg [o 19 (.mv (.t 0)), o 20 (.mv (.t 5)), o 21 (.mv (.t 1)), o 22 (.call 85 [(.t 21)]), o 23 (.iaddr 5 (.t 19) (.t 20)), o 24 (.faddr 1 (.t 23)), o 25 (.faddr 0 (.t 24)), st (.store 1 (.t 25) (.t 22))])
     (.seq (.reg [o 26 (.mv (.t 1)), o 27 (.bin .add (.t 26) (.c (.int .i64 1))), o 1 (.mv (.t 27))])
     (.seq (.reg [o 28 (.mv (.t 0)), o 29 (.mv (.t 5)), o 30 (.iaddr 5 (.t 28) (.t 29)), o 31 (.faddr 1 (.t 30)), o 32 (.faddr 1 (.t 31)), o 33 (.load none (.t 32)), o 34 (.mv (.t 1)), o 35 (.call 87 [(.t 33), (.t 34)]), o 1 (.mv (.t 35))])
     (.seq (.reg [o 36 (.mv (.t 0)), o 37 (.mv (.t 5)), o 38 (.iaddr 5 (.t 36) (.t 37)), o 39 (.faddr 1 (.t 38)), o 40 (.faddr 2 (.t 39)), o 41 (.load none (.t 40)), o 42 (.mv (.t 1)), o 43 (.call 87 [(.t 41), (.t 42)]), o 1 (.mv (.t 43))])
     (.seq (.reg [o 44 (.mv (.t 0)), o 45 (.mv (.t 5)), o 46 (.mv (.t 1)), o 47 (.call 85 [(.t 46)]), o 48 (.iaddr 5 (.t 44) (.t 45)), o 49 (.faddr 4 (.t 48)), st (.store 1 (.t 49) (.t 47))])
     (.reg [o 50 (.mv (.t 1)), o 51 (.bin .add (.t 50) (.c (.int .i64 1))), o 1 (.mv (.t 51))])))))))))
    (.reg [o 10 (.mv (.t 5)), o 11 (.bin .add (.t 10) (.c (.int .i64 1))), o 5 (.mv (.t 11))]))))))
  (.seq (.reg [o 52 (.mv (.t 1)), o 4 (.mv (.t 52))])
  (.ret))),
  [.tmp 4]⟩
/- loop.example/g03011/laws.markWorkerS -/
def F42 : Fun := ⟨87,
  .seq (.reg [o 4 (.mv (.c (.int .i64 0)))])
  (.seq (.seq (.reg [o 5 (.mv (.c (.int .i64 0)))])
  (.block 0 (.loop (.seq (.seq (.reg [o 6 (.mv (.t 5)), o 7 (.mv (.t 0)), o 8 (.lenL (.t 7)), o 9 (.bin .lss (.t 6) (.t 8))])
    (.cond (.t 9) (.skip) (.exit 0)))
    (.seq (.block 1 (.seq (.reg [o 12 (.mv (.t 0)), o 13 (.mv (.t 5)), o 14 (.mv (.t 1)), o 15 (.iaddr 9 (.t 12) (.t 13)), o 16 (.faddr 0 (.t 15)), st (.store 1 (.t 16) (.t 14))])
     (.seq (.reg [o 17 (.mv (.t 1)), o 18 (.bin .add (.t 17) (.c (.int .i64 1))), o 1 (.mv (.t 18))])
     (.seq (.reg [o 19 (.mv (.t 0)), o 20 (.mv (.t 5)), o 21 (.mv (.t 1)), o 22 (.iaddr 9 (.t 19) (.t 20)), o 23 (.faddr 1 (.t 22)), o 24 (.faddr 0 (.t 23)), st (.store 1 (.t 24) (.t 21))])
     (.seq (.reg [o 25 (.mv (.t 1)), o 26 (.bin .add (.t 25) (.c (.int .i64 1))), o 1 (.mv (.t 26))])
     (.seq (.reg [o 27 (.mv (.t 0)), o 28 (.mv (.t 5)), o 29 (.mv (.t 1)), o 30 (.call 85 [(.t 29)]), o 31 (.iaddr 9 (.t 27) (.t 28)), o 32 (.faddr 1 (.t 31)), o 33 (.faddr 1 (.t 32)), o 34 (.faddr 0 (.t 33)), st (.store 1 (.t 34) (.t 30))])
     (.seq (.reg [o 35 (.mv (.t 1)), o 36 (.bin .add (.t 35) (.c (.int .i64 1))), o 1 (.mv (.t 36))])
     (.seq (.reg [o 37 (.mv (.t 0)), o 38 (.mv (.t 5)), o 39 (.iaddr 9 (.t 37) (.t 38)), o 40 (.faddr 1 (.t 39)), o 41 (.faddr 1 (.t 40)), o 42 (.faddr 1 (.t 41)), o 43 (.load none (.t 42)), o 44 (.mv (.t 1)), o 45 (.call 87 [(.t 43), (.t 44)]), o 1 (.mv (.t 45))])
     (.seq (.reg [o 46 (.mv (.t 0)), o 47 (.mv (.t 5)), o 48 (.iaddr 9 (.t 46) (.t 47)), o 49 (.faddr 1 (.t 48)), o 50 (.faddr 1 (.t 49)), o 51 (.faddr 2 (.t 50)), o 52 (.load none (.t 51)), o 53 (.mv (.t 1)), o 54 (.call 87 [(.t 52), (.t 53)]), o 1 (.mv (.t 54))])
     (.seq (.reg [o 55 (.mv (.t 0)), o 56 (.mv (.t 5)), o 57 (.mv (.t 1)), o 58 (.call 85 [(.t 57)]), o 59 (.iaddr 9 (.t 55) (.t 56)), o 60 (.faddr 1 (.t 59)), o 61 (.faddr 4 (.t 60)), st (.store 1 (.t 61) (.t 58))])
     (.seq (.reg [o 62 (.mv (.t 1)), o 63 (.bin .add (.t 62) (.c (.int .i64 1))), o 1 (.mv (.t 63))])
     (.seq (.reg [o 64 (.mv (.t 0)), o 65 (.mv (.t 5)), o 66 (.mv (.t 1)), o 67 (.call 85 [(.t 66)]), o 68 (.iaddr 9 (.t 64) (.t 65)), o 69 (.faddr 6 (.t 68)), st (.store 1 (.t 69) (.t 67))])
     (.seq (.reg [o 70 (.mv (.t 1)), o 71 (.bin .add (.t 70) (.c (.int .i64 1))), o 1 (.mv (.t 71))])
     (.seq (.reg [o 72 (.mv (.t 0)), o 73 (.mv (.t 5)), o 74 (.iaddr 9 (.t 72) (.t 73)), o 75 (.faddr 7 (.t 74)), o 76 (.load none (.t 75)), o 77 (.mv (.t 1)), o 78 (.call 38 [(.t 76), (.t 77)]), o 1 (.mv (.t 78))])
     (.seq (.reg [o 79 (.mv (.t 0)), o 80 (.mv (.t 5)), o 81 (.mv (.t 1)), o 82 (.iaddr 9 (.t 79) (.t 80)), o 83 (.faddr 8 (.t 82)), st (.store 1 (.t 83) (.t 81))])
     (.reg [o 84 (.mv (.t 1)), o 85 (.bin .add (.t 84) (.c (.int .i64 1))), o 1 (.mv (.t 85))]))))))))))))))))
    (.reg [o 10 (.mv (.t 5)), o 11 (.bin .add (.t 10) (.c (.int .i64 1))), o 5 (.mv (.t 11))]))))))
  (.seq (.reg [o 86 (.mv (.t 1)), o 4 (.mv (.t 86))])
  (.ret))),
  [.tmp 4]⟩
/- loop.example/g03011/laws.markAnswerS -/
def F43 : Fun := ⟨101,
  .seq (.reg [o 4 (.mv (.c (.int .i64 0)))])
  (.seq (.seq (.reg [o 5 (.mv (.c (.int .i64 0)))])
  (.block 0 (.loop (.seq (.seq (.reg [o 6 (.mv (.t 5)), o 7 (.mv (.t 0)), o 8 (.lenL (.t 7)), o 9 (.bin .lss (.t 6) (.t 8))])
    (.cond (.t 9) (.skip) (.exit 0)))
    (.seq (.block 1 (.seq (.reg [o 12 (.mv (.t 0)), o 13 (.mv (.t 5)), o 14 (.mv (.t 1)), o 15 (.iaddr 11 (.t 12) (.t 13)), o 16 (.faddr 0 (.t 15)), st (.store 1 (.t 16) (.t 14))])
     (.seq (.reg [o 17 (.mv (.t 1)), o 18 (.bin .add (.t 17) (.c (.int .i64 1))), o 1 (.mv (.t 18))])
     (.seq (.reg [o 19 (.mv (.t 0)), o 20 (.mv (.t 5)), o 21 (.mv (.t 1)), o 22 (.call 85 [(.t 21)]), o 23 (.iaddr 11 (.t 19) (.t 20)), o 24 (.faddr 1 (.t 23)), st (.store 1 (.t 24) (.t 22))])
     (.seq (.reg [o 25 (.mv (.t 1)), o 26 (.bin .add (.t 25) (.c (.int .i64 1))), o 1 (.mv (.t 26))])
     (.seq (.reg [o 27 (.mv (.t 0)), o 28 (.mv (.t 5)), o 29 (.iaddr 11 (.t 27) (.t 28)), o 30 (.faddr 2 (.t 29)), o 31 (.load none (.t 30)), o 32 (.mv (.t 1)), o 33 (.call 38 [(.t 31), (.t 32)]), o 1 (.mv (.t 33))])
     (.seq (.reg [o 34 (.mv (.t 0)), o 35 (.mv (.t 5)), o 36 (.mv (.t 1)), o 37 (.call 85 [(.t 36)]), o 38 (.iaddr 11 (.t 34) (.t 35)), o 39 (.faddr 3 (.t 38)), o 40 (.faddr 0 (.t 39)), st (.store 1 (.t 40) (.t 37))])
     (.seq (.reg [o 41 (.mv (.t 1)), o 42 (.bin .add (.t 41) (.c (.int .i64 1))), o 1 (.mv (.t 42))])
     (.seq (.reg [o 43 (.mv (.t 0)), o 44 (.mv (.t 5)), o 45 (.iaddr 11 (.t 43) (.t 44)), o 46 (.faddr 3 (.t 45)), o 47 (.faddr 1 (.t 46)), o 48 (.load none (.t 47)), o 49 (.mv (.t 1)), o 50 (.call 87 [(.t 48), (.t 49)]), o 1 (.mv (.t 50))])
     (.seq (.reg [o 51 (.mv (.t 0)), o 52 (.mv (.t 5)), o 53 (.iaddr 11 (.t 51) (.t 52)), o 54 (.faddr 3 (.t 53)), o 55 (.faddr 2 (.t 54)), o 56 (.load none (.t 55)), o 57 (.mv (.t 1)), o 58 (.call 87 [(.t 56), (.t 57)]), o 1 (.mv (.t 58))])
     (.seq (.reg [o 59 (.mv (.t 0)), o 60 (.mv (.t 5)), o 61 (.mv (.t 1)), o 62 (.call 85 [(.t 61)]), o 63 (.iaddr 11 (.t 59) (.t 60)), o 64 (.faddr 6 (.t 63)), st (.store 1 (.t 64) (.t 62))])
     (.seq (.reg [o 65 (.mv (.t 1)), o 66 (.bin .add (.t 65) (.c (.int .i64 1))), o 1 (.mv (.t 66))])
     (.seq (.reg [o 67 (.mv (.t 0)), o 68 (.mv (.t 5)), o 69 (.mv (.t 1)), o 70 (.iaddr 11 (.t 67) (.t 68)), o 71 (.faddr 7 (.t 70)), o 72 (.faddr 0 (.t 71)), st (.store 1 (.t 72) (.t 69))])
     (.seq (.reg [o 73 (.mv (.t 1)), o 74 (.bin .add (.t 73) (.c (.int .i64 1))), o 1 (.mv (.t 74))])
     (.seq (.reg [o 75 (.mv (.t 0)), o 76 (.mv (.t 5)), o 77 (.iaddr 11 (.t 75) (.t 76)), o 78 (.faddr 7 (.t 77)), o 79 (.faddr 1 (.t 78)), o 80 (.load none (.t 79)), o 81 (.mv (.t 1)), o 82 (.call 88 [(.t 80), (.t 81)]), o 1 (.mv (.t 82))])
     (.seq (.reg [o 83 (.mv (.t 0)), o 84 (.mv (.t 5)), o 85 (.mv (.t 1)), o 86 (.call 85 [(.t 85)]), o 87 (.iaddr 11 (.t 83) (.t 84)), o 88 (.faddr 7 (.t 87)), o 89 (.faddr 2 (.t 88)), st (.store 1 (.t 89) (.t 86))])
     (.seq (.reg [o 90 (.mv (.t 1)), o 91 (.bin .add (.t 90) (.c (.int .i64 1))), o 1 (.mv (.t 91))])
     (.seq (.reg [o 92 (.mv (.t 0)), o 93 (.mv (.t 5)), o 94 (.mv (.t 1)), o 95 (.call 85 [(.t 94)]), o 96 (.iaddr 11 (.t 92) (.t 93)), o 97 (.faddr 10 (.t 96)), st (.store 1 (.t 97) (.t 95))])
     (.reg [o 98 (.mv (.t 1)), o 99 (.bin .add (.t 98) (.c (.int .i64 1))), o 1 (.mv (.t 99))])))))))))))))))))))
    (.reg [o 10 (.mv (.t 5)), o 11 (.bin .add (.t 10) (.c (.int .i64 1))), o 5 (.mv (.t 11))]))))))
  (.seq (.reg [o 100 (.mv (.t 1)), o 4 (.mv (.t 100))])
  (.ret))),
  [.tmp 4]⟩
/- loop.example/g03011/laws.heldFileS -/
def F44 : Fun := ⟨42,
  .seq (.reg [o 4 (.mv (.c (.int .i64 0)))])
  (.seq (.seq (.reg [o 5 (.mv (.c (.int .i64 0)))])
  (.block 0 (.loop (.seq (.seq (.reg [o 6 (.mv (.t 5)), o 7 (.mv (.t 0)), o 8 (.lenL (.t 7)), o 9 (.bin .lss (.t 6) (.t 8))])
    (.cond (.t 9) (.skip) (.exit 0)))
    (.seq (.block 1 (.seq (.seq (.reg [o 12 (.mv (.t 0)), o 13 (.mv (.t 5)), o 14 (.iaddr 3 (.t 12) (.t 13)), o 15 (.faddr 0 (.t 14)), o 16 (.load none (.t 15)), o 17 (.mv (.t 1)), o 18 (.callF 85 [(.t 17)]), o 19 (.bin .neq (.t 16) (.t 18))])
     (.cond (.t 19) (.seq (.reg [o 4 (.mv (.c (.int .i64 (-1))))])
      (.ret)) (.skip)))
     (.seq (.reg [o 20 (.mv (.t 1)), o 21 (.bin .add (.t 20) (.c (.int .i64 1))), o 1 (.mv (.t 21))])
     (.seq (.seq (.reg [o 22 (.mv (.t 0)), o 23 (.mv (.t 5)), o 24 (.iaddr 3 (.t 22) (.t 23)), o 25 (.faddr 1 (.t 24)), o 26 (.load none (.t 25)), o 27 (.mv (.t 1)), o 28 (.callF 85 [(.t 27)]), o 29 (.bin .neq (.t 26) (.t 28))])
     (.cond (.t 29) (.seq (.reg [o 4 (.mv (.c (.int .i64 (-1))))])
      (.ret)) (.skip)))
     (.seq (.reg [o 30 (.mv (.t 1)), o 31 (.bin .add (.t 30) (.c (.int .i64 1))), o 1 (.mv (.t 31))])
     (.seq (.seq (.reg [o 32 (.mv (.t 0)), o 33 (.mv (.t 5)), o 34 (.iaddr 3 (.t 32) (.t 33)), o 35 (.faddr 2 (.t 34)), o 36 (.load none (.t 35)), o 37 (.mv (.t 1)), o 38 (.bin .neq (.t 36) (.t 37))])
     (.cond (.t 38) (.seq (.reg [o 4 (.mv (.c (.int .i64 (-1))))])
      (.ret)) (.skip)))
     (.reg [o 39 (.mv (.t 1)), o 40 (.bin .add (.t 39) (.c (.int .i64 1))), o 1 (.mv (.t 40))])))))))
    (.reg [o 10 (.mv (.t 5)), o 11 (.bin .add (.t 10) (.c (.int .i64 1))), o 5 (.mv (.t 11))]))))))
  (.seq (.reg [o 41 (.mv (.t 1)), o 4 (.mv (.t 41))])
  (.ret))),
  [.tmp 4]⟩
/- loop.example/g03011/laws.heldLineS -/
def F45 : Fun := ⟨49,
  .seq (.reg [o 4 (.mv (.c (.int .i64 0)))])
  (.seq (.seq (.reg [o 5 (.mv (.c (.int .i64 0)))])
  (.block 0 (.loop (.seq (.seq (.reg [o 6 (.mv (.t 5)), o 7 (.mv (.t 0)), o 8 (.lenL (.t 7)), o 9 (.bin .lss (.t 6) (.t 8))])
    (.cond (.t 9) (.skip) (.exit 0)))
    (.seq (.block 1 (.seq (.seq (.reg [o 12 (.mv (.t 0)), o 13 (.mv (.t 5)), o 14 (.iaddr 4 (.t 12) (.t 13)), o 15 (.faddr 0 (.t 14)), o 16 (.load none (.t 15)), o 17 (.mv (.t 1)), o 18 (.bin .neq (.t 16) (.t 17))])
     (.cond (.t 18) (.seq (.reg [o 4 (.mv (.c (.int .i64 (-1))))])
      (.ret)) (.skip)))
     (.seq (.reg [o 19 (.mv (.t 1)), o 20 (.bin .add (.t 19) (.c (.int .i64 1))), o 1 (.mv (.t 20))])
     (.seq (.seq (.reg [o 21 (.mv (.t 0)), o 22 (.mv (.t 5)), o 23 (.iaddr 4 (.t 21) (.t 22)), o 24 (.faddr 1 (.t 23)), o 25 (.load none (.t 24)), o 26 (.mv (.t 1)), o 27 (.bin .neq (.t 25) (.t 26))])
     (.cond (.t 27) (.seq (.reg [o 4 (.mv (.c (.int .i64 (-1))))])
      (.ret)) (.skip)))
     (.seq (.reg [o 28 (.mv (.t 1)), o 29 (.bin .add (.t 28) (.c (.int .i64 1))), o 1 (.mv (.t 29))])
     (.seq (.seq (.reg [o 30 (.mv (.t 0)), o 31 (.mv (.t 5)), o 32 (.iaddr 4 (.t 30) (.t 31)), o 33 (.faddr 2 (.t 32)), o 34 (.load none (.t 33)), o 35 (.mv (.t 1)), o 36 (.bin .neq (.t 34) (.t 35))])
     (.cond (.t 36) (.seq (.reg [o 4 (.mv (.c (.int .i64 (-1))))])
      (.ret)) (.skip)))
     (.seq (.reg [o 37 (.mv (.t 1)), o 38 (.bin .add (.t 37) (.c (.int .i64 1))), o 1 (.mv (.t 38))])
     (.seq (.reg [o 39 (.mv (.t 0)), o 40 (.mv (.t 5)), o 41 (.iaddr 4 (.t 39) (.t 40)), o 42 (.faddr 3 (.t 41)), o 43 (.load none (.t 42)), o 44 (.mv (.t 1)), o 45 (.call 89 [(.t 43), (.t 44)]), o 1 (.mv (.t 45))])
     (.seq (.reg [o 46 (.mv (.t 1)), o 47 (.bin .lss (.t 46) (.c (.int .i64 0)))])
     (.cond (.t 47) (.seq (.reg [o 4 (.mv (.c (.int .i64 (-1))))])
      (.ret)) (.skip)))))))))))
    (.reg [o 10 (.mv (.t 5)), o 11 (.bin .add (.t 10) (.c (.int .i64 1))), o 5 (.mv (.t 11))]))))))
  (.seq (.reg [o 48 (.mv (.t 1)), o 4 (.mv (.t 48))])
  (.ret))),
  [.tmp 4]⟩
/- loop.example/g03011/laws.heldSessionS -/
def F46 : Fun := ⟨51,
  .seq (.reg [o 4 (.mv (.c (.int .i64 0)))])
  (.seq (.seq (.reg [o 5 (.mv (.c (.int .i64 0)))])
  (.block 0 (.loop (.seq (.seq (.reg [o 6 (.mv (.t 5)), o 7 (.mv (.t 0)), o 8 (.lenL (.t 7)), o 9 (.bin .lss (.t 6) (.t 8))])
    (.cond (.t 9) (.skip) (.exit 0)))
    (.seq (.block 1 (.seq (.seq (.reg [o 12 (.mv (.t 0)), o 13 (.mv (.t 5)), o 14 (.iaddr 4 (.t 12) (.t 13)), o 15 (.faddr 0 (.t 14)), o 16 (.load none (.t 15)), o 17 (.mv (.t 1)), o 18 (.callF 85 [(.t 17)]), o 19 (.bin .neq (.t 16) (.t 18))])
     (.cond (.t 19) (.seq (.reg [o 4 (.mv (.c (.int .i64 (-1))))])
      (.ret)) (.skip)))
     (.seq (.reg [o 20 (.mv (.t 1)), o 21 (.bin .add (.t 20) (.c (.int .i64 1))), o 1 (.mv (.t 21))])
     (.seq (.seq (.reg [o 22 (.mv (.t 0)), o 23 (.mv (.t 5)), o 24 (.iaddr 4 (.t 22) (.t 23)), o 25 (.faddr 1 (.t 24)), o 26 (.load none (.t 25)), o 27 (.mv (.t 1)), o 28 (.callF 85 [(.t 27)]), o 29 (.bin .neq (.t 26) (.t 28))])
     (.cond (.t 29) (.seq (.reg [o 4 (.mv (.c (.int .i64 (-1))))])
      (.ret)) (.skip)))
     (.seq (.reg [o 30 (.mv (.t 1)), o 31 (.bin .add (.t 30) (.c (.int .i64 1))), o 1 (.mv (.t 31))])
     (.seq (.seq (.reg [o 32 (.mv (.t 0)), o 33 (.mv (.t 5)), o 34 (.iaddr 4 (.t 32) (.t 33)), o 35 (.faddr 2 (.t 34)), o 36 (.load none (.t 35)), o 37 (.mv (.t 1)), o 38 (.bin .neq (.t 36) (.t 37))])
     (.cond (.t 38) (.seq (.reg [o 4 (.mv (.c (.int .i64 (-1))))])
      (.ret)) (.skip)))
     (.seq (.reg [o 39 (.mv (.t 1)), o 40 (.bin .add (.t 39) (.c (.int .i64 1))), o 1 (.mv (.t 40))])
     (.seq (.seq (.reg [o 41 (.mv (.t 0)), o 42 (.mv (.t 5)), o 43 (.iaddr 4 (.t 41) (.t 42)), o 44 (.faddr 3 (.t 43)), o 45 (.load none (.t 44)), o 46 (.mv (.t 1)), o 47 (.bin .neq (.t 45) (.t 46))])
     (.cond (.t 47) (.seq (.reg [o 4 (.mv (.c (.int .i64 (-1))))])
      (.ret)) (.skip)))
     (.reg [o 48 (.mv (.t 1)), o 49 (.bin .add (.t 48) (.c (.int .i64 1))), o 1 (.mv (.t 49))])))))))))
    (.reg [o 10 (.mv (.t 5)), o 11 (.bin .add (.t 10) (.c (.int .i64 1))), o 5 (.mv (.t 11))]))))))
  (.seq (.reg [o 50 (.mv (.t 1)), o 4 (.mv (.t 50))])
  (.ret))),
  [.tmp 4]⟩
/- loop.example/g03011/laws.heldJobS -/
def F47 : Fun := ⟨63,
  .seq (.reg [o 4 (.mv (.c (.int .i64 0)))])
  (.seq (.seq (.reg [o 5 (.mv (.c (.int .i64 0)))])
  (.block 0 (.loop (.seq (.seq (.reg [o 6 (.mv (.t 5)), o 7 (.mv (.t 0)), o 8 (.lenL (.t 7)), o 9 (.bin .lss (.t 6) (.t 8))])
    (.cond (.t 9) (.skip) (.exit 0)))
    (.seq (.block 1 (.seq (.seq (.reg [o 12 (.mv (.t 0)), o 13 (.mv (.t 5)), o 14 (.iaddr 5 (.t 12) (.t 13)), o 15 (.faddr 0 (.t 14)), o 16 (.load none (.t 15)), o 17 (.mv (.t 1)), o 18 (.bin .neq (.t 16) (.t 17))])
     (.cond (.t 18) (.seq (.reg [o 4 (.mv (.c (.int .i64 (-1))))])
      (.ret)) (.skip)))
     (.seq (.reg [o 19 (.mv (.t 1)), o 20 (.bin .add (.t 19) (.c (.int .i64 1))), o 1 (.mv (.t 20))])
     (.seq (.seq (.reg [o 21 (.mv (.t 0)), o 22 (.mv (.t 5)), o 23 (.iaddr 5 (.t 21) (.t 22)), o 24 (.faddr 1 (.t 23)), o 25 (.faddr 0 (.t 24)), o 26 (.load none (.t 25)), o 27 (.mv (.t 1)), o 28 (.callF 85 [(.t 27)]), o 29 (.bin .neq (.t 26) (.t 28))])
     (.cond (.t 29) (.seq (.reg [o 4 (.mv (.c (.int .i64 (-1))))])
      (.ret)) (.skip)))
     (.seq (.reg [o 30 (.mv (.t 1)), o 31 (.bin .add (.t 30) (.c (.int .i64 1))), o 1 (.mv (.t 31))])
     (.seq (.reg [o 32 (.mv (.t 0)), o 33 (.mv (.t 5)), o 34 (.iaddr 5 (.t 32) (.t 33)), o 35 (.faddr 1 (.t 34)), o 36 (.faddr 1 (.t 35)), o 37 (.load none (.t 36)), o 38 (.mv (.t 1)), o 39 (.call 90 [(.t 37), (.t 38)]), o 1 (.mv (.t 39))])
     (.seq (.seq (.reg [o 40 (.mv (.t 1)), o 41 (.bin .lss (.t 40) (.c (.int .i64 0)))])
     (.cond (.t 41) (.seq (.reg [o 4 (.mv (.c (.int .i64 (-1))))])
      (.ret)) (.skip)))
     (.seq (.reg [o 42 (.mv (.t 0)), o 43 (.mv (.t 5)), o 44 (.iaddr 5 (.t 42) (.t 43)), o 45 (.faddr 1 (.t 44)), o 46 (.faddr 2 (.t 45)), o 47 (.load none (.t 46)), o 48 (.mv (.t 1)), o 49 (.call 90 [(.t 47), (.t 48)]), o 1 (.mv (.t 49))])
     (.seq (.seq (.reg [o 50 (.mv (.t 1)), o 51 (.bin .lss (.t 50) (.c (.int .i64 0)))])
     (.cond (.t 51) (.seq (.reg [o 4 (.mv (.c (.int .i64 (-1))))])
      (.ret)) (.skip)))
     (.seq (.seq (.reg [o 52 (.mv (.t 0)), o 53 (.mv (.t 5)), o 54 (.iaddr 5 (.t 52) (.t 53)), o 55 (.faddr 4 (.t 54)), o 56 (.load none (.t 55)), o 57 (.mv (.t 1)), o 58 (.callF 85 [(.t 57)]), o 59 (.bin .neq (.t 56) (.t 58))])
     (.cond (.t 59) (.seq (.reg [o 4 (.mv (.c (.int .i64 (-1))))])
      (.ret)) (.skip)))
     (.reg [o 60 (.mv (.t 1)), o 61 (.bin .add (.t 60) (.c (.int .i64 1))), o 1 (.mv (.t 61))])))))))))))
    (.reg [o 10 (.mv (.t 5)), o 11 (.bin .add (.t 10) (.c (.int .i64 1))), o 5 (.mv (.t 11))]))))))
  (.seq (.reg [o 62 (.mv (.t 1)), o 4 (.mv (.t 62))])
  (.ret))),
  [.tmp 4]⟩
/- loop.example/g03011/laws.heldWorkerS -/
def F48 : Fun := ⟨105,
  .seq (.reg [o 4 (.mv (.c (.int .i64 0)))])
  (.seq (.seq (.reg [o 5 (.mv (.c (.int .i64 0)))])
  (.block 0 (.loop (.seq (.seq (.reg [o 6 (.mv (.t 5)), o 7 (.mv (.t 0)), o 8 (.lenL (.t 7)), o 9 (.bin .lss (.t 6) (.t 8))])
    (.cond (.t 9) (.skip) (.exit 0)))
    (.seq (.block 1 (.seq (.seq (.reg [o 12 (.mv (.t 0)), o 13 (.mv (.t 5)), o 14 (.iaddr 9 (.t 12) (.t 13)), o 15 (.faddr 0 (.t 14)), o 16 (.load none (.t 15)), o 17 (.mv (.t 1)), o 18 (.bin .neq (.t 16) (.t 17))])
     (.cond (.t 18) (.seq (.reg [o 4 (.mv (.c (.int .i64 (-1))))])
      (.ret)) (.skip)))
     (.seq (.reg [o 19 (.mv (.t 1)), o 20 (.bin .add (.t 19) (.c (.int .i64 1))), o 1 (.mv (.t 20))])
     (.seq (.seq (.reg [o 21 (.mv (.t 0)), o 22 (.mv (.t 5)), o 23 (.iaddr 9 (.t 21) (.t 22)), o 24 (.faddr 1 (.t 23)), o 25 (.faddr 0 (.t 24)), o 26 (.load none (.t 25)), o 27 (.mv (.t 1)), o 28 (.bin .neq (.t 26) (.t 27))])
     (.cond (.t 28) (.seq (.reg [o 4 (.mv (.c (.int .i64 (-1))))])
      (.ret)) (.skip)))
     (.seq (.reg [o 29 (.mv (.t 1)), o 30 (.bin .add (.t 29) (.c (.int .i64 1))), o 1 (.mv (.t 30))])
     (.seq (.seq (.reg [o 31 (.mv (.t 0)), o 32 (.mv (.t 5)), o 33 (.iaddr 9 (.t 31) (.t 32)), o 34 (.faddr 1 (.t 33)), o 35 (.faddr 1 (.t 34)), o 36 (.faddr 0 (.t 35)), o 37 (.load none (.t 36)), o 38 (.mv (.t 1)), o 39 (.callF 85 [(.t 38)]), o 40 (.bin .neq (.t 37) (.t 39))])
     (.cond (.t 40) (.seq (.reg [o 4 (.mv (.c (.int .i64 (-1))))])
      (.ret)) (.skip)))
     (.seq (.reg [o 41 (.mv (.t 1)), o 42 (.bin .add (.t 41) (.c (.int .i64 1))), o 1 (.mv (.t 42))])
     (.seq (.reg [o 43 (.mv (.t 0)), o 44 (.mv (.t 5)), o 45 (.iaddr 9 (.t 43) (.t 44)), o 46 (.faddr 1 (.t 45)), o 47 (.faddr 1 (.t 46)), o 48 (.faddr 1 (.t 47)), o 49 (.load none (.t 48)), o 50 (.mv (.t 1)), o 51 (.call 90 [(.t 49), (.t 50)]), o 1 (.mv (.t 51))])
     (.seq (.seq (.reg [o 52 (.mv (.t 1)), o 53 (.bin .lss (.t 52) (.c (.int .i64 0)))])
     (.cond (.t 53) (.seq (.reg [o 4 (.mv (.c (.int .i64 (-1))))])
      (.ret)) (.skip)))
     (.seq (.reg [o 54 (.mv (.t 0)), o 55 (.mv (.t 5)), o 56 (.iaddr 9 (.t 54) (.t 55)), o 57 (.faddr 1 (.t 56)), o 58 (.faddr 1 (.t 57)), o 59 (.faddr 2 (.t 58)), o 60 (.load none (.t 59)), o 61 (.mv (.t 1)), o 62 (.call 90 [(.t 60), (.t 61)]), o 1 (.mv (.t 62))])
     (.seq (.seq (.reg [o 63 (.mv (.t 1)), o 64 (.bin .lss (.t 63) (.c (.int .i64 0)))])
     (.cond (.t 64) (.seq (.reg [o 4 (.mv (.c (.int .i64 (-1))))])
      (.ret)) (.skip)))
     (.seq (.seq (.reg [o 65 (.mv (.t 0)), o 66 (.mv (.t 5)), o 67 (.iaddr 9 (.t 65) (.t 66)), o 68 (.faddr 1 (.t 67)), o 69 (.faddr 4 (.t 68)), o 70 (.load none (.t 69)), o 71 (.mv (.t 1)), o 72 (.callF 85 [(.t 71)]), o 73 (.bin .neq (.t 70) (.t 72))])
     (.cond (.t 73) (.seq (.reg [o 4 (.mv (.c (.int .i64 (-1))))])
      (.ret)) (.skip)))
     (.seq (.reg [o 74 (.mv (.t 1)), o 75 (.bin .add (.t 74) (.c (.int .i64 1))), o 1 (.mv (.t 75))])
     (.seq (.seq (.reg [o 76 (.mv (.t 0)), o 77 (.mv (.t 5)), o 78 (.iaddr 9 (.t 76) (.t 77)), o 79 (.faddr 6 (.t 78)), o 80 (.load none (.t 79)), o 81 (.mv (.t 1)), o 82 (.callF 85 [(.t 81)]), o 83 (.bin .neq (.t 80) (.t 82))])
     (.cond (.t 83) (.seq (.reg [o 4 (.mv (.c (.int .i64 (-1))))])
      (.ret)) (.skip)))
     (.seq (.reg [o 84 (.mv (.t 1)), o 85 (.bin .add (.t 84) (.c (.int .i64 1))), o 1 (.mv (.t 85))])
     (.seq (.reg [o 86 (.mv (.t 0)), o 87 (.mv (.t 5)), o 88 (.iaddr 9 (.t 86) (.t 87)), o 89 (.faddr 7 (.t 88)), o 90 (.load none (.t 89)), o 91 (.mv (.t 1)), o 92 (.call 44 [(.t 90), (.t 91)]), o 1 (.mv (.t 92))])
     (.seq (.seq (.reg [o 93 (.mv (.t 1)), o 94 (.bin .lss (.t 93) (.c (.int .i64 0)))])
     (.cond (.t 94) (.seq (.reg [o 4 (.mv (.c (.int .i64 (-1))))])
      (.ret)) (.skip)))
     (.seq (.seq (.reg [o 95 (.mv (.t 0)), o 96 (.mv (.t 5)), o 97 (.iaddr 9 (.t 95) (.t 96)), o 98 (.faddr 8 (.t 97)), o 99 (.load none (.t 98)), o 100 (.mv (.t 1)), o 101 (.bin .neq (.t 99) (.t 100))])
     (.cond (.t 101) (.seq (.reg [o 4 (.mv (.c (.int .i64 (-1))))])
      (.ret)) (.skip)))
     (.reg [o 102 (.mv (.t 1)), o 103 (.bin .add (.t 102) (.c (.int .i64 1))), o 1 (.mv (.t 103))])))))))))))))))))))
    (.reg [o 10 (.mv (.t 5)), o 11 (.bin .add (.t 10) (.c (.int .i64 1))), o 5 (.mv (.t 11))]))))))
  (.seq (.reg [o 104 (.mv (.t 1)), o 4 (.mv (.t 104))])
  (.ret))),
  [.tmp 4]⟩
/- loop.example/g03011/laws.heldAnswerS -/
def F49 : Fun := ⟨123,
  .seq (.reg [o 4 (.mv (.c (.int .i64 0)))])
  (.seq (.seq (.reg [o 5 (.mv (.c (.int .i64 0)))])
  (.block 0 (.loop (.seq (.seq (.reg [o 6 (.mv (.t 5)), o 7 (.mv (.t 0)), o 8 (.lenL (.t 7)), o 9 (.bin .lss (.t 6) (.t 8))])
    (.cond (.t 9) (.skip) (.exit 0)))
    (.seq (.block 1 (.seq (.seq (.reg [o 12 (.mv (.t 0)), o 13 (.mv (.t 5)), o 14 (.iaddr 11 (.t 12) (.t 13)), o 15 (.faddr 0 (.t 14)), o 16 (.load none (.t 15)), o 17 (.mv (.t 1)), o 18 (.bin .neq (.t 16) (.t 17))])
     (.cond (.t 18) (.seq (.reg [o 4 (.mv (.c (.int .i64 (-1))))])
      (.ret)) (.skip)))
     (.seq (.reg [o 19 (.mv (.t 1)), o 20 (.bin .add (.t 19) (.c (.int .i64 1))), o 1 (.mv (.t 20))])
     (.seq (.seq (.reg [o 21 (.mv (.t 0)), o 22 (.mv (.t 5)), o 23 (.iaddr 11 (.t 21) (.t 22)), o 24 (.faddr 1 (.t 23)), o 25 (.load none (.t 24)), o 26 (.mv (.t 1)), o 27 (.callF 85 [(.t 26)]), o 28 (.bin .neq (.t 25) (.t 27))])
     (.cond (.t 28) (.seq (.reg [o 4 (.mv (.c (.int .i64 (-1))))])
      (.ret)) (.skip)))
     (.seq (.reg [o 29 (.mv (.t 1)), o 30 (.bin .add (.t 29) (.c (.int .i64 1))), o 1 (.mv (.t 30))])
     (.seq (.reg [o 31 (.mv (.t 0)), o 32 (.mv (.t 5)), o 33 (.iaddr 11 (.t 31) (.t 32)), o 34 (.faddr 2 (.t 33)), o 35 (.load none (.t 34)), o 36 (.mv (.t 1)), o 37 (.call 44 [(.t 35), (.t 36)]), o 1 (.mv (.t 37))])
     (.seq (.seq (.reg [o 38 (.mv (.t 1)), o 39 (.bin .lss (.t 38) (.c (.int .i64 0)))])
     (.cond (.t 39) (.seq (.reg [o 4 (.mv (.c (.int .i64 (-1))))])
      (.ret)) (.skip)))
     (.seq (.seq (.reg [o 40 (.mv (.t 0)), o 41 (.mv (.t 5)), o 42 (.iaddr 11 (.t 40) (.t 41)), o 43 (.faddr 3 (.t 42)), o 44 (.faddr 0 (.t 43)), o 45 (.load none (.t 44)), o 46 (.mv (.t 1)), o 47 (.callF 85 [(.t 46)]), o 48 (.bin .neq (.t 45) (.t 47))])
     (.cond (.t 48) (.seq (.reg [o 4 (.mv (.c (.int .i64 (-1))))])
      (.ret)) (.skip)))
     (.seq (.reg [o 49 (.mv (.t 1)), o 50 (.bin .add (.t 49) (.c (.int .i64 1))), o 1 (.mv (.t 50))])
     (.seq (.reg [o 51 (.mv (.t 0)), o 52 (.mv (.t 5)), o 53 (.iaddr 11 (.t 51) (.t 52)), o 54 (.faddr 3 (.t 53)), o 55 (.faddr 1 (.t 54)), o 56 (.load none (.t 55)), o 57 (.mv (.t 1)), o 58 (.call 90 [(.t 56), (.t 57)]), o 1 (.mv (.t 58))])
     (.seq (.seq (.reg [o 59 (.mv (.t 1)), o 60 (.bin .lss (.t 59) (.c (.int .i64 0)))])
     (.cond (.t 60) (.seq (.reg [o 4 (.mv (.c (.int .i64 (-1))))])
      (.ret)) (.skip)))
     (.seq (.reg [o 61 (.mv (.t 0)), o 62 (.mv (.t 5)), o 63 (.iaddr 11 (.t 61) (.t 62)), o 64 (.faddr 3 (.t 63)), o 65 (.faddr 2 (.t 64)), o 66 (.load none (.t 65)), o 67 (.mv (.t 1)), o 68 (.call 90 [(.t 66), (.t 67)]), o 1 (.mv (.t 68))])
     (.seq (.seq (.reg [o 69 (.mv (.t 1)), o 70 (.bin .lss (.t 69) (.c (.int .i64 0)))])
     (.cond (.t 70) (.seq (.reg [o 4 (.mv (.c (.int .i64 (-1))))])
      (.ret)) (.skip)))
     (.seq (.seq (.reg [o 71 (.mv (.t 0)), o 72 (.mv (.t 5)), o 73 (.iaddr 11 (.t 71) (.t 72)), o 74 (.faddr 6 (.t 73)), o 75 (.load none (.t 74)), o 76 (.mv (.t 1)), o 77 (.callF 85 [(.t 76)]), o 78 (.bin .neq (.t 75) (.t 77))])
     (.cond (.t 78) (.seq (.reg [o 4 (.mv (.c (.int .i64 (-1))))])
      (.ret)) (.skip)))
     (.seq (.reg [o 79 (.mv (.t 1)), o 80 (.bin .add (.t 79) (.c (.int .i64 1))), o 1 (.mv (.t 80))])
     (.seq (.seq (.reg [o 81 (.mv (.t 0)), o 82 (.mv (.t 5)), o 83 (.iaddr 11 (.t 81) (.t 82)), o 84 (.faddr 7 (.t 83)), o 85 (.faddr 0 (.t 84)), o 86 (.load none (.t 85)), o 87 (.mv (.t 1)), o 88 (.bin .neq (.t 86) (.t 87))])
     (.cond (.t 88) (.seq (.reg [o 4 (.mv (.c (.int .i64 (-1))))])
      (.ret)) (.skip)))
     (.seq (.reg [o 89 (.mv (.t 1)), o 90 (.bin .add (.t 89) (.c (.int .i64 1))), o 1 (.mv (.t 90))])
     (.seq (.reg [o 91 (.mv (.t 0)), o 92 (.mv (.t 5)), o 93 (.iaddr 11 (.t 91) (.t 92)), o 94 (.faddr 7 (.t 93)), o 95 (.faddr 1 (.t 94)), o 96 (.load none (.t 95)), o 97 (.mv (.t 1)), o 98 (.call 91 [(.t 96), (.t 97)]), o 1 (.mv (.t 98))])
     (.seq (.seq (.reg [o 99 (.mv (.t 1)), o 100 (.bin .lss (.t 99) (.c (.int .i64 0)))])
     (.cond (.t 100) (.seq (.reg [o 4 (.mv (.c (.int .i64 (-1))))])
      (.ret)) (.skip)))
     (.seq (.seq (.reg [o 101 (.mv (.t 0)), o 102 (.mv (.t 5)), o 103 (.iaddr 11 (.t 101) (.t 102)), o 104 (.faddr 7 (.t 103)), o 105 (.faddr 2 (.t 104)), o 106 (.load none (.t 105)), o 107 (.mv (.t 1)), o 108 (.callF 85 [(.t 107)]), o 109 (.bin .neq (.t 106) (.t 108))])
     (.cond (.t 109) (.seq (.reg [o 4 (.mv (.c (.int .i64 (-1))))])
      (.ret)) (.skip)))
     (.seq (.reg [o 110 (.mv (.t 1)), o 111 (.bin .add (.t 110) (.c (.int .i64 1))), o 1 (.mv (.t 111))])
     (.seq (.seq (.reg [o 112 (.mv (.t 0)), o 113 (.mv (.t 5)), o 114 (.iaddr 11 (.t 112) (.t 113)), o 115 (.faddr 10 (.t 114)), o 116 (.load none (.t 115)), o 117 (.mv (.t 1)), o 118 (.callF 85 [(.t 117)]), o 119 (.bin .neq (.t 116) (.t 118))])
     (.cond (.t 119) (.seq (.reg [o 4 (.mv (.c (.int .i64 (-1))))])
      (.ret)) (.skip)))
     (.reg [o 120 (.mv (.t 1)), o 121 (.bin .add (.t 120) (.c (.int .i64 1))), o 1 (.mv (.t 121))])))))))))))))))))))))))
    (.reg [o 10 (.mv (.t 5)), o 11 (.bin .add (.t 10) (.c (.int .i64 1))), o 5 (.mv (.t 11))]))))))
  (.seq (.reg [o 122 (.mv (.t 1)), o 4 (.mv (.t 122))])
  (.ret))),
  [.tmp 4]⟩
/- loop.example/g03011/spec.OpenSession -/
def F50 : Fun := ⟨77,
  .seq (.reg [o 8 (.mv (.c .nsl)), o 9 (.mv (.c (.str []))), o 10 (.mv (.c (.int .i64 0)))])
  (.seq (.reg [o 13 (.bslice 4 [(.str []), (.str []), (.int .i64 0), (.int .i64 0)] 0 []), o 14 (.mv (.t 0)), o 15 (.append 4 48 (.t 13) (.t 14)), o 11 (.mv (.t 15))])
  (.seq (.reg [o 16 (.mv (.t 0)), o 17 (.mv (.t 1)), o 18 (.call 92 [(.t 16), (.t 17)]), o 12 (.mv (.t 18))])
  (.seq (.block 0 (.seq (.reg [o 20 (.mv (.t 1)), o 21 (.call 93 [(.t 20)]), o 22 (.un .not (.t 21)), o 23 (.mv (.t 22)), og 24 (.mv (.t 0)) 23 false, og 25 (.call 94 [(.t 24)]) 23 false, og 26 (.un .not (.t 25)) 23 false, o 27 (.pick (.t 23) (.c (.bool true)) (.t 26)), o 28 (.mv (.t 27)), og 29 (.mv (.t 2)) 28 false, og 30 (.call 21 [(.t 29), (.c (.int .i64 1)), (.c (.int .i64 1000000000000))]) 28 false, og 31 (.un .not (.t 30)) 28 false, o 32 (.pick (.t 28) (.c (.bool true)) (.t 31)), o 33 (.mv (.t 32)), og 34 (.mv (.t 3)) 33 false, og 35 (.call 21 [(.t 34), (.c (.int .i64 0)), (.c (.int .i64 1000000000000))]) 33 false, og 36 (.un .not (.t 35)) 33 false, o 37 (.pick (.t 33) (.c (.bool true)) (.t 36)), o 19 (.mv (.t 37))])
   (.cond (.t 19) (.seq (.reg [o 38 (.mv (.t 11)), o 8 (.mv (.t 38)), o 9 (.mv (.c (.str []))), o 10 (.mv (.c (.int .i64 1)))])
    (.ret)) (.seq (.reg [o 40 (.mv (.t 12)), o 41 (.bin .geq (.t 40) (.c (.int .i64 0))), o 42 (.mv (.t 41)), og 43 (.mv (.t 0)) 42 true, og 44 (.mv (.t 12)) 42 true, og 45 (.iaddr 4 (.t 43) (.t 44)) 42 true, og 46 (.faddr 2 (.t 45)) 42 true, og 47 (.load none (.t 46)) 42 true, og 48 (.bin .neq (.t 47) (.c (.int .i64 0))) 42 true, o 49 (.pick (.t 42) (.t 48) (.c (.bool false))), o 39 (.mv (.t 49))])
    (.cond (.t 39) (.seq (.reg [o 50 (.mv (.t 11)), o 8 (.mv (.t 50)), o 9 (.mv (.c (.str []))), o 10 (.mv (.c (.int .i64 2)))])
     (.ret)) (.seq (.reg [o 52 (.mv (.t 12)), o 53 (.bin .geq (.t 52) (.c (.int .i64 0))), o 51 (.mv (.t 53))])
     (.cond (.t 51) (.seq (.reg [o 54 (.mv (.t 11)), o 55 (.mv (.t 12)), o 56 (.mv (.t 2)), o 57 (.iaddr 4 (.t 54) (.t 55)), o 58 (.faddr 2 (.t 57)), st (.store 1 (.t 58) (.t 56))])
      (.seq (.reg [o 59 (.mv (.t 11)), o 60 (.mv (.t 0)), o 61 (.mv (.t 12)), o 62 (.iaddr 4 (.t 60) (.t 61)), o 63 (.faddr 1 (.t 62)), o 64 (.load none (.t 63)), o 8 (.mv (.t 59)), o 9 (.mv (.t 64)), o 10 (.mv (.c (.int .i64 0)))])
      (.ret))) (.seq (.reg [o 66 (.mv (.t 0)), o 67 (.lenL (.t 66)), o 68 (.bin .geq (.t 67) (.c (.int .i64 8))), o 65 (.mv (.t 68))])
      (.cond (.t 65) (.seq (.reg [o 69 (.mv (.t 11)), o 8 (.mv (.t 69)), o 9 (.mv (.c (.str []))), o 10 (.mv (.c (.int .i64 3)))])
       (.ret)) (.skip))))))))))
  (.seq (.reg [o 70 (.mv (.t 11)), o 71 (.mv (.t 1)), o 72 (.mv (.t 2)), o 73 (.mv (.t 3)), o 74 (.build [(.str []), (.str []), (.int .i64 0), (.int .i64 0)] [(0, 1, (.t 71)), (2, 1, (.t 72)), (3, 1, (.t 73))]), o 75 (.bslice 4 [(.str []), (.str []), (.int .i64 0), (.int .i64 0)] 1 [(0, (.t 74))]), o 76 (.append 4 48 (.t 70) (.t 75)), o 8 (.mv (.t 76)), o 9 (.mv (.c (.str []))), o 10 (.mv (.c (.int .i64 0)))])
  (.ret))))),
  [.tmp 8, .tmp 9, .tmp 10]⟩
/- loop.example/g03011/impl.OpenSession -/
def F51 : Fun := ⟨75,
  .seq (.reg [o 8 (.mv (.c .nsl)), o 9 (.mv (.c (.str []))), o 10 (.mv (.c (.int .i64 0)))])
  (.seq (.reg [o 13 (.mv (.t 0)), o 14 (.call 73 [(.t 13)]), o 11 (.mv (.t 14))])
  (.seq (.seq (.reg [o 15 (.mv (.t 1)), o 16 (.call 95 [(.t 15)]), o 17 (.un .not (.t 16)), o 18 (.mv (.t 17)), og 19 (.mv (.t 0)) 18 false, og 20 (.call 96 [(.t 19)]) 18 false, og 21 (.un .not (.t 20)) 18 false, o 22 (.pick (.t 18) (.c (.bool true)) (.t 21)), o 23 (.mv (.t 22)), og 24 (.mv (.t 2)) 23 false, og 25 (.call 30 [(.t 24), (.c (.int .i64 1)), (.c (.int .i64 1000000000000))]) 23 false, og 26 (.un .not (.t 25)) 23 false, o 27 (.pick (.t 23) (.c (.bool true)) (.t 26)), o 28 (.mv (.t 27)), og 29 (.mv (.t 3)) 28 false, og 30 (.call 30 [(.t 29), (.c (.int .i64 0)), (.c (.int .i64 1000000000000))]) 28 false, og 31 (.un .not (.t 30)) 28 false, o 32 (.pick (.t 28) (.c (.bool true)) (.t 31))])
  (.cond (.t 32) (.seq (.reg [o 33 (.mv (.t 11)), o 8 (.mv (.t 33)), o 9 (.mv (.c (.str []))), o 10 (.mv (.c (.int .i64 1)))])
   (.ret)) (.skip)))
  (.seq (.reg [o 34 (.mv (.t 0)), o 35 (.mv (.t 1)), o 36 (.call 97 [(.t 34), (.t 35)]), o 12 (.mv (.t 36))])
  (.seq (.block 0 (.seq (.reg [o 38 (.mv (.t 12)), o 39 (.bin .geq (.t 38) (.c (.int .i64 0))), o 40 (.mv (.t 39)), og 41 (.mv (.t 0)) 40 true, og 42 (.mv (.t 12)) 40 true, og 43 (.iaddr 4 (.t 41) (.t 42)) 40 true, og 44 (.faddr 2 (.t 43)) 40 true, og 45 (.load none (.t 44)) 40 true, og 46 (.bin .neq (.t 45) (.c (.int .i64 0))) 40 true, o 47 (.pick (.t 40) (.t 46) (.c (.bool false))), o 37 (.mv (.t 47))])
   (.cond (.t 37) (.seq (.reg [o 48 (.mv (.t 11)), o 8 (.mv (.t 48)), o 9 (.mv (.c (.str []))), o 10 (.mv (.c (.int .i64 2)))])
    (.ret)) (.seq (.reg [o 50 (.mv (.t 12)), o 51 (.bin .geq (.t 50) (.c (.int .i64 0))), o 49 (.mv (.t 51))])
    (.cond (.t 49) (.seq (.reg [o 52 (.mv (.t 11)), o 53 (.mv (.t 12)), o 54 (.mv (.t 2)), o 55 (.iaddr 4 (.t 52) (.t 53)), o 56 (.faddr 2 (.t 55)), st (.store 1 (.t 56) (.t 54))])
     (.seq (.reg [o 57 (.mv (.t 11)), o 58 (.mv (.t 11)), o 59 (.mv (.t 12)), o 60 (.iaddr 4 (.t 58) (.t 59)), o 61 (.faddr 1 (.t 60)), o 62 (.load none (.t 61)), o 8 (.mv (.t 57)), o 9 (.mv (.t 62)), o 10 (.mv (.c (.int .i64 0)))])
     (.ret))) (.seq (.reg [o 64 (.mv (.t 0)), o 65 (.lenL (.t 64)), o 66 (.bin .geq (.t 65) (.c (.int .i64 8))), o 63 (.mv (.t 66))])
     (.cond (.t 63) (.seq (.reg [o 67 (.mv (.t 11)), o 8 (.mv (.t 67)), o 9 (.mv (.c (.str []))), o 10 (.mv (.c (.int .i64 3)))])
      (.ret)) (.skip))))))))
  (.seq (.reg [o 68 (.mv (.t 11)), o 69 (.mv (.t 1)), o 70 (.mv (.t 2)), o 71 (.mv (.t 3)), o 72 (.build [(.str []), (.str []), (.int .i64 0), (.int .i64 0)] [(0, 1, (.t 69)), (2, 1, (.t 70)), (3, 1, (.t 71))]), o 73 (.bslice 4 [(.str []), (.str []), (.int .i64 0), (.int .i64 0)] 1 [(0, (.t 72))]), o 74 (.append 4 48 (.t 68) (.t 73)), o 8 (.mv (.t 74)), o 9 (.mv (.c (.str []))), o 10 (.mv (.c (.int .i64 0)))])
  (.ret)))))),
  [.tmp 8, .tmp 9, .tmp 10]⟩
/- slices.Clone[[]loop.example/g03011/impl.File,loop.example/g03011/impl.File] -/
def F53 : Fun := ⟨8,
  .seq (.reg [o 2 (.mv (.c .nsl))])
  (.seq (.seq (.reg [o 3 (.mv (.t 0)), o 4 (.isnl false (.t 3))])
  (.cond (.t 4) (.seq (.reg [o 2 (.mv (.c .nsl))])
   (.ret)) (.skip)))
  (.seq (.reg [o 5 (.bslice 3 [(.str []), (.str []), (.int .i64 0)] 0 []), o 6 (.mv (.t 0)), o 7 (.append 3 40 (.t 5) (.t 6)), o 2 (.mv (.t 7))])
  (.ret))),
  [.tmp 2]⟩
/- loop.example/g03011/laws.szFile -/
def F54 : Fun := ⟨20,
  .seq (.reg [o 2 (.box 3 (.t 0)), o 4 (.mv (.c (.int .i64 0)))])
  (.seq (.reg [o 5 (.mv (.t 1)), o 6 (.faddr 0 (.t 2)), o 7 (.load none (.t 6)), o 8 (.lenS (.t 7)), o 9 (.bin .sub (.t 5) (.t 8)), o 1 (.mv (.t 9))])
  (.seq (.seq (.reg [o 10 (.mv (.t 1)), o 11 (.bin .lss (.t 10) (.c (.int .i64 0)))])
  (.cond (.t 11) (.seq (.reg [o 4 (.mv (.c (.int .i64 (-1))))])
   (.ret)) (.skip)))
  (.seq (.reg [o 12 (.mv (.t 1)), o 13 (.faddr 1 (.t 2)), o 14 (.load none (.t 13)), o 15 (.lenS (.t 14)), o 16 (.bin .sub (.t 12) (.t 15)), o 1 (.mv (.t 16))])
  (.seq (.seq (.reg [o 17 (.mv (.t 1)), o 18 (.bin .lss (.t 17) (.c (.int .i64 0)))])
  (.cond (.t 18) (.seq (.reg [o 4 (.mv (.c (.int .i64 (-1))))])
   (.ret)) (.skip)))
  (.seq (.reg [o 19 (.mv (.t 1)), o 4 (.mv (.t 19))])
  (.ret)))))),
  [.tmp 4]⟩
/- loop.example/g03011/laws.szLine -/
def F55 : Fun := ⟨12,
  .seq (.reg [o 2 (.box 4 (.t 0)), o 4 (.mv (.c (.int .i64 0)))])
  (.seq (.reg [o 5 (.faddr 3 (.t 2)), o 6 (.load none (.t 5)), o 7 (.mv (.t 1)), o 8 (.call 98 [(.t 6), (.t 7)]), o 1 (.mv (.t 8))])
  (.seq (.seq (.reg [o 9 (.mv (.t 1)), o 10 (.bin .lss (.t 9) (.c (.int .i64 0)))])
  (.cond (.t 10) (.seq (.reg [o 4 (.mv (.c (.int .i64 (-1))))])
   (.ret)) (.skip)))
  (.seq (.reg [o 11 (.mv (.t 1)), o 4 (.mv (.t 11))])
  (.ret)))),
  [.tmp 4]⟩
/- loop.example/g03011/laws.szSession -/
def F56 : Fun := ⟨20,
  .seq (.reg [o 2 (.box 4 (.t 0)), o 4 (.mv (.c (.int .i64 0)))])
  (.seq (.reg [o 5 (.mv (.t 1)), o 6 (.faddr 0 (.t 2)), o 7 (.load none (.t 6)), o 8 (.lenS (.t 7)), o 9 (.bin .sub (.t 5) (.t 8)), o 1 (.mv (.t 9))])
  (.seq (.seq (.reg [o 10 (.mv (.t 1)), o 11 (.bin .lss (.t 10) (.c (.int .i64 0)))])
  (.cond (.t 11) (.seq (.reg [o 4 (.mv (.c (.int .i64 (-1))))])
   (.ret)) (.skip)))
  (.seq (.reg [o 12 (.mv (.t 1)), o 13 (.faddr 1 (.t 2)), o 14 (.load none (.t 13)), o 15 (.lenS (.t 14)), o 16 (.bin .sub (.t 12) (.t 15)), o 1 (.mv (.t 16))])
  (.seq (.seq (.reg [o 17 (.mv (.t 1)), o 18 (.bin .lss (.t 17) (.c (.int .i64 0)))])
  (.cond (.t 18) (.seq (.reg [o 4 (.mv (.c (.int .i64 (-1))))])
   (.ret)) (.skip)))
  (.seq (.reg [o 19 (.mv (.t 1)), o 4 (.mv (.t 19))])
  (.ret)))))),
  [.tmp 4]⟩
/- loop.example/g03011/laws.szJob -/
def F57 : Fun := ⟨19,
  .seq (.reg [o 2 (.box 5 (.t 0)), o 4 (.mv (.c (.int .i64 0)))])
  (.seq (.reg [o 5 (.faddr 1 (.t 2)), o 6 (.load (some 3) (.t 5)), o 7 (.mv (.t 1)), o 8 (.call 99 [(.t 6), (.t 7)]), o 1 (.mv (.t 8))])
  (.seq (.seq (.reg [o 9 (.mv (.t 1)), o 10 (.bin .lss (.t 9) (.c (.int .i64 0)))])
  (.cond (.t 10) (.seq (.reg [o 4 (.mv (.c (.int .i64 (-1))))])
   (.ret)) (.skip)))
  (.seq (.reg [o 11 (.mv (.t 1)), o 12 (.faddr 4 (.t 2)), o 13 (.load none (.t 12)), o 14 (.lenS (.t 13)), o 15 (.bin .sub (.t 11) (.t 14)), o 1 (.mv (.t 15))])
  (.seq (.seq (.reg [o 16 (.mv (.t 1)), o 17 (.bin .lss (.t 16) (.c (.int .i64 0)))])
  (.cond (.t 17) (.seq (.reg [o 4 (.mv (.c (.int .i64 (-1))))])
   (.ret)) (.skip)))
  (.seq (.reg [o 18 (.mv (.t 1)), o 4 (.mv (.t 18))])
  (.ret)))))),
  [.tmp 4]⟩
/- loop.example/g03011/laws.szWorker -/
def F58 : Fun := ⟨25,
  .seq (.reg [o 2 (.box 9 (.t 0)), o 4 (.mv (.c (.int .i64 0)))])
  (.seq (.reg [o 5 (.faddr 1 (.t 2)), o 6 (.load (some 5) (.t 5)), o 7 (.mv (.t 1)), o 8 (.call 57 [(.t 6), (.t 7)]), o 1 (.mv (.t 8))])
  (.seq (.seq (.reg [o 9 (.mv (.t 1)), o 10 (.bin .lss (.t 9) (.c (.int .i64 0)))])
  (.cond (.t 10) (.seq (.reg [o 4 (.mv (.c (.int .i64 (-1))))])
   (.ret)) (.skip)))
  (.seq (.reg [o 11 (.mv (.t 1)), o 12 (.faddr 6 (.t 2)), o 13 (.load none (.t 12)), o 14 (.lenS (.t 13)), o 15 (.bin .sub (.t 11) (.t 14)), o 1 (.mv (.t 15))])
  (.seq (.seq (.reg [o 16 (.mv (.t 1)), o 17 (.bin .lss (.t 16) (.c (.int .i64 0)))])
  (.cond (.t 17) (.seq (.reg [o 4 (.mv (.c (.int .i64 (-1))))])
   (.ret)) (.skip)))
  (.seq (.reg [o 18 (.faddr 7 (.t 2)), o 19 (.load none (.t 18)), o 20 (.mv (.t 1)), o 21 (.call 14 [(.t 19), (.t 20)]), o 1 (.mv (.t 21))])
  (.seq (.seq (.reg [o 22 (.mv (.t 1)), o 23 (.bin .lss (.t 22) (.c (.int .i64 0)))])
  (.cond (.t 23) (.seq (.reg [o 4 (.mv (.c (.int .i64 (-1))))])
   (.ret)) (.skip)))
  (.seq (.reg [o 24 (.mv (.t 1)), o 4 (.mv (.t 24))])
  (.ret)))))))),
  [.tmp 4]⟩
/- loop.example/g03011/laws.szAnswer -/
def F59 : Fun := ⟨45,
  .seq (.reg [o 2 (.box 11 (.t 0)), o 4 (.mv (.c (.int .i64 0)))])
  (.seq (.reg [o 5 (.mv (.t 1)), o 6 (.faddr 1 (.t 2)), o 7 (.load none (.t 6)), o 8 (.lenS (.t 7)), o 9 (.bin .sub (.t 5) (.t 8)), o 1 (.mv (.t 9))])
  (.seq (.seq (.reg [o 10 (.mv (.t 1)), o 11 (.bin .lss (.t 10) (.c (.int .i64 0)))])
  (.cond (.t 11) (.seq (.reg [o 4 (.mv (.c (.int .i64 (-1))))])
   (.ret)) (.skip)))
  (.seq (.reg [o 12 (.faddr 2 (.t 2)), o 13 (.load none (.t 12)), o 14 (.mv (.t 1)), o 15 (.call 14 [(.t 13), (.t 14)]), o 1 (.mv (.t 15))])
  (.seq (.seq (.reg [o 16 (.mv (.t 1)), o 17 (.bin .lss (.t 16) (.c (.int .i64 0)))])
  (.cond (.t 17) (.seq (.reg [o 4 (.mv (.c (.int .i64 (-1))))])
   (.ret)) (.skip)))
  (.seq (.reg [o 18 (.faddr 3 (.t 2)), o 19 (.load (some 3) (.t 18)), o 20 (.mv (.t 1)), o 21 (.call 99 [(.t 19), (.t 20)]), o 1 (.mv (.t 21))])
  (.seq (.seq (.reg [o 22 (.mv (.t 1)), o 23 (.bin .lss (.t 22) (.c (.int .i64 0)))])
  (.cond (.t 23) (.seq (.reg [o 4 (.mv (.c (.int .i64 (-1))))])
   (.ret)) (.skip)))
  (.seq (.reg [o 24 (.mv (.t 1)), o 25 (.faddr 6 (.t 2)), o 26 (.load none (.t 25)), o 27 (.lenS (.t 26)), o 28 (.bin .sub (.t 24) (.t 27)), o 1 (.mv (.t 28))])
  (.seq (.seq (.reg [o 29 (.mv (.t 1)), o 30 (.bin .lss (.t 29) (.c (.int .i64 0)))])
  (.cond (.t 30) (.seq (.reg [o 4 (.mv (.c (.int .i64 (-1))))])
   (.ret)) (.skip)))
  (.seq (.reg [o 31 (.faddr 7 (.t 2)), o 32 (.load (some 3) (.t 31)), o 33 (.mv (.t 1)), o 34 (.call 100 [(.t 32), (.t 33)]), o 1 (.mv (.t 34))])
  (.seq (.seq (.reg [o 35 (.mv (.t 1)), o 36 (.bin .lss (.t 35) (.c (.int .i64 0)))])
  (.cond (.t 36) (.seq (.reg [o 4 (.mv (.c (.int .i64 (-1))))])
   (.ret)) (.skip)))
  (.seq (.reg [o 37 (.mv (.t 1)), o 38 (.faddr 10 (.t 2)), o 39 (.load none (.t 38)), o 40 (.lenS (.t 39)), o 41 (.bin .sub (.t 37) (.t 40)), o 1 (.mv (.t 41))])
  (.seq (.seq (.reg [o 42 (.mv (.t 1)), o 43 (.bin .lss (.t 42) (.c (.int .i64 0)))])
  (.cond (.t 43) (.seq (.reg [o 4 (.mv (.c (.int .i64 (-1))))])
   (.ret)) (.skip)))
  (.seq (.reg [o 44 (.mv (.t 1)), o 4 (.mv (.t 44))])
  (.ret)))))))))))))),
  [.tmp 4]⟩
/- loop.example/g03011/spec.l34Copy -/
def F60 : Fun := ⟨30,
  .seq (.reg [o 2 (.mv (.c .nsl))])
  (.seq (.reg [o 6 (.bslice 4 [(.int .i64 0), (.int .i64 0), (.int .i64 0), .nsl] 0 []), o 3 (.mv (.t 6))])
  (.seq (.seq (.reg [o 4 (.mv (.c (.int .i64 0)))])
  (.block 0 (.loop (.seq (.seq (.reg [o 7 (.mv (.t 4)), o 8 (.mv (.t 0)), o 9 (.lenL (.t 8)), o 10 (.bin .lss (.t 7) (.t 9))])
    (.cond (.t 10) (.skip) (.exit 0)))
    (.seq (.block 1 (.seq (.reg [o 13 (.mv (.t 0)), o 14 (.mv (.t 4)), o 15 (.iaddr 4 (.t 13) (.t 14)), o 16 (.load (some 4) (.t 15)), o 5 (.new 4 [(.int .i64 0), (.int .i64 0), (.int .i64 0), .nsl]), st (.store 4 (.t 5) (.t 16))])
     (.seq (.reg [o 17 (.bslice 1 [(.int .i64 0)] 0 []), o 18 (.mv (.t 0)), o 19 (.mv (.t 4)), o 20 (.iaddr 4 (.t 18) (.t 19)), o 21 (.faddr 3 (.t 20)), o 22 (.load none (.t 21)), o 23 (.append 1 8 (.t 17) (.t 22)), o 24 (.faddr 3 (.t 5)), st (.store 1 (.t 24) (.t 23))])
     (.reg [o 25 (.mv (.t 3)), o 26 (.load (some 4) (.t 5)), o 27 (.bslice 4 [(.int .i64 0), (.int .i64 0), (.int .i64 0), .nsl] 1 [(0, (.t 26))]), o 28 (.append 4 48 (.t 25) (.t 27)), o 3 (.mv (.t 28))]))))
    (.reg [o 11 (.mv (.t 4)), o 12 (.bin .add (.t 11) (.c (.int .i64 1))), o 4 (.mv (.t 12))]))))))
  (.seq (.reg [o 29 (.mv (.t 3)), o 2 (.mv (.t 29))])
  (.ret)))),
  [.tmp 2]⟩
/- loop.example/g03011/spec.l39Job -/
def F61 : Fun := ⟨8,
  .seq (.reg [o 1 (.box 5 (.t 0)), o 2 (.new 5 [(.int .i64 0), (.str []), .nsl, .nsl, (.str [])])])
  (.seq (.reg [o 3 (.faddr 1 (.t 1)), o 4 (.load (some 3) (.t 3)), o 5 (.call 101 [(.t 4)]), o 6 (.faddr 1 (.t 1)), st (.store 3 (.t 6) (.t 5))])
  (.seq (.reg [o 7 (.load (some 5) (.t 1)), st (.store 5 (.t 2) (.t 7))])
  (.ret))),
  [.cell 2 (some 5)]⟩
/- loop.example/g03011/spec.l39Worker -/
def F62 : Fun := ⟨13,
  .seq (.reg [o 1 (.box 9 (.t 0)), o 2 (.new 9 [(.int .i64 0), (.int .i64 0), (.str []), .nsl, .nsl, (.str []), (.str []), .nsl, (.int .i64 0)])])
  (.seq (.reg [o 3 (.faddr 1 (.t 1)), o 4 (.load (some 5) (.t 3)), o 5 (.call 61 [(.t 4)]), o 6 (.faddr 1 (.t 1)), st (.store 5 (.t 6) (.t 5))])
  (.seq (.reg [o 7 (.bslice 3 [(.str []), (.str []), (.int .i64 0)] 0 []), o 8 (.faddr 7 (.t 1)), o 9 (.load none (.t 8)), o 10 (.append 3 40 (.t 7) (.t 9)), o 11 (.faddr 7 (.t 1)), st (.store 1 (.t 11) (.t 10))])
  (.seq (.reg [o 12 (.load (some 9) (.t 1)), st (.store 9 (.t 2) (.t 12))])
  (.ret)))),
  [.cell 2 (some 9)]⟩
/- loop.example/g03011/spec.l39Answer -/
def F63 : Fun := ⟨20,
  .seq (.reg [o 1 (.box 11 (.t 0)), o 2 (.new 11 [(.int .i64 0), (.str []), .nsl, (.str []), .nsl, .nsl, (.str []), (.int .i64 0), .nsl, (.str []), (.str [])])])
  (.seq (.reg [o 3 (.bslice 3 [(.str []), (.str []), (.int .i64 0)] 0 []), o 4 (.faddr 2 (.t 1)), o 5 (.load none (.t 4)), o 6 (.append 3 40 (.t 3) (.t 5)), o 7 (.faddr 2 (.t 1)), st (.store 1 (.t 7) (.t 6))])
  (.seq (.reg [o 8 (.faddr 3 (.t 1)), o 9 (.load (some 3) (.t 8)), o 10 (.call 101 [(.t 9)]), o 11 (.faddr 3 (.t 1)), st (.store 3 (.t 11) (.t 10))])
  (.seq (.reg [o 12 (.bslice 2 [(.str []), (.str [])] 0 []), o 13 (.faddr 7 (.t 1)), o 14 (.faddr 1 (.t 13)), o 15 (.load none (.t 14)), o 16 (.append 2 32 (.t 12) (.t 15)), o 17 (.faddr 7 (.t 1)), o 18 (.faddr 1 (.t 17)), st (.store 1 (.t 18) (.t 16))])
  (.seq (.reg [o 19 (.load (some 11) (.t 1)), st (.store 11 (.t 2) (.t 19))])
  (.ret))))),
  [.cell 2 (some 11)]⟩
/- loop.example/g03011/spec.AreLines -/
def F64 : Fun := ⟨50,
  .seq (.reg [o 2 (.mv (.c (.bool false)))])
  (.seq (.seq (.reg [o 3 (.mv (.c (.int .i64 0)))])
  (.block 0 (.loop (.seq (.seq (.reg [o 5 (.mv (.t 3)), o 6 (.mv (.t 0)), o 7 (.lenL (.t 6)), o 8 (.bin .lss (.t 5) (.t 7))])
    (.cond (.t 8) (.skip) (.exit 0)))
    (.seq (.block 1 (.seq (.reg [o 11 (.mv (.t 0)), o 12 (.mv (.t 3)), o 13 (.iaddr 4 (.t 11) (.t 12)), o 14 (.load (some 4) (.t 13)), o 4 (.new 4 [(.int .i64 0), (.int .i64 0), (.int .i64 0), .nsl]), st (.store 4 (.t 4) (.t 14))])
     (.seq (.reg [o 15 (.faddr 0 (.t 4)), o 16 (.load none (.t 15)), o 17 (.call 21 [(.t 16), (.c (.int .i64 0)), (.c (.int .i64 1000000000000))]), o 18 (.un .not (.t 17)), o 19 (.mv (.t 18)), og 20 (.faddr 1 (.t 4)) 19 false, og 21 (.load none (.t 20)) 19 false, og 22 (.call 21 [(.t 21), (.c (.int .i64 0)), (.c (.int .i64 8))]) 19 false, og 23 (.un .not (.t 22)) 19 false, o 24 (.pick (.t 19) (.c (.bool true)) (.t 23)), o 25 (.mv (.t 24)), og 26 (.faddr 2 (.t 4)) 25 false, og 27 (.load none (.t 26)) 25 false, og 28 (.call 21 [(.t 27), (.c (.int .i64 0)), (.c (.int .i64 1000000000000))]) 25 false, og 29 (.un .not (.t 28)) 25 false, o 30 (.pick (.t 25) (.c (.bool true)) (.t 29)), o 31 (.mv (.t 30)), og 32 (.faddr 3 (.t 4)) 31 false, og 33 (.load none (.t 32)) 31 false, og 34 (.lenL (.t 33)) 31 false, og 35 (.bin .gtr (.t 34) (.c (.int .i64 4100))) 31 false, o 36 (.pick (.t 31) (.c (.bool true)) (.t 35)), o 37 (.mv (.t 36)), og 38 (.faddr 0 (.t 4)) 37 false, og 39 (.load none (.t 38)) 37 false, og 40 (.bin .rem (.t 39) (.c (.int .i64 2))) 37 false, og 41 (.bin .eql (.t 40) (.c (.int .i64 1))) 37 false, og 42 (.faddr 1 (.t 4)) 37 false, og 43 (.load none (.t 42)) 37 false, og 44 (.bin .gtr (.t 43) (.c (.int .i64 0))) 37 false, og 45 (.binb .neq (.t 41) (.t 44)) 37 false, o 46 (.pick (.t 37) (.c (.bool true)) (.t 45))])
     (.cond (.t 46) (.seq (.reg [o 2 (.mv (.c (.bool false)))])
      (.ret)) (.skip)))))
    (.reg [o 9 (.mv (.t 3)), o 10 (.bin .add (.t 9) (.c (.int .i64 1))), o 3 (.mv (.t 10))]))))))
  (.seq (.reg [o 47 (.mv (.t 0)), o 48 (.lenL (.t 47)), o 49 (.bin .leq (.t 48) (.c (.int .i64 8))), o 2 (.mv (.t 49))])
  (.ret))),
  [.tmp 2]⟩
/- loop.example/g03011/spec.l34Recover -/
def F65 : Fun := ⟨28,
  .seq (.reg [o 4 (.mv (.c (.int .i64 0)))])
  (.block 0 (.loop (.seq (.seq (.reg [o 5 (.mv (.t 4)), o 6 (.mv (.t 0)), o 7 (.lenL (.t 6)), o 8 (.bin .lss (.t 5) (.t 7))])
    (.cond (.t 8) (.skip) (.exit 0)))
    (.seq (.block 1 (.seq (.reg [o 11 (.mv (.t 0)), o 12 (.mv (.t 4)), o 13 (.iaddr 4 (.t 11) (.t 12)), o 14 (.faddr 1 (.t 13)), o 15 (.load none (.t 14)), o 16 (.mv (.t 1)), o 17 (.bin .eql (.t 15) (.t 16))])
     (.cond (.t 17) (.reg [o 18 (.mv (.t 0)), o 19 (.mv (.t 4)), o 20 (.mv (.t 0)), o 21 (.mv (.t 4)), o 22 (.iaddr 4 (.t 20) (.t 21)), o 23 (.faddr 0 (.t 22)), o 24 (.load none (.t 23)), o 25 (.bin .add (.t 24) (.c (.int .i64 1))), o 26 (.build [(.int .i64 0), (.int .i64 0), (.int .i64 0), .nsl] [(0, 1, (.t 25))]), o 27 (.iaddr 4 (.t 18) (.t 19)), st (.store 4 (.t 27) (.t 26))]) (.skip))))
    (.reg [o 9 (.mv (.t 4)), o 10 (.bin .add (.t 9) (.c (.int .i64 1))), o 4 (.mv (.t 10))]))))),
  []⟩
/- loop.example/g03011/laws.toFile -/
def F66 : Fun := ⟨14,
  .seq (.reg [o 1 (.box 3 (.t 0)), o 2 (.new 3 [(.str []), (.str []), (.int .i64 0)])])
  (.seq (.reg [o 3 (.new 3 [(.str []), (.str []), (.int .i64 0)])])
  (.seq (.reg [o 4 (.faddr 0 (.t 1)), o 5 (.load none (.t 4)), o 6 (.faddr 0 (.t 3)), st (.store 1 (.t 6) (.t 5))])
  (.seq (.reg [o 7 (.faddr 1 (.t 1)), o 8 (.load none (.t 7)), o 9 (.faddr 1 (.t 3)), st (.store 1 (.t 9) (.t 8))])
  (.seq (.reg [o 10 (.faddr 2 (.t 1)), o 11 (.load none (.t 10)), o 12 (.faddr 2 (.t 3)), st (.store 1 (.t 12) (.t 11))])
  (.seq (.reg [o 13 (.load (some 3) (.t 3)), st (.store 3 (.t 2) (.t 13))])
  (.ret)))))),
  [.cell 2 (some 3)]⟩
/- loop.example/g03011/laws.toLine -/
def F67 : Fun := ⟨18,
  .seq (.reg [o 1 (.box 4 (.t 0)), o 2 (.new 4 [(.int .i64 0), (.int .i64 0), (.int .i64 0), .nsl])])
  (.seq (.reg [o 3 (.new 4 [(.int .i64 0), (.int .i64 0), (.int .i64 0), .nsl])])
  (.seq (.reg [o 4 (.faddr 0 (.t 1)), o 5 (.load none (.t 4)), o 6 (.faddr 0 (.t 3)), st (.store 1 (.t 6) (.t 5))])
  (.seq (.reg [o 7 (.faddr 1 (.t 1)), o 8 (.load none (.t 7)), o 9 (.faddr 1 (.t 3)), st (.store 1 (.t 9) (.t 8))])
  (.seq (.reg [o 10 (.faddr 2 (.t 1)), o 11 (.load none (.t 10)), o 12 (.faddr 2 (.t 3)), st (.store 1 (.t 12) (.t 11))])
  (.seq (.reg [o 13 (.faddr 3 (.t 1)), o 14 (.load none (.t 13)), o 15 (.call 102 [(.t 14)]), o 16 (.faddr 3 (.t 3)), st (.store 1 (.t 16) (.t 15))])
  (.seq (.reg [o 17 (.load (some 4) (.t 3)), st (.store 4 (.t 2) (.t 17))])
  (.ret))))))),
  [.cell 2 (some 4)]⟩
/- loop.example/g03011/laws.toSession -/
def F68 : Fun := ⟨17,
  .seq (.reg [o 1 (.box 4 (.t 0)), o 2 (.new 4 [(.str []), (.str []), (.int .i64 0), (.int .i64 0)])])
  (.seq (.reg [o 3 (.new 4 [(.str []), (.str []), (.int .i64 0), (.int .i64 0)])])
  (.seq (.reg [o 4 (.faddr 0 (.t 1)), o 5 (.load none (.t 4)), o 6 (.faddr 0 (.t 3)), st (.store 1 (.t 6) (.t 5))])
  (.seq (.reg [o 7 (.faddr 1 (.t 1)), o 8 (.load none (.t 7)), o 9 (.faddr 1 (.t 3)), st (.store 1 (.t 9) (.t 8))])
  (.seq (.reg [o 10 (.faddr 2 (.t 1)), o 11 (.load none (.t 10)), o 12 (.faddr 2 (.t 3)), st (.store 1 (.t 12) (.t 11))])
  (.seq (.reg [o 13 (.faddr 3 (.t 1)), o 14 (.load none (.t 13)), o 15 (.faddr 3 (.t 3)), st (.store 1 (.t 15) (.t 14))])
  (.seq (.reg [o 16 (.load (some 4) (.t 3)), st (.store 4 (.t 2) (.t 16))])
  (.ret))))))),
  [.cell 2 (some 4)]⟩
/- loop.example/g03011/laws.toJob -/
def F69 : Fun := ⟨15,
  .seq (.reg [o 1 (.box 5 (.t 0)), o 2 (.new 5 [(.int .i64 0), (.str []), .nsl, .nsl, (.str [])])])
  (.seq (.reg [o 3 (.new 5 [(.int .i64 0), (.str []), .nsl, .nsl, (.str [])])])
  (.seq (.reg [o 4 (.faddr 0 (.t 1)), o 5 (.load none (.t 4)), o 6 (.faddr 0 (.t 3)), st (.store 1 (.t 6) (.t 5))])
  (.seq (.reg [o 7 (.faddr 1 (.t 1)), o 8 (.load (some 3) (.t 7)), o 9 (.call 103 [(.t 8)]), o 10 (.faddr 1 (.t 3)), st (.store 3 (.t 10) (.t 9))])
  (.seq (.reg [o 11 (.faddr 4 (.t 1)), o 12 (.load none (.t 11)), o 13 (.faddr 4 (.t 3)), st (.store 1 (.t 13) (.t 12))])
  (.seq (.reg [o 14 (.load (some 5) (.t 3)), st (.store 5 (.t 2) (.t 14))])
  (.ret)))))),
  [.cell 2 (some 5)]⟩
/- loop.example/g03011/laws.toWorker -/
def F70 : Fun := ⟨22,
  .seq (.reg [o 1 (.box 9 (.t 0)), o 2 (.new 9 [(.int .i64 0), (.int .i64 0), (.str []), .nsl, .nsl, (.str []), (.str []), .nsl, (.int .i64 0)])])
  (.seq (.reg [o 3 (.new 9 [(.int .i64 0), (.int .i64 0), (.str []), .nsl, .nsl, (.str []), (.str []), .nsl, (.int .i64 0)])])
  (.seq (.reg [o 4 (.faddr 0 (.t 1)), o 5 (.load none (.t 4)), o 6 (.faddr 0 (.t 3)), st (.store 1 (.t 6) (.t 5))])
  (.seq (.reg [o 7 (.faddr 1 (.t 1)), o 8 (.load (some 5) (.t 7)), o 9 (.call 69 [(.t 8)]), o 10 (.faddr 1 (.t 3)), st (.store 5 (.t 10) (.t 9))])
  (.seq (.reg [o 11 (.faddr 6 (.t 1)), o 12 (.load none (.t 11)), o 13 (.faddr 6 (.t 3)), st (.store 1 (.t 13) (.t 12))])
  (.seq (.reg [o 14 (.faddr 7 (.t 1)), o 15 (.load none (.t 14)), o 16 (.call 23 [(.t 15)]), o 17 (.faddr 7 (.t 3)), st (.store 1 (.t 17) (.t 16))])
  (.seq (.reg [o 18 (.faddr 8 (.t 1)), o 19 (.load none (.t 18)), o 20 (.faddr 8 (.t 3)), st (.store 1 (.t 20) (.t 19))])
  (.seq (.reg [o 21 (.load (some 9) (.t 3)), st (.store 9 (.t 2) (.t 21))])
  (.ret)))))))),
  [.cell 2 (some 9)]⟩
/- loop.example/g03011/laws.toAnswer -/
def F71 : Fun := ⟨29,
  .seq (.reg [o 1 (.box 11 (.t 0)), o 2 (.new 11 [(.int .i64 0), (.str []), .nsl, (.str []), .nsl, .nsl, (.str []), (.int .i64 0), .nsl, (.str []), (.str [])])])
  (.seq (.reg [o 3 (.new 11 [(.int .i64 0), (.str []), .nsl, (.str []), .nsl, .nsl, (.str []), (.int .i64 0), .nsl, (.str []), (.str [])])])
  (.seq (.reg [o 4 (.faddr 0 (.t 1)), o 5 (.load none (.t 4)), o 6 (.faddr 0 (.t 3)), st (.store 1 (.t 6) (.t 5))])
  (.seq (.reg [o 7 (.faddr 1 (.t 1)), o 8 (.load none (.t 7)), o 9 (.faddr 1 (.t 3)), st (.store 1 (.t 9) (.t 8))])
  (.seq (.reg [o 10 (.faddr 2 (.t 1)), o 11 (.load none (.t 10)), o 12 (.call 23 [(.t 11)]), o 13 (.faddr 2 (.t 3)), st (.store 1 (.t 13) (.t 12))])
  (.seq (.reg [o 14 (.faddr 3 (.t 1)), o 15 (.load (some 3) (.t 14)), o 16 (.call 103 [(.t 15)]), o 17 (.faddr 3 (.t 3)), st (.store 3 (.t 17) (.t 16))])
  (.seq (.reg [o 18 (.faddr 6 (.t 1)), o 19 (.load none (.t 18)), o 20 (.faddr 6 (.t 3)), st (.store 1 (.t 20) (.t 19))])
  (.seq (.reg [o 21 (.faddr 7 (.t 1)), o 22 (.load (some 3) (.t 21)), o 23 (.call 104 [(.t 22)]), o 24 (.faddr 7 (.t 3)), st (.store 3 (.t 24) (.t 23))])
  (.seq (.reg [o 25 (.faddr 10 (.t 1)), o 26 (.load none (.t 25)), o 27 (.faddr 10 (.t 3)), st (.store 1 (.t 27) (.t 26))])
  (.seq (.reg [o 28 (.load (some 11) (.t 3)), st (.store 11 (.t 2) (.t 28))])
  (.ret)))))))))),
  [.cell 2 (some 11)]⟩
/- loop.example/g03011/impl.copyLines -/
def F72 : Fun := ⟨24,
  .seq (.reg [o 2 (.mv (.c .nsl))])
  (.seq (.reg [o 6 (.mv (.t 0)), o 7 (.call 105 [(.t 6)]), o 3 (.mv (.t 7))])
  (.seq (.seq (.reg [o 8 (.mv (.t 0)), o 9 (.lenL (.t 8)), o 10 (.mv (.c (.int .i64 0)))])
  (.block 0 (.loop (.seq (.reg [o 11 (.bin .lss (.t 10) (.t 9))])
    (.seq (.cond (.t 11) (.skip) (.exit 0))
    (.seq (.block 1 (.seq (.reg [o 12 (.mv (.t 10)), o 13 (.iaddr 4 (.t 8) (.t 10)), o 14 (.load (some 4) (.t 13)), o 5 (.new 4 [(.int .i64 0), (.int .i64 0), (.int .i64 0), .nsl]), o 4 (.mv (.t 12)), st (.store 4 (.t 5) (.t 14))])
     (.reg [o 15 (.mv (.t 3)), o 16 (.mv (.t 4)), o 17 (.faddr 3 (.t 5)), o 18 (.load none (.t 17)), o 19 (.call 106 [(.t 18)]), o 20 (.iaddr 4 (.t 15) (.t 16)), o 21 (.faddr 3 (.t 20)), st (.store 1 (.t 21) (.t 19))])))
    (.reg [o 22 (.bin .add (.t 10) (.c (.int .i64 1))), o 10 (.mv (.t 22))])))))))
  (.seq (.reg [o 23 (.mv (.t 3)), o 2 (.mv (.t 23))])
  (.ret)))),
  [.tmp 2]⟩
/- slices.Clone[[]loop.example/g03011/impl.Session,loop.example/g03011/impl.Session] -/
def F73 : Fun := ⟨8,
  .seq (.reg [o 2 (.mv (.c .nsl))])
  (.seq (.seq (.reg [o 3 (.mv (.t 0)), o 4 (.isnl false (.t 3))])
  (.cond (.t 4) (.seq (.reg [o 2 (.mv (.c .nsl))])
   (.ret)) (.skip)))
  (.seq (.reg [o 5 (.bslice 4 [(.str []), (.str []), (.int .i64 0), (.int .i64 0)] 0 []), o 6 (.mv (.t 0)), o 7 (.append 4 48 (.t 5) (.t 6)), o 2 (.mv (.t 7))])
  (.ret))),
  [.tmp 2]⟩
/- loop.example/g03011/impl.copyJob -/
def F74 : Fun := ⟨8,
  .seq (.reg [o 1 (.box 5 (.t 0)), o 2 (.new 5 [(.int .i64 0), (.str []), .nsl, .nsl, (.str [])])])
  (.seq (.reg [o 3 (.faddr 1 (.t 1)), o 4 (.load (some 3) (.t 3)), o 5 (.call 75 [(.t 4)]), o 6 (.faddr 1 (.t 1)), st (.store 3 (.t 6) (.t 5))])
  (.seq (.reg [o 7 (.load (some 5) (.t 1)), st (.store 5 (.t 2) (.t 7))])
  (.ret))),
  [.cell 2 (some 5)]⟩
/- loop.example/g03011/impl.copyRequest -/
def F75 : Fun := ⟨12,
  .seq (.reg [o 1 (.box 3 (.t 0)), o 2 (.new 3 [(.str []), .nsl, .nsl])])
  (.seq (.reg [o 3 (.faddr 0 (.t 1)), o 4 (.load none (.t 3)), o 5 (.faddr 1 (.t 1)), o 6 (.load none (.t 5)), o 8 (.faddr 2 (.t 1)), o 9 (.load none (.t 8)), o 7 (.call 107 [(.t 6)]), st (.chk none (.t 3) (.t 4)), st (.chk none (.t 8) (.t 9)), o 10 (.call 107 [(.t 9)]), st (.chk none (.t 3) (.t 4)), o 11 (.build [(.str []), .nsl, .nsl] [(0, 1, (.t 4)), (1, 1, (.t 7)), (2, 1, (.t 10))]), st (.store 3 (.t 2) (.t 11))])
  (.ret)),
  [.cell 2 (some 3)]⟩
/- slices.Clone[[]loop.example/g03011/impl.Header,loop.example/g03011/impl.Header] -/
def F76 : Fun := ⟨8,
  .seq (.reg [o 2 (.mv (.c .nsl))])
  (.seq (.seq (.reg [o 3 (.mv (.t 0)), o 4 (.isnl false (.t 3))])
  (.cond (.t 4) (.seq (.reg [o 2 (.mv (.c .nsl))])
   (.ret)) (.skip)))
  (.seq (.reg [o 5 (.bslice 2 [(.str []), (.str [])] 0 []), o 6 (.mv (.t 0)), o 7 (.append 2 32 (.t 5) (.t 6)), o 2 (.mv (.t 7))])
  (.ret))),
  [.tmp 2]⟩
/- loop.example/g03011/impl.AreLines -/
def F77 : Fun := ⟨47,
  .seq (.reg [o 2 (.mv (.c (.bool false)))])
  (.seq (.seq (.reg [o 5 (.mv (.t 0)), o 6 (.lenL (.t 5)), o 7 (.mv (.c (.int .i64 0)))])
  (.block 0 (.loop (.seq (.reg [o 8 (.bin .lss (.t 7) (.t 6))])
    (.seq (.cond (.t 8) (.skip) (.exit 0))
    (.seq (.block 1 (.seq (.reg [o 9 (.iaddr 4 (.t 5) (.t 7)), o 10 (.load (some 4) (.t 9)), o 4 (.new 4 [(.int .i64 0), (.int .i64 0), (.int .i64 0), .nsl]), st (.store 4 (.t 4) (.t 10))])
     (.seq (.reg [o 11 (.faddr 0 (.t 4)), o 12 (.load none (.t 11)), o 13 (.call 30 [(.t 12), (.c (.int .i64 0)), (.c (.int .i64 1000000000000))]), o 14 (.un .not (.t 13)), o 15 (.mv (.t 14)), og 16 (.faddr 2 (.t 4)) 15 false, og 17 (.load none (.t 16)) 15 false, og 18 (.call 30 [(.t 17), (.c (.int .i64 0)), (.c (.int .i64 1000000000000))]) 15 false, og 19 (.un .not (.t 18)) 15 false, o 20 (.pick (.t 15) (.c (.bool true)) (.t 19)), o 21 (.mv (.t 20)), og 22 (.faddr 1 (.t 4)) 21 false, og 23 (.load none (.t 22)) 21 false, og 24 (.call 30 [(.t 23), (.c (.int .i64 0)), (.c (.int .i64 8))]) 21 false, og 25 (.un .not (.t 24)) 21 false, o 26 (.pick (.t 21) (.c (.bool true)) (.t 25)), o 27 (.mv (.t 26)), og 28 (.faddr 3 (.t 4)) 27 false, og 29 (.load none (.t 28)) 27 false, og 30 (.lenL (.t 29)) 27 false, og 31 (.bin .gtr (.t 30) (.c (.int .i64 4100))) 27 false, o 32 (.pick (.t 27) (.c (.bool true)) (.t 31)), o 33 (.mv (.t 32)), og 34 (.faddr 0 (.t 4)) 33 false, og 35 (.load none (.t 34)) 33 false, og 36 (.bin .rem (.t 35) (.c (.int .i64 2))) 33 false, og 37 (.bin .eql (.t 36) (.c (.int .i64 1))) 33 false, og 38 (.faddr 1 (.t 4)) 33 false, og 39 (.load none (.t 38)) 33 false, og 40 (.bin .gtr (.t 39) (.c (.int .i64 0))) 33 false, og 41 (.binb .neq (.t 37) (.t 40)) 33 false, o 42 (.pick (.t 33) (.c (.bool true)) (.t 41))])
     (.cond (.t 42) (.seq (.reg [o 2 (.mv (.c (.bool false)))])
      (.ret)) (.skip)))))
    (.reg [o 43 (.bin .add (.t 7) (.c (.int .i64 1))), o 7 (.mv (.t 43))])))))))
  (.seq (.reg [o 44 (.mv (.t 0)), o 45 (.lenL (.t 44)), o 46 (.bin .leq (.t 45) (.c (.int .i64 8))), o 2 (.mv (.t 46))])
  (.ret))),
  [.tmp 2]⟩
/- loop.example/g03011/impl.recoverLines -/
def F78 : Fun := ⟨25,
  .seq (.reg [o 6 (.mv (.t 0)), o 7 (.lenL (.t 6)), o 8 (.mv (.c (.int .i64 0)))])
  (.block 0 (.loop (.seq (.reg [o 9 (.bin .lss (.t 8) (.t 7))])
    (.seq (.cond (.t 9) (.skip) (.exit 0))
    (.seq (.block 1 (.seq (.reg [o 10 (.mv (.t 8)), o 11 (.iaddr 4 (.t 6) (.t 8)), o 12 (.load (some 4) (.t 11)), o 5 (.new 4 [(.int .i64 0), (.int .i64 0), (.int .i64 0), .nsl]), o 4 (.mv (.t 10)), st (.store 4 (.t 5) (.t 12))])
     (.seq (.reg [o 13 (.faddr 1 (.t 5)), o 14 (.load none (.t 13)), o 15 (.mv (.t 1)), o 16 (.bin .eql (.t 14) (.t 15))])
     (.cond (.t 16) (.reg [o 17 (.mv (.t 0)), o 18 (.mv (.t 4)), o 19 (.faddr 0 (.t 5)), o 20 (.load none (.t 19)), o 21 (.bin .add (.t 20) (.c (.int .i64 1))), o 22 (.build [(.int .i64 0), (.int .i64 0), (.int .i64 0), .nsl] [(0, 1, (.t 21))]), o 23 (.iaddr 4 (.t 17) (.t 18)), st (.store 4 (.t 23) (.t 22))]) (.skip)))))
    (.reg [o 24 (.bin .add (.t 8) (.c (.int .i64 1))), o 8 (.mv (.t 24))])))))),
  []⟩
/- loop.example/g03011/laws.eqFile -/
def F79 : Fun := ⟨20,
  .seq (.reg [o 2 (.box 3 (.t 0)), o 3 (.box 3 (.t 1)), o 4 (.mv (.c (.bool false)))])
  (.seq (.seq (.reg [o 5 (.faddr 0 (.t 2)), o 6 (.load none (.t 5)), o 7 (.faddr 0 (.t 3)), o 8 (.load none (.t 7)), o 9 (.bin .neq (.t 6) (.t 8))])
  (.cond (.t 9) (.seq (.reg [o 4 (.mv (.c (.bool false)))])
   (.ret)) (.skip)))
  (.seq (.seq (.reg [o 10 (.faddr 1 (.t 2)), o 11 (.load none (.t 10)), o 12 (.faddr 1 (.t 3)), o 13 (.load none (.t 12)), o 14 (.bin .neq (.t 11) (.t 13))])
  (.cond (.t 14) (.seq (.reg [o 4 (.mv (.c (.bool false)))])
   (.ret)) (.skip)))
  (.seq (.seq (.reg [o 15 (.faddr 2 (.t 2)), o 16 (.load none (.t 15)), o 17 (.faddr 2 (.t 3)), o 18 (.load none (.t 17)), o 19 (.bin .neq (.t 16) (.t 18))])
  (.cond (.t 19) (.seq (.reg [o 4 (.mv (.c (.bool false)))])
   (.ret)) (.skip)))
  (.seq (.reg [o 4 (.mv (.c (.bool true)))])
  (.ret))))),
  [.tmp 4]⟩
/- loop.example/g03011/laws.eqLine -/
def F80 : Fun := ⟨26,
  .seq (.reg [o 2 (.box 4 (.t 0)), o 3 (.box 4 (.t 1)), o 4 (.mv (.c (.bool false)))])
  (.seq (.seq (.reg [o 5 (.faddr 0 (.t 2)), o 6 (.load none (.t 5)), o 7 (.faddr 0 (.t 3)), o 8 (.load none (.t 7)), o 9 (.bin .neq (.t 6) (.t 8))])
  (.cond (.t 9) (.seq (.reg [o 4 (.mv (.c (.bool false)))])
   (.ret)) (.skip)))
  (.seq (.seq (.reg [o 10 (.faddr 1 (.t 2)), o 11 (.load none (.t 10)), o 12 (.faddr 1 (.t 3)), o 13 (.load none (.t 12)), o 14 (.bin .neq (.t 11) (.t 13))])
  (.cond (.t 14) (.seq (.reg [o 4 (.mv (.c (.bool false)))])
   (.ret)) (.skip)))
  (.seq (.seq (.reg [o 15 (.faddr 2 (.t 2)), o 16 (.load none (.t 15)), o 17 (.faddr 2 (.t 3)), o 18 (.load none (.t 17)), o 19 (.bin .neq (.t 16) (.t 18))])
  (.cond (.t 19) (.seq (.reg [o 4 (.mv (.c (.bool false)))])
   (.ret)) (.skip)))
  (.seq (.seq (.reg [o 20 (.faddr 3 (.t 2)), o 21 (.load none (.t 20)), o 22 (.faddr 3 (.t 3)), o 23 (.load none (.t 22)), o 24 (.call 108 [(.t 21), (.t 23)]), o 25 (.un .not (.t 24))])
  (.cond (.t 25) (.seq (.reg [o 4 (.mv (.c (.bool false)))])
   (.ret)) (.skip)))
  (.seq (.reg [o 4 (.mv (.c (.bool true)))])
  (.ret)))))),
  [.tmp 4]⟩
/- loop.example/g03011/laws.eqSession -/
def F81 : Fun := ⟨25,
  .seq (.reg [o 2 (.box 4 (.t 0)), o 3 (.box 4 (.t 1)), o 4 (.mv (.c (.bool false)))])
  (.seq (.seq (.reg [o 5 (.faddr 0 (.t 2)), o 6 (.load none (.t 5)), o 7 (.faddr 0 (.t 3)), o 8 (.load none (.t 7)), o 9 (.bin .neq (.t 6) (.t 8))])
  (.cond (.t 9) (.seq (.reg [o 4 (.mv (.c (.bool false)))])
   (.ret)) (.skip)))
  (.seq (.seq (.reg [o 10 (.faddr 1 (.t 2)), o 11 (.load none (.t 10)), o 12 (.faddr 1 (.t 3)), o 13 (.load none (.t 12)), o 14 (.bin .neq (.t 11) (.t 13))])
  (.cond (.t 14) (.seq (.reg [o 4 (.mv (.c (.bool false)))])
   (.ret)) (.skip)))
  (.seq (.seq (.reg [o 15 (.faddr 2 (.t 2)), o 16 (.load none (.t 15)), o 17 (.faddr 2 (.t 3)), o 18 (.load none (.t 17)), o 19 (.bin .neq (.t 16) (.t 18))])
  (.cond (.t 19) (.seq (.reg [o 4 (.mv (.c (.bool false)))])
   (.ret)) (.skip)))
  (.seq (.seq (.reg [o 20 (.faddr 3 (.t 2)), o 21 (.load none (.t 20)), o 22 (.faddr 3 (.t 3)), o 23 (.load none (.t 22)), o 24 (.bin .neq (.t 21) (.t 23))])
  (.cond (.t 24) (.seq (.reg [o 4 (.mv (.c (.bool false)))])
   (.ret)) (.skip)))
  (.seq (.reg [o 4 (.mv (.c (.bool true)))])
  (.ret)))))),
  [.tmp 4]⟩
/- loop.example/g03011/laws.eqJob -/
def F82 : Fun := ⟨21,
  .seq (.reg [o 2 (.box 5 (.t 0)), o 3 (.box 5 (.t 1)), o 4 (.mv (.c (.bool false)))])
  (.seq (.seq (.reg [o 5 (.faddr 0 (.t 2)), o 6 (.load none (.t 5)), o 7 (.faddr 0 (.t 3)), o 8 (.load none (.t 7)), o 9 (.bin .neq (.t 6) (.t 8))])
  (.cond (.t 9) (.seq (.reg [o 4 (.mv (.c (.bool false)))])
   (.ret)) (.skip)))
  (.seq (.seq (.reg [o 10 (.faddr 1 (.t 2)), o 11 (.load (some 3) (.t 10)), o 12 (.faddr 1 (.t 3)), o 13 (.load (some 3) (.t 12)), o 14 (.call 109 [(.t 11), (.t 13)]), o 15 (.un .not (.t 14))])
  (.cond (.t 15) (.seq (.reg [o 4 (.mv (.c (.bool false)))])
   (.ret)) (.skip)))
  (.seq (.seq (.reg [o 16 (.faddr 4 (.t 2)), o 17 (.load none (.t 16)), o 18 (.faddr 4 (.t 3)), o 19 (.load none (.t 18)), o 20 (.bin .neq (.t 17) (.t 19))])
  (.cond (.t 20) (.seq (.reg [o 4 (.mv (.c (.bool false)))])
   (.ret)) (.skip)))
  (.seq (.reg [o 4 (.mv (.c (.bool true)))])
  (.ret))))),
  [.tmp 4]⟩
/- loop.example/g03011/laws.eqWorker -/
def F83 : Fun := ⟨32,
  .seq (.reg [o 2 (.box 9 (.t 0)), o 3 (.box 9 (.t 1)), o 4 (.mv (.c (.bool false)))])
  (.seq (.seq (.reg [o 5 (.faddr 0 (.t 2)), o 6 (.load none (.t 5)), o 7 (.faddr 0 (.t 3)), o 8 (.load none (.t 7)), o 9 (.bin .neq (.t 6) (.t 8))])
  (.cond (.t 9) (.seq (.reg [o 4 (.mv (.c (.bool false)))])
   (.ret)) (.skip)))
  (.seq (.seq (.reg [o 10 (.faddr 1 (.t 2)), o 11 (.load (some 5) (.t 10)), o 12 (.faddr 1 (.t 3)), o 13 (.load (some 5) (.t 12)), o 14 (.call 82 [(.t 11), (.t 13)]), o 15 (.un .not (.t 14))])
  (.cond (.t 15) (.seq (.reg [o 4 (.mv (.c (.bool false)))])
   (.ret)) (.skip)))
  (.seq (.seq (.reg [o 16 (.faddr 6 (.t 2)), o 17 (.load none (.t 16)), o 18 (.faddr 6 (.t 3)), o 19 (.load none (.t 18)), o 20 (.bin .neq (.t 17) (.t 19))])
  (.cond (.t 20) (.seq (.reg [o 4 (.mv (.c (.bool false)))])
   (.ret)) (.skip)))
  (.seq (.seq (.reg [o 21 (.faddr 7 (.t 2)), o 22 (.load none (.t 21)), o 23 (.faddr 7 (.t 3)), o 24 (.load none (.t 23)), o 25 (.call 32 [(.t 22), (.t 24)]), o 26 (.un .not (.t 25))])
  (.cond (.t 26) (.seq (.reg [o 4 (.mv (.c (.bool false)))])
   (.ret)) (.skip)))
  (.seq (.seq (.reg [o 27 (.faddr 8 (.t 2)), o 28 (.load none (.t 27)), o 29 (.faddr 8 (.t 3)), o 30 (.load none (.t 29)), o 31 (.bin .neq (.t 28) (.t 30))])
  (.cond (.t 31) (.seq (.reg [o 4 (.mv (.c (.bool false)))])
   (.ret)) (.skip)))
  (.seq (.reg [o 4 (.mv (.c (.bool true)))])
  (.ret))))))),
  [.tmp 4]⟩
/- loop.example/g03011/laws.eqAnswer -/
def F84 : Fun := ⟨43,
  .seq (.reg [o 2 (.box 11 (.t 0)), o 3 (.box 11 (.t 1)), o 4 (.mv (.c (.bool false)))])
  (.seq (.seq (.reg [o 5 (.faddr 0 (.t 2)), o 6 (.load none (.t 5)), o 7 (.faddr 0 (.t 3)), o 8 (.load none (.t 7)), o 9 (.bin .neq (.t 6) (.t 8))])
  (.cond (.t 9) (.seq (.reg [o 4 (.mv (.c (.bool false)))])
   (.ret)) (.skip)))
  (.seq (.seq (.reg [o 10 (.faddr 1 (.t 2)), o 11 (.load none (.t 10)), o 12 (.faddr 1 (.t 3)), o 13 (.load none (.t 12)), o 14 (.bin .neq (.t 11) (.t 13))])
  (.cond (.t 14) (.seq (.reg [o 4 (.mv (.c (.bool false)))])
   (.ret)) (.skip)))
  (.seq (.seq (.reg [o 15 (.faddr 2 (.t 2)), o 16 (.load none (.t 15)), o 17 (.faddr 2 (.t 3)), o 18 (.load none (.t 17)), o 19 (.call 32 [(.t 16), (.t 18)]), o 20 (.un .not (.t 19))])
  (.cond (.t 20) (.seq (.reg [o 4 (.mv (.c (.bool false)))])
   (.ret)) (.skip)))
  (.seq (.seq (.reg [o 21 (.faddr 3 (.t 2)), o 22 (.load (some 3) (.t 21)), o 23 (.faddr 3 (.t 3)), o 24 (.load (some 3) (.t 23)), o 25 (.call 109 [(.t 22), (.t 24)]), o 26 (.un .not (.t 25))])
  (.cond (.t 26) (.seq (.reg [o 4 (.mv (.c (.bool false)))])
   (.ret)) (.skip)))
  (.seq (.seq (.reg [o 27 (.faddr 6 (.t 2)), o 28 (.load none (.t 27)), o 29 (.faddr 6 (.t 3)), o 30 (.load none (.t 29)), o 31 (.bin .neq (.t 28) (.t 30))])
  (.cond (.t 31) (.seq (.reg [o 4 (.mv (.c (.bool false)))])
   (.ret)) (.skip)))
  (.seq (.seq (.reg [o 32 (.faddr 7 (.t 2)), o 33 (.load (some 3) (.t 32)), o 34 (.faddr 7 (.t 3)), o 35 (.load (some 3) (.t 34)), o 36 (.call 110 [(.t 33), (.t 35)]), o 37 (.un .not (.t 36))])
  (.cond (.t 37) (.seq (.reg [o 4 (.mv (.c (.bool false)))])
   (.ret)) (.skip)))
  (.seq (.seq (.reg [o 38 (.faddr 10 (.t 2)), o 39 (.load none (.t 38)), o 40 (.faddr 10 (.t 3)), o 41 (.load none (.t 40)), o 42 (.bin .neq (.t 39) (.t 41))])
  (.cond (.t 42) (.seq (.reg [o 4 (.mv (.c (.bool false)))])
   (.ret)) (.skip)))
  (.seq (.reg [o 4 (.mv (.c (.bool true)))])
  (.ret))))))))),
  [.tmp 4]⟩
/- loop.example/g03011/laws.markText -/
def F85 : Fun := ⟨20,
  .seq (.reg [o 2 (.mv (.c (.str [])))])
  (.seq (.seq (.reg [o 4 (.mv (.t 0)), o 5 (.bin .leq (.t 4) (.c (.int .i64 0)))])
  (.cond (.t 5) (.seq (.reg [o 2 (.mv (.c (.str [109, 48])))])
   (.ret)) (.skip)))
  (.seq (.reg [o 3 (.mv (.c (.str [])))])
  (.seq (.block 0 (.loop (.seq (.seq (.reg [o 6 (.mv (.t 0)), o 7 (.bin .gtr (.t 6) (.c (.int .i64 0)))])
    (.cond (.t 7) (.skip) (.exit 0)))
    (.block 1 (.seq (.reg [o 8 (.mv (.t 0)), o 9 (.bin .rem (.t 8) (.c (.int .i64 10))), o 10 (.bin .add (.c (.int .i64 48)) (.t 9)), o 11 (.toInt .u8 (.t 10)), o 12 (.bslice 1 [(.int .u8 0)] 1 [(0, (.t 11))]), o 13 (.toStr (.t 12)), o 14 (.mv (.t 3)), o 15 (.bin .add (.t 13) (.t 14)), o 3 (.mv (.t 15))])
     (.reg [o 16 (.mv (.t 0)), o 17 (.bin .quo (.t 16) (.c (.int .i64 10))), o 0 (.mv (.t 17))]))))))
  (.seq (.reg [o 18 (.mv (.t 3)), o 19 (.bin .add (.c (.str [109])) (.t 18)), o 2 (.mv (.t 19))])
  (.ret))))),
  [.tmp 2]⟩
/- loop.example/g03011/laws.markIntS -/
def F86 : Fun := ⟨19,
  .seq (.reg [o 4 (.mv (.c (.int .i64 0)))])
  (.seq (.seq (.reg [o 5 (.mv (.c (.int .i64 0)))])
  (.block 0 (.loop (.seq (.seq (.reg [o 6 (.mv (.t 5)), o 7 (.mv (.t 0)), o 8 (.lenL (.t 7)), o 9 (.bin .lss (.t 6) (.t 8))])
    (.cond (.t 9) (.skip) (.exit 0)))
    (.seq (.block 1 (.seq (.reg [o 12 (.mv (.t 0)), o 13 (.mv (.t 5)), o 14 (.mv (.t 1)), o 15 (.iaddr 1 (.t 12) (.t 13)), st (.store 1 (.t 15) (.t 14))])
     (.reg [o 16 (.mv (.t 1)), o 17 (.bin .add (.t 16) (.c (.int .i64 1))), o 1 (.mv (.t 17))])))
    (.reg [o 10 (.mv (.t 5)), o 11 (.bin .add (.t 10) (.c (.int .i64 1))), o 5 (.mv (.t 11))]))))))
  (.seq (.reg [o 18 (.mv (.t 1)), o 4 (.mv (.t 18))])
  (.ret))),
  [.tmp 4]⟩
/- loop.example/g03011/laws.markPairS -/
def F87 : Fun := ⟨29,
  .seq (.reg [o 4 (.mv (.c (.int .i64 0)))])
  (.seq (.seq (.reg [o 5 (.mv (.c (.int .i64 0)))])
  (.block 0 (.loop (.seq (.seq (.reg [o 6 (.mv (.t 5)), o 7 (.mv (.t 0)), o 8 (.lenL (.t 7)), o 9 (.bin .lss (.t 6) (.t 8))])
    (.cond (.t 9) (.skip) (.exit 0)))
    (.seq (.block 1 (.seq (.reg [o 12 (.mv (.t 0)), o 13 (.mv (.t 5)), o 14 (.mv (.t 1)), o 15 (.call 85 [(.t 14)]), o 16 (.iaddr 2 (.t 12) (.t 13)), o 17 (.faddr 0 (.t 16)), st (.store 1 (.t 17) (.t 15))])
     (.seq (.reg [o 18 (.mv (.t 1)), o 19 (.bin .add (.t 18) (.c (.int .i64 1))), o 1 (.mv (.t 19))])
     (.seq (.reg [o 20 (.mv (.t 0)), o 21 (.mv (.t 5)), o 22 (.mv (.t 1)), o 23 (.call 85 [(.t 22)]), o 24 (.iaddr 2 (.t 20) (.t 21)), o 25 (.faddr 1 (.t 24)), st (.store 1 (.t 25) (.t 23))])
     (.reg [o 26 (.mv (.t 1)), o 27 (.bin .add (.t 26) (.c (.int .i64 1))), o 1 (.mv (.t 27))])))))
    (.reg [o 10 (.mv (.t 5)), o 11 (.bin .add (.t 10) (.c (.int .i64 1))), o 5 (.mv (.t 11))]))))))
  (.seq (.reg [o 28 (.mv (.t 1)), o 4 (.mv (.t 28))])
  (.ret))),
  [.tmp 4]⟩
/- loop.example/g03011/laws.markHeaderS -/
def F88 : Fun := ⟨29,
  .seq (.reg [o 4 (.mv (.c (.int .i64 0)))])
  (.seq (.seq (.reg [o 5 (.mv (.c (.int .i64 0)))])
  (.block 0 (.loop (.seq (.seq (.reg [o 6 (.mv (.t 5)), o 7 (.mv (.t 0)), o 8 (.lenL (.t 7)), o 9 (.bin .lss (.t 6) (.t 8))])
    (.cond (.t 9) (.skip) (.exit 0)))
    (.seq (.block 1 (.seq (.reg [o 12 (.mv (.t 0)), o 13 (.mv (.t 5)), o 14 (.mv (.t 1)), o 15 (.call 85 [(.t 14)]), o 16 (.iaddr 2 (.t 12) (.t 13)), o 17 (.faddr 0 (.t 16)), st (.store 1 (.t 17) (.t 15))])
     (.seq (.reg [o 18 (.mv (.t 1)), o 19 (.bin .add (.t 18) (.c (.int .i64 1))), o 1 (.mv (.t 19))])
     (.seq (.reg [o 20 (.mv (.t 0)), o 21 (.mv (.t 5)), o 22 (.mv (.t 1)), o 23 (.call 85 [(.t 22)]), o 24 (.iaddr 2 (.t 20) (.t 21)), o 25 (.faddr 1 (.t 24)), st (.store 1 (.t 25) (.t 23))])
     (.reg [o 26 (.mv (.t 1)), o 27 (.bin .add (.t 26) (.c (.int .i64 1))), o 1 (.mv (.t 27))])))))
    (.reg [o 10 (.mv (.t 5)), o 11 (.bin .add (.t 10) (.c (.int .i64 1))), o 5 (.mv (.t 11))]))))))
  (.seq (.reg [o 28 (.mv (.t 1)), o 4 (.mv (.t 28))])
  (.ret))),
  [.tmp 4]⟩
/- loop.example/g03011/laws.heldIntS -/
def F89 : Fun := ⟨21,
  .seq (.reg [o 4 (.mv (.c (.int .i64 0)))])
  (.seq (.seq (.reg [o 5 (.mv (.c (.int .i64 0)))])
  (.block 0 (.loop (.seq (.seq (.reg [o 6 (.mv (.t 5)), o 7 (.mv (.t 0)), o 8 (.lenL (.t 7)), o 9 (.bin .lss (.t 6) (.t 8))])
    (.cond (.t 9) (.skip) (.exit 0)))
    (.seq (.block 1 (.seq (.seq (.reg [o 12 (.mv (.t 0)), o 13 (.mv (.t 5)), o 14 (.iaddr 1 (.t 12) (.t 13)), o 15 (.load none (.t 14)), o 16 (.mv (.t 1)), o 17 (.bin .neq (.t 15) (.t 16))])
     (.cond (.t 17) (.seq (.reg [o 4 (.mv (.c (.int .i64 (-1))))])
      (.ret)) (.skip)))
     (.reg [o 18 (.mv (.t 1)), o 19 (.bin .add (.t 18) (.c (.int .i64 1))), o 1 (.mv (.t 19))])))
    (.reg [o 10 (.mv (.t 5)), o 11 (.bin .add (.t 10) (.c (.int .i64 1))), o 5 (.mv (.t 11))]))))))
  (.seq (.reg [o 20 (.mv (.t 1)), o 4 (.mv (.t 20))])
  (.ret))),
  [.tmp 4]⟩
/- loop.example/g03011/laws.heldPairS -/
def F90 : Fun := ⟨33,
  .seq (.reg [o 4 (.mv (.c (.int .i64 0)))])
  (.seq (.seq (.reg [o 5 (.mv (.c (.int .i64 0)))])
  (.block 0 (.loop (.seq (.seq (.reg [o 6 (.mv (.t 5)), o 7 (.mv (.t 0)), o 8 (.lenL (.t 7)), o 9 (.bin .lss (.t 6) (.t 8))])
    (.cond (.t 9) (.skip) (.exit 0)))
    (.seq (.block 1 (.seq (.seq (.reg [o 12 (.mv (.t 0)), o 13 (.mv (.t 5)), o 14 (.iaddr 2 (.t 12) (.t 13)), o 15 (.faddr 0 (.t 14)), o 16 (.load none (.t 15)), o 17 (.mv (.t 1)), o 18 (.callF 85 [(.t 17)]), o 19 (.bin .neq (.t 16) (.t 18))])
     (.cond (.t 19) (.seq (.reg [o 4 (.mv (.c (.int .i64 (-1))))])
      (.ret)) (.skip)))
     (.seq (.reg [o 20 (.mv (.t 1)), o 21 (.bin .add (.t 20) (.c (.int .i64 1))), o 1 (.mv (.t 21))])
     (.seq (.seq (.reg [o 22 (.mv (.t 0)), o 23 (.mv (.t 5)), o 24 (.iaddr 2 (.t 22) (.t 23)), o 25 (.faddr 1 (.t 24)), o 26 (.load none (.t 25)), o 27 (.mv (.t 1)), o 28 (.callF 85 [(.t 27)]), o 29 (.bin .neq (.t 26) (.t 28))])
     (.cond (.t 29) (.seq (.reg [o 4 (.mv (.c (.int .i64 (-1))))])
      (.ret)) (.skip)))
     (.reg [o 30 (.mv (.t 1)), o 31 (.bin .add (.t 30) (.c (.int .i64 1))), o 1 (.mv (.t 31))])))))
    (.reg [o 10 (.mv (.t 5)), o 11 (.bin .add (.t 10) (.c (.int .i64 1))), o 5 (.mv (.t 11))]))))))
  (.seq (.reg [o 32 (.mv (.t 1)), o 4 (.mv (.t 32))])
  (.ret))),
  [.tmp 4]⟩
/- loop.example/g03011/laws.heldHeaderS -/
def F91 : Fun := ⟨33,
  .seq (.reg [o 4 (.mv (.c (.int .i64 0)))])
  (.seq (.seq (.reg [o 5 (.mv (.c (.int .i64 0)))])
  (.block 0 (.loop (.seq (.seq (.reg [o 6 (.mv (.t 5)), o 7 (.mv (.t 0)), o 8 (.lenL (.t 7)), o 9 (.bin .lss (.t 6) (.t 8))])
    (.cond (.t 9) (.skip) (.exit 0)))
    (.seq (.block 1 (.seq (.seq (.reg [o 12 (.mv (.t 0)), o 13 (.mv (.t 5)), o 14 (.iaddr 2 (.t 12) (.t 13)), o 15 (.faddr 0 (.t 14)), o 16 (.load none (.t 15)), o 17 (.mv (.t 1)), o 18 (.callF 85 [(.t 17)]), o 19 (.bin .neq (.t 16) (.t 18))])
     (.cond (.t 19) (.seq (.reg [o 4 (.mv (.c (.int .i64 (-1))))])
      (.ret)) (.skip)))
     (.seq (.reg [o 20 (.mv (.t 1)), o 21 (.bin .add (.t 20) (.c (.int .i64 1))), o 1 (.mv (.t 21))])
     (.seq (.seq (.reg [o 22 (.mv (.t 0)), o 23 (.mv (.t 5)), o 24 (.iaddr 2 (.t 22) (.t 23)), o 25 (.faddr 1 (.t 24)), o 26 (.load none (.t 25)), o 27 (.mv (.t 1)), o 28 (.callF 85 [(.t 27)]), o 29 (.bin .neq (.t 26) (.t 28))])
     (.cond (.t 29) (.seq (.reg [o 4 (.mv (.c (.int .i64 (-1))))])
      (.ret)) (.skip)))
     (.reg [o 30 (.mv (.t 1)), o 31 (.bin .add (.t 30) (.c (.int .i64 1))), o 1 (.mv (.t 31))])))))
    (.reg [o 10 (.mv (.t 5)), o 11 (.bin .add (.t 10) (.c (.int .i64 1))), o 5 (.mv (.t 11))]))))))
  (.seq (.reg [o 32 (.mv (.t 1)), o 4 (.mv (.t 32))])
  (.ret))),
  [.tmp 4]⟩
/- loop.example/g03011/spec.FindSession -/
def F92 : Fun := ⟨20,
  .seq (.reg [o 4 (.mv (.c (.int .i64 0)))])
  (.seq (.seq (.reg [o 5 (.mv (.c (.int .i64 0)))])
  (.block 0 (.loop (.seq (.seq (.reg [o 6 (.mv (.t 5)), o 7 (.mv (.t 0)), o 8 (.lenL (.t 7)), o 9 (.bin .lss (.t 6) (.t 8))])
    (.cond (.t 9) (.skip) (.exit 0)))
    (.seq (.block 1 (.seq (.reg [o 12 (.mv (.t 0)), o 13 (.mv (.t 5)), o 14 (.iaddr 4 (.t 12) (.t 13)), o 15 (.faddr 0 (.t 14)), o 16 (.load none (.t 15)), o 17 (.mv (.t 1)), o 18 (.bin .eql (.t 16) (.t 17))])
     (.cond (.t 18) (.seq (.reg [o 19 (.mv (.t 5)), o 4 (.mv (.t 19))])
      (.ret)) (.skip))))
    (.reg [o 10 (.mv (.t 5)), o 11 (.bin .add (.t 10) (.c (.int .i64 1))), o 5 (.mv (.t 11))]))))))
  (.seq (.reg [o 4 (.mv (.c (.int .i64 (-1))))])
  (.ret))),
  [.tmp 4]⟩
/- loop.example/g03011/spec.IsName -/
def F93 : Fun := ⟨18,
  .seq (.reg [o 2 (.mv (.c (.bool false)))])
  (.seq (.reg [o 3 (.mv (.t 0)), o 4 (.lenS (.t 3)), o 5 (.bin .geq (.t 4) (.c (.int .i64 1))), o 6 (.mv (.t 5)), og 7 (.mv (.t 0)) 6 true, og 8 (.lenS (.t 7)) 6 true, og 9 (.bin .leq (.t 8) (.c (.int .i64 20))) 6 true, o 10 (.pick (.t 6) (.t 9) (.c (.bool false))), o 11 (.mv (.t 10)), og 12 (.mv (.t 0)) 11 true, og 13 (.call 111 [(.t 12), (.c (.int .i64 0))]) 11 true, og 14 (.mv (.t 0)) 11 true, og 15 (.lenS (.t 14)) 11 true, og 16 (.bin .eql (.t 13) (.t 15)) 11 true, o 17 (.pick (.t 11) (.t 16) (.c (.bool false))), o 2 (.mv (.t 17))])
  (.ret)),
  [.tmp 2]⟩
/- loop.example/g03011/spec.AreSessions -/
def F94 : Fun := ⟨48,
  .seq (.reg [o 2 (.mv (.c (.bool false)))])
  (.seq (.seq (.reg [o 3 (.mv (.c (.int .i64 0)))])
  (.block 0 (.loop (.seq (.seq (.reg [o 5 (.mv (.t 3)), o 6 (.mv (.t 0)), o 7 (.lenL (.t 6)), o 8 (.bin .lss (.t 5) (.t 7))])
    (.cond (.t 8) (.skip) (.exit 0)))
    (.seq (.block 1 (.seq (.reg [o 11 (.mv (.t 0)), o 12 (.mv (.t 3)), o 13 (.iaddr 4 (.t 11) (.t 12)), o 14 (.load (some 4) (.t 13)), o 4 (.new 4 [(.str []), (.str []), (.int .i64 0), (.int .i64 0)]), st (.store 4 (.t 4) (.t 14))])
     (.seq (.reg [o 15 (.faddr 0 (.t 4)), o 16 (.load none (.t 15)), o 17 (.call 93 [(.t 16)]), o 18 (.un .not (.t 17)), o 19 (.mv (.t 18)), og 20 (.mv (.t 0)) 19 false, og 21 (.faddr 0 (.t 4)) 19 false, og 22 (.load none (.t 21)) 19 false, og 23 (.call 92 [(.t 20), (.t 22)]) 19 false, og 24 (.mv (.t 3)) 19 false, og 25 (.bin .neq (.t 23) (.t 24)) 19 false, o 26 (.pick (.t 19) (.c (.bool true)) (.t 25)), o 27 (.mv (.t 26)), og 28 (.faddr 1 (.t 4)) 27 false, og 29 (.load none (.t 28)) 27 false, og 30 (.lenS (.t 29)) 27 false, og 31 (.bin .gtr (.t 30) (.c (.int .i64 2000))) 27 false, o 32 (.pick (.t 27) (.c (.bool true)) (.t 31)), o 33 (.mv (.t 32)), og 34 (.faddr 2 (.t 4)) 33 false, og 35 (.load none (.t 34)) 33 false, og 36 (.call 21 [(.t 35), (.c (.int .i64 0)), (.c (.int .i64 1000000000000))]) 33 false, og 37 (.un .not (.t 36)) 33 false, o 38 (.pick (.t 33) (.c (.bool true)) (.t 37)), o 39 (.mv (.t 38)), og 40 (.faddr 3 (.t 4)) 39 false, og 41 (.load none (.t 40)) 39 false, og 42 (.call 21 [(.t 41), (.c (.int .i64 0)), (.c (.int .i64 1000000000000))]) 39 false, og 43 (.un .not (.t 42)) 39 false, o 44 (.pick (.t 39) (.c (.bool true)) (.t 43))])
     (.cond (.t 44) (.seq (.reg [o 2 (.mv (.c (.bool false)))])
      (.ret)) (.skip)))))
    (.reg [o 9 (.mv (.t 3)), o 10 (.bin .add (.t 9) (.c (.int .i64 1))), o 3 (.mv (.t 10))]))))))
  (.seq (.reg [o 45 (.mv (.t 0)), o 46 (.lenL (.t 45)), o 47 (.bin .leq (.t 46) (.c (.int .i64 8))), o 2 (.mv (.t 47))])
  (.ret))),
  [.tmp 2]⟩
/- loop.example/g03011/impl.IsName -/
def F95 : Fun := ⟨17,
  .seq (.reg [o 2 (.mv (.c (.bool false)))])
  (.seq (.reg [o 3 (.mv (.t 0)), o 4 (.lenS (.t 3)), o 5 (.bin .leq (.t 4) (.c (.int .i64 20))), o 6 (.mv (.t 5)), og 7 (.mv (.t 0)) 6 true, og 8 (.call 112 [(.t 7)]) 6 true, og 9 (.mv (.t 0)) 6 true, og 10 (.lenS (.t 9)) 6 true, og 11 (.bin .eql (.t 8) (.t 10)) 6 true, o 12 (.pick (.t 6) (.t 11) (.c (.bool false))), o 13 (.mv (.t 12)), og 14 (.mv (.t 0)) 13 true, og 15 (.bin .neq (.t 14) (.c (.str []))) 13 true, o 16 (.pick (.t 13) (.t 15) (.c (.bool false))), o 2 (.mv (.t 16))])
  (.ret)),
  [.tmp 2]⟩
/- loop.example/g03011/impl.AreSessions -/
def F96 : Fun := ⟨48,
  .seq (.reg [o 2 (.mv (.c (.bool false)))])
  (.seq (.reg [o 6 (.mkmap), o 3 (.mv (.t 6))])
  (.seq (.seq (.reg [o 7 (.mv (.t 0)), o 8 (.lenL (.t 7)), o 9 (.mv (.c (.int .i64 0)))])
  (.block 0 (.loop (.seq (.reg [o 10 (.bin .lss (.t 9) (.t 8))])
    (.seq (.cond (.t 10) (.skip) (.exit 0))
    (.seq (.block 1 (.seq (.reg [o 11 (.iaddr 4 (.t 7) (.t 9)), o 12 (.load (some 4) (.t 11)), o 5 (.new 4 [(.str []), (.str []), (.int .i64 0), (.int .i64 0)]), st (.store 4 (.t 5) (.t 12))])
     (.seq (.seq (.reg [o 13 (.mv (.t 3)), o 14 (.faddr 0 (.t 5)), o 15 (.load none (.t 14)), o 16 (.lookup 1 (.bool false) false (.t 13) (.t 15)), o 17 (.mv (.t 16)), og 18 (.faddr 0 (.t 5)) 17 false, og 19 (.load none (.t 18)) 17 false, og 20 (.call 95 [(.t 19)]) 17 false, og 21 (.un .not (.t 20)) 17 false, o 22 (.pick (.t 17) (.c (.bool true)) (.t 21)), o 23 (.mv (.t 22)), og 24 (.faddr 1 (.t 5)) 23 false, og 25 (.load none (.t 24)) 23 false, og 26 (.lenS (.t 25)) 23 false, og 27 (.bin .gtr (.t 26) (.c (.int .i64 2000))) 23 false, o 28 (.pick (.t 23) (.c (.bool true)) (.t 27)), o 29 (.mv (.t 28)), og 30 (.faddr 2 (.t 5)) 29 false, og 31 (.load none (.t 30)) 29 false, og 32 (.call 30 [(.t 31), (.c (.int .i64 0)), (.c (.int .i64 1000000000000))]) 29 false, og 33 (.un .not (.t 32)) 29 false, o 34 (.pick (.t 29) (.c (.bool true)) (.t 33)), o 35 (.mv (.t 34)), og 36 (.faddr 3 (.t 5)) 35 false, og 37 (.load none (.t 36)) 35 false, og 38 (.call 30 [(.t 37), (.c (.int .i64 0)), (.c (.int .i64 1000000000000))]) 35 false, og 39 (.un .not (.t 38)) 35 false, o 40 (.pick (.t 35) (.c (.bool true)) (.t 39))])
     (.cond (.t 40) (.seq (.reg [o 2 (.mv (.c (.bool false)))])
      (.ret)) (.skip)))
     (.reg [o 41 (.mv (.t 3)), o 42 (.faddr 0 (.t 5)), o 43 (.load none (.t 42)), st (.mupd 1 (.t 41) (.t 43) (.c (.bool true)))]))))
    (.reg [o 44 (.bin .add (.t 9) (.c (.int .i64 1))), o 9 (.mv (.t 44))])))))))
  (.seq (.reg [o 45 (.mv (.t 0)), o 46 (.lenL (.t 45)), o 47 (.bin .leq (.t 46) (.c (.int .i64 8))), o 2 (.mv (.t 47))])
  (.ret)))),
  [.tmp 2]⟩
/- loop.example/g03011/impl.FindSession -/
def F97 : Fun := ⟨8,
  .seq (.reg [o 3 (.box 1 (.t 1)), o 4 (.mv (.c (.int .i64 0)))])
  (.seq (.reg [o 5 (.mv (.t 0)), o 6 (.mkfn 114 [(.t 3)]), o 7 (.call 113 [(.t 5), (.t 6)]), o 4 (.mv (.t 7))])
  (.ret)),
  [.tmp 4]⟩
/- loop.example/g03011/laws.szIntS -/
def F98 : Fun := ⟨12,
  .seq (.reg [o 4 (.mv (.c (.int .i64 0)))])
  (.seq (.reg [o 5 (.mv (.t 1)), o 6 (.mv (.t 0)), o 7 (.lenL (.t 6)), o 8 (.bin .sub (.t 5) (.t 7)), o 1 (.mv (.t 8))])
  (.seq (.seq (.reg [o 9 (.mv (.t 1)), o 10 (.bin .lss (.t 9) (.c (.int .i64 0)))])
  (.cond (.t 10) (.seq (.reg [o 4 (.mv (.c (.int .i64 (-1))))])
   (.ret)) (.skip)))
  (.seq (.reg [o 11 (.mv (.t 1)), o 4 (.mv (.t 11))])
  (.ret)))),
  [.tmp 4]⟩
/- loop.example/g03011/laws.szRequest -/
def F99 : Fun := ⟨25,
  .seq (.reg [o 2 (.box 3 (.t 0)), o 4 (.mv (.c (.int .i64 0)))])
  (.seq (.reg [o 5 (.mv (.t 1)), o 6 (.faddr 0 (.t 2)), o 7 (.load none (.t 6)), o 8 (.lenS (.t 7)), o 9 (.bin .sub (.t 5) (.t 8)), o 1 (.mv (.t 9))])
  (.seq (.seq (.reg [o 10 (.mv (.t 1)), o 11 (.bin .lss (.t 10) (.c (.int .i64 0)))])
  (.cond (.t 11) (.seq (.reg [o 4 (.mv (.c (.int .i64 (-1))))])
   (.ret)) (.skip)))
  (.seq (.reg [o 12 (.faddr 1 (.t 2)), o 13 (.load none (.t 12)), o 14 (.mv (.t 1)), o 15 (.call 115 [(.t 13), (.t 14)]), o 1 (.mv (.t 15))])
  (.seq (.seq (.reg [o 16 (.mv (.t 1)), o 17 (.bin .lss (.t 16) (.c (.int .i64 0)))])
  (.cond (.t 17) (.seq (.reg [o 4 (.mv (.c (.int .i64 (-1))))])
   (.ret)) (.skip)))
  (.seq (.reg [o 18 (.faddr 2 (.t 2)), o 19 (.load none (.t 18)), o 20 (.mv (.t 1)), o 21 (.call 115 [(.t 19), (.t 20)]), o 1 (.mv (.t 21))])
  (.seq (.seq (.reg [o 22 (.mv (.t 1)), o 23 (.bin .lss (.t 22) (.c (.int .i64 0)))])
  (.cond (.t 23) (.seq (.reg [o 4 (.mv (.c (.int .i64 (-1))))])
   (.ret)) (.skip)))
  (.seq (.reg [o 24 (.mv (.t 1)), o 4 (.mv (.t 24))])
  (.ret)))))))),
  [.tmp 4]⟩
/- loop.example/g03011/laws.szResponse -/
def F100 : Fun := ⟨19,
  .seq (.reg [o 2 (.box 3 (.t 0)), o 4 (.mv (.c (.int .i64 0)))])
  (.seq (.reg [o 5 (.faddr 1 (.t 2)), o 6 (.load none (.t 5)), o 7 (.mv (.t 1)), o 8 (.call 116 [(.t 6), (.t 7)]), o 1 (.mv (.t 8))])
  (.seq (.seq (.reg [o 9 (.mv (.t 1)), o 10 (.bin .lss (.t 9) (.c (.int .i64 0)))])
  (.cond (.t 10) (.seq (.reg [o 4 (.mv (.c (.int .i64 (-1))))])
   (.ret)) (.skip)))
  (.seq (.reg [o 11 (.mv (.t 1)), o 12 (.faddr 2 (.t 2)), o 13 (.load none (.t 12)), o 14 (.lenS (.t 13)), o 15 (.bin .sub (.t 11) (.t 14)), o 1 (.mv (.t 15))])
  (.seq (.seq (.reg [o 16 (.mv (.t 1)), o 17 (.bin .lss (.t 16) (.c (.int .i64 0)))])
  (.cond (.t 17) (.seq (.reg [o 4 (.mv (.c (.int .i64 (-1))))])
   (.ret)) (.skip)))
  (.seq (.reg [o 18 (.mv (.t 1)), o 4 (.mv (.t 18))])
  (.ret)))))),
  [.tmp 4]⟩
/- loop.example/g03011/spec.l39Request -/
def F101 : Fun := ⟨14,
  .seq (.reg [o 1 (.box 3 (.t 0)), o 2 (.new 3 [(.str []), .nsl, .nsl])])
  (.seq (.reg [o 3 (.bslice 2 [(.str []), (.str [])] 0 []), o 4 (.faddr 1 (.t 1)), o 5 (.load none (.t 4)), o 6 (.append 2 32 (.t 3) (.t 5)), o 7 (.faddr 1 (.t 1)), st (.store 1 (.t 7) (.t 6))])
  (.seq (.reg [o 8 (.bslice 2 [(.str []), (.str [])] 0 []), o 9 (.faddr 2 (.t 1)), o 10 (.load none (.t 9)), o 11 (.append 2 32 (.t 8) (.t 10)), o 12 (.faddr 2 (.t 1)), st (.store 1 (.t 12) (.t 11))])
  (.seq (.reg [o 13 (.load (some 3) (.t 1)), st (.store 3 (.t 2) (.t 13))])
  (.ret)))),
  [.cell 2 (some 3)]⟩
/- loop.example/g03011/laws.toIntS -/
def F102 : Fun := ⟨22,
  .seq (.reg [o 2 (.mv (.c .nsl))])
  (.seq (.reg [o 5 (.mv (.t 0)), o 6 (.lenL (.t 5)), o 7 (.mkslice 1 [(.int .i64 0)] 8 (.t 6) (.t 6)), o 3 (.mv (.t 7))])
  (.seq (.seq (.reg [o 4 (.mv (.c (.int .i64 0)))])
  (.block 0 (.loop (.seq (.seq (.reg [o 8 (.mv (.t 4)), o 9 (.mv (.t 0)), o 10 (.lenL (.t 9)), o 11 (.bin .lss (.t 8) (.t 10))])
    (.cond (.t 11) (.skip) (.exit 0)))
    (.seq (.block 1 (.reg [o 14 (.mv (.t 3)), o 15 (.mv (.t 4)), o 16 (.mv (.t 0)), o 17 (.mv (.t 4)), o 18 (.iaddr 1 (.t 16) (.t 17)), o 19 (.load none (.t 18)), o 20 (.iaddr 1 (.t 14) (.t 15)), st (.store 1 (.t 20) (.t 19))]))
    (.reg [o 12 (.mv (.t 4)), o 13 (.bin .add (.t 12) (.c (.int .i64 1))), o 4 (.mv (.t 13))]))))))
  (.seq (.reg [o 21 (.mv (.t 3)), o 2 (.mv (.t 21))])
  (.ret)))),
  [.tmp 2]⟩
/- loop.example/g03011/laws.toRequest -/
def F103 : Fun := ⟨16,
  .seq (.reg [o 1 (.box 3 (.t 0)), o 2 (.new 3 [(.str []), .nsl, .nsl])])
  (.seq (.reg [o 3 (.new 3 [(.str []), .nsl, .nsl])])
  (.seq (.reg [o 4 (.faddr 0 (.t 1)), o 5 (.load none (.t 4)), o 6 (.faddr 0 (.t 3)), st (.store 1 (.t 6) (.t 5))])
  (.seq (.reg [o 7 (.faddr 1 (.t 1)), o 8 (.load none (.t 7)), o 9 (.call 117 [(.t 8)]), o 10 (.faddr 1 (.t 3)), st (.store 1 (.t 10) (.t 9))])
  (.seq (.reg [o 11 (.faddr 2 (.t 1)), o 12 (.load none (.t 11)), o 13 (.call 117 [(.t 12)]), o 14 (.faddr 2 (.t 3)), st (.store 1 (.t 14) (.t 13))])
  (.seq (.reg [o 15 (.load (some 3) (.t 3)), st (.store 3 (.t 2) (.t 15))])
  (.ret)))))),
  [.cell 2 (some 3)]⟩
/- loop.example/g03011/laws.toResponse -/
def F104 : Fun := ⟨15,
  .seq (.reg [o 1 (.box 3 (.t 0)), o 2 (.new 3 [(.int .i64 0), .nsl, (.str [])])])
  (.seq (.reg [o 3 (.new 3 [(.int .i64 0), .nsl, (.str [])])])
  (.seq (.reg [o 4 (.faddr 0 (.t 1)), o 5 (.load none (.t 4)), o 6 (.faddr 0 (.t 3)), st (.store 1 (.t 6) (.t 5))])
  (.seq (.reg [o 7 (.faddr 1 (.t 1)), o 8 (.load none (.t 7)), o 9 (.call 118 [(.t 8)]), o 10 (.faddr 1 (.t 3)), st (.store 1 (.t 10) (.t 9))])
  (.seq (.reg [o 11 (.faddr 2 (.t 1)), o 12 (.load none (.t 11)), o 13 (.faddr 2 (.t 3)), st (.store 1 (.t 13) (.t 12))])
  (.seq (.reg [o 14 (.load (some 3) (.t 3)), st (.store 3 (.t 2) (.t 14))])
  (.ret)))))),
  [.cell 2 (some 3)]⟩
/- slices.Clone[[]loop.example/g03011/impl.Line,loop.example/g03011/impl.Line] -/
def F105 : Fun := ⟨8,
  .seq (.reg [o 2 (.mv (.c .nsl))])
  (.seq (.seq (.reg [o 3 (.mv (.t 0)), o 4 (.isnl false (.t 3))])
  (.cond (.t 4) (.seq (.reg [o 2 (.mv (.c .nsl))])
   (.ret)) (.skip)))
  (.seq (.reg [o 5 (.bslice 4 [(.int .i64 0), (.int .i64 0), (.int .i64 0), .nsl] 0 []), o 6 (.mv (.t 0)), o 7 (.append 4 48 (.t 5) (.t 6)), o 2 (.mv (.t 7))])
  (.ret))),
  [.tmp 2]⟩
/- slices.Clone[[]int,int] -/
def F106 : Fun := ⟨8,
  .seq (.reg [o 2 (.mv (.c .nsl))])
  (.seq (.seq (.reg [o 3 (.mv (.t 0)), o 4 (.isnl false (.t 3))])
  (.cond (.t 4) (.seq (.reg [o 2 (.mv (.c .nsl))])
   (.ret)) (.skip)))
  (.seq (.reg [o 5 (.bslice 1 [(.int .i64 0)] 0 []), o 6 (.mv (.t 0)), o 7 (.append 1 8 (.t 5) (.t 6)), o 2 (.mv (.t 7))])
  (.ret))),
  [.tmp 2]⟩
/- slices.Clone[[]loop.example/g03011/impl.Pair,loop.example/g03011/impl.Pair] -/
def F107 : Fun := ⟨8,
  .seq (.reg [o 2 (.mv (.c .nsl))])
  (.seq (.seq (.reg [o 3 (.mv (.t 0)), o 4 (.isnl false (.t 3))])
  (.cond (.t 4) (.seq (.reg [o 2 (.mv (.c .nsl))])
   (.ret)) (.skip)))
  (.seq (.reg [o 5 (.bslice 2 [(.str []), (.str [])] 0 []), o 6 (.mv (.t 0)), o 7 (.append 2 32 (.t 5) (.t 6)), o 2 (.mv (.t 7))])
  (.ret))),
  [.tmp 2]⟩
/- loop.example/g03011/laws.eqIntS -/
def F108 : Fun := ⟨26,
  .seq (.reg [o 4 (.mv (.c (.bool false)))])
  (.seq (.seq (.reg [o 6 (.mv (.t 0)), o 7 (.lenL (.t 6)), o 8 (.mv (.t 1)), o 9 (.lenL (.t 8)), o 10 (.bin .neq (.t 7) (.t 9))])
  (.cond (.t 10) (.seq (.reg [o 4 (.mv (.c (.bool false)))])
   (.ret)) (.skip)))
  (.seq (.seq (.reg [o 5 (.mv (.c (.int .i64 0)))])
  (.block 0 (.loop (.seq (.seq (.reg [o 11 (.mv (.t 5)), o 12 (.mv (.t 0)), o 13 (.lenL (.t 12)), o 14 (.bin .lss (.t 11) (.t 13))])
    (.cond (.t 14) (.skip) (.exit 0)))
    (.seq (.block 1 (.seq (.reg [o 17 (.mv (.t 0)), o 18 (.mv (.t 5)), o 19 (.iaddr 1 (.t 17) (.t 18)), o 20 (.load none (.t 19)), o 21 (.mv (.t 1)), o 22 (.mv (.t 5)), o 23 (.iaddr 1 (.t 21) (.t 22)), o 24 (.load none (.t 23)), o 25 (.bin .neq (.t 20) (.t 24))])
     (.cond (.t 25) (.seq (.reg [o 4 (.mv (.c (.bool false)))])
      (.ret)) (.skip))))
    (.reg [o 15 (.mv (.t 5)), o 16 (.bin .add (.t 15) (.c (.int .i64 1))), o 5 (.mv (.t 16))]))))))
  (.seq (.reg [o 4 (.mv (.c (.bool true)))])
  (.ret)))),
  [.tmp 4]⟩
/- loop.example/g03011/laws.eqRequest -/
def F109 : Fun := ⟨22,
  .seq (.reg [o 2 (.box 3 (.t 0)), o 3 (.box 3 (.t 1)), o 4 (.mv (.c (.bool false)))])
  (.seq (.seq (.reg [o 5 (.faddr 0 (.t 2)), o 6 (.load none (.t 5)), o 7 (.faddr 0 (.t 3)), o 8 (.load none (.t 7)), o 9 (.bin .neq (.t 6) (.t 8))])
  (.cond (.t 9) (.seq (.reg [o 4 (.mv (.c (.bool false)))])
   (.ret)) (.skip)))
  (.seq (.seq (.reg [o 10 (.faddr 1 (.t 2)), o 11 (.load none (.t 10)), o 12 (.faddr 1 (.t 3)), o 13 (.load none (.t 12)), o 14 (.call 119 [(.t 11), (.t 13)]), o 15 (.un .not (.t 14))])
  (.cond (.t 15) (.seq (.reg [o 4 (.mv (.c (.bool false)))])
   (.ret)) (.skip)))
  (.seq (.seq (.reg [o 16 (.faddr 2 (.t 2)), o 17 (.load none (.t 16)), o 18 (.faddr 2 (.t 3)), o 19 (.load none (.t 18)), o 20 (.call 119 [(.t 17), (.t 19)]), o 21 (.un .not (.t 20))])
  (.cond (.t 21) (.seq (.reg [o 4 (.mv (.c (.bool false)))])
   (.ret)) (.skip)))
  (.seq (.reg [o 4 (.mv (.c (.bool true)))])
  (.ret))))),
  [.tmp 4]⟩
/- loop.example/g03011/laws.eqResponse -/
def F110 : Fun := ⟨21,
  .seq (.reg [o 2 (.box 3 (.t 0)), o 3 (.box 3 (.t 1)), o 4 (.mv (.c (.bool false)))])
  (.seq (.seq (.reg [o 5 (.faddr 0 (.t 2)), o 6 (.load none (.t 5)), o 7 (.faddr 0 (.t 3)), o 8 (.load none (.t 7)), o 9 (.bin .neq (.t 6) (.t 8))])
  (.cond (.t 9) (.seq (.reg [o 4 (.mv (.c (.bool false)))])
   (.ret)) (.skip)))
  (.seq (.seq (.reg [o 10 (.faddr 1 (.t 2)), o 11 (.load none (.t 10)), o 12 (.faddr 1 (.t 3)), o 13 (.load none (.t 12)), o 14 (.call 120 [(.t 11), (.t 13)]), o 15 (.un .not (.t 14))])
  (.cond (.t 15) (.seq (.reg [o 4 (.mv (.c (.bool false)))])
   (.ret)) (.skip)))
  (.seq (.seq (.reg [o 16 (.faddr 2 (.t 2)), o 17 (.load none (.t 16)), o 18 (.faddr 2 (.t 3)), o 19 (.load none (.t 18)), o 20 (.bin .neq (.t 17) (.t 19))])
  (.cond (.t 20) (.seq (.reg [o 4 (.mv (.c (.bool false)))])
   (.ret)) (.skip)))
  (.seq (.reg [o 4 (.mv (.c (.bool true)))])
  (.ret))))),
  [.tmp 4]⟩
/- loop.example/g03011/spec.l14Name -/
def F111 : Fun := ⟨31,
  .seq (.reg [o 4 (.mv (.c (.int .i64 0)))])
  (.seq (.reg [o 6 (.mv (.t 1)), o 5 (.mv (.t 6))])
  (.seq (.block 0 (.loop (.seq (.seq (.reg [o 7 (.mv (.t 5)), o 8 (.mv (.t 0)), o 9 (.lenS (.t 8)), o 10 (.bin .lss (.t 7) (.t 9)), o 11 (.mv (.t 10)), og 12 (.mv (.t 0)) 11 true, og 13 (.mv (.t 5)) 11 true, og 14 (.index (.t 12) (.t 13)) 11 true, og 15 (.call 121 [(.t 14)]) 11 true, og 16 (.mv (.t 15)) 11 true, og 17 (.mv (.t 5)) 16 false, og 18 (.mv (.t 1)) 16 false, og 19 (.bin .gtr (.t 17) (.t 18)) 16 false, og 20 (.mv (.t 19)) 16 false, og 21 (.mv (.t 0)) 20 true, og 22 (.mv (.t 5)) 20 true, og 23 (.index (.t 21) (.t 22)) 20 true, og 24 (.call 122 [(.t 23)]) 20 true, og 25 (.pick (.t 20) (.t 24) (.c (.bool false))) 16 false, og 26 (.pick (.t 16) (.c (.bool true)) (.t 25)) 11 true, o 27 (.pick (.t 11) (.t 26) (.c (.bool false)))])
    (.cond (.t 27) (.skip) (.exit 0)))
    (.block 1 (.reg [o 28 (.mv (.t 5)), o 29 (.bin .add (.t 28) (.c (.int .i64 1))), o 5 (.mv (.t 29))])))))
  (.seq (.reg [o 30 (.mv (.t 5)), o 4 (.mv (.t 30))])
  (.ret)))),
  [.tmp 4]⟩
/- loop.example/g03011/impl.nameLength -/
def F112 : Fun := ⟨33,
  .seq (.reg [o 2 (.mv (.c (.int .i64 0)))])
  (.seq (.reg [o 3 (.mv (.c (.int .i64 0)))])
  (.seq (.block 0 (.loop (.seq (.seq (.reg [o 4 (.mv (.t 3)), o 5 (.mv (.t 0)), o 6 (.lenS (.t 5)), o 7 (.bin .lss (.t 4) (.t 6)), o 8 (.mv (.t 7)), og 9 (.mv (.t 0)) 8 true, og 10 (.mv (.t 3)) 8 true, og 11 (.index (.t 9) (.t 10)) 8 true, og 12 (.call 123 [(.t 11)]) 8 true, og 13 (.mv (.t 12)) 8 true, og 14 (.mv (.t 0)) 13 false, og 15 (.mv (.t 3)) 13 false, og 16 (.index (.t 14) (.t 15)) 13 false, og 17 (.bin .eql (.t 16) (.c (.int .u8 95))) 13 false, og 18 (.pick (.t 13) (.c (.bool true)) (.t 17)) 8 true, og 19 (.mv (.t 18)) 8 true, og 20 (.mv (.t 3)) 19 false, og 21 (.bin .gtr (.t 20) (.c (.int .i64 0))) 19 false, og 22 (.mv (.t 21)) 19 false, og 23 (.mv (.t 0)) 22 true, og 24 (.mv (.t 3)) 22 true, og 25 (.index (.t 23) (.t 24)) 22 true, og 26 (.call 124 [(.t 25)]) 22 true, og 27 (.pick (.t 22) (.t 26) (.c (.bool false))) 19 false, og 28 (.pick (.t 19) (.c (.bool true)) (.t 27)) 8 true, o 29 (.pick (.t 8) (.t 28) (.c (.bool false)))])
    (.cond (.t 29) (.skip) (.exit 0)))
    (.block 1 (.reg [o 30 (.mv (.t 3)), o 31 (.bin .add (.t 30) (.c (.int .i64 1))), o 3 (.mv (.t 31))])))))
  (.seq (.reg [o 32 (.mv (.t 3)), o 2 (.mv (.t 32))])
  (.ret)))),
  [.tmp 2]⟩
/- slices.IndexFunc[[]loop.example/g03011/impl.Session,loop.example/g03011/impl.Session] -/
def F113 : Fun := ⟨19,
  .seq (.reg [o 4 (.mv (.c (.int .i64 0)))])
  (.seq (.seq (.reg [o 6 (.mv (.t 0)), o 7 (.lenL (.t 6)), o 8 (.mv (.c (.int .i64 0)))])
  (.block 0 (.loop (.seq (.reg [o 9 (.bin .lss (.t 8) (.t 7))])
    (.seq (.cond (.t 9) (.skip) (.exit 0))
    (.seq (.block 1 (.seq (.reg [o 10 (.mv (.t 8)), o 5 (.mv (.t 10))])
     (.seq (.reg [o 11 (.mv (.t 1)), o 12 (.mv (.t 0)), o 13 (.mv (.t 5)), o 14 (.iaddr 4 (.t 12) (.t 13)), o 15 (.load (some 4) (.t 14)), o 16 (.callv (.t 11) [(.t 15)])])
     (.cond (.t 16) (.seq (.reg [o 17 (.mv (.t 5)), o 4 (.mv (.t 17))])
      (.ret)) (.skip)))))
    (.reg [o 18 (.bin .add (.t 8) (.c (.int .i64 1))), o 8 (.mv (.t 18))])))))))
  (.seq (.reg [o 4 (.mv (.c (.int .i64 (-1))))])
  (.ret))),
  [.tmp 4]⟩
/- loop.example/g03011/impl.FindSession$1 -/
def F114 : Fun := ⟨8,
  .seq (.reg [o 2 (.box 4 (.t 0)), o 3 (.mv (.c (.bool false)))])
  (.seq (.reg [o 4 (.faddr 0 (.t 2)), o 5 (.load none (.t 4)), o 6 (.load none (.t 1)), o 7 (.bin .eql (.t 5) (.t 6)), o 3 (.mv (.t 7))])
  (.ret)),
  [.tmp 3]⟩
/- loop.example/g03011/laws.szPairS -/
def F115 : Fun := ⟨27,
  .seq (.reg [o 4 (.mv (.c (.int .i64 0)))])
  (.seq (.reg [o 6 (.mv (.t 1)), o 7 (.mv (.t 0)), o 8 (.lenL (.t 7)), o 9 (.bin .sub (.t 6) (.t 8)), o 1 (.mv (.t 9))])
  (.seq (.seq (.reg [o 10 (.mv (.t 1)), o 11 (.bin .lss (.t 10) (.c (.int .i64 0)))])
  (.cond (.t 11) (.seq (.reg [o 4 (.mv (.c (.int .i64 (-1))))])
   (.ret)) (.skip)))
  (.seq (.seq (.reg [o 5 (.mv (.c (.int .i64 0)))])
  (.block 0 (.loop (.seq (.seq (.reg [o 12 (.mv (.t 5)), o 13 (.mv (.t 0)), o 14 (.lenL (.t 13)), o 15 (.bin .lss (.t 12) (.t 14))])
    (.cond (.t 15) (.skip) (.exit 0)))
    (.seq (.block 1 (.seq (.reg [o 18 (.mv (.t 0)), o 19 (.mv (.t 5)), o 20 (.iaddr 2 (.t 18) (.t 19)), o 21 (.load (some 2) (.t 20)), o 22 (.mv (.t 1)), o 23 (.call 125 [(.t 21), (.t 22)]), o 1 (.mv (.t 23))])
     (.seq (.reg [o 24 (.mv (.t 1)), o 25 (.bin .lss (.t 24) (.c (.int .i64 0)))])
     (.cond (.t 25) (.seq (.reg [o 4 (.mv (.c (.int .i64 (-1))))])
      (.ret)) (.skip)))))
    (.reg [o 16 (.mv (.t 5)), o 17 (.bin .add (.t 16) (.c (.int .i64 1))), o 5 (.mv (.t 17))]))))))
  (.seq (.reg [o 26 (.mv (.t 1)), o 4 (.mv (.t 26))])
  (.ret))))),
  [.tmp 4]⟩
/- loop.example/g03011/laws.szHeaderS -/
def F116 : Fun := ⟨27,
  .seq (.reg [o 4 (.mv (.c (.int .i64 0)))])
  (.seq (.reg [o 6 (.mv (.t 1)), o 7 (.mv (.t 0)), o 8 (.lenL (.t 7)), o 9 (.bin .sub (.t 6) (.t 8)), o 1 (.mv (.t 9))])
  (.seq (.seq (.reg [o 10 (.mv (.t 1)), o 11 (.bin .lss (.t 10) (.c (.int .i64 0)))])
  (.cond (.t 11) (.seq (.reg [o 4 (.mv (.c (.int .i64 (-1))))])
   (.ret)) (.skip)))
  (.seq (.seq (.reg [o 5 (.mv (.c (.int .i64 0)))])
  (.block 0 (.loop (.seq (.seq (.reg [o 12 (.mv (.t 5)), o 13 (.mv (.t 0)), o 14 (.lenL (.t 13)), o 15 (.bin .lss (.t 12) (.t 14))])
    (.cond (.t 15) (.skip) (.exit 0)))
    (.seq (.block 1 (.seq (.reg [o 18 (.mv (.t 0)), o 19 (.mv (.t 5)), o 20 (.iaddr 2 (.t 18) (.t 19)), o 21 (.load (some 2) (.t 20)), o 22 (.mv (.t 1)), o 23 (.call 126 [(.t 21), (.t 22)]), o 1 (.mv (.t 23))])
     (.seq (.reg [o 24 (.mv (.t 1)), o 25 (.bin .lss (.t 24) (.c (.int .i64 0)))])
     (.cond (.t 25) (.seq (.reg [o 4 (.mv (.c (.int .i64 (-1))))])
      (.ret)) (.skip)))))
    (.reg [o 16 (.mv (.t 5)), o 17 (.bin .add (.t 16) (.c (.int .i64 1))), o 5 (.mv (.t 17))]))))))
  (.seq (.reg [o 26 (.mv (.t 1)), o 4 (.mv (.t 26))])
  (.ret))))),
  [.tmp 4]⟩
/- loop.example/g03011/laws.toPairS -/
def F117 : Fun := ⟨23,
  .seq (.reg [o 2 (.mv (.c .nsl))])
  (.seq (.reg [o 5 (.mv (.t 0)), o 6 (.lenL (.t 5)), o 7 (.mkslice 2 [(.str []), (.str [])] 32 (.t 6) (.t 6)), o 3 (.mv (.t 7))])
  (.seq (.seq (.reg [o 4 (.mv (.c (.int .i64 0)))])
  (.block 0 (.loop (.seq (.seq (.reg [o 8 (.mv (.t 4)), o 9 (.mv (.t 0)), o 10 (.lenL (.t 9)), o 11 (.bin .lss (.t 8) (.t 10))])
    (.cond (.t 11) (.skip) (.exit 0)))
    (.seq (.block 1 (.reg [o 14 (.mv (.t 3)), o 15 (.mv (.t 4)), o 16 (.mv (.t 0)), o 17 (.mv (.t 4)), o 18 (.iaddr 2 (.t 16) (.t 17)), o 19 (.load (some 2) (.t 18)), o 20 (.call 127 [(.t 19)]), o 21 (.iaddr 2 (.t 14) (.t 15)), st (.store 2 (.t 21) (.t 20))]))
    (.reg [o 12 (.mv (.t 4)), o 13 (.bin .add (.t 12) (.c (.int .i64 1))), o 4 (.mv (.t 13))]))))))
  (.seq (.reg [o 22 (.mv (.t 3)), o 2 (.mv (.t 22))])
  (.ret)))),
  [.tmp 2]⟩
/- loop.example/g03011/laws.toHeaderS -/
def F118 : Fun := ⟨23,
  .seq (.reg [o 2 (.mv (.c .nsl))])
  (.seq (.reg [o 5 (.mv (.t 0)), o 6 (.lenL (.t 5)), o 7 (.mkslice 2 [(.str []), (.str [])] 32 (.t 6) (.t 6)), o 3 (.mv (.t 7))])
  (.seq (.seq (.reg [o 4 (.mv (.c (.int .i64 0)))])
  (.block 0 (.loop (.seq (.seq (.reg [o 8 (.mv (.t 4)), o 9 (.mv (.t 0)), o 10 (.lenL (.t 9)), o 11 (.bin .lss (.t 8) (.t 10))])
    (.cond (.t 11) (.skip) (.exit 0)))
    (.seq (.block 1 (.reg [o 14 (.mv (.t 3)), o 15 (.mv (.t 4)), o 16 (.mv (.t 0)), o 17 (.mv (.t 4)), o 18 (.iaddr 2 (.t 16) (.t 17)), o 19 (.load (some 2) (.t 18)), o 20 (.call 128 [(.t 19)]), o 21 (.iaddr 2 (.t 14) (.t 15)), st (.store 2 (.t 21) (.t 20))]))
    (.reg [o 12 (.mv (.t 4)), o 13 (.bin .add (.t 12) (.c (.int .i64 1))), o 4 (.mv (.t 13))]))))))
  (.seq (.reg [o 22 (.mv (.t 3)), o 2 (.mv (.t 22))])
  (.ret)))),
  [.tmp 2]⟩
/- loop.example/g03011/laws.eqPairS -/
def F119 : Fun := ⟨27,
  .seq (.reg [o 4 (.mv (.c (.bool false)))])
  (.seq (.seq (.reg [o 6 (.mv (.t 0)), o 7 (.lenL (.t 6)), o 8 (.mv (.t 1)), o 9 (.lenL (.t 8)), o 10 (.bin .neq (.t 7) (.t 9))])
  (.cond (.t 10) (.seq (.reg [o 4 (.mv (.c (.bool false)))])
   (.ret)) (.skip)))
  (.seq (.seq (.reg [o 5 (.mv (.c (.int .i64 0)))])
  (.block 0 (.loop (.seq (.seq (.reg [o 11 (.mv (.t 5)), o 12 (.mv (.t 0)), o 13 (.lenL (.t 12)), o 14 (.bin .lss (.t 11) (.t 13))])
    (.cond (.t 14) (.skip) (.exit 0)))
    (.seq (.block 1 (.seq (.reg [o 17 (.mv (.t 0)), o 18 (.mv (.t 5)), o 19 (.iaddr 2 (.t 17) (.t 18)), o 20 (.load (some 2) (.t 19)), o 21 (.mv (.t 1)), o 22 (.mv (.t 5)), o 23 (.iaddr 2 (.t 21) (.t 22)), o 24 (.load (some 2) (.t 23)), o 25 (.callF 129 [(.t 20), (.t 24)]), o 26 (.un .not (.t 25))])
     (.cond (.t 26) (.seq (.reg [o 4 (.mv (.c (.bool false)))])
      (.ret)) (.skip))))
    (.reg [o 15 (.mv (.t 5)), o 16 (.bin .add (.t 15) (.c (.int .i64 1))), o 5 (.mv (.t 16))]))))))
  (.seq (.reg [o 4 (.mv (.c (.bool true)))])
  (.ret)))),
  [.tmp 4]⟩
/- loop.example/g03011/laws.eqHeaderS -/
def F120 : Fun := ⟨27,
  .seq (.reg [o 4 (.mv (.c (.bool false)))])
  (.seq (.seq (.reg [o 6 (.mv (.t 0)), o 7 (.lenL (.t 6)), o 8 (.mv (.t 1)), o 9 (.lenL (.t 8)), o 10 (.bin .neq (.t 7) (.t 9))])
  (.cond (.t 10) (.seq (.reg [o 4 (.mv (.c (.bool false)))])
   (.ret)) (.skip)))
  (.seq (.seq (.reg [o 5 (.mv (.c (.int .i64 0)))])
  (.block 0 (.loop (.seq (.seq (.reg [o 11 (.mv (.t 5)), o 12 (.mv (.t 0)), o 13 (.lenL (.t 12)), o 14 (.bin .lss (.t 11) (.t 13))])
    (.cond (.t 14) (.skip) (.exit 0)))
    (.seq (.block 1 (.seq (.reg [o 17 (.mv (.t 0)), o 18 (.mv (.t 5)), o 19 (.iaddr 2 (.t 17) (.t 18)), o 20 (.load (some 2) (.t 19)), o 21 (.mv (.t 1)), o 22 (.mv (.t 5)), o 23 (.iaddr 2 (.t 21) (.t 22)), o 24 (.load (some 2) (.t 23)), o 25 (.callF 130 [(.t 20), (.t 24)]), o 26 (.un .not (.t 25))])
     (.cond (.t 26) (.seq (.reg [o 4 (.mv (.c (.bool false)))])
      (.ret)) (.skip))))
    (.reg [o 15 (.mv (.t 5)), o 16 (.bin .add (.t 15) (.c (.int .i64 1))), o 5 (.mv (.t 16))]))))))
  (.seq (.reg [o 4 (.mv (.c (.bool true)))])
  (.ret)))),
  [.tmp 4]⟩
/- loop.example/g03011/spec.l14Letter -/
def F121 : Fun := ⟨15,
  .seq (.reg [o 2 (.mv (.c (.bool false)))])
  (.seq (.reg [o 3 (.mv (.t 0)), o 4 (.toInt .i64 (.t 3)), o 5 (.call 21 [(.t 4), (.c (.int .i64 97)), (.c (.int .i64 122))]), o 6 (.mv (.t 5)), og 7 (.mv (.t 0)) 6 false, og 8 (.toInt .i64 (.t 7)) 6 false, og 9 (.call 21 [(.t 8), (.c (.int .i64 65)), (.c (.int .i64 90))]) 6 false, o 10 (.pick (.t 6) (.c (.bool true)) (.t 9)), o 11 (.mv (.t 10)), og 12 (.mv (.t 0)) 11 false, og 13 (.bin .eql (.t 12) (.c (.int .u8 95))) 11 false, o 14 (.pick (.t 11) (.c (.bool true)) (.t 13)), o 2 (.mv (.t 14))])
  (.ret)),
  [.tmp 2]⟩
/- loop.example/g03011/spec.l14Digit -/
def F122 : Fun := ⟨6,
  .seq (.reg [o 2 (.mv (.c (.bool false)))])
  (.seq (.reg [o 3 (.mv (.t 0)), o 4 (.toInt .i64 (.t 3)), o 5 (.call 21 [(.t 4), (.c (.int .i64 48)), (.c (.int .i64 57))]), o 2 (.mv (.t 5))])
  (.ret)),
  [.tmp 2]⟩
/- loop.example/g03011/impl.isLetter -/
def F123 : Fun := ⟨17,
  .seq (.reg [o 2 (.mv (.c (.bool false)))])
  (.seq (.reg [o 3 (.mv (.t 0)), o 4 (.bin .geq (.t 3) (.c (.int .u8 65))), o 5 (.mv (.t 4)), og 6 (.mv (.t 0)) 5 true, og 7 (.bin .leq (.t 6) (.c (.int .u8 90))) 5 true, o 8 (.pick (.t 5) (.t 7) (.c (.bool false))), o 9 (.mv (.t 8)), og 10 (.mv (.t 0)) 9 false, og 11 (.bin .geq (.t 10) (.c (.int .u8 97))) 9 false, og 12 (.mv (.t 11)) 9 false, og 13 (.mv (.t 0)) 12 true, og 14 (.bin .leq (.t 13) (.c (.int .u8 122))) 12 true, og 15 (.pick (.t 12) (.t 14) (.c (.bool false))) 9 false, o 16 (.pick (.t 9) (.c (.bool true)) (.t 15)), o 2 (.mv (.t 16))])
  (.ret)),
  [.tmp 2]⟩
/- loop.example/g03011/impl.isDigit -/
def F124 : Fun := ⟨9,
  .seq (.reg [o 2 (.mv (.c (.bool false)))])
  (.seq (.reg [o 3 (.mv (.t 0)), o 4 (.bin .geq (.t 3) (.c (.int .u8 48))), o 5 (.mv (.t 4)), og 6 (.mv (.t 0)) 5 true, og 7 (.bin .leq (.t 6) (.c (.int .u8 57))) 5 true, o 8 (.pick (.t 5) (.t 7) (.c (.bool false))), o 2 (.mv (.t 8))])
  (.ret)),
  [.tmp 2]⟩
/- loop.example/g03011/laws.szPair -/
def F125 : Fun := ⟨20,
  .seq (.reg [o 2 (.box 2 (.t 0)), o 4 (.mv (.c (.int .i64 0)))])
  (.seq (.reg [o 5 (.mv (.t 1)), o 6 (.faddr 0 (.t 2)), o 7 (.load none (.t 6)), o 8 (.lenS (.t 7)), o 9 (.bin .sub (.t 5) (.t 8)), o 1 (.mv (.t 9))])
  (.seq (.seq (.reg [o 10 (.mv (.t 1)), o 11 (.bin .lss (.t 10) (.c (.int .i64 0)))])
  (.cond (.t 11) (.seq (.reg [o 4 (.mv (.c (.int .i64 (-1))))])
   (.ret)) (.skip)))
  (.seq (.reg [o 12 (.mv (.t 1)), o 13 (.faddr 1 (.t 2)), o 14 (.load none (.t 13)), o 15 (.lenS (.t 14)), o 16 (.bin .sub (.t 12) (.t 15)), o 1 (.mv (.t 16))])
  (.seq (.seq (.reg [o 17 (.mv (.t 1)), o 18 (.bin .lss (.t 17) (.c (.int .i64 0)))])
  (.cond (.t 18) (.seq (.reg [o 4 (.mv (.c (.int .i64 (-1))))])
   (.ret)) (.skip)))
  (.seq (.reg [o 19 (.mv (.t 1)), o 4 (.mv (.t 19))])
  (.ret)))))),
  [.tmp 4]⟩
/- loop.example/g03011/laws.szHeader -/
def F126 : Fun := ⟨20,
  .seq (.reg [o 2 (.box 2 (.t 0)), o 4 (.mv (.c (.int .i64 0)))])
  (.seq (.reg [o 5 (.mv (.t 1)), o 6 (.faddr 0 (.t 2)), o 7 (.load none (.t 6)), o 8 (.lenS (.t 7)), o 9 (.bin .sub (.t 5) (.t 8)), o 1 (.mv (.t 9))])
  (.seq (.seq (.reg [o 10 (.mv (.t 1)), o 11 (.bin .lss (.t 10) (.c (.int .i64 0)))])
  (.cond (.t 11) (.seq (.reg [o 4 (.mv (.c (.int .i64 (-1))))])
   (.ret)) (.skip)))
  (.seq (.reg [o 12 (.mv (.t 1)), o 13 (.faddr 1 (.t 2)), o 14 (.load none (.t 13)), o 15 (.lenS (.t 14)), o 16 (.bin .sub (.t 12) (.t 15)), o 1 (.mv (.t 16))])
  (.seq (.seq (.reg [o 17 (.mv (.t 1)), o 18 (.bin .lss (.t 17) (.c (.int .i64 0)))])
  (.cond (.t 18) (.seq (.reg [o 4 (.mv (.c (.int .i64 (-1))))])
   (.ret)) (.skip)))
  (.seq (.reg [o 19 (.mv (.t 1)), o 4 (.mv (.t 19))])
  (.ret)))))),
  [.tmp 4]⟩
/- loop.example/g03011/laws.toPair -/
def F127 : Fun := ⟨11,
  .seq (.reg [o 1 (.box 2 (.t 0)), o 2 (.new 2 [(.str []), (.str [])])])
  (.seq (.reg [o 3 (.new 2 [(.str []), (.str [])])])
  (.seq (.reg [o 4 (.faddr 0 (.t 1)), o 5 (.load none (.t 4)), o 6 (.faddr 0 (.t 3)), st (.store 1 (.t 6) (.t 5))])
  (.seq (.reg [o 7 (.faddr 1 (.t 1)), o 8 (.load none (.t 7)), o 9 (.faddr 1 (.t 3)), st (.store 1 (.t 9) (.t 8))])
  (.seq (.reg [o 10 (.load (some 2) (.t 3)), st (.store 2 (.t 2) (.t 10))])
  (.ret))))),
  [.cell 2 (some 2)]⟩
/- loop.example/g03011/laws.toHeader -/
def F128 : Fun := ⟨11,
  .seq (.reg [o 1 (.box 2 (.t 0)), o 2 (.new 2 [(.str []), (.str [])])])
  (.seq (.reg [o 3 (.new 2 [(.str []), (.str [])])])
  (.seq (.reg [o 4 (.faddr 0 (.t 1)), o 5 (.load none (.t 4)), o 6 (.faddr 0 (.t 3)), st (.store 1 (.t 6) (.t 5))])
  (.seq (.reg [o 7 (.faddr 1 (.t 1)), o 8 (.load none (.t 7)), o 9 (.faddr 1 (.t 3)), st (.store 1 (.t 9) (.t 8))])
  (.seq (.reg [o 10 (.load (some 2) (.t 3)), st (.store 2 (.t 2) (.t 10))])
  (.ret))))),
  [.cell 2 (some 2)]⟩
/- loop.example/g03011/laws.eqPair -/
def F129 : Fun := ⟨15,
  .seq (.reg [o 2 (.box 2 (.t 0)), o 3 (.box 2 (.t 1)), o 4 (.mv (.c (.bool false)))])
  (.seq (.seq (.reg [o 5 (.faddr 0 (.t 2)), o 6 (.load none (.t 5)), o 7 (.faddr 0 (.t 3)), o 8 (.load none (.t 7)), o 9 (.bin .neq (.t 6) (.t 8))])
  (.cond (.t 9) (.seq (.reg [o 4 (.mv (.c (.bool false)))])
   (.ret)) (.skip)))
  (.seq (.seq (.reg [o 10 (.faddr 1 (.t 2)), o 11 (.load none (.t 10)), o 12 (.faddr 1 (.t 3)), o 13 (.load none (.t 12)), o 14 (.bin .neq (.t 11) (.t 13))])
  (.cond (.t 14) (.seq (.reg [o 4 (.mv (.c (.bool false)))])
   (.ret)) (.skip)))
  (.seq (.reg [o 4 (.mv (.c (.bool true)))])
  (.ret)))),
  [.tmp 4]⟩
/- loop.example/g03011/laws.eqHeader -/
def F130 : Fun := ⟨15,
  .seq (.reg [o 2 (.box 2 (.t 0)), o 3 (.box 2 (.t 1)), o 4 (.mv (.c (.bool false)))])
  (.seq (.seq (.reg [o 5 (.faddr 0 (.t 2)), o 6 (.load none (.t 5)), o 7 (.faddr 0 (.t 3)), o 8 (.load none (.t 7)), o 9 (.bin .neq (.t 6) (.t 8))])
  (.cond (.t 9) (.seq (.reg [o 4 (.mv (.c (.bool false)))])
   (.ret)) (.skip)))
  (.seq (.seq (.reg [o 10 (.faddr 1 (.t 2)), o 11 (.load none (.t 10)), o 12 (.faddr 1 (.t 3)), o 13 (.load none (.t 12)), o 14 (.bin .neq (.t 11) (.t 13))])
  (.cond (.t 14) (.seq (.reg [o 4 (.mv (.c (.bool false)))])
   (.ret)) (.skip)))
  (.seq (.reg [o 4 (.mv (.c (.bool true)))])
  (.ret)))),
  [.tmp 4]⟩

theorem c3 : compF Tryz.prog 3 = some F3 := by kernel_rfl
theorem c4 : compF Tryz.prog 4 = some F4 := by kernel_rfl
theorem c5 : compF Tryz.prog 5 = some F5 := by kernel_rfl
theorem c6 : compF Tryz.prog 6 = some F6 := by kernel_rfl
theorem c7 : compF Tryz.prog 7 = some F7 := by kernel_rfl
theorem c8 : compF Tryz.prog 8 = some F8 := by kernel_rfl
theorem c9 : compF Tryz.prog 9 = some F9 := by kernel_rfl
theorem c10 : compF Tryz.prog 10 = some F10 := by kernel_rfl
theorem c11 : compF Tryz.prog 11 = some F11 := by kernel_rfl
theorem c12 : compF Tryz.prog 12 = some F12 := by kernel_rfl
theorem c13 : compF Tryz.prog 13 = some F13 := by kernel_rfl
theorem c14 : compF Tryz.prog 14 = some F14 := by kernel_rfl
theorem c15 : compF Tryz.prog 15 = some F15 := by kernel_rfl
theorem c16 : compF Tryz.prog 16 = some F16 := by kernel_rfl
theorem c17 : compF Tryz.prog 17 = some F17 := by kernel_rfl
theorem c18 : compF Tryz.prog 18 = some F18 := by kernel_rfl
theorem c19 : compF Tryz.prog 19 = some F19 := by kernel_rfl
theorem c20 : compF Tryz.prog 20 = some F20 := by kernel_rfl
theorem c21 : compF Tryz.prog 21 = some F21 := by kernel_rfl
theorem c22 : compF Tryz.prog 22 = some F22 := by kernel_rfl
theorem c23 : compF Tryz.prog 23 = some F23 := by kernel_rfl
theorem c24 : compF Tryz.prog 24 = some F24 := by kernel_rfl
theorem c25 : compF Tryz.prog 25 = some F25 := by kernel_rfl
theorem c26 : compF Tryz.prog 26 = some F26 := by kernel_rfl
theorem c27 : compF Tryz.prog 27 = some F27 := by kernel_rfl
theorem c28 : compF Tryz.prog 28 = some F28 := by kernel_rfl
theorem c29 : compF Tryz.prog 29 = some F29 := by kernel_rfl
theorem c30 : compF Tryz.prog 30 = some F30 := by kernel_rfl
theorem c31 : compF Tryz.prog 31 = some F31 := by kernel_rfl
theorem c32 : compF Tryz.prog 32 = some F32 := by kernel_rfl
theorem c33 : compF Tryz.prog 33 = some F33 := by kernel_rfl
theorem c34 : compF Tryz.prog 34 = some F34 := by kernel_rfl
theorem c35 : compF Tryz.prog 35 = some F35 := by kernel_rfl
theorem c36 : compF Tryz.prog 36 = some F36 := by kernel_rfl
theorem c37 : compF Tryz.prog 37 = some F37 := by kernel_rfl
theorem c38 : compF Tryz.prog 38 = some F38 := by kernel_rfl
theorem c39 : compF Tryz.prog 39 = some F39 := by kernel_rfl
theorem c40 : compF Tryz.prog 40 = some F40 := by kernel_rfl
theorem c41 : compF Tryz.prog 41 = some F41 := by kernel_rfl
theorem c42 : compF Tryz.prog 42 = some F42 := by kernel_rfl
theorem c43 : compF Tryz.prog 43 = some F43 := by kernel_rfl
theorem c44 : compF Tryz.prog 44 = some F44 := by kernel_rfl
theorem c45 : compF Tryz.prog 45 = some F45 := by kernel_rfl
theorem c46 : compF Tryz.prog 46 = some F46 := by kernel_rfl
theorem c47 : compF Tryz.prog 47 = some F47 := by kernel_rfl
theorem c48 : compF Tryz.prog 48 = some F48 := by kernel_rfl
theorem c49 : compF Tryz.prog 49 = some F49 := by kernel_rfl
theorem c50 : compF Tryz.prog 50 = some F50 := by kernel_rfl
theorem c51 : compF Tryz.prog 51 = some F51 := by kernel_rfl
theorem c53 : compF Tryz.prog 53 = some F53 := by kernel_rfl
theorem c54 : compF Tryz.prog 54 = some F54 := by kernel_rfl
theorem c55 : compF Tryz.prog 55 = some F55 := by kernel_rfl
theorem c56 : compF Tryz.prog 56 = some F56 := by kernel_rfl
theorem c57 : compF Tryz.prog 57 = some F57 := by kernel_rfl
theorem c58 : compF Tryz.prog 58 = some F58 := by kernel_rfl
theorem c59 : compF Tryz.prog 59 = some F59 := by kernel_rfl
theorem c60 : compF Tryz.prog 60 = some F60 := by kernel_rfl
theorem c61 : compF Tryz.prog 61 = some F61 := by kernel_rfl
theorem c62 : compF Tryz.prog 62 = some F62 := by kernel_rfl
theorem c63 : compF Tryz.prog 63 = some F63 := by kernel_rfl
theorem c64 : compF Tryz.prog 64 = some F64 := by kernel_rfl
theorem c65 : compF Tryz.prog 65 = some F65 := by kernel_rfl
theorem c66 : compF Tryz.prog 66 = some F66 := by kernel_rfl
theorem c67 : compF Tryz.prog 67 = some F67 := by kernel_rfl
theorem c68 : compF Tryz.prog 68 = some F68 := by kernel_rfl
theorem c69 : compF Tryz.prog 69 = some F69 := by kernel_rfl
theorem c70 : compF Tryz.prog 70 = some F70 := by kernel_rfl
theorem c71 : compF Tryz.prog 71 = some F71 := by kernel_rfl
theorem c72 : compF Tryz.prog 72 = some F72 := by kernel_rfl
theorem c73 : compF Tryz.prog 73 = some F73 := by kernel_rfl
theorem c74 : compF Tryz.prog 74 = some F74 := by kernel_rfl
theorem c75 : compF Tryz.prog 75 = some F75 := by kernel_rfl
theorem c76 : compF Tryz.prog 76 = some F76 := by kernel_rfl
theorem c77 : compF Tryz.prog 77 = some F77 := by kernel_rfl
theorem c78 : compF Tryz.prog 78 = some F78 := by kernel_rfl
theorem c79 : compF Tryz.prog 79 = some F79 := by kernel_rfl
theorem c80 : compF Tryz.prog 80 = some F80 := by kernel_rfl
theorem c81 : compF Tryz.prog 81 = some F81 := by kernel_rfl
theorem c82 : compF Tryz.prog 82 = some F82 := by kernel_rfl
theorem c83 : compF Tryz.prog 83 = some F83 := by kernel_rfl
theorem c84 : compF Tryz.prog 84 = some F84 := by kernel_rfl
theorem c85 : compF Tryz.prog 85 = some F85 := by kernel_rfl
theorem c86 : compF Tryz.prog 86 = some F86 := by kernel_rfl
theorem c87 : compF Tryz.prog 87 = some F87 := by kernel_rfl
theorem c88 : compF Tryz.prog 88 = some F88 := by kernel_rfl
theorem c89 : compF Tryz.prog 89 = some F89 := by kernel_rfl
theorem c90 : compF Tryz.prog 90 = some F90 := by kernel_rfl
theorem c91 : compF Tryz.prog 91 = some F91 := by kernel_rfl
theorem c92 : compF Tryz.prog 92 = some F92 := by kernel_rfl
theorem c93 : compF Tryz.prog 93 = some F93 := by kernel_rfl
theorem c94 : compF Tryz.prog 94 = some F94 := by kernel_rfl
theorem c95 : compF Tryz.prog 95 = some F95 := by kernel_rfl
theorem c96 : compF Tryz.prog 96 = some F96 := by kernel_rfl
theorem c97 : compF Tryz.prog 97 = some F97 := by kernel_rfl
theorem c98 : compF Tryz.prog 98 = some F98 := by kernel_rfl
theorem c99 : compF Tryz.prog 99 = some F99 := by kernel_rfl
theorem c100 : compF Tryz.prog 100 = some F100 := by kernel_rfl
theorem c101 : compF Tryz.prog 101 = some F101 := by kernel_rfl
theorem c102 : compF Tryz.prog 102 = some F102 := by kernel_rfl
theorem c103 : compF Tryz.prog 103 = some F103 := by kernel_rfl
theorem c104 : compF Tryz.prog 104 = some F104 := by kernel_rfl
theorem c105 : compF Tryz.prog 105 = some F105 := by kernel_rfl
theorem c106 : compF Tryz.prog 106 = some F106 := by kernel_rfl
theorem c107 : compF Tryz.prog 107 = some F107 := by kernel_rfl
theorem c108 : compF Tryz.prog 108 = some F108 := by kernel_rfl
theorem c109 : compF Tryz.prog 109 = some F109 := by kernel_rfl
theorem c110 : compF Tryz.prog 110 = some F110 := by kernel_rfl
theorem c111 : compF Tryz.prog 111 = some F111 := by kernel_rfl
theorem c112 : compF Tryz.prog 112 = some F112 := by kernel_rfl
theorem c113 : compF Tryz.prog 113 = some F113 := by kernel_rfl
theorem c114 : compF Tryz.prog 114 = some F114 := by kernel_rfl
theorem c115 : compF Tryz.prog 115 = some F115 := by kernel_rfl
theorem c116 : compF Tryz.prog 116 = some F116 := by kernel_rfl
theorem c117 : compF Tryz.prog 117 = some F117 := by kernel_rfl
theorem c118 : compF Tryz.prog 118 = some F118 := by kernel_rfl
theorem c119 : compF Tryz.prog 119 = some F119 := by kernel_rfl
theorem c120 : compF Tryz.prog 120 = some F120 := by kernel_rfl
theorem c121 : compF Tryz.prog 121 = some F121 := by kernel_rfl
theorem c122 : compF Tryz.prog 122 = some F122 := by kernel_rfl
theorem c123 : compF Tryz.prog 123 = some F123 := by kernel_rfl
theorem c124 : compF Tryz.prog 124 = some F124 := by kernel_rfl
theorem c125 : compF Tryz.prog 125 = some F125 := by kernel_rfl
theorem c126 : compF Tryz.prog 126 = some F126 := by kernel_rfl
theorem c127 : compF Tryz.prog 127 = some F127 := by kernel_rfl
theorem c128 : compF Tryz.prog 128 = some F128 := by kernel_rfl
theorem c129 : compF Tryz.prog 129 = some F129 := by kernel_rfl
theorem c130 : compF Tryz.prog 130 = some F130 := by kernel_rfl
end A
end Go.Proofs.YtfcimcoanlgldaaGreat
