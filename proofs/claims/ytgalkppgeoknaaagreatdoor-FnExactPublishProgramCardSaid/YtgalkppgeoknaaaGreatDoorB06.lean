import Derived.Test.YtgalkppgeoknaaaGreatDoorRows
import Derived.Test.YtgalkppgeoknaaaGreatDoorB05

/-
  The functions of the seat in the small language: printed by a program (wip/tools/irdump.lean), each held against the model's code. No condition.
-/
set_option linter.unusedVariables false
set_option linter.unusedSimpArgs false
namespace Go.Proofs.YtgalkppgeoknaaaGreatDoor
namespace A
set_option linter.unusedVariables false
def F3 : Fun := ⟨129,
 .seq (.reg [o 7 (.box 2 (.t 3)),o 8 (.mv (.c (.bool false)))])
 (.seq (.reg [o 9 (.mv (.c (.int .i64 1048576)))])
 (.seq (.reg [o 21 (.mv (.t 0)),o 22 (.mv (.t 9)),o 23 (.call 5 [.t 21,.t 22]),o 9 (.mv (.t 23))])
 (.seq (.seq (.reg [o 24 (.mv (.t 9)),o 25 (.bin .lss (.t 24) (.c (.int .i64 0)))])
 (.cond (.t 25) (.seq (.reg [o 8 (.mv (.c (.bool true)))])
 .ret) .skip))
 (.seq (.reg [o 26 (.load (some 2) (.t 7)),o 27 (.mv (.t 9)),o 28 (.call 6 [.t 26,.t 27]),o 9 (.mv (.t 28))])
 (.seq (.seq (.reg [o 29 (.mv (.t 9)),o 30 (.bin .lss (.t 29) (.c (.int .i64 0)))])
 (.cond (.t 30) (.seq (.reg [o 8 (.mv (.c (.bool true)))])
 .ret) .skip))
 (.seq (.draw [o 32 (.mv (.t 0)),o 33 (.callF 8 [.t 32]),o 34 (.mv (.t 1)),o 35 (.mv (.t 2)),o 36 (.load (some 2) (.t 7)),o 37 (.callF 9 [.t 36]),o 38 (.callF 7 [.t 33,.t 34,.t 35,.t 37]),o 31 (.mv (.t 38)),o 39 (.extract (.t 31) 0),o 40 (.extract (.t 31) 1),o 10 (.mv (.t 39)),o 11 (.mv (.t 40))])
 (.seq (.reg [o 41 (.mv (.t 0)),o 42 (.call 8 [.t 41]),o 12 (.mv (.t 42))])
 (.seq (.reg [o 43 (.load (some 2) (.t 7)),o 44 (.call 9 [.t 43]),o 13 (.new 2 [.nsl,.nsl]),st (.store 2 (.t 13) (.t 44))])
 (.seq (.reg [o 46 (.mv (.t 12)),o 47 (.mv (.t 1)),o 48 (.mv (.t 2)),o 49 (.load (some 2) (.t 13)),o 50 (.call 10 [.t 46,.t 47,.t 48,.t 49]),o 45 (.mv (.t 50)),o 51 (.extract (.t 45) 0),o 52 (.extract (.t 45) 1),o 14 (.mv (.t 51)),o 15 (.mv (.t 52))])
 (.seq (.seq (.reg [o 53 (.mv (.t 14)),o 54 (.mv (.t 10)),o 55 (.call 11 [.t 53,.t 54]),o 56 (.un .not (.t 55)),o 57 (.mv (.t 56)),og 58 (.mv (.t 15)) 57 false,og 59 (.mv (.t 11)) 57 false,og 60 (.binb .neq (.t 58) (.t 59)) 57 false,o 61 (.pick (.t 57) (.c (.bool true)) (.t 60))])
 (.cond (.t 61) (.seq (.reg [o 8 (.mv (.c (.bool false)))])
 .ret) .skip))
 (.seq (.seq (.reg [o 62 (.mv (.t 12)),o 63 (.mv (.t 0)),o 64 (.call 8 [.t 63]),o 65 (.call 11 [.t 62,.t 64]),o 66 (.un .not (.t 65))])
 (.cond (.t 66) (.seq (.reg [o 8 (.mv (.c (.bool false)))])
 .ret) .skip))
 (.seq (.seq (.draw [o 67 (.load (some 2) (.t 13)),o 68 (.load (some 2) (.t 7)),o 69 (.callF 9 [.t 68]),o 70 (.callF 12 [.t 67,.t 69]),o 71 (.un .not (.t 70))])
 (.cond (.t 71) (.seq (.reg [o 8 (.mv (.c (.bool false)))])
 .ret) .skip))
 (.seq (.reg [o 16 (.mv (.c (.int .i64 1)))])
 (.seq (.reg [o 72 (.mv (.t 12)),o 73 (.mv (.t 16)),o 74 (.call 13 [.t 72,.t 73]),o 16 (.mv (.t 74))])
 (.seq (.reg [o 75 (.load (some 2) (.t 13)),o 76 (.mv (.t 16)),o 77 (.call 14 [.t 75,.t 76]),o 16 (.mv (.t 77))])
 (.seq (.seq (.reg [o 78 (.mv (.t 16)),o 79 (.bin .lss (.t 78) (.c (.int .i64 0))),o 80 (.mv (.t 79)),og 81 (.mv (.t 14)) 80 false,og 82 (.mv (.t 10)) 80 false,og 83 (.call 11 [.t 81,.t 82]) 80 false,og 84 (.un .not (.t 83)) 80 false,o 85 (.pick (.t 80) (.c (.bool true)) (.t 84)),o 86 (.mv (.t 85)),og 87 (.mv (.t 15)) 86 false,og 88 (.mv (.t 11)) 86 false,og 89 (.binb .neq (.t 87) (.t 88)) 86 false,o 90 (.pick (.t 86) (.c (.bool true)) (.t 89))])
 (.cond (.t 90) (.seq (.reg [o 8 (.mv (.c (.bool false)))])
 .ret) .skip))
 (.seq (.reg [o 17 (.mv (.c (.int .i64 1)))])
 (.seq (.reg [o 91 (.mv (.t 14)),o 92 (.mv (.t 17)),o 93 (.call 13 [.t 91,.t 92]),o 17 (.mv (.t 93))])
 (.seq (.reg [o 18 (.mv (.c (.int .i64 1)))])
 (.seq (.reg [o 94 (.mv (.t 14)),o 95 (.mv (.t 18)),o 96 (.call 15 [.t 94,.t 95]),o 18 (.mv (.t 96))])
 (.seq (.seq (.reg [o 97 (.mv (.t 18)),o 98 (.bin .lss (.t 97) (.c (.int .i64 0)))])
 (.cond (.t 98) (.seq (.reg [o 8 (.mv (.c (.bool false)))])
 .ret) .skip))
 (.seq (.seq (.reg [o 99 (.mv (.t 18)),o 100 (.mv (.t 17)),o 101 (.bin .neq (.t 99) (.t 100))])
 (.cond (.t 101) (.seq (.reg [o 8 (.mv (.c (.bool false)))])
 .ret) .skip))
 (.seq (.draw [o 103 (.mv (.t 0)),o 104 (.callF 8 [.t 103]),o 105 (.mv (.t 1)),o 106 (.mv (.t 2)),o 107 (.load (some 2) (.t 7)),o 108 (.callF 9 [.t 107]),o 109 (.callF 10 [.t 104,.t 105,.t 106,.t 108]),o 102 (.mv (.t 109)),o 110 (.extract (.t 102) 0),o 111 (.extract (.t 102) 1),o 19 (.mv (.t 110)),o 20 (.mv (.t 111))])
 (.seq (.seq (.reg [o 112 (.mv (.t 19)),o 113 (.mv (.t 10)),o 114 (.call 11 [.t 112,.t 113]),o 115 (.un .not (.t 114)),o 116 (.mv (.t 115)),og 117 (.mv (.t 20)) 116 false,og 118 (.mv (.t 11)) 116 false,og 119 (.binb .neq (.t 117) (.t 118)) 116 false,o 120 (.pick (.t 116) (.c (.bool true)) (.t 119))])
 (.cond (.t 120) (.seq (.reg [o 8 (.mv (.c (.bool false)))])
 .ret) .skip))
 (.seq (.reg [o 18 (.mv (.c (.int .i64 1)))])
 (.seq (.reg [o 121 (.mv (.t 14)),o 122 (.mv (.t 18)),o 123 (.call 15 [.t 121,.t 122]),o 18 (.mv (.t 123))])
 (.seq (.seq (.reg [o 124 (.mv (.t 18)),o 125 (.bin .lss (.t 124) (.c (.int .i64 0)))])
 (.cond (.t 125) (.seq (.reg [o 8 (.mv (.c (.bool false)))])
 .ret) .skip))
 (.seq (.seq (.reg [o 126 (.mv (.t 18)),o 127 (.mv (.t 17)),o 128 (.bin .neq (.t 126) (.t 127))])
 (.cond (.t 128) (.seq (.reg [o 8 (.mv (.c (.bool false)))])
 .ret) .skip))
 (.seq (.reg [o 8 (.mv (.c (.bool true)))])
 .ret))))))))))))))))))))))))))))),
 [.tmp 8]⟩
def F5 : Fun := ⟨27,
 .seq (.reg [o 4 (.mv (.c (.int .i64 0)))])
 (.seq (.reg [o 6 (.mv (.t 1)),o 7 (.mv (.t 0)),o 8 (.lenL (.t 7)),o 9 (.bin .sub (.t 6) (.t 8)),o 1 (.mv (.t 9))])
 (.seq (.seq (.reg [o 10 (.mv (.t 1)),o 11 (.bin .lss (.t 10) (.c (.int .i64 0)))])
 (.cond (.t 11) (.seq (.reg [o 4 (.mv (.c (.int .i64 (-1))))])
 .ret) .skip))
 (.seq (.seq (.reg [o 5 (.mv (.c (.int .i64 0)))])
 (.block 0 (.loop (.seq (.seq (.reg [o 12 (.mv (.t 5)),o 13 (.mv (.t 0)),o 14 (.lenL (.t 13)),o 15 (.bin .lss (.t 12) (.t 14))])
 (.cond (.t 15) .skip (.exit 0)))
 (.seq (.block 1 (.seq (.reg [o 18 (.mv (.t 0)),o 19 (.mv (.t 5)),o 20 (.iaddr 4 (.t 18) (.t 19)),o 21 (.load (some 4) (.t 20)),o 22 (.mv (.t 1)),o 23 (.call 19 [.t 21,.t 22]),o 1 (.mv (.t 23))])
 (.seq (.reg [o 24 (.mv (.t 1)),o 25 (.bin .lss (.t 24) (.c (.int .i64 0)))])
 (.cond (.t 25) (.seq (.reg [o 4 (.mv (.c (.int .i64 (-1))))])
 .ret) .skip))))
 (.reg [o 16 (.mv (.t 5)),o 17 (.bin .add (.t 16) (.c (.int .i64 1))),o 5 (.mv (.t 17))]))))))
 (.seq (.reg [o 26 (.mv (.t 1)),o 4 (.mv (.t 26))])
 .ret)))),
 [.tmp 4]⟩
def F6 : Fun := ⟨18,
 .seq (.reg [o 2 (.box 2 (.t 0)),o 4 (.mv (.c (.int .i64 0)))])
 (.seq (.reg [o 5 (.faddr 0 (.t 2)),o 6 (.load none (.t 5)),o 7 (.mv (.t 1)),o 8 (.call 20 [.t 6,.t 7]),o 1 (.mv (.t 8))])
 (.seq (.seq (.reg [o 9 (.mv (.t 1)),o 10 (.bin .lss (.t 9) (.c (.int .i64 0)))])
 (.cond (.t 10) (.seq (.reg [o 4 (.mv (.c (.int .i64 (-1))))])
 .ret) .skip))
 (.seq (.reg [o 11 (.faddr 1 (.t 2)),o 12 (.load none (.t 11)),o 13 (.mv (.t 1)),o 14 (.call 21 [.t 12,.t 13]),o 1 (.mv (.t 14))])
 (.seq (.seq (.reg [o 15 (.mv (.t 1)),o 16 (.bin .lss (.t 15) (.c (.int .i64 0)))])
 (.cond (.t 16) (.seq (.reg [o 4 (.mv (.c (.int .i64 (-1))))])
 .ret) .skip))
 (.seq (.reg [o 17 (.mv (.t 1)),o 4 (.mv (.t 17))])
 .ret))))),
 [.tmp 4]⟩
def F7 : Fun := ⟨39,
 .seq (.reg [o 7 (.box 2 (.t 3)),o 8 (.mv (.c .nsl)),o 9 (.mv (.c (.bool false)))])
 (.seq (.reg [o 15 (.load (some 2) (.t 7)),o 16 (.call 22 [.t 15]),o 14 (.mv (.t 16)),o 17 (.extract (.t 14) 0),o 18 (.extract (.t 14) 1),o 10 (.mv (.t 17)),o 11 (.mv (.t 18))])
 (.seq (.reg [o 20 (.mv (.t 10)),o 21 (.call 23 [.t 20]),o 19 (.mv (.t 21)),o 22 (.extract (.t 19) 0),o 23 (.extract (.t 19) 1),o 12 (.mv (.t 22)),o 13 (.mv (.t 23))])
 (.seq (.seq (.reg [o 24 (.mv (.t 11)),o 25 (.un .not (.t 24)),o 26 (.mv (.t 25)),og 27 (.mv (.t 13)) 26 false,og 28 (.un .not (.t 27)) 26 false,o 29 (.pick (.t 26) (.c (.bool true)) (.t 28))])
 (.cond (.t 29) (.seq (.reg [o 30 (.mv (.t 0)),o 31 (.call 24 [.t 30]),o 8 (.mv (.t 31)),o 9 (.mv (.c (.bool false)))])
 .ret) .skip))
 (.seq (.reg [o 32 (.mv (.t 0)),o 33 (.mv (.t 1)),o 34 (.mv (.t 2)),o 35 (.mv (.t 12)),o 36 (.call 25 [.t 32,.t 33,.t 34,.t 35]),o 37 (.extract (.t 36) 0),o 38 (.extract (.t 36) 1),o 8 (.mv (.t 37)),o 9 (.mv (.t 38))])
 .ret)))),
 [.tmp 8,.tmp 9]⟩
def F8 : Fun := ⟨23,
 .seq (.reg [o 2 (.mv (.c .nsl))])
 (.seq (.reg [o 5 (.mv (.t 0)),o 6 (.lenL (.t 5)),o 7 (.mkslice 4 [.int .i64 0,.int .i64 0,.int .i64 0,.nsl] 48 (.t 6) (.t 6)),o 3 (.mv (.t 7))])
 (.seq (.seq (.reg [o 4 (.mv (.c (.int .i64 0)))])
 (.block 0 (.loop (.seq (.seq (.reg [o 8 (.mv (.t 4)),o 9 (.mv (.t 0)),o 10 (.lenL (.t 9)),o 11 (.bin .lss (.t 8) (.t 10))])
 (.cond (.t 11) .skip (.exit 0)))
 (.seq (.block 1 (.reg [o 14 (.mv (.t 3)),o 15 (.mv (.t 4)),o 16 (.mv (.t 0)),o 17 (.mv (.t 4)),o 18 (.iaddr 4 (.t 16) (.t 17)),o 19 (.load (some 4) (.t 18)),o 20 (.call 26 [.t 19]),o 21 (.iaddr 4 (.t 14) (.t 15)),st (.store 4 (.t 21) (.t 20))]))
 (.reg [o 12 (.mv (.t 4)),o 13 (.bin .add (.t 12) (.c (.int .i64 1))),o 4 (.mv (.t 13))]))))))
 (.seq (.reg [o 22 (.mv (.t 3)),o 2 (.mv (.t 22))])
 .ret))),
 [.tmp 2]⟩
def F9 : Fun := ⟨13,
 .seq (.reg [o 1 (.box 2 (.t 0)),o 2 (.new 2 [.nsl,.nsl])])
 (.seq (.reg [o 3 (.new 2 [.nsl,.nsl])])
 (.seq (.reg [o 4 (.faddr 0 (.t 1)),o 5 (.load none (.t 4)),o 6 (.call 27 [.t 5]),o 7 (.faddr 0 (.t 3)),st (.store 1 (.t 7) (.t 6))])
 (.seq (.reg [o 8 (.faddr 1 (.t 1)),o 9 (.load none (.t 8)),o 10 (.call 28 [.t 9]),o 11 (.faddr 1 (.t 3)),st (.store 1 (.t 11) (.t 10))])
 (.seq (.reg [o 12 (.load (some 2) (.t 3)),st (.store 2 (.t 2) (.t 12))])
 .ret)))),
 [.cell 2 (some 2)]⟩
def F11 : Fun := ⟨27,
 .seq (.reg [o 4 (.mv (.c (.bool false)))])
 (.seq (.seq (.reg [o 6 (.mv (.t 0)),o 7 (.lenL (.t 6)),o 8 (.mv (.t 1)),o 9 (.lenL (.t 8)),o 10 (.bin .neq (.t 7) (.t 9))])
 (.cond (.t 10) (.seq (.reg [o 4 (.mv (.c (.bool false)))])
 .ret) .skip))
 (.seq (.seq (.reg [o 5 (.mv (.c (.int .i64 0)))])
 (.block 0 (.loop (.seq (.seq (.reg [o 11 (.mv (.t 5)),o 12 (.mv (.t 0)),o 13 (.lenL (.t 12)),o 14 (.bin .lss (.t 11) (.t 13))])
 (.cond (.t 14) .skip (.exit 0)))
 (.seq (.block 1 (.seq (.reg [o 17 (.mv (.t 0)),o 18 (.mv (.t 5)),o 19 (.iaddr 4 (.t 17) (.t 18)),o 20 (.load (some 4) (.t 19)),o 21 (.mv (.t 1)),o 22 (.mv (.t 5)),o 23 (.iaddr 4 (.t 21) (.t 22)),o 24 (.load (some 4) (.t 23)),o 25 (.callF 33 [.t 20,.t 24]),o 26 (.un .not (.t 25))])
 (.cond (.t 26) (.seq (.reg [o 4 (.mv (.c (.bool false)))])
 .ret) .skip)))
 (.reg [o 15 (.mv (.t 5)),o 16 (.bin .add (.t 15) (.c (.int .i64 1))),o 5 (.mv (.t 16))]))))))
 (.seq (.reg [o 4 (.mv (.c (.bool true)))])
 .ret))),
 [.tmp 4]⟩
def F12 : Fun := ⟨17,
 .seq (.reg [o 2 (.box 2 (.t 0)),o 3 (.box 2 (.t 1)),o 4 (.mv (.c (.bool false)))])
 (.seq (.seq (.reg [o 5 (.faddr 0 (.t 2)),o 6 (.load none (.t 5)),o 7 (.faddr 0 (.t 3)),o 8 (.load none (.t 7)),o 9 (.call 34 [.t 6,.t 8]),o 10 (.un .not (.t 9))])
 (.cond (.t 10) (.seq (.reg [o 4 (.mv (.c (.bool false)))])
 .ret) .skip))
 (.seq (.seq (.reg [o 11 (.faddr 1 (.t 2)),o 12 (.load none (.t 11)),o 13 (.faddr 1 (.t 3)),o 14 (.load none (.t 13)),o 15 (.call 35 [.t 12,.t 14]),o 16 (.un .not (.t 15))])
 (.cond (.t 16) (.seq (.reg [o 4 (.mv (.c (.bool false)))])
 .ret) .skip))
 (.seq (.reg [o 4 (.mv (.c (.bool true)))])
 .ret))),
 [.tmp 4]⟩
def F13 : Fun := ⟨41,
 .seq (.reg [o 4 (.mv (.c (.int .i64 0)))])
 (.seq (.seq (.reg [o 5 (.mv (.c (.int .i64 0)))])
 (.block 0 (.loop (.seq (.seq (.reg [o 6 (.mv (.t 5)),o 7 (.mv (.t 0)),o 8 (.lenL (.t 7)),o 9 (.bin .lss (.t 6) (.t 8))])
 (.cond (.t 9) .skip (.exit 0)))
 (.seq (.block 1 (.seq (.reg [o 12 (.mv (.t 0)),o 13 (.mv (.t 5)),o 14 (.mv (.t 1)),o 15 (.iaddr 4 (.t 12) (.t 13)),o 16 (.faddr 0 (.t 15)),st (.store 1 (.t 16) (.t 14))])
 (.seq (.reg [o 17 (.mv (.t 1)),o 18 (.bin .add (.t 17) (.c (.int .i64 1))),o 1 (.mv (.t 18))])
 (.seq (.reg [o 19 (.mv (.t 0)),o 20 (.mv (.t 5)),o 21 (.mv (.t 1)),o 22 (.iaddr 4 (.t 19) (.t 20)),o 23 (.faddr 1 (.t 22)),st (.store 1 (.t 23) (.t 21))])
 (.seq (.reg [o 24 (.mv (.t 1)),o 25 (.bin .add (.t 24) (.c (.int .i64 1))),o 1 (.mv (.t 25))])
 (.seq (.reg [o 26 (.mv (.t 0)),o 27 (.mv (.t 5)),o 28 (.mv (.t 1)),o 29 (.iaddr 4 (.t 26) (.t 27)),o 30 (.faddr 2 (.t 29)),st (.store 1 (.t 30) (.t 28))])
 (.seq (.reg [o 31 (.mv (.t 1)),o 32 (.bin .add (.t 31) (.c (.int .i64 1))),o 1 (.mv (.t 32))])
 (.reg [o 33 (.mv (.t 0)),o 34 (.mv (.t 5)),o 35 (.iaddr 4 (.t 33) (.t 34)),o 36 (.faddr 3 (.t 35)),o 37 (.load none (.t 36)),o 38 (.mv (.t 1)),o 39 (.call 36 [.t 37,.t 38]),o 1 (.mv (.t 39))]))))))))
 (.reg [o 10 (.mv (.t 5)),o 11 (.bin .add (.t 10) (.c (.int .i64 1))),o 5 (.mv (.t 11))]))))))
 (.seq (.reg [o 40 (.mv (.t 1)),o 4 (.mv (.t 40))])
 .ret)),
 [.tmp 4]⟩
def F14 : Fun := ⟨14,
 .seq (.reg [o 2 (.box 2 (.t 0)),o 4 (.mv (.c (.int .i64 0)))])
 (.seq (.reg [o 5 (.faddr 0 (.t 2)),o 6 (.load none (.t 5)),o 7 (.mv (.t 1)),o 8 (.call 37 [.t 6,.t 7]),o 1 (.mv (.t 8))])
 (.seq (.reg [o 9 (.faddr 1 (.t 2)),o 10 (.load none (.t 9)),o 11 (.mv (.t 1)),o 12 (.call 38 [.t 10,.t 11]),o 1 (.mv (.t 12))])
 (.seq (.reg [o 13 (.mv (.t 1)),o 4 (.mv (.t 13))])
 .ret))),
 [.tmp 4]⟩
def F15 : Fun := ⟨49,
 .seq (.reg [o 4 (.mv (.c (.int .i64 0)))])
 (.seq (.seq (.reg [o 5 (.mv (.c (.int .i64 0)))])
 (.block 0 (.loop (.seq (.seq (.reg [o 6 (.mv (.t 5)),o 7 (.mv (.t 0)),o 8 (.lenL (.t 7)),o 9 (.bin .lss (.t 6) (.t 8))])
 (.cond (.t 9) .skip (.exit 0)))
 (.seq (.block 1 (.seq (.seq (.reg [o 12 (.mv (.t 0)),o 13 (.mv (.t 5)),o 14 (.iaddr 4 (.t 12) (.t 13)),o 15 (.faddr 0 (.t 14)),o 16 (.load none (.t 15)),o 17 (.mv (.t 1)),o 18 (.bin .neq (.t 16) (.t 17))])
 (.cond (.t 18) (.seq (.reg [o 4 (.mv (.c (.int .i64 (-1))))])
 .ret) .skip))
 (.seq (.reg [o 19 (.mv (.t 1)),o 20 (.bin .add (.t 19) (.c (.int .i64 1))),o 1 (.mv (.t 20))])
 (.seq (.seq (.reg [o 21 (.mv (.t 0)),o 22 (.mv (.t 5)),o 23 (.iaddr 4 (.t 21) (.t 22)),o 24 (.faddr 1 (.t 23)),o 25 (.load none (.t 24)),o 26 (.mv (.t 1)),o 27 (.bin .neq (.t 25) (.t 26))])
 (.cond (.t 27) (.seq (.reg [o 4 (.mv (.c (.int .i64 (-1))))])
 .ret) .skip))
 (.seq (.reg [o 28 (.mv (.t 1)),o 29 (.bin .add (.t 28) (.c (.int .i64 1))),o 1 (.mv (.t 29))])
 (.seq (.seq (.reg [o 30 (.mv (.t 0)),o 31 (.mv (.t 5)),o 32 (.iaddr 4 (.t 30) (.t 31)),o 33 (.faddr 2 (.t 32)),o 34 (.load none (.t 33)),o 35 (.mv (.t 1)),o 36 (.bin .neq (.t 34) (.t 35))])
 (.cond (.t 36) (.seq (.reg [o 4 (.mv (.c (.int .i64 (-1))))])
 .ret) .skip))
 (.seq (.reg [o 37 (.mv (.t 1)),o 38 (.bin .add (.t 37) (.c (.int .i64 1))),o 1 (.mv (.t 38))])
 (.seq (.reg [o 39 (.mv (.t 0)),o 40 (.mv (.t 5)),o 41 (.iaddr 4 (.t 39) (.t 40)),o 42 (.faddr 3 (.t 41)),o 43 (.load none (.t 42)),o 44 (.mv (.t 1)),o 45 (.call 39 [.t 43,.t 44]),o 1 (.mv (.t 45))])
 (.seq (.reg [o 46 (.mv (.t 1)),o 47 (.bin .lss (.t 46) (.c (.int .i64 0)))])
 (.cond (.t 47) (.seq (.reg [o 4 (.mv (.c (.int .i64 (-1))))])
 .ret) .skip))))))))))
 (.reg [o 10 (.mv (.t 5)),o 11 (.bin .add (.t 10) (.c (.int .i64 1))),o 5 (.mv (.t 11))]))))))
 (.seq (.reg [o 48 (.mv (.t 1)),o 4 (.mv (.t 48))])
 .ret)),
 [.tmp 4]⟩
def F19 : Fun := ⟨12,
 .seq (.reg [o 2 (.box 4 (.t 0)),o 4 (.mv (.c (.int .i64 0)))])
 (.seq (.reg [o 5 (.faddr 3 (.t 2)),o 6 (.load none (.t 5)),o 7 (.mv (.t 1)),o 8 (.call 48 [.t 6,.t 7]),o 1 (.mv (.t 8))])
 (.seq (.seq (.reg [o 9 (.mv (.t 1)),o 10 (.bin .lss (.t 9) (.c (.int .i64 0)))])
 (.cond (.t 10) (.seq (.reg [o 4 (.mv (.c (.int .i64 (-1))))])
 .ret) .skip))
 (.seq (.reg [o 11 (.mv (.t 1)),o 4 (.mv (.t 11))])
 .ret))),
 [.tmp 4]⟩
def F20 : Fun := ⟨27,
 .seq (.reg [o 4 (.mv (.c (.int .i64 0)))])
 (.seq (.reg [o 6 (.mv (.t 1)),o 7 (.mv (.t 0)),o 8 (.lenL (.t 7)),o 9 (.bin .sub (.t 6) (.t 8)),o 1 (.mv (.t 9))])
 (.seq (.seq (.reg [o 10 (.mv (.t 1)),o 11 (.bin .lss (.t 10) (.c (.int .i64 0)))])
 (.cond (.t 11) (.seq (.reg [o 4 (.mv (.c (.int .i64 (-1))))])
 .ret) .skip))
 (.seq (.seq (.reg [o 5 (.mv (.c (.int .i64 0)))])
 (.block 0 (.loop (.seq (.seq (.reg [o 12 (.mv (.t 5)),o 13 (.mv (.t 0)),o 14 (.lenL (.t 13)),o 15 (.bin .lss (.t 12) (.t 14))])
 (.cond (.t 15) .skip (.exit 0)))
 (.seq (.block 1 (.seq (.reg [o 18 (.mv (.t 0)),o 19 (.mv (.t 5)),o 20 (.iaddr 6 (.t 18) (.t 19)),o 21 (.load (some 6) (.t 20)),o 22 (.mv (.t 1)),o 23 (.call 49 [.t 21,.t 22]),o 1 (.mv (.t 23))])
 (.seq (.reg [o 24 (.mv (.t 1)),o 25 (.bin .lss (.t 24) (.c (.int .i64 0)))])
 (.cond (.t 25) (.seq (.reg [o 4 (.mv (.c (.int .i64 (-1))))])
 .ret) .skip))))
 (.reg [o 16 (.mv (.t 5)),o 17 (.bin .add (.t 16) (.c (.int .i64 1))),o 5 (.mv (.t 17))]))))))
 (.seq (.reg [o 26 (.mv (.t 1)),o 4 (.mv (.t 26))])
 .ret)))),
 [.tmp 4]⟩
def F21 : Fun := ⟨27,
 .seq (.reg [o 4 (.mv (.c (.int .i64 0)))])
 (.seq (.reg [o 6 (.mv (.t 1)),o 7 (.mv (.t 0)),o 8 (.lenL (.t 7)),o 9 (.bin .sub (.t 6) (.t 8)),o 1 (.mv (.t 9))])
 (.seq (.seq (.reg [o 10 (.mv (.t 1)),o 11 (.bin .lss (.t 10) (.c (.int .i64 0)))])
 (.cond (.t 11) (.seq (.reg [o 4 (.mv (.c (.int .i64 (-1))))])
 .ret) .skip))
 (.seq (.seq (.reg [o 5 (.mv (.c (.int .i64 0)))])
 (.block 0 (.loop (.seq (.seq (.reg [o 12 (.mv (.t 5)),o 13 (.mv (.t 0)),o 14 (.lenL (.t 13)),o 15 (.bin .lss (.t 12) (.t 14))])
 (.cond (.t 15) .skip (.exit 0)))
 (.seq (.block 1 (.seq (.reg [o 18 (.mv (.t 0)),o 19 (.mv (.t 5)),o 20 (.iaddr 4 (.t 18) (.t 19)),o 21 (.load (some 4) (.t 20)),o 22 (.mv (.t 1)),o 23 (.call 50 [.t 21,.t 22]),o 1 (.mv (.t 23))])
 (.seq (.reg [o 24 (.mv (.t 1)),o 25 (.bin .lss (.t 24) (.c (.int .i64 0)))])
 (.cond (.t 25) (.seq (.reg [o 4 (.mv (.c (.int .i64 (-1))))])
 .ret) .skip))))
 (.reg [o 16 (.mv (.t 5)),o 17 (.bin .add (.t 16) (.c (.int .i64 1))),o 5 (.mv (.t 17))]))))))
 (.seq (.reg [o 26 (.mv (.t 1)),o 4 (.mv (.t 26))])
 .ret)))),
 [.tmp 4]⟩
def F22 : Fun := ⟨10,
 .seq (.reg [o 1 (.box 2 (.t 0)),o 2 (.mv (.c .nsl)),o 3 (.mv (.c (.bool false)))])
 (.seq (.seq (.reg [o 4 (.load (some 2) (.t 1)),o 5 (.call 51 [.t 4]),o 6 (.un .not (.t 5))])
 (.cond (.t 6) (.seq (.reg [o 7 (.bslice 1 [.int .u8 0] 0 []),o 2 (.mv (.t 7)),o 3 (.mv (.c (.bool false)))])
 .ret) .skip))
 (.seq (.reg [o 8 (.load (some 2) (.t 1)),o 9 (.call 52 [.t 8]),o 2 (.mv (.t 9)),o 3 (.mv (.c (.bool true)))])
 .ret)),
 [.tmp 2,.tmp 3]⟩
def F23 : Fun := ⟨50,
 .seq (.reg [o 2 (.mv (.c .nsl)),o 3 (.mv (.c (.bool false)))])
 (.seq (.reg [o 8 (.bslice 1 [.int .i64 0] 0 []),o 4 (.mv (.t 8))])
 (.seq (.seq (.reg [o 9 (.mv (.t 0)),o 10 (.lenL (.t 9)),o 11 (.bin .gtr (.t 10) (.c (.int .i64 24000)))])
 (.cond (.t 11) (.seq (.reg [o 12 (.mv (.t 4)),o 2 (.mv (.t 12)),o 3 (.mv (.c (.bool false)))])
 .ret) .skip))
 (.seq (.reg [o 13 (.mv (.t 4)),o 14 (.mv (.t 0)),o 15 (.lenL (.t 14)),o 16 (.bslice 1 [.int .i64 0] 1 [(0,(.t 15))]),o 17 (.append 1 8 (.t 13) (.t 16)),o 4 (.mv (.t 17))])
 (.seq (.seq (.reg [o 5 (.mv (.c (.int .i64 0)))])
 (.block 0 (.loop (.seq (.seq (.reg [o 18 (.mv (.t 5)),o 19 (.mv (.t 0)),o 20 (.lenL (.t 19)),o 21 (.bin .lss (.t 18) (.t 20))])
 (.cond (.t 21) .skip (.exit 0)))
 (.seq (.block 1 (.seq (.reg [o 6 (.mv (.c (.int .i64 0)))])
 (.seq (.seq (.reg [o 7 (.mv (.c (.int .i64 0)))])
 (.block 2 (.loop (.seq (.seq (.reg [o 24 (.mv (.t 7)),o 25 (.bin .lss (.t 24) (.c (.int .i64 6)))])
 (.cond (.t 25) .skip (.exit 2)))
 (.seq (.block 3 (.seq (.reg [o 28 (.mv (.t 6)),o 29 (.bin .mul (.t 28) (.c (.int .i64 256))),o 6 (.mv (.t 29))])
 (.seq (.reg [o 30 (.mv (.t 5)),o 31 (.mv (.t 7)),o 32 (.bin .add (.t 30) (.t 31)),o 33 (.mv (.t 0)),o 34 (.lenL (.t 33)),o 35 (.bin .lss (.t 32) (.t 34))])
 (.cond (.t 35) (.reg [o 36 (.mv (.t 6)),o 37 (.mv (.t 0)),o 38 (.mv (.t 5)),o 39 (.mv (.t 7)),o 40 (.bin .add (.t 38) (.t 39)),o 41 (.iaddr 1 (.t 37) (.t 40)),o 42 (.load none (.t 41)),o 43 (.toInt .i64 (.t 42)),o 44 (.bin .add (.t 36) (.t 43)),o 6 (.mv (.t 44))]) .skip))))
 (.reg [o 26 (.mv (.t 7)),o 27 (.bin .add (.t 26) (.c (.int .i64 1))),o 7 (.mv (.t 27))]))))))
 (.reg [o 45 (.mv (.t 4)),o 46 (.mv (.t 6)),o 47 (.bslice 1 [.int .i64 0] 1 [(0,(.t 46))]),o 48 (.append 1 8 (.t 45) (.t 47)),o 4 (.mv (.t 48))]))))
 (.reg [o 22 (.mv (.t 5)),o 23 (.bin .add (.t 22) (.c (.int .i64 6))),o 5 (.mv (.t 23))]))))))
 (.seq (.reg [o 49 (.mv (.t 4)),o 2 (.mv (.t 49)),o 3 (.mv (.c (.bool true)))])
 .ret))))),
 [.tmp 2,.tmp 3]⟩
def F24 : Fun := ⟨30,
 .seq (.reg [o 2 (.mv (.c .nsl))])
 (.seq (.reg [o 6 (.bslice 4 [.int .i64 0,.int .i64 0,.int .i64 0,.nsl] 0 []),o 3 (.mv (.t 6))])
 (.seq (.seq (.reg [o 4 (.mv (.c (.int .i64 0)))])
 (.block 0 (.loop (.seq (.seq (.reg [o 7 (.mv (.t 4)),o 8 (.mv (.t 0)),o 9 (.lenL (.t 8)),o 10 (.bin .lss (.t 7) (.t 9))])
 (.cond (.t 10) .skip (.exit 0)))
 (.seq (.block 1 (.seq (.reg [o 13 (.mv (.t 0)),o 14 (.mv (.t 4)),o 15 (.iaddr 4 (.t 13) (.t 14)),o 16 (.load (some 4) (.t 15)),o 5 (.new 4 [.int .i64 0,.int .i64 0,.int .i64 0,.nsl]),st (.store 4 (.t 5) (.t 16))])
 (.seq (.reg [o 17 (.bslice 1 [.int .i64 0] 0 []),o 18 (.mv (.t 0)),o 19 (.mv (.t 4)),o 20 (.iaddr 4 (.t 18) (.t 19)),o 21 (.faddr 3 (.t 20)),o 22 (.load none (.t 21)),o 23 (.append 1 8 (.t 17) (.t 22)),o 24 (.faddr 3 (.t 5)),st (.store 1 (.t 24) (.t 23))])
 (.reg [o 25 (.mv (.t 3)),o 26 (.load (some 4) (.t 5)),o 27 (.bslice 4 [.int .i64 0,.int .i64 0,.int .i64 0,.nsl] 1 [(0,(.t 26))]),o 28 (.append 4 48 (.t 25) (.t 27)),o 3 (.mv (.t 28))]))))
 (.reg [o 11 (.mv (.t 4)),o 12 (.bin .add (.t 11) (.c (.int .i64 1))),o 4 (.mv (.t 12))]))))))
 (.seq (.reg [o 29 (.mv (.t 3)),o 2 (.mv (.t 29))])
 .ret))),
 [.tmp 2]⟩
def F25 : Fun := ⟨67,
 .seq (.reg [o 8 (.mv (.c .nsl)),o 9 (.mv (.c (.bool false)))])
 (.seq (.reg [o 11 (.mv (.t 0)),o 12 (.call 24 [.t 11]),o 10 (.mv (.t 12))])
 (.seq (.seq (.reg [o 13 (.mv (.t 0)),o 14 (.call 53 [.t 13]),o 15 (.un .not (.t 14)),o 16 (.mv (.t 15)),og 17 (.mv (.t 1)) 16 false,og 18 (.mv (.t 0)) 16 false,og 19 (.lenL (.t 18)) 16 false,og 20 (.bin .sub (.t 19) (.c (.int .i64 1))) 16 false,og 21 (.call 54 [.t 17,.c (.int .i64 0),.t 20]) 16 false,og 22 (.un .not (.t 21)) 16 false,o 23 (.pick (.t 16) (.c (.bool true)) (.t 22)),o 24 (.mv (.t 23)),og 25 (.mv (.t 0)) 24 false,og 26 (.mv (.t 1)) 24 false,og 27 (.iaddr 4 (.t 25) (.t 26)) 24 false,og 28 (.faddr 0 (.t 27)) 24 false,og 29 (.load none (.t 28)) 24 false,og 30 (.bin .rem (.t 29) (.c (.int .i64 2))) 24 false,og 31 (.bin .eql (.t 30) (.c (.int .i64 1))) 24 false,o 32 (.pick (.t 24) (.c (.bool true)) (.t 31)),o 33 (.mv (.t 32)),og 34 (.mv (.t 0)) 33 false,og 35 (.mv (.t 1)) 33 false,og 36 (.iaddr 4 (.t 34) (.t 35)) 33 false,og 37 (.faddr 0 (.t 36)) 33 false,og 38 (.load none (.t 37)) 33 false,og 39 (.bin .gtr (.t 38) (.c (.int .i64 999999999998))) 33 false,o 40 (.pick (.t 33) (.c (.bool true)) (.t 39)),o 41 (.mv (.t 40)),og 42 (.mv (.t 2)) 41 false,og 43 (.call 54 [.t 42,.c (.int .i64 1),.c (.int .i64 1000000000000)]) 41 false,og 44 (.un .not (.t 43)) 41 false,o 45 (.pick (.t 41) (.c (.bool true)) (.t 44)),o 46 (.mv (.t 45)),og 47 (.mv (.t 3)) 46 false,og 48 (.lenL (.t 47)) 46 false,og 49 (.bin .gtr (.t 48) (.c (.int .i64 4100))) 46 false,o 50 (.pick (.t 46) (.c (.bool true)) (.t 49))])
 (.cond (.t 50) (.seq (.reg [o 51 (.mv (.t 10)),o 8 (.mv (.t 51)),o 9 (.mv (.c (.bool false)))])
 .ret) .skip))
 (.seq (.reg [o 52 (.mv (.t 10)),o 53 (.mv (.t 1)),o 54 (.mv (.t 0)),o 55 (.mv (.t 1)),o 56 (.iaddr 4 (.t 54) (.t 55)),o 57 (.faddr 0 (.t 56)),o 58 (.load none (.t 57)),o 59 (.bin .add (.t 58) (.c (.int .i64 2))),o 60 (.mv (.t 2)),o 62 (.mv (.t 3)),o 61 (.bslice 1 [.int .i64 0] 0 []),st (.chk none (.t 57) (.t 58)),o 63 (.append 1 8 (.t 61) (.t 62)),st (.chk none (.t 57) (.t 58)),o 64 (.build [.int .i64 0,.int .i64 0,.int .i64 0,.nsl] [(0,1,(.t 59)),(2,1,(.t 60)),(3,1,(.t 63))]),o 65 (.iaddr 4 (.t 52) (.t 53)),st (.store 4 (.t 65) (.t 64))])
 (.seq (.reg [o 66 (.mv (.t 10)),o 8 (.mv (.t 66)),o 9 (.mv (.c (.bool true)))])
 .ret)))),
 [.tmp 8,.tmp 9]⟩
def F26 : Fun := ⟨18,
 .seq (.reg [o 1 (.box 4 (.t 0)),o 2 (.new 4 [.int .i64 0,.int .i64 0,.int .i64 0,.nsl])])
 (.seq (.reg [o 3 (.new 4 [.int .i64 0,.int .i64 0,.int .i64 0,.nsl])])
 (.seq (.reg [o 4 (.faddr 0 (.t 1)),o 5 (.load none (.t 4)),o 6 (.faddr 0 (.t 3)),st (.store 1 (.t 6) (.t 5))])
 (.seq (.reg [o 7 (.faddr 1 (.t 1)),o 8 (.load none (.t 7)),o 9 (.faddr 1 (.t 3)),st (.store 1 (.t 9) (.t 8))])
 (.seq (.reg [o 10 (.faddr 2 (.t 1)),o 11 (.load none (.t 10)),o 12 (.faddr 2 (.t 3)),st (.store 1 (.t 12) (.t 11))])
 (.seq (.reg [o 13 (.faddr 3 (.t 1)),o 14 (.load none (.t 13)),o 15 (.call 55 [.t 14]),o 16 (.faddr 3 (.t 3)),st (.store 1 (.t 16) (.t 15))])
 (.seq (.reg [o 17 (.load (some 4) (.t 3)),st (.store 4 (.t 2) (.t 17))])
 .ret)))))),
 [.cell 2 (some 4)]⟩
def F27 : Fun := ⟨23,
 .seq (.reg [o 2 (.mv (.c .nsl))])
 (.seq (.reg [o 5 (.mv (.t 0)),o 6 (.lenL (.t 5)),o 7 (.mkslice 6 [.str [],.nsl,.nsl,.nsl,.bool false,.nsl] 120 (.t 6) (.t 6)),o 3 (.mv (.t 7))])
 (.seq (.seq (.reg [o 4 (.mv (.c (.int .i64 0)))])
 (.block 0 (.loop (.seq (.seq (.reg [o 8 (.mv (.t 4)),o 9 (.mv (.t 0)),o 10 (.lenL (.t 9)),o 11 (.bin .lss (.t 8) (.t 10))])
 (.cond (.t 11) .skip (.exit 0)))
 (.seq (.block 1 (.reg [o 14 (.mv (.t 3)),o 15 (.mv (.t 4)),o 16 (.mv (.t 0)),o 17 (.mv (.t 4)),o 18 (.iaddr 6 (.t 16) (.t 17)),o 19 (.load (some 6) (.t 18)),o 20 (.call 56 [.t 19]),o 21 (.iaddr 6 (.t 14) (.t 15)),st (.store 6 (.t 21) (.t 20))]))
 (.reg [o 12 (.mv (.t 4)),o 13 (.bin .add (.t 12) (.c (.int .i64 1))),o 4 (.mv (.t 13))]))))))
 (.seq (.reg [o 22 (.mv (.t 3)),o 2 (.mv (.t 22))])
 .ret))),
 [.tmp 2]⟩
def F28 : Fun := ⟨23,
 .seq (.reg [o 2 (.mv (.c .nsl))])
 (.seq (.reg [o 5 (.mv (.t 0)),o 6 (.lenL (.t 5)),o 7 (.mkslice 4 [.str [],.str [],.nsl,.nsl] 80 (.t 6) (.t 6)),o 3 (.mv (.t 7))])
 (.seq (.seq (.reg [o 4 (.mv (.c (.int .i64 0)))])
 (.block 0 (.loop (.seq (.seq (.reg [o 8 (.mv (.t 4)),o 9 (.mv (.t 0)),o 10 (.lenL (.t 9)),o 11 (.bin .lss (.t 8) (.t 10))])
 (.cond (.t 11) .skip (.exit 0)))
 (.seq (.block 1 (.reg [o 14 (.mv (.t 3)),o 15 (.mv (.t 4)),o 16 (.mv (.t 0)),o 17 (.mv (.t 4)),o 18 (.iaddr 4 (.t 16) (.t 17)),o 19 (.load (some 4) (.t 18)),o 20 (.call 57 [.t 19]),o 21 (.iaddr 4 (.t 14) (.t 15)),st (.store 4 (.t 21) (.t 20))]))
 (.reg [o 12 (.mv (.t 4)),o 13 (.bin .add (.t 12) (.c (.int .i64 1))),o 4 (.mv (.t 13))]))))))
 (.seq (.reg [o 22 (.mv (.t 3)),o 2 (.mv (.t 22))])
 .ret))),
 [.tmp 2]⟩
def F33 : Fun := ⟨26,
 .seq (.reg [o 2 (.box 4 (.t 0)),o 3 (.box 4 (.t 1)),o 4 (.mv (.c (.bool false)))])
 (.seq (.seq (.reg [o 5 (.faddr 0 (.t 2)),o 6 (.load none (.t 5)),o 7 (.faddr 0 (.t 3)),o 8 (.load none (.t 7)),o 9 (.bin .neq (.t 6) (.t 8))])
 (.cond (.t 9) (.seq (.reg [o 4 (.mv (.c (.bool false)))])
 .ret) .skip))
 (.seq (.seq (.reg [o 10 (.faddr 1 (.t 2)),o 11 (.load none (.t 10)),o 12 (.faddr 1 (.t 3)),o 13 (.load none (.t 12)),o 14 (.bin .neq (.t 11) (.t 13))])
 (.cond (.t 14) (.seq (.reg [o 4 (.mv (.c (.bool false)))])
 .ret) .skip))
 (.seq (.seq (.reg [o 15 (.faddr 2 (.t 2)),o 16 (.load none (.t 15)),o 17 (.faddr 2 (.t 3)),o 18 (.load none (.t 17)),o 19 (.bin .neq (.t 16) (.t 18))])
 (.cond (.t 19) (.seq (.reg [o 4 (.mv (.c (.bool false)))])
 .ret) .skip))
 (.seq (.seq (.reg [o 20 (.faddr 3 (.t 2)),o 21 (.load none (.t 20)),o 22 (.faddr 3 (.t 3)),o 23 (.load none (.t 22)),o 24 (.call 67 [.t 21,.t 23]),o 25 (.un .not (.t 24))])
 (.cond (.t 25) (.seq (.reg [o 4 (.mv (.c (.bool false)))])
 .ret) .skip))
 (.seq (.reg [o 4 (.mv (.c (.bool true)))])
 .ret))))),
 [.tmp 4]⟩
def F34 : Fun := ⟨27,
 .seq (.reg [o 4 (.mv (.c (.bool false)))])
 (.seq (.seq (.reg [o 6 (.mv (.t 0)),o 7 (.lenL (.t 6)),o 8 (.mv (.t 1)),o 9 (.lenL (.t 8)),o 10 (.bin .neq (.t 7) (.t 9))])
 (.cond (.t 10) (.seq (.reg [o 4 (.mv (.c (.bool false)))])
 .ret) .skip))
 (.seq (.seq (.reg [o 5 (.mv (.c (.int .i64 0)))])
 (.block 0 (.loop (.seq (.seq (.reg [o 11 (.mv (.t 5)),o 12 (.mv (.t 0)),o 13 (.lenL (.t 12)),o 14 (.bin .lss (.t 11) (.t 13))])
 (.cond (.t 14) .skip (.exit 0)))
 (.seq (.block 1 (.seq (.reg [o 17 (.mv (.t 0)),o 18 (.mv (.t 5)),o 19 (.iaddr 6 (.t 17) (.t 18)),o 20 (.load (some 6) (.t 19)),o 21 (.mv (.t 1)),o 22 (.mv (.t 5)),o 23 (.iaddr 6 (.t 21) (.t 22)),o 24 (.load (some 6) (.t 23)),o 25 (.callF 68 [.t 20,.t 24]),o 26 (.un .not (.t 25))])
 (.cond (.t 26) (.seq (.reg [o 4 (.mv (.c (.bool false)))])
 .ret) .skip)))
 (.reg [o 15 (.mv (.t 5)),o 16 (.bin .add (.t 15) (.c (.int .i64 1))),o 5 (.mv (.t 16))]))))))
 (.seq (.reg [o 4 (.mv (.c (.bool true)))])
 .ret))),
 [.tmp 4]⟩
def F35 : Fun := ⟨27,
 .seq (.reg [o 4 (.mv (.c (.bool false)))])
 (.seq (.seq (.reg [o 6 (.mv (.t 0)),o 7 (.lenL (.t 6)),o 8 (.mv (.t 1)),o 9 (.lenL (.t 8)),o 10 (.bin .neq (.t 7) (.t 9))])
 (.cond (.t 10) (.seq (.reg [o 4 (.mv (.c (.bool false)))])
 .ret) .skip))
 (.seq (.seq (.reg [o 5 (.mv (.c (.int .i64 0)))])
 (.block 0 (.loop (.seq (.seq (.reg [o 11 (.mv (.t 5)),o 12 (.mv (.t 0)),o 13 (.lenL (.t 12)),o 14 (.bin .lss (.t 11) (.t 13))])
 (.cond (.t 14) .skip (.exit 0)))
 (.seq (.block 1 (.seq (.reg [o 17 (.mv (.t 0)),o 18 (.mv (.t 5)),o 19 (.iaddr 4 (.t 17) (.t 18)),o 20 (.load (some 4) (.t 19)),o 21 (.mv (.t 1)),o 22 (.mv (.t 5)),o 23 (.iaddr 4 (.t 21) (.t 22)),o 24 (.load (some 4) (.t 23)),o 25 (.callF 69 [.t 20,.t 24]),o 26 (.un .not (.t 25))])
 (.cond (.t 26) (.seq (.reg [o 4 (.mv (.c (.bool false)))])
 .ret) .skip)))
 (.reg [o 15 (.mv (.t 5)),o 16 (.bin .add (.t 15) (.c (.int .i64 1))),o 5 (.mv (.t 16))]))))))
 (.seq (.reg [o 4 (.mv (.c (.bool true)))])
 .ret))),
 [.tmp 4]⟩
def F36 : Fun := ⟨19,
 .seq (.reg [o 4 (.mv (.c (.int .i64 0)))])
 (.seq (.seq (.reg [o 5 (.mv (.c (.int .i64 0)))])
 (.block 0 (.loop (.seq (.seq (.reg [o 6 (.mv (.t 5)),o 7 (.mv (.t 0)),o 8 (.lenL (.t 7)),o 9 (.bin .lss (.t 6) (.t 8))])
 (.cond (.t 9) .skip (.exit 0)))
 (.seq (.block 1 (.seq (.reg [o 12 (.mv (.t 0)),o 13 (.mv (.t 5)),o 14 (.mv (.t 1)),o 15 (.iaddr 1 (.t 12) (.t 13)),st (.store 1 (.t 15) (.t 14))])
 (.reg [o 16 (.mv (.t 1)),o 17 (.bin .add (.t 16) (.c (.int .i64 1))),o 1 (.mv (.t 17))])))
 (.reg [o 10 (.mv (.t 5)),o 11 (.bin .add (.t 10) (.c (.int .i64 1))),o 5 (.mv (.t 11))]))))))
 (.seq (.reg [o 18 (.mv (.t 1)),o 4 (.mv (.t 18))])
 .ret)),
 [.tmp 4]⟩
def F37 : Fun := ⟨58,
 .seq (.reg [o 4 (.mv (.c (.int .i64 0)))])
 (.seq (.seq (.reg [o 5 (.mv (.c (.int .i64 0)))])
 (.block 0 (.loop (.seq (.seq (.reg [o 6 (.mv (.t 5)),o 7 (.mv (.t 0)),o 8 (.lenL (.t 7)),o 9 (.bin .lss (.t 6) (.t 8))])
 (.cond (.t 9) .skip (.exit 0)))
 (.seq (.block 1 (.seq (.reg [o 12 (.mv (.t 0)),o 13 (.mv (.t 5)),o 14 (.mv (.t 1)),o 15 (.call 70 [.t 14]),o 16 (.iaddr 6 (.t 12) (.t 13)),o 17 (.faddr 0 (.t 16)),st (.store 1 (.t 17) (.t 15))])
 (.seq (.reg [o 18 (.mv (.t 1)),o 19 (.bin .add (.t 18) (.c (.int .i64 1))),o 1 (.mv (.t 19))])
 (.seq (.reg [o 20 (.mv (.t 0)),o 21 (.mv (.t 5)),o 22 (.iaddr 6 (.t 20) (.t 21)),o 23 (.faddr 1 (.t 22)),o 24 (.load none (.t 23)),o 25 (.mv (.t 1)),o 26 (.call 71 [.t 24,.t 25]),o 1 (.mv (.t 26))])
 (.seq (.reg [o 27 (.mv (.t 0)),o 28 (.mv (.t 5)),o 29 (.iaddr 6 (.t 27) (.t 28)),o 30 (.faddr 2 (.t 29)),o 31 (.load none (.t 30)),o 32 (.mv (.t 1)),o 33 (.call 71 [.t 31,.t 32]),o 1 (.mv (.t 33))])
 (.seq (.reg [o 34 (.mv (.t 0)),o 35 (.mv (.t 5)),o 36 (.iaddr 6 (.t 34) (.t 35)),o 37 (.faddr 3 (.t 36)),o 38 (.load none (.t 37)),o 39 (.mv (.t 1)),o 40 (.call 72 [.t 38,.t 39]),o 1 (.mv (.t 40))])
 (.seq (.reg [o 41 (.mv (.t 0)),o 42 (.mv (.t 5)),o 43 (.mv (.t 1)),o 44 (.bin .rem (.t 43) (.c (.int .i64 3))),o 45 (.bin .eql (.t 44) (.c (.int .i64 0))),o 46 (.iaddr 6 (.t 41) (.t 42)),o 47 (.faddr 4 (.t 46)),st (.store 1 (.t 47) (.t 45))])
 (.seq (.reg [o 48 (.mv (.t 1)),o 49 (.bin .add (.t 48) (.c (.int .i64 1))),o 1 (.mv (.t 49))])
 (.reg [o 50 (.mv (.t 0)),o 51 (.mv (.t 5)),o 52 (.iaddr 6 (.t 50) (.t 51)),o 53 (.faddr 5 (.t 52)),o 54 (.load none (.t 53)),o 55 (.mv (.t 1)),o 56 (.call 73 [.t 54,.t 55]),o 1 (.mv (.t 56))])))))))))
 (.reg [o 10 (.mv (.t 5)),o 11 (.bin .add (.t 10) (.c (.int .i64 1))),o 5 (.mv (.t 11))]))))))
 (.seq (.reg [o 57 (.mv (.t 1)),o 4 (.mv (.t 57))])
 .ret)),
 [.tmp 4]⟩
def F38 : Fun := ⟨43,
 .seq (.reg [o 4 (.mv (.c (.int .i64 0)))])
 (.seq (.seq (.reg [o 5 (.mv (.c (.int .i64 0)))])
 (.block 0 (.loop (.seq (.seq (.reg [o 6 (.mv (.t 5)),o 7 (.mv (.t 0)),o 8 (.lenL (.t 7)),o 9 (.bin .lss (.t 6) (.t 8))])
 (.cond (.t 9) .skip (.exit 0)))
 (.seq (.block 1 (.seq (.reg [o 12 (.mv (.t 0)),o 13 (.mv (.t 5)),o 14 (.mv (.t 1)),o 15 (.call 70 [.t 14]),o 16 (.iaddr 4 (.t 12) (.t 13)),o 17 (.faddr 0 (.t 16)),st (.store 1 (.t 17) (.t 15))])
 (.seq (.reg [o 18 (.mv (.t 1)),o 19 (.bin .add (.t 18) (.c (.int .i64 1))),o 1 (.mv (.t 19))])
 (.seq (.reg [o 20 (.mv (.t 0)),o 21 (.mv (.t 5)),o 22 (.mv (.t 1)),o 23 (.call 70 [.t 22]),o 24 (.iaddr 4 (.t 20) (.t 21)),o 25 (.faddr 1 (.t 24)),st (.store 1 (.t 25) (.t 23))])
 (.seq (.reg [o 26 (.mv (.t 1)),o 27 (.bin .add (.t 26) (.c (.int .i64 1))),o 1 (.mv (.t 27))])
 (.seq (.reg [o 28 (.mv (.t 0)),o 29 (.mv (.t 5)),o 30 (.iaddr 4 (.t 28) (.t 29)),o 31 (.faddr 2 (.t 30)),o 32 (.load none (.t 31)),o 33 (.mv (.t 1)),o 34 (.call 74 [.t 32,.t 33]),o 1 (.mv (.t 34))])
 (.reg [o 35 (.mv (.t 0)),o 36 (.mv (.t 5)),o 37 (.iaddr 4 (.t 35) (.t 36)),o 38 (.faddr 3 (.t 37)),o 39 (.load none (.t 38)),o 40 (.mv (.t 1)),o 41 (.call 75 [.t 39,.t 40]),o 1 (.mv (.t 41))])))))))
 (.reg [o 10 (.mv (.t 5)),o 11 (.bin .add (.t 10) (.c (.int .i64 1))),o 5 (.mv (.t 11))]))))))
 (.seq (.reg [o 42 (.mv (.t 1)),o 4 (.mv (.t 42))])
 .ret)),
 [.tmp 4]⟩
def F39 : Fun := ⟨21,
 .seq (.reg [o 4 (.mv (.c (.int .i64 0)))])
 (.seq (.seq (.reg [o 5 (.mv (.c (.int .i64 0)))])
 (.block 0 (.loop (.seq (.seq (.reg [o 6 (.mv (.t 5)),o 7 (.mv (.t 0)),o 8 (.lenL (.t 7)),o 9 (.bin .lss (.t 6) (.t 8))])
 (.cond (.t 9) .skip (.exit 0)))
 (.seq (.block 1 (.seq (.seq (.reg [o 12 (.mv (.t 0)),o 13 (.mv (.t 5)),o 14 (.iaddr 1 (.t 12) (.t 13)),o 15 (.load none (.t 14)),o 16 (.mv (.t 1)),o 17 (.bin .neq (.t 15) (.t 16))])
 (.cond (.t 17) (.seq (.reg [o 4 (.mv (.c (.int .i64 (-1))))])
 .ret) .skip))
 (.reg [o 18 (.mv (.t 1)),o 19 (.bin .add (.t 18) (.c (.int .i64 1))),o 1 (.mv (.t 19))])))
 (.reg [o 10 (.mv (.t 5)),o 11 (.bin .add (.t 10) (.c (.int .i64 1))),o 5 (.mv (.t 11))]))))))
 (.seq (.reg [o 20 (.mv (.t 1)),o 4 (.mv (.t 20))])
 .ret)),
 [.tmp 4]⟩
def F48 : Fun := ⟨12,
 .seq (.reg [o 4 (.mv (.c (.int .i64 0)))])
 (.seq (.reg [o 5 (.mv (.t 1)),o 6 (.mv (.t 0)),o 7 (.lenL (.t 6)),o 8 (.bin .sub (.t 5) (.t 7)),o 1 (.mv (.t 8))])
 (.seq (.seq (.reg [o 9 (.mv (.t 1)),o 10 (.bin .lss (.t 9) (.c (.int .i64 0)))])
 (.cond (.t 10) (.seq (.reg [o 4 (.mv (.c (.int .i64 (-1))))])
 .ret) .skip))
 (.seq (.reg [o 11 (.mv (.t 1)),o 4 (.mv (.t 11))])
 .ret))),
 [.tmp 4]⟩
def F49 : Fun := ⟨37,
 .seq (.reg [o 2 (.box 6 (.t 0)),o 4 (.mv (.c (.int .i64 0)))])
 (.seq (.reg [o 5 (.mv (.t 1)),o 6 (.faddr 0 (.t 2)),o 7 (.load none (.t 6)),o 8 (.lenS (.t 7)),o 9 (.bin .sub (.t 5) (.t 8)),o 1 (.mv (.t 9))])
 (.seq (.seq (.reg [o 10 (.mv (.t 1)),o 11 (.bin .lss (.t 10) (.c (.int .i64 0)))])
 (.cond (.t 11) (.seq (.reg [o 4 (.mv (.c (.int .i64 (-1))))])
 .ret) .skip))
 (.seq (.reg [o 12 (.faddr 1 (.t 2)),o 13 (.load none (.t 12)),o 14 (.mv (.t 1)),o 15 (.call 87 [.t 13,.t 14]),o 1 (.mv (.t 15))])
 (.seq (.seq (.reg [o 16 (.mv (.t 1)),o 17 (.bin .lss (.t 16) (.c (.int .i64 0)))])
 (.cond (.t 17) (.seq (.reg [o 4 (.mv (.c (.int .i64 (-1))))])
 .ret) .skip))
 (.seq (.reg [o 18 (.faddr 2 (.t 2)),o 19 (.load none (.t 18)),o 20 (.mv (.t 1)),o 21 (.call 87 [.t 19,.t 20]),o 1 (.mv (.t 21))])
 (.seq (.seq (.reg [o 22 (.mv (.t 1)),o 23 (.bin .lss (.t 22) (.c (.int .i64 0)))])
 (.cond (.t 23) (.seq (.reg [o 4 (.mv (.c (.int .i64 (-1))))])
 .ret) .skip))
 (.seq (.reg [o 24 (.faddr 3 (.t 2)),o 25 (.load none (.t 24)),o 26 (.mv (.t 1)),o 27 (.call 88 [.t 25,.t 26]),o 1 (.mv (.t 27))])
 (.seq (.seq (.reg [o 28 (.mv (.t 1)),o 29 (.bin .lss (.t 28) (.c (.int .i64 0)))])
 (.cond (.t 29) (.seq (.reg [o 4 (.mv (.c (.int .i64 (-1))))])
 .ret) .skip))
 (.seq (.reg [o 30 (.faddr 5 (.t 2)),o 31 (.load none (.t 30)),o 32 (.mv (.t 1)),o 33 (.call 89 [.t 31,.t 32]),o 1 (.mv (.t 33))])
 (.seq (.seq (.reg [o 34 (.mv (.t 1)),o 35 (.bin .lss (.t 34) (.c (.int .i64 0)))])
 (.cond (.t 35) (.seq (.reg [o 4 (.mv (.c (.int .i64 (-1))))])
 .ret) .skip))
 (.seq (.reg [o 36 (.mv (.t 1)),o 4 (.mv (.t 36))])
 .ret))))))))))),
 [.tmp 4]⟩
def F50 : Fun := ⟨32,
 .seq (.reg [o 2 (.box 4 (.t 0)),o 4 (.mv (.c (.int .i64 0)))])
 (.seq (.reg [o 5 (.mv (.t 1)),o 6 (.faddr 0 (.t 2)),o 7 (.load none (.t 6)),o 8 (.lenS (.t 7)),o 9 (.bin .sub (.t 5) (.t 8)),o 1 (.mv (.t 9))])
 (.seq (.seq (.reg [o 10 (.mv (.t 1)),o 11 (.bin .lss (.t 10) (.c (.int .i64 0)))])
 (.cond (.t 11) (.seq (.reg [o 4 (.mv (.c (.int .i64 (-1))))])
 .ret) .skip))
 (.seq (.reg [o 12 (.mv (.t 1)),o 13 (.faddr 1 (.t 2)),o 14 (.load none (.t 13)),o 15 (.lenS (.t 14)),o 16 (.bin .sub (.t 12) (.t 15)),o 1 (.mv (.t 16))])
 (.seq (.seq (.reg [o 17 (.mv (.t 1)),o 18 (.bin .lss (.t 17) (.c (.int .i64 0)))])
 (.cond (.t 18) (.seq (.reg [o 4 (.mv (.c (.int .i64 (-1))))])
 .ret) .skip))
 (.seq (.reg [o 19 (.faddr 2 (.t 2)),o 20 (.load none (.t 19)),o 21 (.mv (.t 1)),o 22 (.call 90 [.t 20,.t 21]),o 1 (.mv (.t 22))])
 (.seq (.seq (.reg [o 23 (.mv (.t 1)),o 24 (.bin .lss (.t 23) (.c (.int .i64 0)))])
 (.cond (.t 24) (.seq (.reg [o 4 (.mv (.c (.int .i64 (-1))))])
 .ret) .skip))
 (.seq (.reg [o 25 (.faddr 3 (.t 2)),o 26 (.load none (.t 25)),o 27 (.mv (.t 1)),o 28 (.call 91 [.t 26,.t 27]),o 1 (.mv (.t 28))])
 (.seq (.seq (.reg [o 29 (.mv (.t 1)),o 30 (.bin .lss (.t 29) (.c (.int .i64 0)))])
 (.cond (.t 30) (.seq (.reg [o 4 (.mv (.c (.int .i64 (-1))))])
 .ret) .skip))
 (.seq (.reg [o 31 (.mv (.t 1)),o 4 (.mv (.t 31))])
 .ret))))))))),
 [.tmp 4]⟩
def F51 : Fun := ⟨189,
 .seq (.reg [o 1 (.box 2 (.t 0)),o 2 (.mv (.c (.bool false)))])
 (.seq (.seq (.reg [o 10 (.faddr 0 (.t 1)),o 11 (.load none (.t 10)),o 12 (.lenL (.t 11)),o 13 (.bin .gtr (.t 12) (.c (.int .i64 5000))),o 14 (.mv (.t 13)),og 15 (.faddr 1 (.t 1)) 14 false,og 16 (.load none (.t 15)) 14 false,og 17 (.lenL (.t 16)) 14 false,og 18 (.bin .eql (.t 17) (.c (.int .i64 0))) 14 false,o 19 (.pick (.t 14) (.c (.bool true)) (.t 18)),o 20 (.mv (.t 19)),og 21 (.faddr 1 (.t 1)) 20 false,og 22 (.load none (.t 21)) 20 false,og 23 (.iaddr 4 (.t 22) (.c (.int .i64 0))) 20 false,og 24 (.faddr 0 (.t 23)) 20 false,og 25 (.load none (.t 24)) 20 false,og 26 (.bin .neq (.t 25) (.c (.str [69,114,114,111,114]))) 20 false,o 27 (.pick (.t 20) (.c (.bool true)) (.t 26)),o 28 (.mv (.t 27)),og 29 (.faddr 1 (.t 1)) 28 false,og 30 (.load none (.t 29)) 28 false,og 31 (.iaddr 4 (.t 30) (.c (.int .i64 0))) 28 false,og 32 (.faddr 2 (.t 31)) 28 false,og 33 (.load none (.t 32)) 28 false,og 34 (.lenL (.t 33)) 28 false,og 35 (.bin .eql (.t 34) (.c (.int .i64 0))) 28 false,o 36 (.pick (.t 28) (.c (.bool true)) (.t 35)),o 37 (.mv (.t 36)),og 38 (.faddr 1 (.t 1)) 37 false,og 39 (.load none (.t 38)) 37 false,og 40 (.iaddr 4 (.t 39) (.c (.int .i64 0))) 37 false,og 41 (.faddr 2 (.t 40)) 37 false,og 42 (.load none (.t 41)) 37 false,og 43 (.iaddr 8 (.t 42) (.c (.int .i64 0))) 37 false,og 44 (.faddr 0 (.t 43)) 37 false,og 45 (.load none (.t 44)) 37 false,og 46 (.bin .neq (.t 45) (.c (.str [109,101,115,115,97,103,101]))) 37 false,o 47 (.pick (.t 37) (.c (.bool true)) (.t 46))])
 (.cond (.t 47) (.seq (.reg [o 2 (.mv (.c (.bool false)))])
 .ret) .skip))
 (.seq (.seq (.reg [o 3 (.mv (.c (.int .i64 0)))])
 (.block 0 (.loop (.seq (.seq (.reg [o 48 (.mv (.t 3)),o 49 (.faddr 0 (.t 1)),o 50 (.load none (.t 49)),o 51 (.lenL (.t 50)),o 52 (.bin .lss (.t 48) (.t 51))])
 (.cond (.t 52) .skip (.exit 0)))
 (.seq (.block 1 (.seq (.reg [o 55 (.load (some 2) (.t 1)),o 56 (.faddr 0 (.t 1)),o 57 (.load none (.t 56)),o 58 (.mv (.t 3)),o 59 (.iaddr 6 (.t 57) (.t 58)),o 60 (.faddr 0 (.t 59)),o 61 (.load none (.t 60)),o 62 (.callF 92 [.t 55,.t 61]),o 63 (.mv (.t 3)),o 64 (.bin .neq (.t 62) (.t 63)),o 65 (.mv (.t 64)),og 66 (.faddr 0 (.t 1)) 65 false,og 67 (.load none (.t 66)) 65 false,og 68 (.mv (.t 3)) 65 false,og 69 (.iaddr 6 (.t 67) (.t 68)) 65 false,og 70 (.load (some 6) (.t 69)) 65 false,og 71 (.callF 93 [.t 70]) 65 false,og 72 (.un .not (.t 71)) 65 false,o 73 (.pick (.t 65) (.c (.bool true)) (.t 72))])
 (.cond (.t 73) (.seq (.reg [o 2 (.mv (.c (.bool false)))])
 .ret) .skip)))
 (.reg [o 53 (.mv (.t 3)),o 54 (.bin .add (.t 53) (.c (.int .i64 1))),o 3 (.mv (.t 54))]))))))
 (.seq (.seq (.reg [o 4 (.mv (.c (.int .i64 0)))])
 (.block 2 (.loop (.seq (.seq (.reg [o 74 (.mv (.t 4)),o 75 (.faddr 1 (.t 1)),o 76 (.load none (.t 75)),o 77 (.lenL (.t 76)),o 78 (.bin .lss (.t 74) (.t 77))])
 (.cond (.t 78) .skip (.exit 2)))
 (.seq (.block 3 (.seq (.reg [o 81 (.faddr 1 (.t 1)),o 82 (.load none (.t 81)),o 83 (.mv (.t 4)),o 84 (.iaddr 4 (.t 82) (.t 83)),o 85 (.load (some 4) (.t 84)),o 5 (.new 4 [.str [],.str [],.nsl,.nsl]),st (.store 4 (.t 5) (.t 85))])
 (.seq (.seq (.reg [o 86 (.faddr 1 (.t 1)),o 87 (.load none (.t 86)),o 88 (.faddr 0 (.t 5)),o 89 (.load none (.t 88)),o 90 (.call 94 [.t 87,.t 89]),o 91 (.mv (.t 4)),o 92 (.bin .neq (.t 90) (.t 91))])
 (.cond (.t 92) (.seq (.reg [o 2 (.mv (.c (.bool false)))])
 .ret) .skip))
 (.seq (.seq (.reg [o 6 (.mv (.c (.int .i64 0)))])
 (.block 4 (.loop (.seq (.seq (.reg [o 93 (.mv (.t 6)),o 94 (.faddr 2 (.t 5)),o 95 (.load none (.t 94)),o 96 (.lenL (.t 95)),o 97 (.bin .lss (.t 93) (.t 96))])
 (.cond (.t 97) .skip (.exit 4)))
 (.seq (.block 5 (.seq (.seq (.reg [o 100 (.faddr 2 (.t 5)),o 101 (.load none (.t 100)),o 102 (.mv (.t 6)),o 103 (.iaddr 8 (.t 101) (.t 102)),o 104 (.faddr 3 (.t 103)),o 105 (.load (some 5) (.t 104)),o 106 (.call 95 [.t 105]),o 107 (.un .not (.t 106)),o 108 (.mv (.t 107)),og 109 (.faddr 2 (.t 5)) 108 false,og 110 (.load none (.t 109)) 108 false,og 111 (.mv (.t 6)) 108 false,og 112 (.iaddr 8 (.t 110) (.t 111)) 108 false,og 113 (.faddr 3 (.t 112)) 108 false,og 114 (.faddr 0 (.t 113)) 108 false,og 115 (.load none (.t 114)) 108 false,og 116 (.bin .gtr (.t 115) (.c (.int .i64 3))) 108 false,o 117 (.pick (.t 108) (.c (.bool true)) (.t 116)),o 118 (.mv (.t 117)),og 119 (.faddr 2 (.t 5)) 118 false,og 120 (.load none (.t 119)) 118 false,og 121 (.mv (.t 6)) 118 false,og 122 (.iaddr 8 (.t 120) (.t 121)) 118 false,og 123 (.faddr 0 (.t 122)) 118 false,og 124 (.load none (.t 123)) 118 false,og 125 (.call 96 [.t 124]) 118 false,og 126 (.un .not (.t 125)) 118 false,o 127 (.pick (.t 118) (.c (.bool true)) (.t 126))])
 (.cond (.t 127) (.seq (.reg [o 2 (.mv (.c (.bool false)))])
 .ret) .skip))
 (.seq (.reg [o 7 (.mv (.c (.int .i64 0)))])
 (.block 6 (.loop (.seq (.seq (.reg [o 128 (.mv (.t 7)),o 129 (.mv (.t 6)),o 130 (.bin .lss (.t 128) (.t 129))])
 (.cond (.t 130) .skip (.exit 6)))
 (.seq (.block 7 (.seq (.reg [o 133 (.faddr 2 (.t 5)),o 134 (.load none (.t 133)),o 135 (.mv (.t 7)),o 136 (.iaddr 8 (.t 134) (.t 135)),o 137 (.faddr 0 (.t 136)),o 138 (.load none (.t 137)),o 139 (.faddr 2 (.t 5)),o 140 (.load none (.t 139)),o 141 (.mv (.t 6)),o 142 (.iaddr 8 (.t 140) (.t 141)),o 143 (.faddr 0 (.t 142)),o 144 (.load none (.t 143)),o 145 (.bin .eql (.t 138) (.t 144))])
 (.cond (.t 145) (.seq (.reg [o 2 (.mv (.c (.bool false)))])
 .ret) .skip)))
 (.reg [o 131 (.mv (.t 7)),o 132 (.bin .add (.t 131) (.c (.int .i64 1))),o 7 (.mv (.t 132))]))))))))
 (.reg [o 98 (.mv (.t 6)),o 99 (.bin .add (.t 98) (.c (.int .i64 1))),o 6 (.mv (.t 99))]))))))
 (.seq (.reg [o 8 (.mv (.c (.int .i64 0)))])
 (.block 8 (.loop (.seq (.seq (.reg [o 146 (.mv (.t 8)),o 147 (.faddr 3 (.t 5)),o 148 (.load none (.t 147)),o 149 (.lenL (.t 148)),o 150 (.bin .lss (.t 146) (.t 149))])
 (.cond (.t 150) .skip (.exit 8)))
 (.seq (.block 9 (.seq (.reg [o 153 (.load (some 2) (.t 1)),o 154 (.faddr 3 (.t 5)),o 155 (.load none (.t 154)),o 156 (.mv (.t 8)),o 157 (.iaddr 5 (.t 155) (.t 156)),o 158 (.faddr 2 (.t 157)),o 159 (.load none (.t 158)),o 160 (.bin .add (.t 159) (.c (.str [58,58]))),o 161 (.faddr 3 (.t 5)),o 162 (.load none (.t 161)),o 163 (.mv (.t 8)),o 164 (.iaddr 5 (.t 162) (.t 163)),o 165 (.faddr 0 (.t 164)),o 166 (.load none (.t 165)),o 167 (.bin .add (.t 160) (.t 166)),o 168 (.callF 92 [.t 153,.t 167]),o 9 (.mv (.t 168))])
 (.seq (.reg [o 169 (.mv (.t 9)),o 170 (.bin .lss (.t 169) (.c (.int .i64 0))),o 171 (.mv (.t 170)),og 172 (.faddr 0 (.t 1)) 171 false,og 173 (.load none (.t 172)) 171 false,og 174 (.mv (.t 9)) 171 false,og 175 (.iaddr 6 (.t 173) (.t 174)) 171 false,og 176 (.load (some 6) (.t 175)) 171 false,og 177 (.call 97 [.t 176]) 171 false,o 178 (.pick (.t 171) (.c (.bool true)) (.t 177)),o 179 (.mv (.t 178)),og 180 (.faddr 0 (.t 1)) 179 false,og 181 (.load none (.t 180)) 179 false,og 182 (.mv (.t 9)) 179 false,og 183 (.iaddr 6 (.t 181) (.t 182)) 179 false,og 184 (.faddr 2 (.t 183)) 179 false,og 185 (.load none (.t 184)) 179 false,og 186 (.lenL (.t 185)) 179 false,og 187 (.bin .gtr (.t 186) (.c (.int .i64 0))) 179 false,o 188 (.pick (.t 179) (.c (.bool true)) (.t 187))])
 (.cond (.t 188) (.seq (.reg [o 2 (.mv (.c (.bool false)))])
 .ret) .skip))))
 (.reg [o 151 (.mv (.t 8)),o 152 (.bin .add (.t 151) (.c (.int .i64 1))),o 8 (.mv (.t 152))]))))))))))
 (.reg [o 79 (.mv (.t 4)),o 80 (.bin .add (.t 79) (.c (.int .i64 1))),o 4 (.mv (.t 80))]))))))
 (.seq (.reg [o 2 (.mv (.c (.bool true)))])
 .ret)))),
 [.tmp 2]⟩
def F52 : Fun := ⟨45,
 .seq (.reg [o 1 (.box 2 (.t 0)),o 2 (.mv (.c .nsl))])
 (.seq (.reg [o 6 (.bslice 1 [.int .u8 0] 0 []),o 7 (.faddr 0 (.t 1)),o 8 (.load none (.t 7)),o 9 (.lenL (.t 8)),o 10 (.call 98 [.t 6,.t 9]),o 3 (.mv (.t 10))])
 (.seq (.seq (.reg [o 4 (.mv (.c (.int .i64 0)))])
 (.block 0 (.loop (.seq (.seq (.reg [o 11 (.mv (.t 4)),o 12 (.faddr 0 (.t 1)),o 13 (.load none (.t 12)),o 14 (.lenL (.t 13)),o 15 (.bin .lss (.t 11) (.t 14))])
 (.cond (.t 15) .skip (.exit 0)))
 (.seq (.block 1 (.reg [o 18 (.mv (.t 3)),o 19 (.faddr 0 (.t 1)),o 20 (.load none (.t 19)),o 21 (.mv (.t 4)),o 22 (.iaddr 6 (.t 20) (.t 21)),o 23 (.load (some 6) (.t 22)),o 24 (.call 99 [.t 18,.t 23]),o 3 (.mv (.t 24))]))
 (.reg [o 16 (.mv (.t 4)),o 17 (.bin .add (.t 16) (.c (.int .i64 1))),o 4 (.mv (.t 17))]))))))
 (.seq (.reg [o 25 (.mv (.t 3)),o 26 (.faddr 1 (.t 1)),o 27 (.load none (.t 26)),o 28 (.lenL (.t 27)),o 29 (.call 98 [.t 25,.t 28]),o 3 (.mv (.t 29))])
 (.seq (.seq (.reg [o 5 (.mv (.c (.int .i64 0)))])
 (.block 2 (.loop (.seq (.seq (.reg [o 30 (.mv (.t 5)),o 31 (.faddr 1 (.t 1)),o 32 (.load none (.t 31)),o 33 (.lenL (.t 32)),o 34 (.bin .lss (.t 30) (.t 33))])
 (.cond (.t 34) .skip (.exit 2)))
 (.seq (.block 3 (.reg [o 37 (.mv (.t 3)),o 38 (.faddr 1 (.t 1)),o 39 (.load none (.t 38)),o 40 (.mv (.t 5)),o 41 (.iaddr 4 (.t 39) (.t 40)),o 42 (.load (some 4) (.t 41)),o 43 (.call 100 [.t 37,.t 42]),o 3 (.mv (.t 43))]))
 (.reg [o 35 (.mv (.t 5)),o 36 (.bin .add (.t 35) (.c (.int .i64 1))),o 5 (.mv (.t 36))]))))))
 (.seq (.reg [o 44 (.mv (.t 3)),o 2 (.mv (.t 44))])
 .ret))))),
 [.tmp 2]⟩
def F53 : Fun := ⟨50,
 .seq (.reg [o 2 (.mv (.c (.bool false)))])
 (.seq (.seq (.reg [o 3 (.mv (.c (.int .i64 0)))])
 (.block 0 (.loop (.seq (.seq (.reg [o 5 (.mv (.t 3)),o 6 (.mv (.t 0)),o 7 (.lenL (.t 6)),o 8 (.bin .lss (.t 5) (.t 7))])
 (.cond (.t 8) .skip (.exit 0)))
 (.seq (.block 1 (.seq (.reg [o 11 (.mv (.t 0)),o 12 (.mv (.t 3)),o 13 (.iaddr 4 (.t 11) (.t 12)),o 14 (.load (some 4) (.t 13)),o 4 (.new 4 [.int .i64 0,.int .i64 0,.int .i64 0,.nsl]),st (.store 4 (.t 4) (.t 14))])
 (.seq (.reg [o 15 (.faddr 0 (.t 4)),o 16 (.load none (.t 15)),o 17 (.call 54 [.t 16,.c (.int .i64 0),.c (.int .i64 1000000000000)]),o 18 (.un .not (.t 17)),o 19 (.mv (.t 18)),og 20 (.faddr 1 (.t 4)) 19 false,og 21 (.load none (.t 20)) 19 false,og 22 (.call 54 [.t 21,.c (.int .i64 0),.c (.int .i64 8)]) 19 false,og 23 (.un .not (.t 22)) 19 false,o 24 (.pick (.t 19) (.c (.bool true)) (.t 23)),o 25 (.mv (.t 24)),og 26 (.faddr 2 (.t 4)) 25 false,og 27 (.load none (.t 26)) 25 false,og 28 (.call 54 [.t 27,.c (.int .i64 0),.c (.int .i64 1000000000000)]) 25 false,og 29 (.un .not (.t 28)) 25 false,o 30 (.pick (.t 25) (.c (.bool true)) (.t 29)),o 31 (.mv (.t 30)),og 32 (.faddr 3 (.t 4)) 31 false,og 33 (.load none (.t 32)) 31 false,og 34 (.lenL (.t 33)) 31 false,og 35 (.bin .gtr (.t 34) (.c (.int .i64 4100))) 31 false,o 36 (.pick (.t 31) (.c (.bool true)) (.t 35)),o 37 (.mv (.t 36)),og 38 (.faddr 0 (.t 4)) 37 false,og 39 (.load none (.t 38)) 37 false,og 40 (.bin .rem (.t 39) (.c (.int .i64 2))) 37 false,og 41 (.bin .eql (.t 40) (.c (.int .i64 1))) 37 false,og 42 (.faddr 1 (.t 4)) 37 false,og 43 (.load none (.t 42)) 37 false,og 44 (.bin .gtr (.t 43) (.c (.int .i64 0))) 37 false,og 45 (.binb .neq (.t 41) (.t 44)) 37 false,o 46 (.pick (.t 37) (.c (.bool true)) (.t 45))])
 (.cond (.t 46) (.seq (.reg [o 2 (.mv (.c (.bool false)))])
 .ret) .skip))))
 (.reg [o 9 (.mv (.t 3)),o 10 (.bin .add (.t 9) (.c (.int .i64 1))),o 3 (.mv (.t 10))]))))))
 (.seq (.reg [o 47 (.mv (.t 0)),o 48 (.lenL (.t 47)),o 49 (.bin .leq (.t 48) (.c (.int .i64 8))),o 2 (.mv (.t 49))])
 .ret)),
 [.tmp 2]⟩
def F54 : Fun := ⟨15,
 .seq (.reg [o 6 (.mv (.c (.bool false)))])
 (.seq (.reg [o 7 (.mv (.t 0)),o 8 (.mv (.t 1)),o 9 (.bin .geq (.t 7) (.t 8)),o 10 (.mv (.t 9)),og 11 (.mv (.t 0)) 10 true,og 12 (.mv (.t 2)) 10 true,og 13 (.bin .leq (.t 11) (.t 12)) 10 true,o 14 (.pick (.t 10) (.t 13) (.c (.bool false))),o 6 (.mv (.t 14))])
 .ret),
 [.tmp 6]⟩
def F55 : Fun := ⟨22,
 .seq (.reg [o 2 (.mv (.c .nsl))])
 (.seq (.reg [o 5 (.mv (.t 0)),o 6 (.lenL (.t 5)),o 7 (.mkslice 1 [.int .i64 0] 8 (.t 6) (.t 6)),o 3 (.mv (.t 7))])
 (.seq (.seq (.reg [o 4 (.mv (.c (.int .i64 0)))])
 (.block 0 (.loop (.seq (.seq (.reg [o 8 (.mv (.t 4)),o 9 (.mv (.t 0)),o 10 (.lenL (.t 9)),o 11 (.bin .lss (.t 8) (.t 10))])
 (.cond (.t 11) .skip (.exit 0)))
 (.seq (.block 1 (.reg [o 14 (.mv (.t 3)),o 15 (.mv (.t 4)),o 16 (.mv (.t 0)),o 17 (.mv (.t 4)),o 18 (.iaddr 1 (.t 16) (.t 17)),o 19 (.load none (.t 18)),o 20 (.iaddr 1 (.t 14) (.t 15)),st (.store 1 (.t 20) (.t 19))]))
 (.reg [o 12 (.mv (.t 4)),o 13 (.bin .add (.t 12) (.c (.int .i64 1))),o 4 (.mv (.t 13))]))))))
 (.seq (.reg [o 21 (.mv (.t 3)),o 2 (.mv (.t 21))])
 .ret))),
 [.tmp 2]⟩
def F56 : Fun := ⟨27,
 .seq (.reg [o 1 (.box 6 (.t 0)),o 2 (.new 6 [.str [],.nsl,.nsl,.nsl,.bool false,.nsl])])
 (.seq (.reg [o 3 (.new 6 [.str [],.nsl,.nsl,.nsl,.bool false,.nsl])])
 (.seq (.reg [o 4 (.faddr 0 (.t 1)),o 5 (.load none (.t 4)),o 6 (.faddr 0 (.t 3)),st (.store 1 (.t 6) (.t 5))])
 (.seq (.reg [o 7 (.faddr 1 (.t 1)),o 8 (.load none (.t 7)),o 9 (.call 101 [.t 8]),o 10 (.faddr 1 (.t 3)),st (.store 1 (.t 10) (.t 9))])
 (.seq (.reg [o 11 (.faddr 2 (.t 1)),o 12 (.load none (.t 11)),o 13 (.call 101 [.t 12]),o 14 (.faddr 2 (.t 3)),st (.store 1 (.t 14) (.t 13))])
 (.seq (.reg [o 15 (.faddr 3 (.t 1)),o 16 (.load none (.t 15)),o 17 (.call 102 [.t 16]),o 18 (.faddr 3 (.t 3)),st (.store 1 (.t 18) (.t 17))])
 (.seq (.reg [o 19 (.faddr 4 (.t 1)),o 20 (.load none (.t 19)),o 21 (.faddr 4 (.t 3)),st (.store 1 (.t 21) (.t 20))])
 (.seq (.reg [o 22 (.faddr 5 (.t 1)),o 23 (.load none (.t 22)),o 24 (.call 103 [.t 23]),o 25 (.faddr 5 (.t 3)),st (.store 1 (.t 25) (.t 24))])
 (.seq (.reg [o 26 (.load (some 6) (.t 3)),st (.store 6 (.t 2) (.t 26))])
 .ret)))))))),
 [.cell 2 (some 6)]⟩
def F57 : Fun := ⟨19,
 .seq (.reg [o 1 (.box 4 (.t 0)),o 2 (.new 4 [.str [],.str [],.nsl,.nsl])])
 (.seq (.reg [o 3 (.new 4 [.str [],.str [],.nsl,.nsl])])
 (.seq (.reg [o 4 (.faddr 0 (.t 1)),o 5 (.load none (.t 4)),o 6 (.faddr 0 (.t 3)),st (.store 1 (.t 6) (.t 5))])
 (.seq (.reg [o 7 (.faddr 1 (.t 1)),o 8 (.load none (.t 7)),o 9 (.faddr 1 (.t 3)),st (.store 1 (.t 9) (.t 8))])
 (.seq (.reg [o 10 (.faddr 2 (.t 1)),o 11 (.load none (.t 10)),o 12 (.call 104 [.t 11]),o 13 (.faddr 2 (.t 3)),st (.store 1 (.t 13) (.t 12))])
 (.seq (.reg [o 14 (.faddr 3 (.t 1)),o 15 (.load none (.t 14)),o 16 (.call 105 [.t 15]),o 17 (.faddr 3 (.t 3)),st (.store 1 (.t 17) (.t 16))])
 (.seq (.reg [o 18 (.load (some 4) (.t 3)),st (.store 4 (.t 2) (.t 18))])
 .ret)))))),
 [.cell 2 (some 4)]⟩
def F64 : Fun := ⟨8,
 .seq (.reg [o 2 (.mv (.c .nsl))])
 (.seq (.seq (.reg [o 3 (.mv (.t 0)),o 4 (.isnl false (.t 3))])
 (.cond (.t 4) (.seq (.reg [o 2 (.mv (.c .nsl))])
 .ret) .skip))
 (.seq (.reg [o 5 (.bslice 1 [.int .i64 0] 0 []),o 6 (.mv (.t 0)),o 7 (.append 1 8 (.t 5) (.t 6)),o 2 (.mv (.t 7))])
 .ret)),
 [.tmp 2]⟩
def F67 : Fun := ⟨26,
 .seq (.reg [o 4 (.mv (.c (.bool false)))])
 (.seq (.seq (.reg [o 6 (.mv (.t 0)),o 7 (.lenL (.t 6)),o 8 (.mv (.t 1)),o 9 (.lenL (.t 8)),o 10 (.bin .neq (.t 7) (.t 9))])
 (.cond (.t 10) (.seq (.reg [o 4 (.mv (.c (.bool false)))])
 .ret) .skip))
 (.seq (.seq (.reg [o 5 (.mv (.c (.int .i64 0)))])
 (.block 0 (.loop (.seq (.seq (.reg [o 11 (.mv (.t 5)),o 12 (.mv (.t 0)),o 13 (.lenL (.t 12)),o 14 (.bin .lss (.t 11) (.t 13))])
 (.cond (.t 14) .skip (.exit 0)))
 (.seq (.block 1 (.seq (.reg [o 17 (.mv (.t 0)),o 18 (.mv (.t 5)),o 19 (.iaddr 1 (.t 17) (.t 18)),o 20 (.load none (.t 19)),o 21 (.mv (.t 1)),o 22 (.mv (.t 5)),o 23 (.iaddr 1 (.t 21) (.t 22)),o 24 (.load none (.t 23)),o 25 (.bin .neq (.t 20) (.t 24))])
 (.cond (.t 25) (.seq (.reg [o 4 (.mv (.c (.bool false)))])
 .ret) .skip)))
 (.reg [o 15 (.mv (.t 5)),o 16 (.bin .add (.t 15) (.c (.int .i64 1))),o 5 (.mv (.t 16))]))))))
 (.seq (.reg [o 4 (.mv (.c (.bool true)))])
 .ret))),
 [.tmp 4]⟩
def F68 : Fun := ⟨39,
 .seq (.reg [o 2 (.box 6 (.t 0)),o 3 (.box 6 (.t 1)),o 4 (.mv (.c (.bool false)))])
 (.seq (.seq (.reg [o 5 (.faddr 0 (.t 2)),o 6 (.load none (.t 5)),o 7 (.faddr 0 (.t 3)),o 8 (.load none (.t 7)),o 9 (.bin .neq (.t 6) (.t 8))])
 (.cond (.t 9) (.seq (.reg [o 4 (.mv (.c (.bool false)))])
 .ret) .skip))
 (.seq (.seq (.reg [o 10 (.faddr 1 (.t 2)),o 11 (.load none (.t 10)),o 12 (.faddr 1 (.t 3)),o 13 (.load none (.t 12)),o 14 (.call 114 [.t 11,.t 13]),o 15 (.un .not (.t 14))])
 (.cond (.t 15) (.seq (.reg [o 4 (.mv (.c (.bool false)))])
 .ret) .skip))
 (.seq (.seq (.reg [o 16 (.faddr 2 (.t 2)),o 17 (.load none (.t 16)),o 18 (.faddr 2 (.t 3)),o 19 (.load none (.t 18)),o 20 (.call 114 [.t 17,.t 19]),o 21 (.un .not (.t 20))])
 (.cond (.t 21) (.seq (.reg [o 4 (.mv (.c (.bool false)))])
 .ret) .skip))
 (.seq (.seq (.reg [o 22 (.faddr 3 (.t 2)),o 23 (.load none (.t 22)),o 24 (.faddr 3 (.t 3)),o 25 (.load none (.t 24)),o 26 (.call 115 [.t 23,.t 25]),o 27 (.un .not (.t 26))])
 (.cond (.t 27) (.seq (.reg [o 4 (.mv (.c (.bool false)))])
 .ret) .skip))
 (.seq (.seq (.reg [o 28 (.faddr 4 (.t 2)),o 29 (.load none (.t 28)),o 30 (.faddr 4 (.t 3)),o 31 (.load none (.t 30)),o 32 (.binb .neq (.t 29) (.t 31))])
 (.cond (.t 32) (.seq (.reg [o 4 (.mv (.c (.bool false)))])
 .ret) .skip))
 (.seq (.seq (.reg [o 33 (.faddr 5 (.t 2)),o 34 (.load none (.t 33)),o 35 (.faddr 5 (.t 3)),o 36 (.load none (.t 35)),o 37 (.call 116 [.t 34,.t 36]),o 38 (.un .not (.t 37))])
 (.cond (.t 38) (.seq (.reg [o 4 (.mv (.c (.bool false)))])
 .ret) .skip))
 (.seq (.reg [o 4 (.mv (.c (.bool true)))])
 .ret))))))),
 [.tmp 4]⟩
def F69 : Fun := ⟨27,
 .seq (.reg [o 2 (.box 4 (.t 0)),o 3 (.box 4 (.t 1)),o 4 (.mv (.c (.bool false)))])
 (.seq (.seq (.reg [o 5 (.faddr 0 (.t 2)),o 6 (.load none (.t 5)),o 7 (.faddr 0 (.t 3)),o 8 (.load none (.t 7)),o 9 (.bin .neq (.t 6) (.t 8))])
 (.cond (.t 9) (.seq (.reg [o 4 (.mv (.c (.bool false)))])
 .ret) .skip))
 (.seq (.seq (.reg [o 10 (.faddr 1 (.t 2)),o 11 (.load none (.t 10)),o 12 (.faddr 1 (.t 3)),o 13 (.load none (.t 12)),o 14 (.bin .neq (.t 11) (.t 13))])
 (.cond (.t 14) (.seq (.reg [o 4 (.mv (.c (.bool false)))])
 .ret) .skip))
 (.seq (.seq (.reg [o 15 (.faddr 2 (.t 2)),o 16 (.load none (.t 15)),o 17 (.faddr 2 (.t 3)),o 18 (.load none (.t 17)),o 19 (.call 117 [.t 16,.t 18]),o 20 (.un .not (.t 19))])
 (.cond (.t 20) (.seq (.reg [o 4 (.mv (.c (.bool false)))])
 .ret) .skip))
 (.seq (.seq (.reg [o 21 (.faddr 3 (.t 2)),o 22 (.load none (.t 21)),o 23 (.faddr 3 (.t 3)),o 24 (.load none (.t 23)),o 25 (.call 118 [.t 22,.t 24]),o 26 (.un .not (.t 25))])
 (.cond (.t 26) (.seq (.reg [o 4 (.mv (.c (.bool false)))])
 .ret) .skip))
 (.seq (.reg [o 4 (.mv (.c (.bool true)))])
 .ret))))),
 [.tmp 4]⟩
def F70 : Fun := ⟨20,
 .seq (.reg [o 2 (.mv (.c (.str [])))])
 (.seq (.seq (.reg [o 4 (.mv (.t 0)),o 5 (.bin .leq (.t 4) (.c (.int .i64 0)))])
 (.cond (.t 5) (.seq (.reg [o 2 (.mv (.c (.str [109,48])))])
 .ret) .skip))
 (.seq (.reg [o 3 (.mv (.c (.str [])))])
 (.seq (.block 0 (.loop (.seq (.seq (.reg [o 6 (.mv (.t 0)),o 7 (.bin .gtr (.t 6) (.c (.int .i64 0)))])
 (.cond (.t 7) .skip (.exit 0)))
 (.block 1 (.seq (.reg [o 8 (.mv (.t 0)),o 9 (.bin .rem (.t 8) (.c (.int .i64 10))),o 10 (.bin .add (.c (.int .i64 48)) (.t 9)),o 11 (.toInt .u8 (.t 10)),o 12 (.bslice 1 [.int .u8 0] 1 [(0,(.t 11))]),o 13 (.toStr (.t 12)),o 14 (.mv (.t 3)),o 15 (.bin .add (.t 13) (.t 14)),o 3 (.mv (.t 15))])
 (.reg [o 16 (.mv (.t 0)),o 17 (.bin .quo (.t 16) (.c (.int .i64 10))),o 0 (.mv (.t 17))]))))))
 (.seq (.reg [o 18 (.mv (.t 3)),o 19 (.bin .add (.c (.str [109])) (.t 18)),o 2 (.mv (.t 19))])
 .ret)))),
 [.tmp 2]⟩
def F71 : Fun := ⟨30,
 .seq (.reg [o 4 (.mv (.c (.int .i64 0)))])
 (.seq (.seq (.reg [o 5 (.mv (.c (.int .i64 0)))])
 (.block 0 (.loop (.seq (.seq (.reg [o 6 (.mv (.t 5)),o 7 (.mv (.t 0)),o 8 (.lenL (.t 7)),o 9 (.bin .lss (.t 6) (.t 8))])
 (.cond (.t 9) .skip (.exit 0)))
 (.seq (.block 1 (.seq (.reg [o 12 (.mv (.t 0)),o 13 (.mv (.t 5)),o 14 (.mv (.t 1)),o 15 (.call 70 [.t 14]),o 16 (.iaddr 2 (.t 12) (.t 13)),o 17 (.faddr 0 (.t 16)),st (.store 1 (.t 17) (.t 15))])
 (.seq (.reg [o 18 (.mv (.t 1)),o 19 (.bin .add (.t 18) (.c (.int .i64 1))),o 1 (.mv (.t 19))])
 (.seq (.reg [o 20 (.mv (.t 0)),o 21 (.mv (.t 5)),o 22 (.mv (.t 1)),o 23 (.bin .rem (.t 22) (.c (.int .i64 3))),o 24 (.bin .eql (.t 23) (.c (.int .i64 0))),o 25 (.iaddr 2 (.t 20) (.t 21)),o 26 (.faddr 1 (.t 25)),st (.store 1 (.t 26) (.t 24))])
 (.reg [o 27 (.mv (.t 1)),o 28 (.bin .add (.t 27) (.c (.int .i64 1))),o 1 (.mv (.t 28))])))))
 (.reg [o 10 (.mv (.t 5)),o 11 (.bin .add (.t 10) (.c (.int .i64 1))),o 5 (.mv (.t 11))]))))))
 (.seq (.reg [o 29 (.mv (.t 1)),o 4 (.mv (.t 29))])
 .ret)),
 [.tmp 4]⟩
def F72 : Fun := ⟨20,
 .seq (.reg [o 4 (.mv (.c (.int .i64 0)))])
 (.seq (.seq (.reg [o 5 (.mv (.c (.int .i64 0)))])
 (.block 0 (.loop (.seq (.seq (.reg [o 6 (.mv (.t 5)),o 7 (.mv (.t 0)),o 8 (.lenL (.t 7)),o 9 (.bin .lss (.t 6) (.t 8))])
 (.cond (.t 9) .skip (.exit 0)))
 (.seq (.block 1 (.seq (.reg [o 12 (.mv (.t 0)),o 13 (.mv (.t 5)),o 14 (.mv (.t 1)),o 15 (.call 70 [.t 14]),o 16 (.iaddr 1 (.t 12) (.t 13)),st (.store 1 (.t 16) (.t 15))])
 (.reg [o 17 (.mv (.t 1)),o 18 (.bin .add (.t 17) (.c (.int .i64 1))),o 1 (.mv (.t 18))])))
 (.reg [o 10 (.mv (.t 5)),o 11 (.bin .add (.t 10) (.c (.int .i64 1))),o 5 (.mv (.t 11))]))))))
 (.seq (.reg [o 19 (.mv (.t 1)),o 4 (.mv (.t 19))])
 .ret)),
 [.tmp 4]⟩
def F73 : Fun := ⟨50,
 .seq (.reg [o 4 (.mv (.c (.int .i64 0)))])
 (.seq (.seq (.reg [o 5 (.mv (.c (.int .i64 0)))])
 (.block 0 (.loop (.seq (.seq (.reg [o 6 (.mv (.t 5)),o 7 (.mv (.t 0)),o 8 (.lenL (.t 7)),o 9 (.bin .lss (.t 6) (.t 8))])
 (.cond (.t 9) .skip (.exit 0)))
 (.seq (.block 1 (.seq (.reg [o 12 (.mv (.t 0)),o 13 (.mv (.t 5)),o 14 (.mv (.t 1)),o 15 (.iaddr 5 (.t 12) (.t 13)),o 16 (.faddr 0 (.t 15)),st (.store 1 (.t 16) (.t 14))])
 (.seq (.reg [o 17 (.mv (.t 1)),o 18 (.bin .add (.t 17) (.c (.int .i64 1))),o 1 (.mv (.t 18))])
 (.seq (.reg [o 19 (.mv (.t 0)),o 20 (.mv (.t 5)),o 21 (.mv (.t 1)),o 22 (.iaddr 5 (.t 19) (.t 20)),o 23 (.faddr 1 (.t 22)),st (.store 1 (.t 23) (.t 21))])
 (.seq (.reg [o 24 (.mv (.t 1)),o 25 (.bin .add (.t 24) (.c (.int .i64 1))),o 1 (.mv (.t 25))])
 (.seq (.reg [o 26 (.mv (.t 0)),o 27 (.mv (.t 5)),o 28 (.mv (.t 1)),o 29 (.iaddr 5 (.t 26) (.t 27)),o 30 (.faddr 2 (.t 29)),st (.store 1 (.t 30) (.t 28))])
 (.seq (.reg [o 31 (.mv (.t 1)),o 32 (.bin .add (.t 31) (.c (.int .i64 1))),o 1 (.mv (.t 32))])
 (.seq (.reg [o 33 (.mv (.t 0)),o 34 (.mv (.t 5)),o 35 (.mv (.t 1)),o 36 (.call 70 [.t 35]),o 37 (.iaddr 5 (.t 33) (.t 34)),o 38 (.faddr 3 (.t 37)),st (.store 1 (.t 38) (.t 36))])
 (.seq (.reg [o 39 (.mv (.t 1)),o 40 (.bin .add (.t 39) (.c (.int .i64 1))),o 1 (.mv (.t 40))])
 (.seq (.reg [o 41 (.mv (.t 0)),o 42 (.mv (.t 5)),o 43 (.mv (.t 1)),o 44 (.call 70 [.t 43]),o 45 (.iaddr 5 (.t 41) (.t 42)),o 46 (.faddr 4 (.t 45)),st (.store 1 (.t 46) (.t 44))])
 (.reg [o 47 (.mv (.t 1)),o 48 (.bin .add (.t 47) (.c (.int .i64 1))),o 1 (.mv (.t 48))])))))))))))
 (.reg [o 10 (.mv (.t 5)),o 11 (.bin .add (.t 10) (.c (.int .i64 1))),o 5 (.mv (.t 11))]))))))
 (.seq (.reg [o 49 (.mv (.t 1)),o 4 (.mv (.t 49))])
 .ret)),
 [.tmp 4]⟩
def F74 : Fun := ⟨79,
 .seq (.reg [o 4 (.mv (.c (.int .i64 0)))])
 (.seq (.seq (.reg [o 5 (.mv (.c (.int .i64 0)))])
 (.block 0 (.loop (.seq (.seq (.reg [o 6 (.mv (.t 5)),o 7 (.mv (.t 0)),o 8 (.lenL (.t 7)),o 9 (.bin .lss (.t 6) (.t 8))])
 (.cond (.t 9) .skip (.exit 0)))
 (.seq (.block 1 (.seq (.reg [o 12 (.mv (.t 0)),o 13 (.mv (.t 5)),o 14 (.mv (.t 1)),o 15 (.call 70 [.t 14]),o 16 (.iaddr 8 (.t 12) (.t 13)),o 17 (.faddr 0 (.t 16)),st (.store 1 (.t 17) (.t 15))])
 (.seq (.reg [o 18 (.mv (.t 1)),o 19 (.bin .add (.t 18) (.c (.int .i64 1))),o 1 (.mv (.t 19))])
 (.seq (.reg [o 20 (.mv (.t 0)),o 21 (.mv (.t 5)),o 22 (.mv (.t 1)),o 23 (.call 70 [.t 22]),o 24 (.iaddr 8 (.t 20) (.t 21)),o 25 (.faddr 1 (.t 24)),st (.store 1 (.t 25) (.t 23))])
 (.seq (.reg [o 26 (.mv (.t 1)),o 27 (.bin .add (.t 26) (.c (.int .i64 1))),o 1 (.mv (.t 27))])
 (.seq (.reg [o 28 (.mv (.t 0)),o 29 (.mv (.t 5)),o 30 (.mv (.t 1)),o 31 (.bin .rem (.t 30) (.c (.int .i64 3))),o 32 (.bin .eql (.t 31) (.c (.int .i64 0))),o 33 (.iaddr 8 (.t 28) (.t 29)),o 34 (.faddr 2 (.t 33)),st (.store 1 (.t 34) (.t 32))])
 (.seq (.reg [o 35 (.mv (.t 1)),o 36 (.bin .add (.t 35) (.c (.int .i64 1))),o 1 (.mv (.t 36))])
 (.seq (.reg [o 37 (.mv (.t 0)),o 38 (.mv (.t 5)),o 39 (.mv (.t 1)),o 40 (.iaddr 8 (.t 37) (.t 38)),o 41 (.faddr 3 (.t 40)),o 42 (.faddr 0 (.t 41)),st (.store 1 (.t 42) (.t 39))])
 (.seq (.reg [o 43 (.mv (.t 1)),o 44 (.bin .add (.t 43) (.c (.int .i64 1))),o 1 (.mv (.t 44))])
 (.seq (.reg [o 45 (.mv (.t 0)),o 46 (.mv (.t 5)),o 47 (.mv (.t 1)),o 48 (.iaddr 8 (.t 45) (.t 46)),o 49 (.faddr 3 (.t 48)),o 50 (.faddr 1 (.t 49)),st (.store 1 (.t 50) (.t 47))])
 (.seq (.reg [o 51 (.mv (.t 1)),o 52 (.bin .add (.t 51) (.c (.int .i64 1))),o 1 (.mv (.t 52))])
 (.seq (.reg [o 53 (.mv (.t 0)),o 54 (.mv (.t 5)),o 55 (.mv (.t 1)),o 56 (.call 70 [.t 55]),o 57 (.iaddr 8 (.t 53) (.t 54)),o 58 (.faddr 3 (.t 57)),o 59 (.faddr 2 (.t 58)),st (.store 1 (.t 59) (.t 56))])
 (.seq (.reg [o 60 (.mv (.t 1)),o 61 (.bin .add (.t 60) (.c (.int .i64 1))),o 1 (.mv (.t 61))])
 (.seq (.reg [o 62 (.mv (.t 0)),o 63 (.mv (.t 5)),o 64 (.mv (.t 1)),o 65 (.iaddr 8 (.t 62) (.t 63)),o 66 (.faddr 3 (.t 65)),o 67 (.faddr 3 (.t 66)),st (.store 1 (.t 67) (.t 64))])
 (.seq (.reg [o 68 (.mv (.t 1)),o 69 (.bin .add (.t 68) (.c (.int .i64 1))),o 1 (.mv (.t 69))])
 (.reg [o 70 (.mv (.t 0)),o 71 (.mv (.t 5)),o 72 (.iaddr 8 (.t 70) (.t 71)),o 73 (.faddr 3 (.t 72)),o 74 (.faddr 4 (.t 73)),o 75 (.load none (.t 74)),o 76 (.mv (.t 1)),o 77 (.call 119 [.t 75,.t 76]),o 1 (.mv (.t 77))]))))))))))))))))
 (.reg [o 10 (.mv (.t 5)),o 11 (.bin .add (.t 10) (.c (.int .i64 1))),o 5 (.mv (.t 11))]))))))
 (.seq (.reg [o 78 (.mv (.t 1)),o 4 (.mv (.t 78))])
 .ret)),
 [.tmp 4]⟩
def F75 : Fun := ⟨55,
 .seq (.reg [o 4 (.mv (.c (.int .i64 0)))])
 (.seq (.seq (.reg [o 5 (.mv (.c (.int .i64 0)))])
 (.block 0 (.loop (.seq (.seq (.reg [o 6 (.mv (.t 5)),o 7 (.mv (.t 0)),o 8 (.lenL (.t 7)),o 9 (.bin .lss (.t 6) (.t 8))])
 (.cond (.t 9) .skip (.exit 0)))
 (.seq (.block 1 (.seq (.reg [o 12 (.mv (.t 0)),o 13 (.mv (.t 5)),o 14 (.mv (.t 1)),o 15 (.call 70 [.t 14]),o 16 (.iaddr 5 (.t 12) (.t 13)),o 17 (.faddr 0 (.t 16)),st (.store 1 (.t 17) (.t 15))])
 (.seq (.reg [o 18 (.mv (.t 1)),o 19 (.bin .add (.t 18) (.c (.int .i64 1))),o 1 (.mv (.t 19))])
 (.seq (.reg [o 20 (.mv (.t 0)),o 21 (.mv (.t 5)),o 22 (.mv (.t 1)),o 23 (.call 70 [.t 22]),o 24 (.iaddr 5 (.t 20) (.t 21)),o 25 (.faddr 1 (.t 24)),st (.store 1 (.t 25) (.t 23))])
 (.seq (.reg [o 26 (.mv (.t 1)),o 27 (.bin .add (.t 26) (.c (.int .i64 1))),o 1 (.mv (.t 27))])
 (.seq (.reg [o 28 (.mv (.t 0)),o 29 (.mv (.t 5)),o 30 (.mv (.t 1)),o 31 (.call 70 [.t 30]),o 32 (.iaddr 5 (.t 28) (.t 29)),o 33 (.faddr 2 (.t 32)),st (.store 1 (.t 33) (.t 31))])
 (.seq (.reg [o 34 (.mv (.t 1)),o 35 (.bin .add (.t 34) (.c (.int .i64 1))),o 1 (.mv (.t 35))])
 (.seq (.reg [o 36 (.mv (.t 0)),o 37 (.mv (.t 5)),o 38 (.mv (.t 1)),o 39 (.bin .rem (.t 38) (.c (.int .i64 3))),o 40 (.bin .eql (.t 39) (.c (.int .i64 0))),o 41 (.iaddr 5 (.t 36) (.t 37)),o 42 (.faddr 3 (.t 41)),st (.store 1 (.t 42) (.t 40))])
 (.seq (.reg [o 43 (.mv (.t 1)),o 44 (.bin .add (.t 43) (.c (.int .i64 1))),o 1 (.mv (.t 44))])
 (.seq (.reg [o 45 (.mv (.t 0)),o 46 (.mv (.t 5)),o 47 (.mv (.t 1)),o 48 (.bin .rem (.t 47) (.c (.int .i64 3))),o 49 (.bin .eql (.t 48) (.c (.int .i64 0))),o 50 (.iaddr 5 (.t 45) (.t 46)),o 51 (.faddr 4 (.t 50)),st (.store 1 (.t 51) (.t 49))])
 (.reg [o 52 (.mv (.t 1)),o 53 (.bin .add (.t 52) (.c (.int .i64 1))),o 1 (.mv (.t 53))])))))))))))
 (.reg [o 10 (.mv (.t 5)),o 11 (.bin .add (.t 10) (.c (.int .i64 1))),o 5 (.mv (.t 11))]))))))
 (.seq (.reg [o 54 (.mv (.t 1)),o 4 (.mv (.t 54))])
 .ret)),
 [.tmp 4]⟩
def F87 : Fun := ⟨27,
 .seq (.reg [o 4 (.mv (.c (.int .i64 0)))])
 (.seq (.reg [o 6 (.mv (.t 1)),o 7 (.mv (.t 0)),o 8 (.lenL (.t 7)),o 9 (.bin .sub (.t 6) (.t 8)),o 1 (.mv (.t 9))])
 (.seq (.seq (.reg [o 10 (.mv (.t 1)),o 11 (.bin .lss (.t 10) (.c (.int .i64 0)))])
 (.cond (.t 11) (.seq (.reg [o 4 (.mv (.c (.int .i64 (-1))))])
 .ret) .skip))
 (.seq (.seq (.reg [o 5 (.mv (.c (.int .i64 0)))])
 (.block 0 (.loop (.seq (.seq (.reg [o 12 (.mv (.t 5)),o 13 (.mv (.t 0)),o 14 (.lenL (.t 13)),o 15 (.bin .lss (.t 12) (.t 14))])
 (.cond (.t 15) .skip (.exit 0)))
 (.seq (.block 1 (.seq (.reg [o 18 (.mv (.t 0)),o 19 (.mv (.t 5)),o 20 (.iaddr 2 (.t 18) (.t 19)),o 21 (.load (some 2) (.t 20)),o 22 (.mv (.t 1)),o 23 (.call 131 [.t 21,.t 22]),o 1 (.mv (.t 23))])
 (.seq (.reg [o 24 (.mv (.t 1)),o 25 (.bin .lss (.t 24) (.c (.int .i64 0)))])
 (.cond (.t 25) (.seq (.reg [o 4 (.mv (.c (.int .i64 (-1))))])
 .ret) .skip))))
 (.reg [o 16 (.mv (.t 5)),o 17 (.bin .add (.t 16) (.c (.int .i64 1))),o 5 (.mv (.t 17))]))))))
 (.seq (.reg [o 26 (.mv (.t 1)),o 4 (.mv (.t 26))])
 .ret)))),
 [.tmp 4]⟩
def F88 : Fun := ⟨28,
 .seq (.reg [o 4 (.mv (.c (.int .i64 0)))])
 (.seq (.reg [o 6 (.mv (.t 1)),o 7 (.mv (.t 0)),o 8 (.lenL (.t 7)),o 9 (.bin .sub (.t 6) (.t 8)),o 1 (.mv (.t 9))])
 (.seq (.seq (.reg [o 10 (.mv (.t 1)),o 11 (.bin .lss (.t 10) (.c (.int .i64 0)))])
 (.cond (.t 11) (.seq (.reg [o 4 (.mv (.c (.int .i64 (-1))))])
 .ret) .skip))
 (.seq (.seq (.reg [o 5 (.mv (.c (.int .i64 0)))])
 (.block 0 (.loop (.seq (.seq (.reg [o 12 (.mv (.t 5)),o 13 (.mv (.t 0)),o 14 (.lenL (.t 13)),o 15 (.bin .lss (.t 12) (.t 14))])
 (.cond (.t 15) .skip (.exit 0)))
 (.seq (.block 1 (.seq (.reg [o 18 (.mv (.t 1)),o 19 (.mv (.t 0)),o 20 (.mv (.t 5)),o 21 (.iaddr 1 (.t 19) (.t 20)),o 22 (.load none (.t 21)),o 23 (.lenS (.t 22)),o 24 (.bin .sub (.t 18) (.t 23)),o 1 (.mv (.t 24))])
 (.seq (.reg [o 25 (.mv (.t 1)),o 26 (.bin .lss (.t 25) (.c (.int .i64 0)))])
 (.cond (.t 26) (.seq (.reg [o 4 (.mv (.c (.int .i64 (-1))))])
 .ret) .skip))))
 (.reg [o 16 (.mv (.t 5)),o 17 (.bin .add (.t 16) (.c (.int .i64 1))),o 5 (.mv (.t 17))]))))))
 (.seq (.reg [o 27 (.mv (.t 1)),o 4 (.mv (.t 27))])
 .ret)))),
 [.tmp 4]⟩
def F89 : Fun := ⟨27,
 .seq (.reg [o 4 (.mv (.c (.int .i64 0)))])
 (.seq (.reg [o 6 (.mv (.t 1)),o 7 (.mv (.t 0)),o 8 (.lenL (.t 7)),o 9 (.bin .sub (.t 6) (.t 8)),o 1 (.mv (.t 9))])
 (.seq (.seq (.reg [o 10 (.mv (.t 1)),o 11 (.bin .lss (.t 10) (.c (.int .i64 0)))])
 (.cond (.t 11) (.seq (.reg [o 4 (.mv (.c (.int .i64 (-1))))])
 .ret) .skip))
 (.seq (.seq (.reg [o 5 (.mv (.c (.int .i64 0)))])
 (.block 0 (.loop (.seq (.seq (.reg [o 12 (.mv (.t 5)),o 13 (.mv (.t 0)),o 14 (.lenL (.t 13)),o 15 (.bin .lss (.t 12) (.t 14))])
 (.cond (.t 15) .skip (.exit 0)))
 (.seq (.block 1 (.seq (.reg [o 18 (.mv (.t 0)),o 19 (.mv (.t 5)),o 20 (.iaddr 5 (.t 18) (.t 19)),o 21 (.load (some 5) (.t 20)),o 22 (.mv (.t 1)),o 23 (.call 132 [.t 21,.t 22]),o 1 (.mv (.t 23))])
 (.seq (.reg [o 24 (.mv (.t 1)),o 25 (.bin .lss (.t 24) (.c (.int .i64 0)))])
 (.cond (.t 25) (.seq (.reg [o 4 (.mv (.c (.int .i64 (-1))))])
 .ret) .skip))))
 (.reg [o 16 (.mv (.t 5)),o 17 (.bin .add (.t 16) (.c (.int .i64 1))),o 5 (.mv (.t 17))]))))))
 (.seq (.reg [o 26 (.mv (.t 1)),o 4 (.mv (.t 26))])
 .ret)))),
 [.tmp 4]⟩
def F90 : Fun := ⟨27,
 .seq (.reg [o 4 (.mv (.c (.int .i64 0)))])
 (.seq (.reg [o 6 (.mv (.t 1)),o 7 (.mv (.t 0)),o 8 (.lenL (.t 7)),o 9 (.bin .sub (.t 6) (.t 8)),o 1 (.mv (.t 9))])
 (.seq (.seq (.reg [o 10 (.mv (.t 1)),o 11 (.bin .lss (.t 10) (.c (.int .i64 0)))])
 (.cond (.t 11) (.seq (.reg [o 4 (.mv (.c (.int .i64 (-1))))])
 .ret) .skip))
 (.seq (.seq (.reg [o 5 (.mv (.c (.int .i64 0)))])
 (.block 0 (.loop (.seq (.seq (.reg [o 12 (.mv (.t 5)),o 13 (.mv (.t 0)),o 14 (.lenL (.t 13)),o 15 (.bin .lss (.t 12) (.t 14))])
 (.cond (.t 15) .skip (.exit 0)))
 (.seq (.block 1 (.seq (.reg [o 18 (.mv (.t 0)),o 19 (.mv (.t 5)),o 20 (.iaddr 8 (.t 18) (.t 19)),o 21 (.load (some 8) (.t 20)),o 22 (.mv (.t 1)),o 23 (.call 133 [.t 21,.t 22]),o 1 (.mv (.t 23))])
 (.seq (.reg [o 24 (.mv (.t 1)),o 25 (.bin .lss (.t 24) (.c (.int .i64 0)))])
 (.cond (.t 25) (.seq (.reg [o 4 (.mv (.c (.int .i64 (-1))))])
 .ret) .skip))))
 (.reg [o 16 (.mv (.t 5)),o 17 (.bin .add (.t 16) (.c (.int .i64 1))),o 5 (.mv (.t 17))]))))))
 (.seq (.reg [o 26 (.mv (.t 1)),o 4 (.mv (.t 26))])
 .ret)))),
 [.tmp 4]⟩
def F91 : Fun := ⟨27,
 .seq (.reg [o 4 (.mv (.c (.int .i64 0)))])
 (.seq (.reg [o 6 (.mv (.t 1)),o 7 (.mv (.t 0)),o 8 (.lenL (.t 7)),o 9 (.bin .sub (.t 6) (.t 8)),o 1 (.mv (.t 9))])
 (.seq (.seq (.reg [o 10 (.mv (.t 1)),o 11 (.bin .lss (.t 10) (.c (.int .i64 0)))])
 (.cond (.t 11) (.seq (.reg [o 4 (.mv (.c (.int .i64 (-1))))])
 .ret) .skip))
 (.seq (.seq (.reg [o 5 (.mv (.c (.int .i64 0)))])
 (.block 0 (.loop (.seq (.seq (.reg [o 12 (.mv (.t 5)),o 13 (.mv (.t 0)),o 14 (.lenL (.t 13)),o 15 (.bin .lss (.t 12) (.t 14))])
 (.cond (.t 15) .skip (.exit 0)))
 (.seq (.block 1 (.seq (.reg [o 18 (.mv (.t 0)),o 19 (.mv (.t 5)),o 20 (.iaddr 5 (.t 18) (.t 19)),o 21 (.load (some 5) (.t 20)),o 22 (.mv (.t 1)),o 23 (.call 134 [.t 21,.t 22]),o 1 (.mv (.t 23))])
 (.seq (.reg [o 24 (.mv (.t 1)),o 25 (.bin .lss (.t 24) (.c (.int .i64 0)))])
 (.cond (.t 25) (.seq (.reg [o 4 (.mv (.c (.int .i64 (-1))))])
 .ret) .skip))))
 (.reg [o 16 (.mv (.t 5)),o 17 (.bin .add (.t 16) (.c (.int .i64 1))),o 5 (.mv (.t 17))]))))))
 (.seq (.reg [o 26 (.mv (.t 1)),o 4 (.mv (.t 26))])
 .ret)))),
 [.tmp 4]⟩
def F92 : Fun := ⟨22,
 .seq (.reg [o 2 (.box 2 (.t 0)),o 4 (.mv (.c (.int .i64 0)))])
 (.seq (.seq (.reg [o 5 (.mv (.c (.int .i64 0)))])
 (.block 0 (.loop (.seq (.seq (.reg [o 6 (.mv (.t 5)),o 7 (.faddr 0 (.t 2)),o 8 (.load none (.t 7)),o 9 (.lenL (.t 8)),o 10 (.bin .lss (.t 6) (.t 9))])
 (.cond (.t 10) .skip (.exit 0)))
 (.seq (.block 1 (.seq (.reg [o 13 (.faddr 0 (.t 2)),o 14 (.load none (.t 13)),o 15 (.mv (.t 5)),o 16 (.iaddr 6 (.t 14) (.t 15)),o 17 (.faddr 0 (.t 16)),o 18 (.load none (.t 17)),o 19 (.mv (.t 1)),o 20 (.bin .eql (.t 18) (.t 19))])
 (.cond (.t 20) (.seq (.reg [o 21 (.mv (.t 5)),o 4 (.mv (.t 21))])
 .ret) .skip)))
 (.reg [o 11 (.mv (.t 5)),o 12 (.bin .add (.t 11) (.c (.int .i64 1))),o 5 (.mv (.t 12))]))))))
 (.seq (.reg [o 4 (.mv (.c (.int .i64 (-1))))])
 .ret)),
 [.tmp 4]⟩
def F93 : Fun := ⟨61,
 .seq (.reg [o 1 (.box 6 (.t 0)),o 2 (.mv (.c (.bool false)))])
 (.seq (.seq (.reg [o 6 (.faddr 0 (.t 1)),o 7 (.load none (.t 6)),o 8 (.lenS (.t 7)),o 9 (.call 54 [.t 8,.c (.int .i64 1),.c (.int .i64 100)]),o 10 (.un .not (.t 9)),o 11 (.mv (.t 10)),og 12 (.faddr 5 (.t 1)) 11 false,og 13 (.load none (.t 12)) 11 false,og 14 (.lenL (.t 13)) 11 false,og 15 (.bin .gtr (.t 14) (.c (.int .i64 8000))) 11 false,o 16 (.pick (.t 11) (.c (.bool true)) (.t 15)),o 17 (.mv (.t 16)),og 18 (.load (some 6) (.t 1)) 17 false,og 19 (.call 135 [.t 18]) 17 false,og 20 (.un .not (.t 19)) 17 false,o 21 (.pick (.t 17) (.c (.bool true)) (.t 20)),o 22 (.mv (.t 21)),og 23 (.load (some 6) (.t 1)) 22 false,og 24 (.call 97 [.t 23]) 22 false,og 25 (.mv (.t 24)) 22 false,og 26 (.faddr 3 (.t 1)) 25 true,og 27 (.load none (.t 26)) 25 true,og 28 (.lenL (.t 27)) 25 true,og 29 (.bin .gtr (.t 28) (.c (.int .i64 0))) 25 true,og 30 (.mv (.t 29)) 25 true,og 31 (.faddr 4 (.t 1)) 30 false,og 32 (.load none (.t 31)) 30 false,og 33 (.pick (.t 30) (.c (.bool true)) (.t 32)) 25 true,og 34 (.pick (.t 25) (.t 33) (.c (.bool false))) 22 false,o 35 (.pick (.t 22) (.c (.bool true)) (.t 34))])
 (.cond (.t 35) (.seq (.reg [o 2 (.mv (.c (.bool false)))])
 .ret) .skip))
 (.seq (.seq (.reg [o 3 (.mv (.c (.int .i64 0)))])
 (.block 0 (.loop (.seq (.seq (.reg [o 36 (.mv (.t 3)),o 37 (.faddr 5 (.t 1)),o 38 (.load none (.t 37)),o 39 (.lenL (.t 38)),o 40 (.bin .lss (.t 36) (.t 39))])
 (.cond (.t 40) .skip (.exit 0)))
 (.seq (.block 1 (.seq (.reg [o 43 (.faddr 5 (.t 1)),o 44 (.load none (.t 43)),o 45 (.mv (.t 3)),o 46 (.iaddr 5 (.t 44) (.t 45)),o 47 (.faddr 0 (.t 46)),o 48 (.load none (.t 47)),o 49 (.bin .eql (.t 48) (.c (.int .i64 54))),o 50 (.mv (.t 49)),og 51 (.faddr 4 (.t 1)) 50 true,og 52 (.load none (.t 51)) 50 true,og 53 (.un .not (.t 52)) 50 true,o 54 (.pick (.t 50) (.t 53) (.c (.bool false)))])
 (.cond (.t 54) (.seq (.reg [o 2 (.mv (.c (.bool false)))])
 .ret) .skip)))
 (.reg [o 41 (.mv (.t 3)),o 42 (.bin .add (.t 41) (.c (.int .i64 1))),o 3 (.mv (.t 42))]))))))
 (.seq (.reg [o 56 (.load (some 6) (.t 1)),o 57 (.call 136 [.t 56]),o 55 (.mv (.t 57)),o 58 (.extract (.t 55) 0),o 59 (.extract (.t 55) 1),o 4 (.mv (.t 58)),o 5 (.mv (.t 59))])
 (.seq (.reg [o 60 (.mv (.t 5)),o 2 (.mv (.t 60))])
 .ret)))),
 [.tmp 2]⟩
def F94 : Fun := ⟨20,
 .seq (.reg [o 4 (.mv (.c (.int .i64 0)))])
 (.seq (.seq (.reg [o 5 (.mv (.c (.int .i64 0)))])
 (.block 0 (.loop (.seq (.seq (.reg [o 6 (.mv (.t 5)),o 7 (.mv (.t 0)),o 8 (.lenL (.t 7)),o 9 (.bin .lss (.t 6) (.t 8))])
 (.cond (.t 9) .skip (.exit 0)))
 (.seq (.block 1 (.seq (.reg [o 12 (.mv (.t 0)),o 13 (.mv (.t 5)),o 14 (.iaddr 4 (.t 12) (.t 13)),o 15 (.faddr 0 (.t 14)),o 16 (.load none (.t 15)),o 17 (.mv (.t 1)),o 18 (.bin .eql (.t 16) (.t 17))])
 (.cond (.t 18) (.seq (.reg [o 19 (.mv (.t 5)),o 4 (.mv (.t 19))])
 .ret) .skip)))
 (.reg [o 10 (.mv (.t 5)),o 11 (.bin .add (.t 10) (.c (.int .i64 1))),o 5 (.mv (.t 11))]))))))
 (.seq (.reg [o 4 (.mv (.c (.int .i64 (-1))))])
 .ret)),
 [.tmp 4]⟩
def F95 : Fun := ⟨10,
 .seq (.reg [o 1 (.box 5 (.t 0)),o 2 (.mv (.c (.bool false)))])
 (.seq (.reg [o 3 (.load (some 5) (.t 1)),o 4 (.call 137 [.t 3,.c (.int .i64 200)]),o 5 (.bin .leq (.t 4) (.c (.int .i64 200))),o 6 (.mv (.t 5)),og 7 (.load (some 5) (.t 1)) 6 true,og 8 (.call 138 [.t 7]) 6 true,o 9 (.pick (.t 6) (.t 8) (.c (.bool false))),o 2 (.mv (.t 9))])
 .ret),
 [.tmp 2]⟩
def F96 : Fun := ⟨10,
 .seq (.reg [o 2 (.mv (.c (.bool false)))])
 (.seq (.reg [o 3 (.mv (.t 0)),o 4 (.call 139 [.t 3]),o 5 (.mv (.t 4)),og 6 (.mv (.t 0)) 5 true,og 7 (.call 140 [.t 6]) 5 true,og 8 (.un .not (.t 7)) 5 true,o 9 (.pick (.t 5) (.t 8) (.c (.bool false))),o 2 (.mv (.t 9))])
 .ret),
 [.tmp 2]⟩
def F97 : Fun := ⟨13,
 .seq (.reg [o 1 (.box 6 (.t 0)),o 2 (.mv (.c (.bool false)))])
 (.seq (.reg [o 3 (.faddr 0 (.t 1)),o 4 (.load none (.t 3)),o 5 (.lenS (.t 4)),o 6 (.bin .gtr (.t 5) (.c (.int .i64 0))),o 7 (.mv (.t 6)),og 8 (.faddr 0 (.t 1)) 7 true,og 9 (.load none (.t 8)) 7 true,og 10 (.index (.t 9) (.c (.int .i64 0))) 7 true,og 11 (.bin .eql (.t 10) (.c (.int .u8 47))) 7 true,o 12 (.pick (.t 7) (.t 11) (.c (.bool false))),o 2 (.mv (.t 12))])
 .ret),
 [.tmp 2]⟩
def F98 : Fun := ⟨21,
 .seq (.reg [o 4 (.mv (.c .nsl))])
 (.seq (.block 0 (.loop (.seq (.seq (.reg [o 5 (.mv (.t 1)),o 6 (.bin .gtr (.t 5) (.c (.int .i64 127)))])
 (.cond (.t 6) .skip (.exit 0)))
 (.block 1 (.seq (.reg [o 7 (.mv (.t 0)),o 8 (.mv (.t 1)),o 9 (.bin .and (.t 8) (.c (.int .i64 127))),o 10 (.bin .or (.t 9) (.c (.int .i64 128))),o 11 (.toInt .u8 (.t 10)),o 12 (.bslice 1 [.int .u8 0] 1 [(0,(.t 11))]),o 13 (.append 1 1 (.t 7) (.t 12)),o 0 (.mv (.t 13))])
 (.reg [o 14 (.mv (.t 1)),o 15 (.bin .shr (.t 14) (.c (.int .u64 7))),o 1 (.mv (.t 15))]))))))
 (.seq (.reg [o 16 (.mv (.t 0)),o 17 (.mv (.t 1)),o 18 (.toInt .u8 (.t 17)),o 19 (.bslice 1 [.int .u8 0] 1 [(0,(.t 18))]),o 20 (.append 1 1 (.t 16) (.t 19)),o 4 (.mv (.t 20))])
 .ret)),
 [.tmp 4]⟩
def F99 : Fun := ⟨74,
 .seq (.reg [o 3 (.box 6 (.t 1)),o 4 (.mv (.c .nsl))])
 (.seq (.reg [o 8 (.mv (.t 0)),o 9 (.faddr 0 (.t 3)),o 10 (.load none (.t 9)),o 12 (.faddr 1 (.t 3)),o 13 (.load none (.t 12)),o 15 (.faddr 2 (.t 3)),o 16 (.load none (.t 15)),o 11 (.call 142 [.t 8,.t 10]),st (.chk none (.t 12) (.t 13)),st (.chk none (.t 15) (.t 16)),o 14 (.call 141 [.t 11,.t 13]),st (.chk none (.t 15) (.t 16)),o 17 (.call 141 [.t 14,.t 16]),o 0 (.mv (.t 17))])
 (.seq (.reg [o 18 (.mv (.t 0)),o 19 (.faddr 3 (.t 3)),o 20 (.load none (.t 19)),o 21 (.lenL (.t 20)),o 22 (.call 98 [.t 18,.t 21]),o 0 (.mv (.t 22))])
 (.seq (.seq (.reg [o 5 (.mv (.c (.int .i64 0)))])
 (.block 0 (.loop (.seq (.seq (.reg [o 23 (.mv (.t 5)),o 24 (.faddr 3 (.t 3)),o 25 (.load none (.t 24)),o 26 (.lenL (.t 25)),o 27 (.bin .lss (.t 23) (.t 26))])
 (.cond (.t 27) .skip (.exit 0)))
 (.seq (.block 1 (.reg [o 30 (.mv (.t 0)),o 31 (.faddr 3 (.t 3)),o 32 (.load none (.t 31)),o 33 (.mv (.t 5)),o 34 (.iaddr 1 (.t 32) (.t 33)),o 35 (.load none (.t 34)),o 36 (.call 142 [.t 30,.t 35]),o 0 (.mv (.t 36))]))
 (.reg [o 28 (.mv (.t 5)),o 29 (.bin .add (.t 28) (.c (.int .i64 1))),o 5 (.mv (.t 29))]))))))
 (.seq (.reg [o 37 (.mv (.t 0)),o 38 (.faddr 4 (.t 3)),o 39 (.load none (.t 38)),o 41 (.faddr 5 (.t 3)),o 42 (.load none (.t 41)),o 43 (.lenL (.t 42)),o 40 (.call 143 [.t 37,.t 39]),st (.chk none (.t 41) (.t 42)),o 44 (.call 98 [.t 40,.t 43]),o 0 (.mv (.t 44))])
 (.seq (.seq (.reg [o 6 (.mv (.c (.int .i64 0)))])
 (.block 2 (.loop (.seq (.seq (.reg [o 45 (.mv (.t 6)),o 46 (.faddr 5 (.t 3)),o 47 (.load none (.t 46)),o 48 (.lenL (.t 47)),o 49 (.bin .lss (.t 45) (.t 48))])
 (.cond (.t 49) .skip (.exit 2)))
 (.seq (.block 3 (.seq (.reg [o 52 (.faddr 5 (.t 3)),o 53 (.load none (.t 52)),o 54 (.mv (.t 6)),o 55 (.iaddr 5 (.t 53) (.t 54)),o 56 (.load (some 5) (.t 55)),o 7 (.new 5 [.int .i64 0,.int .i64 0,.int .i64 0,.str [],.str []]),st (.store 5 (.t 7) (.t 56))])
 (.reg [o 57 (.mv (.t 0)),o 58 (.faddr 0 (.t 7)),o 59 (.load none (.t 58)),o 61 (.faddr 1 (.t 7)),o 62 (.load none (.t 61)),o 64 (.faddr 2 (.t 7)),o 65 (.load none (.t 64)),o 67 (.faddr 3 (.t 7)),o 68 (.load none (.t 67)),o 70 (.faddr 4 (.t 7)),o 71 (.load none (.t 70)),o 60 (.call 98 [.t 57,.t 59]),st (.chk none (.t 61) (.t 62)),st (.chk none (.t 64) (.t 65)),st (.chk none (.t 67) (.t 68)),st (.chk none (.t 70) (.t 71)),o 63 (.call 98 [.t 60,.t 62]),st (.chk none (.t 64) (.t 65)),st (.chk none (.t 67) (.t 68)),st (.chk none (.t 70) (.t 71)),o 66 (.call 98 [.t 63,.t 65]),st (.chk none (.t 67) (.t 68)),st (.chk none (.t 70) (.t 71)),o 69 (.call 142 [.t 66,.t 68]),st (.chk none (.t 70) (.t 71)),o 72 (.call 142 [.t 69,.t 71]),o 0 (.mv (.t 72))])))
 (.reg [o 50 (.mv (.t 6)),o 51 (.bin .add (.t 50) (.c (.int .i64 1))),o 6 (.mv (.t 51))]))))))
 (.seq (.reg [o 73 (.mv (.t 0)),o 4 (.mv (.t 73))])
 .ret)))))),
 [.tmp 4]⟩
def F100 : Fun := ⟨80,
 .seq (.reg [o 3 (.box 4 (.t 1)),o 4 (.mv (.c .nsl))])
 (.seq (.reg [o 9 (.mv (.t 0)),o 10 (.faddr 0 (.t 3)),o 11 (.load none (.t 10)),o 13 (.faddr 1 (.t 3)),o 14 (.load none (.t 13)),o 16 (.faddr 2 (.t 3)),o 17 (.load none (.t 16)),o 18 (.lenL (.t 17)),o 12 (.call 142 [.t 9,.t 11]),st (.chk none (.t 13) (.t 14)),st (.chk none (.t 16) (.t 17)),o 15 (.call 142 [.t 12,.t 14]),st (.chk none (.t 16) (.t 17)),o 19 (.call 98 [.t 15,.t 18]),o 0 (.mv (.t 19))])
 (.seq (.seq (.reg [o 5 (.mv (.c (.int .i64 0)))])
 (.block 0 (.loop (.seq (.seq (.reg [o 20 (.mv (.t 5)),o 21 (.faddr 2 (.t 3)),o 22 (.load none (.t 21)),o 23 (.lenL (.t 22)),o 24 (.bin .lss (.t 20) (.t 23))])
 (.cond (.t 24) .skip (.exit 0)))
 (.seq (.block 1 (.seq (.reg [o 27 (.faddr 2 (.t 3)),o 28 (.load none (.t 27)),o 29 (.mv (.t 5)),o 30 (.iaddr 8 (.t 28) (.t 29)),o 31 (.load (some 8) (.t 30)),o 6 (.new 8 [.str [],.str [],.bool false,.int .i64 0,.int .i64 0,.str [],.int .i64 0,.nsl]),st (.store 8 (.t 6) (.t 31))])
 (.reg [o 32 (.mv (.t 0)),o 33 (.faddr 0 (.t 6)),o 34 (.load none (.t 33)),o 36 (.faddr 1 (.t 6)),o 37 (.load none (.t 36)),o 39 (.faddr 2 (.t 6)),o 40 (.load none (.t 39)),o 42 (.faddr 3 (.t 6)),o 43 (.load (some 5) (.t 42)),o 35 (.call 142 [.t 32,.t 34]),st (.chk none (.t 36) (.t 37)),st (.chk none (.t 39) (.t 40)),st (.chk (some 5) (.t 42) (.t 43)),o 38 (.call 142 [.t 35,.t 37]),st (.chk none (.t 39) (.t 40)),st (.chk (some 5) (.t 42) (.t 43)),o 41 (.call 143 [.t 38,.t 40]),st (.chk (some 5) (.t 42) (.t 43)),o 44 (.call 144 [.t 43]),o 45 (.call 142 [.t 41,.t 44]),o 0 (.mv (.t 45))])))
 (.reg [o 25 (.mv (.t 5)),o 26 (.bin .add (.t 25) (.c (.int .i64 1))),o 5 (.mv (.t 26))]))))))
 (.seq (.reg [o 46 (.mv (.t 0)),o 47 (.faddr 3 (.t 3)),o 48 (.load none (.t 47)),o 49 (.lenL (.t 48)),o 50 (.call 98 [.t 46,.t 49]),o 0 (.mv (.t 50))])
 (.seq (.seq (.reg [o 7 (.mv (.c (.int .i64 0)))])
 (.block 2 (.loop (.seq (.seq (.reg [o 51 (.mv (.t 7)),o 52 (.faddr 3 (.t 3)),o 53 (.load none (.t 52)),o 54 (.lenL (.t 53)),o 55 (.bin .lss (.t 51) (.t 54))])
 (.cond (.t 55) .skip (.exit 2)))
 (.seq (.block 3 (.seq (.reg [o 58 (.faddr 3 (.t 3)),o 59 (.load none (.t 58)),o 60 (.mv (.t 7)),o 61 (.iaddr 5 (.t 59) (.t 60)),o 62 (.load (some 5) (.t 61)),o 8 (.new 5 [.str [],.str [],.str [],.bool false,.bool false]),st (.store 5 (.t 8) (.t 62))])
 (.reg [o 63 (.mv (.t 0)),o 64 (.faddr 0 (.t 8)),o 65 (.load none (.t 64)),o 67 (.faddr 1 (.t 8)),o 68 (.load none (.t 67)),o 70 (.faddr 2 (.t 8)),o 71 (.load none (.t 70)),o 73 (.faddr 3 (.t 8)),o 74 (.load none (.t 73)),o 76 (.faddr 4 (.t 8)),o 77 (.load none (.t 76)),o 66 (.call 142 [.t 63,.t 65]),st (.chk none (.t 67) (.t 68)),st (.chk none (.t 70) (.t 71)),st (.chk none (.t 73) (.t 74)),st (.chk none (.t 76) (.t 77)),o 69 (.call 142 [.t 66,.t 68]),st (.chk none (.t 70) (.t 71)),st (.chk none (.t 73) (.t 74)),st (.chk none (.t 76) (.t 77)),o 72 (.call 142 [.t 69,.t 71]),st (.chk none (.t 73) (.t 74)),st (.chk none (.t 76) (.t 77)),o 75 (.call 143 [.t 72,.t 74]),st (.chk none (.t 76) (.t 77)),o 78 (.call 143 [.t 75,.t 77]),o 0 (.mv (.t 78))])))
 (.reg [o 56 (.mv (.t 7)),o 57 (.bin .add (.t 56) (.c (.int .i64 1))),o 7 (.mv (.t 57))]))))))
 (.seq (.reg [o 79 (.mv (.t 0)),o 4 (.mv (.t 79))])
 .ret))))),
 [.tmp 4]⟩
def F101 : Fun := ⟨23,
 .seq (.reg [o 2 (.mv (.c .nsl))])
 (.seq (.reg [o 5 (.mv (.t 0)),o 6 (.lenL (.t 5)),o 7 (.mkslice 2 [.str [],.bool false] 24 (.t 6) (.t 6)),o 3 (.mv (.t 7))])
 (.seq (.seq (.reg [o 4 (.mv (.c (.int .i64 0)))])
 (.block 0 (.loop (.seq (.seq (.reg [o 8 (.mv (.t 4)),o 9 (.mv (.t 0)),o 10 (.lenL (.t 9)),o 11 (.bin .lss (.t 8) (.t 10))])
 (.cond (.t 11) .skip (.exit 0)))
 (.seq (.block 1 (.reg [o 14 (.mv (.t 3)),o 15 (.mv (.t 4)),o 16 (.mv (.t 0)),o 17 (.mv (.t 4)),o 18 (.iaddr 2 (.t 16) (.t 17)),o 19 (.load (some 2) (.t 18)),o 20 (.call 145 [.t 19]),o 21 (.iaddr 2 (.t 14) (.t 15)),st (.store 2 (.t 21) (.t 20))]))
 (.reg [o 12 (.mv (.t 4)),o 13 (.bin .add (.t 12) (.c (.int .i64 1))),o 4 (.mv (.t 13))]))))))
 (.seq (.reg [o 22 (.mv (.t 3)),o 2 (.mv (.t 22))])
 .ret))),
 [.tmp 2]⟩
def F102 : Fun := ⟨22,
 .seq (.reg [o 2 (.mv (.c .nsl))])
 (.seq (.reg [o 5 (.mv (.t 0)),o 6 (.lenL (.t 5)),o 7 (.mkslice 1 [.str []] 16 (.t 6) (.t 6)),o 3 (.mv (.t 7))])
 (.seq (.seq (.reg [o 4 (.mv (.c (.int .i64 0)))])
 (.block 0 (.loop (.seq (.seq (.reg [o 8 (.mv (.t 4)),o 9 (.mv (.t 0)),o 10 (.lenL (.t 9)),o 11 (.bin .lss (.t 8) (.t 10))])
 (.cond (.t 11) .skip (.exit 0)))
 (.seq (.block 1 (.reg [o 14 (.mv (.t 3)),o 15 (.mv (.t 4)),o 16 (.mv (.t 0)),o 17 (.mv (.t 4)),o 18 (.iaddr 1 (.t 16) (.t 17)),o 19 (.load none (.t 18)),o 20 (.iaddr 1 (.t 14) (.t 15)),st (.store 1 (.t 20) (.t 19))]))
 (.reg [o 12 (.mv (.t 4)),o 13 (.bin .add (.t 12) (.c (.int .i64 1))),o 4 (.mv (.t 13))]))))))
 (.seq (.reg [o 21 (.mv (.t 3)),o 2 (.mv (.t 21))])
 .ret))),
 [.tmp 2]⟩
def F103 : Fun := ⟨23,
 .seq (.reg [o 2 (.mv (.c .nsl))])
 (.seq (.reg [o 5 (.mv (.t 0)),o 6 (.lenL (.t 5)),o 7 (.mkslice 5 [.int .i64 0,.int .i64 0,.int .i64 0,.str [],.str []] 56 (.t 6) (.t 6)),o 3 (.mv (.t 7))])
 (.seq (.seq (.reg [o 4 (.mv (.c (.int .i64 0)))])
 (.block 0 (.loop (.seq (.seq (.reg [o 8 (.mv (.t 4)),o 9 (.mv (.t 0)),o 10 (.lenL (.t 9)),o 11 (.bin .lss (.t 8) (.t 10))])
 (.cond (.t 11) .skip (.exit 0)))
 (.seq (.block 1 (.reg [o 14 (.mv (.t 3)),o 15 (.mv (.t 4)),o 16 (.mv (.t 0)),o 17 (.mv (.t 4)),o 18 (.iaddr 5 (.t 16) (.t 17)),o 19 (.load (some 5) (.t 18)),o 20 (.call 146 [.t 19]),o 21 (.iaddr 5 (.t 14) (.t 15)),st (.store 5 (.t 21) (.t 20))]))
 (.reg [o 12 (.mv (.t 4)),o 13 (.bin .add (.t 12) (.c (.int .i64 1))),o 4 (.mv (.t 13))]))))))
 (.seq (.reg [o 22 (.mv (.t 3)),o 2 (.mv (.t 22))])
 .ret))),
 [.tmp 2]⟩
def F104 : Fun := ⟨23,
 .seq (.reg [o 2 (.mv (.c .nsl))])
 (.seq (.reg [o 5 (.mv (.t 0)),o 6 (.lenL (.t 5)),o 7 (.mkslice 8 [.str [],.str [],.bool false,.int .i64 0,.int .i64 0,.str [],.int .i64 0,.nsl] 104 (.t 6) (.t 6)),o 3 (.mv (.t 7))])
 (.seq (.seq (.reg [o 4 (.mv (.c (.int .i64 0)))])
 (.block 0 (.loop (.seq (.seq (.reg [o 8 (.mv (.t 4)),o 9 (.mv (.t 0)),o 10 (.lenL (.t 9)),o 11 (.bin .lss (.t 8) (.t 10))])
 (.cond (.t 11) .skip (.exit 0)))
 (.seq (.block 1 (.reg [o 14 (.mv (.t 3)),o 15 (.mv (.t 4)),o 16 (.mv (.t 0)),o 17 (.mv (.t 4)),o 18 (.iaddr 8 (.t 16) (.t 17)),o 19 (.load (some 8) (.t 18)),o 20 (.call 147 [.t 19]),o 21 (.iaddr 8 (.t 14) (.t 15)),st (.store 8 (.t 21) (.t 20))]))
 (.reg [o 12 (.mv (.t 4)),o 13 (.bin .add (.t 12) (.c (.int .i64 1))),o 4 (.mv (.t 13))]))))))
 (.seq (.reg [o 22 (.mv (.t 3)),o 2 (.mv (.t 22))])
 .ret))),
 [.tmp 2]⟩
def F105 : Fun := ⟨23,
 .seq (.reg [o 2 (.mv (.c .nsl))])
 (.seq (.reg [o 5 (.mv (.t 0)),o 6 (.lenL (.t 5)),o 7 (.mkslice 5 [.str [],.str [],.str [],.bool false,.bool false] 56 (.t 6) (.t 6)),o 3 (.mv (.t 7))])
 (.seq (.seq (.reg [o 4 (.mv (.c (.int .i64 0)))])
 (.block 0 (.loop (.seq (.seq (.reg [o 8 (.mv (.t 4)),o 9 (.mv (.t 0)),o 10 (.lenL (.t 9)),o 11 (.bin .lss (.t 8) (.t 10))])
 (.cond (.t 11) .skip (.exit 0)))
 (.seq (.block 1 (.reg [o 14 (.mv (.t 3)),o 15 (.mv (.t 4)),o 16 (.mv (.t 0)),o 17 (.mv (.t 4)),o 18 (.iaddr 5 (.t 16) (.t 17)),o 19 (.load (some 5) (.t 18)),o 20 (.call 148 [.t 19]),o 21 (.iaddr 5 (.t 14) (.t 15)),st (.store 5 (.t 21) (.t 20))]))
 (.reg [o 12 (.mv (.t 4)),o 13 (.bin .add (.t 12) (.c (.int .i64 1))),o 4 (.mv (.t 13))]))))))
 (.seq (.reg [o 22 (.mv (.t 3)),o 2 (.mv (.t 22))])
 .ret))),
 [.tmp 2]⟩
def F114 : Fun := ⟨27,
 .seq (.reg [o 4 (.mv (.c (.bool false)))])
 (.seq (.seq (.reg [o 6 (.mv (.t 0)),o 7 (.lenL (.t 6)),o 8 (.mv (.t 1)),o 9 (.lenL (.t 8)),o 10 (.bin .neq (.t 7) (.t 9))])
 (.cond (.t 10) (.seq (.reg [o 4 (.mv (.c (.bool false)))])
 .ret) .skip))
 (.seq (.seq (.reg [o 5 (.mv (.c (.int .i64 0)))])
 (.block 0 (.loop (.seq (.seq (.reg [o 11 (.mv (.t 5)),o 12 (.mv (.t 0)),o 13 (.lenL (.t 12)),o 14 (.bin .lss (.t 11) (.t 13))])
 (.cond (.t 14) .skip (.exit 0)))
 (.seq (.block 1 (.seq (.reg [o 17 (.mv (.t 0)),o 18 (.mv (.t 5)),o 19 (.iaddr 2 (.t 17) (.t 18)),o 20 (.load (some 2) (.t 19)),o 21 (.mv (.t 1)),o 22 (.mv (.t 5)),o 23 (.iaddr 2 (.t 21) (.t 22)),o 24 (.load (some 2) (.t 23)),o 25 (.callF 158 [.t 20,.t 24]),o 26 (.un .not (.t 25))])
 (.cond (.t 26) (.seq (.reg [o 4 (.mv (.c (.bool false)))])
 .ret) .skip)))
 (.reg [o 15 (.mv (.t 5)),o 16 (.bin .add (.t 15) (.c (.int .i64 1))),o 5 (.mv (.t 16))]))))))
 (.seq (.reg [o 4 (.mv (.c (.bool true)))])
 .ret))),
 [.tmp 4]⟩
def F115 : Fun := ⟨26,
 .seq (.reg [o 4 (.mv (.c (.bool false)))])
 (.seq (.seq (.reg [o 6 (.mv (.t 0)),o 7 (.lenL (.t 6)),o 8 (.mv (.t 1)),o 9 (.lenL (.t 8)),o 10 (.bin .neq (.t 7) (.t 9))])
 (.cond (.t 10) (.seq (.reg [o 4 (.mv (.c (.bool false)))])
 .ret) .skip))
 (.seq (.seq (.reg [o 5 (.mv (.c (.int .i64 0)))])
 (.block 0 (.loop (.seq (.seq (.reg [o 11 (.mv (.t 5)),o 12 (.mv (.t 0)),o 13 (.lenL (.t 12)),o 14 (.bin .lss (.t 11) (.t 13))])
 (.cond (.t 14) .skip (.exit 0)))
 (.seq (.block 1 (.seq (.reg [o 17 (.mv (.t 0)),o 18 (.mv (.t 5)),o 19 (.iaddr 1 (.t 17) (.t 18)),o 20 (.load none (.t 19)),o 21 (.mv (.t 1)),o 22 (.mv (.t 5)),o 23 (.iaddr 1 (.t 21) (.t 22)),o 24 (.load none (.t 23)),o 25 (.bin .neq (.t 20) (.t 24))])
 (.cond (.t 25) (.seq (.reg [o 4 (.mv (.c (.bool false)))])
 .ret) .skip)))
 (.reg [o 15 (.mv (.t 5)),o 16 (.bin .add (.t 15) (.c (.int .i64 1))),o 5 (.mv (.t 16))]))))))
 (.seq (.reg [o 4 (.mv (.c (.bool true)))])
 .ret))),
 [.tmp 4]⟩
def F116 : Fun := ⟨27,
 .seq (.reg [o 4 (.mv (.c (.bool false)))])
 (.seq (.seq (.reg [o 6 (.mv (.t 0)),o 7 (.lenL (.t 6)),o 8 (.mv (.t 1)),o 9 (.lenL (.t 8)),o 10 (.bin .neq (.t 7) (.t 9))])
 (.cond (.t 10) (.seq (.reg [o 4 (.mv (.c (.bool false)))])
 .ret) .skip))
 (.seq (.seq (.reg [o 5 (.mv (.c (.int .i64 0)))])
 (.block 0 (.loop (.seq (.seq (.reg [o 11 (.mv (.t 5)),o 12 (.mv (.t 0)),o 13 (.lenL (.t 12)),o 14 (.bin .lss (.t 11) (.t 13))])
 (.cond (.t 14) .skip (.exit 0)))
 (.seq (.block 1 (.seq (.reg [o 17 (.mv (.t 0)),o 18 (.mv (.t 5)),o 19 (.iaddr 5 (.t 17) (.t 18)),o 20 (.load (some 5) (.t 19)),o 21 (.mv (.t 1)),o 22 (.mv (.t 5)),o 23 (.iaddr 5 (.t 21) (.t 22)),o 24 (.load (some 5) (.t 23)),o 25 (.callF 159 [.t 20,.t 24]),o 26 (.un .not (.t 25))])
 (.cond (.t 26) (.seq (.reg [o 4 (.mv (.c (.bool false)))])
 .ret) .skip)))
 (.reg [o 15 (.mv (.t 5)),o 16 (.bin .add (.t 15) (.c (.int .i64 1))),o 5 (.mv (.t 16))]))))))
 (.seq (.reg [o 4 (.mv (.c (.bool true)))])
 .ret))),
 [.tmp 4]⟩
def F117 : Fun := ⟨27,
 .seq (.reg [o 4 (.mv (.c (.bool false)))])
 (.seq (.seq (.reg [o 6 (.mv (.t 0)),o 7 (.lenL (.t 6)),o 8 (.mv (.t 1)),o 9 (.lenL (.t 8)),o 10 (.bin .neq (.t 7) (.t 9))])
 (.cond (.t 10) (.seq (.reg [o 4 (.mv (.c (.bool false)))])
 .ret) .skip))
 (.seq (.seq (.reg [o 5 (.mv (.c (.int .i64 0)))])
 (.block 0 (.loop (.seq (.seq (.reg [o 11 (.mv (.t 5)),o 12 (.mv (.t 0)),o 13 (.lenL (.t 12)),o 14 (.bin .lss (.t 11) (.t 13))])
 (.cond (.t 14) .skip (.exit 0)))
 (.seq (.block 1 (.seq (.reg [o 17 (.mv (.t 0)),o 18 (.mv (.t 5)),o 19 (.iaddr 8 (.t 17) (.t 18)),o 20 (.load (some 8) (.t 19)),o 21 (.mv (.t 1)),o 22 (.mv (.t 5)),o 23 (.iaddr 8 (.t 21) (.t 22)),o 24 (.load (some 8) (.t 23)),o 25 (.callF 160 [.t 20,.t 24]),o 26 (.un .not (.t 25))])
 (.cond (.t 26) (.seq (.reg [o 4 (.mv (.c (.bool false)))])
 .ret) .skip)))
 (.reg [o 15 (.mv (.t 5)),o 16 (.bin .add (.t 15) (.c (.int .i64 1))),o 5 (.mv (.t 16))]))))))
 (.seq (.reg [o 4 (.mv (.c (.bool true)))])
 .ret))),
 [.tmp 4]⟩
def F118 : Fun := ⟨27,
 .seq (.reg [o 4 (.mv (.c (.bool false)))])
 (.seq (.seq (.reg [o 6 (.mv (.t 0)),o 7 (.lenL (.t 6)),o 8 (.mv (.t 1)),o 9 (.lenL (.t 8)),o 10 (.bin .neq (.t 7) (.t 9))])
 (.cond (.t 10) (.seq (.reg [o 4 (.mv (.c (.bool false)))])
 .ret) .skip))
 (.seq (.seq (.reg [o 5 (.mv (.c (.int .i64 0)))])
 (.block 0 (.loop (.seq (.seq (.reg [o 11 (.mv (.t 5)),o 12 (.mv (.t 0)),o 13 (.lenL (.t 12)),o 14 (.bin .lss (.t 11) (.t 13))])
 (.cond (.t 14) .skip (.exit 0)))
 (.seq (.block 1 (.seq (.reg [o 17 (.mv (.t 0)),o 18 (.mv (.t 5)),o 19 (.iaddr 5 (.t 17) (.t 18)),o 20 (.load (some 5) (.t 19)),o 21 (.mv (.t 1)),o 22 (.mv (.t 5)),o 23 (.iaddr 5 (.t 21) (.t 22)),o 24 (.load (some 5) (.t 23)),o 25 (.callF 161 [.t 20,.t 24]),o 26 (.un .not (.t 25))])
 (.cond (.t 26) (.seq (.reg [o 4 (.mv (.c (.bool false)))])
 .ret) .skip)))
 (.reg [o 15 (.mv (.t 5)),o 16 (.bin .add (.t 15) (.c (.int .i64 1))),o 5 (.mv (.t 16))]))))))
 (.seq (.reg [o 4 (.mv (.c (.bool true)))])
 .ret))),
 [.tmp 4]⟩
def F119 : Fun := ⟨81,
 .seq (.reg [o 4 (.mv (.c (.int .i64 0)))])
 (.seq (.seq (.reg [o 5 (.mv (.c (.int .i64 0)))])
 (.block 0 (.loop (.seq (.seq (.reg [o 6 (.mv (.t 5)),o 7 (.mv (.t 0)),o 8 (.lenL (.t 7)),o 9 (.bin .lss (.t 6) (.t 8))])
 (.cond (.t 9) .skip (.exit 0)))
 (.seq (.block 1 (.seq (.reg [o 12 (.mv (.t 0)),o 13 (.mv (.t 5)),o 14 (.mv (.t 1)),o 15 (.bin .rem (.t 14) (.c (.int .i64 3))),o 16 (.bin .eql (.t 15) (.c (.int .i64 0))),o 17 (.iaddr 8 (.t 12) (.t 13)),o 18 (.faddr 0 (.t 17)),o 19 (.faddr 0 (.t 18)),st (.store 1 (.t 19) (.t 16))])
 (.seq (.reg [o 20 (.mv (.t 1)),o 21 (.bin .add (.t 20) (.c (.int .i64 1))),o 1 (.mv (.t 21))])
 (.seq (.reg [o 22 (.mv (.t 0)),o 23 (.mv (.t 5)),o 24 (.mv (.t 1)),o 25 (.iaddr 8 (.t 22) (.t 23)),o 26 (.faddr 0 (.t 25)),o 27 (.faddr 1 (.t 26)),st (.store 1 (.t 27) (.t 24))])
 (.seq (.reg [o 28 (.mv (.t 1)),o 29 (.bin .add (.t 28) (.c (.int .i64 1))),o 1 (.mv (.t 29))])
 (.seq (.reg [o 30 (.mv (.t 0)),o 31 (.mv (.t 5)),o 32 (.mv (.t 1)),o 33 (.call 70 [.t 32]),o 34 (.iaddr 8 (.t 30) (.t 31)),o 35 (.faddr 0 (.t 34)),o 36 (.faddr 2 (.t 35)),st (.store 1 (.t 36) (.t 33))])
 (.seq (.reg [o 37 (.mv (.t 1)),o 38 (.bin .add (.t 37) (.c (.int .i64 1))),o 1 (.mv (.t 38))])
 (.seq (.reg [o 39 (.mv (.t 0)),o 40 (.mv (.t 5)),o 41 (.mv (.t 1)),o 42 (.iaddr 8 (.t 39) (.t 40)),o 43 (.faddr 3 (.t 42)),o 44 (.faddr 0 (.t 43)),st (.store 1 (.t 44) (.t 41))])
 (.seq (.reg [o 45 (.mv (.t 1)),o 46 (.bin .add (.t 45) (.c (.int .i64 1))),o 1 (.mv (.t 46))])
 (.seq (.reg [o 47 (.mv (.t 0)),o 48 (.mv (.t 5)),o 49 (.mv (.t 1)),o 50 (.iaddr 8 (.t 47) (.t 48)),o 51 (.faddr 3 (.t 50)),o 52 (.faddr 1 (.t 51)),st (.store 1 (.t 52) (.t 49))])
 (.seq (.reg [o 53 (.mv (.t 1)),o 54 (.bin .add (.t 53) (.c (.int .i64 1))),o 1 (.mv (.t 54))])
 (.seq (.reg [o 55 (.mv (.t 0)),o 56 (.mv (.t 5)),o 57 (.mv (.t 1)),o 58 (.call 70 [.t 57]),o 59 (.iaddr 8 (.t 55) (.t 56)),o 60 (.faddr 3 (.t 59)),o 61 (.faddr 2 (.t 60)),st (.store 1 (.t 61) (.t 58))])
 (.seq (.reg [o 62 (.mv (.t 1)),o 63 (.bin .add (.t 62) (.c (.int .i64 1))),o 1 (.mv (.t 63))])
 (.seq (.reg [o 64 (.mv (.t 0)),o 65 (.mv (.t 5)),o 66 (.mv (.t 1)),o 67 (.iaddr 8 (.t 64) (.t 65)),o 68 (.faddr 3 (.t 67)),o 69 (.faddr 3 (.t 68)),st (.store 1 (.t 69) (.t 66))])
 (.seq (.reg [o 70 (.mv (.t 1)),o 71 (.bin .add (.t 70) (.c (.int .i64 1))),o 1 (.mv (.t 71))])
 (.reg [o 72 (.mv (.t 0)),o 73 (.mv (.t 5)),o 74 (.iaddr 8 (.t 72) (.t 73)),o 75 (.faddr 3 (.t 74)),o 76 (.faddr 4 (.t 75)),o 77 (.load none (.t 76)),o 78 (.mv (.t 1)),o 79 (.call 119 [.t 77,.t 78]),o 1 (.mv (.t 79))]))))))))))))))))
 (.reg [o 10 (.mv (.t 5)),o 11 (.bin .add (.t 10) (.c (.int .i64 1))),o 5 (.mv (.t 11))]))))))
 (.seq (.reg [o 80 (.mv (.t 1)),o 4 (.mv (.t 80))])
 .ret)),
 [.tmp 4]⟩
def F131 : Fun := ⟨13,
 .seq (.reg [o 2 (.box 2 (.t 0)),o 4 (.mv (.c (.int .i64 0)))])
 (.seq (.reg [o 5 (.mv (.t 1)),o 6 (.faddr 0 (.t 2)),o 7 (.load none (.t 6)),o 8 (.lenS (.t 7)),o 9 (.bin .sub (.t 5) (.t 8)),o 1 (.mv (.t 9))])
 (.seq (.seq (.reg [o 10 (.mv (.t 1)),o 11 (.bin .lss (.t 10) (.c (.int .i64 0)))])
 (.cond (.t 11) (.seq (.reg [o 4 (.mv (.c (.int .i64 (-1))))])
 .ret) .skip))
 (.seq (.reg [o 12 (.mv (.t 1)),o 4 (.mv (.t 12))])
 .ret))),
 [.tmp 4]⟩
def F132 : Fun := ⟨20,
 .seq (.reg [o 2 (.box 5 (.t 0)),o 4 (.mv (.c (.int .i64 0)))])
 (.seq (.reg [o 5 (.mv (.t 1)),o 6 (.faddr 3 (.t 2)),o 7 (.load none (.t 6)),o 8 (.lenS (.t 7)),o 9 (.bin .sub (.t 5) (.t 8)),o 1 (.mv (.t 9))])
 (.seq (.seq (.reg [o 10 (.mv (.t 1)),o 11 (.bin .lss (.t 10) (.c (.int .i64 0)))])
 (.cond (.t 11) (.seq (.reg [o 4 (.mv (.c (.int .i64 (-1))))])
 .ret) .skip))
 (.seq (.reg [o 12 (.mv (.t 1)),o 13 (.faddr 4 (.t 2)),o 14 (.load none (.t 13)),o 15 (.lenS (.t 14)),o 16 (.bin .sub (.t 12) (.t 15)),o 1 (.mv (.t 16))])
 (.seq (.seq (.reg [o 17 (.mv (.t 1)),o 18 (.bin .lss (.t 17) (.c (.int .i64 0)))])
 (.cond (.t 18) (.seq (.reg [o 4 (.mv (.c (.int .i64 (-1))))])
 .ret) .skip))
 (.seq (.reg [o 19 (.mv (.t 1)),o 4 (.mv (.t 19))])
 .ret))))),
 [.tmp 4]⟩
def F133 : Fun := ⟨26,
 .seq (.reg [o 2 (.box 8 (.t 0)),o 4 (.mv (.c (.int .i64 0)))])
 (.seq (.reg [o 5 (.mv (.t 1)),o 6 (.faddr 0 (.t 2)),o 7 (.load none (.t 6)),o 8 (.lenS (.t 7)),o 9 (.bin .sub (.t 5) (.t 8)),o 1 (.mv (.t 9))])
 (.seq (.seq (.reg [o 10 (.mv (.t 1)),o 11 (.bin .lss (.t 10) (.c (.int .i64 0)))])
 (.cond (.t 11) (.seq (.reg [o 4 (.mv (.c (.int .i64 (-1))))])
 .ret) .skip))
 (.seq (.reg [o 12 (.mv (.t 1)),o 13 (.faddr 1 (.t 2)),o 14 (.load none (.t 13)),o 15 (.lenS (.t 14)),o 16 (.bin .sub (.t 12) (.t 15)),o 1 (.mv (.t 16))])
 (.seq (.seq (.reg [o 17 (.mv (.t 1)),o 18 (.bin .lss (.t 17) (.c (.int .i64 0)))])
 (.cond (.t 18) (.seq (.reg [o 4 (.mv (.c (.int .i64 (-1))))])
 .ret) .skip))
 (.seq (.reg [o 19 (.faddr 3 (.t 2)),o 20 (.load (some 5) (.t 19)),o 21 (.mv (.t 1)),o 22 (.call 167 [.t 20,.t 21]),o 1 (.mv (.t 22))])
 (.seq (.seq (.reg [o 23 (.mv (.t 1)),o 24 (.bin .lss (.t 23) (.c (.int .i64 0)))])
 (.cond (.t 24) (.seq (.reg [o 4 (.mv (.c (.int .i64 (-1))))])
 .ret) .skip))
 (.seq (.reg [o 25 (.mv (.t 1)),o 4 (.mv (.t 25))])
 .ret))))))),
 [.tmp 4]⟩
def F134 : Fun := ⟨27,
 .seq (.reg [o 2 (.box 5 (.t 0)),o 4 (.mv (.c (.int .i64 0)))])
 (.seq (.reg [o 5 (.mv (.t 1)),o 6 (.faddr 0 (.t 2)),o 7 (.load none (.t 6)),o 8 (.lenS (.t 7)),o 9 (.bin .sub (.t 5) (.t 8)),o 1 (.mv (.t 9))])
 (.seq (.seq (.reg [o 10 (.mv (.t 1)),o 11 (.bin .lss (.t 10) (.c (.int .i64 0)))])
 (.cond (.t 11) (.seq (.reg [o 4 (.mv (.c (.int .i64 (-1))))])
 .ret) .skip))
 (.seq (.reg [o 12 (.mv (.t 1)),o 13 (.faddr 1 (.t 2)),o 14 (.load none (.t 13)),o 15 (.lenS (.t 14)),o 16 (.bin .sub (.t 12) (.t 15)),o 1 (.mv (.t 16))])
 (.seq (.seq (.reg [o 17 (.mv (.t 1)),o 18 (.bin .lss (.t 17) (.c (.int .i64 0)))])
 (.cond (.t 18) (.seq (.reg [o 4 (.mv (.c (.int .i64 (-1))))])
 .ret) .skip))
 (.seq (.reg [o 19 (.mv (.t 1)),o 20 (.faddr 2 (.t 2)),o 21 (.load none (.t 20)),o 22 (.lenS (.t 21)),o 23 (.bin .sub (.t 19) (.t 22)),o 1 (.mv (.t 23))])
 (.seq (.seq (.reg [o 24 (.mv (.t 1)),o 25 (.bin .lss (.t 24) (.c (.int .i64 0)))])
 (.cond (.t 25) (.seq (.reg [o 4 (.mv (.c (.int .i64 (-1))))])
 .ret) .skip))
 (.seq (.reg [o 26 (.mv (.t 1)),o 4 (.mv (.t 26))])
 .ret))))))),
 [.tmp 4]⟩
def F135 : Fun := ⟨91,
 .seq (.reg [o 1 (.box 6 (.t 0)),o 2 (.mv (.c (.bool false)))])
 (.seq (.reg [o 6 (.faddr 1 (.t 1)),o 7 (.load none (.t 6)),o 8 (.lenL (.t 7)),o 3 (.mv (.t 8))])
 (.seq (.seq (.reg [o 9 (.faddr 3 (.t 1)),o 10 (.load none (.t 9)),o 11 (.lenL (.t 10)),o 12 (.bin .gtr (.t 11) (.c (.int .i64 600))),o 13 (.mv (.t 12)),og 14 (.mv (.t 3)) 13 false,og 15 (.faddr 2 (.t 1)) 13 false,og 16 (.load none (.t 15)) 13 false,og 17 (.lenL (.t 16)) 13 false,og 18 (.bin .add (.t 14) (.t 17)) 13 false,og 19 (.faddr 3 (.t 1)) 13 false,og 20 (.load none (.t 19)) 13 false,og 21 (.lenL (.t 20)) 13 false,og 22 (.bin .gtr (.t 18) (.t 21)) 13 false,o 23 (.pick (.t 13) (.c (.bool true)) (.t 22))])
 (.cond (.t 23) (.seq (.reg [o 2 (.mv (.c (.bool false)))])
 .ret) .skip))
 (.seq (.seq (.reg [o 4 (.mv (.c (.int .i64 0)))])
 (.block 0 (.loop (.seq (.seq (.reg [o 24 (.mv (.t 4)),o 25 (.faddr 3 (.t 1)),o 26 (.load none (.t 25)),o 27 (.lenL (.t 26)),o 28 (.bin .lss (.t 24) (.t 27))])
 (.cond (.t 28) .skip (.exit 0)))
 (.seq (.block 1 (.seq (.reg [o 31 (.faddr 3 (.t 1)),o 32 (.load none (.t 31)),o 33 (.mv (.t 4)),o 34 (.iaddr 1 (.t 32) (.t 33)),o 35 (.load none (.t 34)),o 5 (.mv (.t 35))])
 (.seq (.reg [o 36 (.mv (.t 5)),o 37 (.call 96 [.t 36]),o 38 (.un .not (.t 37)),o 39 (.mv (.t 38)),og 40 (.mv (.t 5)) 39 false,og 41 (.bin .eql (.t 40) (.c (.str [116,104,105,115]))) 39 false,o 42 (.pick (.t 39) (.c (.bool true)) (.t 41)),o 43 (.mv (.t 42)),og 44 (.load (some 6) (.t 1)) 43 false,og 45 (.mv (.t 5)) 43 false,og 46 (.call 168 [.t 44,.t 45]) 43 false,og 47 (.mv (.t 4)) 43 false,og 48 (.bin .neq (.t 46) (.t 47)) 43 false,o 49 (.pick (.t 43) (.c (.bool true)) (.t 48)),o 50 (.mv (.t 49)),og 51 (.mv (.t 4)) 50 false,og 52 (.mv (.t 3)) 50 false,og 53 (.bin .lss (.t 51) (.t 52)) 50 false,og 54 (.mv (.t 53)) 50 false,og 55 (.faddr 1 (.t 1)) 54 true,og 56 (.load none (.t 55)) 54 true,og 57 (.mv (.t 4)) 54 true,og 58 (.iaddr 2 (.t 56) (.t 57)) 54 true,og 59 (.faddr 0 (.t 58)) 54 true,og 60 (.load none (.t 59)) 54 true,og 61 (.mv (.t 5)) 54 true,og 62 (.bin .neq (.t 60) (.t 61)) 54 true,og 63 (.pick (.t 54) (.t 62) (.c (.bool false))) 50 false,o 64 (.pick (.t 50) (.c (.bool true)) (.t 63)),o 65 (.mv (.t 64)),og 66 (.mv (.t 4)) 65 false,og 67 (.mv (.t 3)) 65 false,og 68 (.bin .geq (.t 66) (.t 67)) 65 false,og 69 (.mv (.t 68)) 65 false,og 70 (.mv (.t 4)) 69 true,og 71 (.mv (.t 3)) 69 true,og 72 (.bin .sub (.t 70) (.t 71)) 69 true,og 73 (.faddr 2 (.t 1)) 69 true,og 74 (.load none (.t 73)) 69 true,og 75 (.lenL (.t 74)) 69 true,og 76 (.bin .lss (.t 72) (.t 75)) 69 true,og 77 (.pick (.t 69) (.t 76) (.c (.bool false))) 65 false,og 78 (.mv (.t 77)) 65 false,og 79 (.faddr 2 (.t 1)) 78 true,og 80 (.load none (.t 79)) 78 true,og 81 (.mv (.t 4)) 78 true,og 82 (.mv (.t 3)) 78 true,og 83 (.bin .sub (.t 81) (.t 82)) 78 true,og 84 (.iaddr 2 (.t 80) (.t 83)) 78 true,og 85 (.faddr 0 (.t 84)) 78 true,og 86 (.load none (.t 85)) 78 true,og 87 (.mv (.t 5)) 78 true,og 88 (.bin .neq (.t 86) (.t 87)) 78 true,og 89 (.pick (.t 78) (.t 88) (.c (.bool false))) 65 false,o 90 (.pick (.t 65) (.c (.bool true)) (.t 89))])
 (.cond (.t 90) (.seq (.reg [o 2 (.mv (.c (.bool false)))])
 .ret) .skip))))
 (.reg [o 29 (.mv (.t 4)),o 30 (.bin .add (.t 29) (.c (.int .i64 1))),o 4 (.mv (.t 30))]))))))
 (.seq (.reg [o 2 (.mv (.c (.bool true)))])
 .ret)))),
 [.tmp 2]⟩
def F136 : Fun := ⟨120,
 .seq (.reg [o 1 (.box 6 (.t 0)),o 2 (.mv (.c .nsl)),o 3 (.mv (.c (.bool false)))])
 (.seq (.reg [o 13 (.bslice 1 [.int .i64 0] 0 []),o 4 (.mv (.t 13))])
 (.seq (.seq (.reg [o 5 (.mv (.c (.int .i64 0)))])
 (.block 0 (.loop (.seq (.seq (.reg [o 14 (.mv (.t 5)),o 15 (.faddr 5 (.t 1)),o 16 (.load none (.t 15)),o 17 (.lenL (.t 16)),o 18 (.bin .lss (.t 14) (.t 17))])
 (.cond (.t 18) .skip (.exit 0)))
 (.seq (.block 1 (.seq (.seq (.reg [o 21 (.faddr 5 (.t 1)),o 22 (.load none (.t 21)),o 23 (.mv (.t 5)),o 24 (.iaddr 5 (.t 22) (.t 23)),o 25 (.load (some 5) (.t 24)),o 26 (.faddr 3 (.t 1)),o 27 (.load none (.t 26)),o 28 (.lenL (.t 27)),o 29 (.faddr 5 (.t 1)),o 30 (.load none (.t 29)),o 31 (.lenL (.t 30)),o 32 (.callF 169 [.t 25,.t 28,.t 31]),o 33 (.un .not (.t 32))])
 (.cond (.t 33) (.seq (.reg [o 34 (.bslice 1 [.int .i64 0] 0 []),o 2 (.mv (.t 34)),o 3 (.mv (.c (.bool false)))])
 .ret) .skip))
 (.reg [o 35 (.mv (.t 4)),o 36 (.bslice 1 [.int .i64 0] 1 [(0,(.c (.int .i64 (-1))))]),o 37 (.append 1 8 (.t 35) (.t 36)),o 4 (.mv (.t 37))])))
 (.reg [o 19 (.mv (.t 5)),o 20 (.bin .add (.t 19) (.c (.int .i64 1))),o 5 (.mv (.t 20))]))))))
 (.seq (.seq (.reg [o 38 (.mv (.t 4)),o 39 (.lenL (.t 38)),o 40 (.bin .eql (.t 39) (.c (.int .i64 0)))])
 (.cond (.t 40) (.seq (.reg [o 41 (.bslice 1 [.int .i64 0] 0 []),o 2 (.mv (.t 41)),o 3 (.mv (.c (.bool false)))])
 .ret) .skip))
 (.seq (.reg [o 42 (.mv (.t 4)),o 43 (.iaddr 1 (.t 42) (.c (.int .i64 0))),st (.store 1 (.t 43) (.c (.int .i64 0)))])
 (.seq (.reg [o 6 (.mv (.c (.bool true)))])
 (.seq (.block 2 (.loop (.seq (.seq (.reg [o 44 (.mv (.t 6))])
 (.cond (.t 44) .skip (.exit 2)))
 (.block 3 (.seq (.reg [o 6 (.mv (.c (.bool false)))])
 (.seq (.reg [o 7 (.mv (.c (.int .i64 0)))])
 (.block 4 (.loop (.seq (.seq (.reg [o 45 (.mv (.t 7)),o 46 (.mv (.t 4)),o 47 (.lenL (.t 46)),o 48 (.bin .lss (.t 45) (.t 47))])
 (.cond (.t 48) .skip (.exit 4)))
 (.seq (.block 5 (.seq (.reg [o 51 (.faddr 5 (.t 1)),o 52 (.load none (.t 51)),o 53 (.mv (.t 7)),o 54 (.iaddr 5 (.t 52) (.t 53)),o 55 (.load (some 5) (.t 54)),o 8 (.new 5 [.int .i64 0,.int .i64 0,.int .i64 0,.str [],.str []]),st (.store 5 (.t 8) (.t 55))])
 (.seq (.seq (.reg [o 56 (.mv (.t 4)),o 57 (.mv (.t 7)),o 58 (.iaddr 1 (.t 56) (.t 57)),o 59 (.load none (.t 58)),o 60 (.bin .lss (.t 59) (.c (.int .i64 0)))])
 (.cond (.t 60) (.exit 5) .skip))
 (.seq (.seq (.reg [o 61 (.load (some 5) (.t 8)),o 62 (.callF 170 [.t 61]),o 63 (.mv (.t 4)),o 64 (.mv (.t 7)),o 65 (.iaddr 1 (.t 63) (.t 64)),o 66 (.load none (.t 65)),o 67 (.bin .gtr (.t 62) (.t 66))])
 (.cond (.t 67) (.seq (.reg [o 68 (.bslice 1 [.int .i64 0] 0 []),o 2 (.mv (.t 68)),o 3 (.mv (.c (.bool false)))])
 .ret) .skip))
 (.seq (.reg [o 9 (.mv (.c (.bool false))),o 10 (.mv (.c (.bool true)))])
 (.seq (.seq (.reg [o 69 (.faddr 0 (.t 8)),o 70 (.load none (.t 69)),o 71 (.call 171 [.t 70]),o 72 (.un .not (.t 71))])
 (.cond (.t 72) (.seq (.reg [o 74 (.mv (.t 4))])
 (.seq (.reg [o 75 (.mv (.t 7))])
 (.seq (.reg [o 77 (.mv (.t 4))])
 (.seq (.reg [o 78 (.mv (.t 7))])
 (.seq (.reg [o 79 (.iaddr 1 (.t 77) (.t 78))])
 (.seq (.alt (.seq (.reg [o 76 (.bin .add (.t 75) (.c (.int .i64 1)))])
 (.alt (.seq (.reg [o 80 (.load none (.t 79))])
 (.seq (.reg [o 81 (.load (some 5) (.t 8))])
 (.seq (.reg [o 82 (.call 173 [.t 81])])
 (.seq (.reg [o 83 (.bin .add (.t 80) (.t 82))])
 .skip))))
 (.seq (.reg [o 81 (.load (some 5) (.t 8))])
 (.alt (.seq (.reg [o 80 (.load none (.t 79))])
 (.seq (.reg [o 82 (.call 173 [.t 81])])
 (.seq (.reg [o 83 (.bin .add (.t 80) (.t 82))])
 .skip)))
 (.seq (.reg [o 82 (.call 173 [.t 81])])
 (.seq (.reg [o 80 (.load none (.t 79))])
 (.seq (.reg [o 83 (.bin .add (.t 80) (.t 82))])
 .skip)))))))
 (.alt (.seq (.reg [o 80 (.load none (.t 79))])
 (.alt (.seq (.reg [o 76 (.bin .add (.t 75) (.c (.int .i64 1)))])
 (.seq (.reg [o 81 (.load (some 5) (.t 8))])
 (.seq (.reg [o 82 (.call 173 [.t 81])])
 (.seq (.reg [o 83 (.bin .add (.t 80) (.t 82))])
 .skip))))
 (.seq (.reg [o 81 (.load (some 5) (.t 8))])
 (.alt (.seq (.reg [o 76 (.bin .add (.t 75) (.c (.int .i64 1)))])
 (.seq (.reg [o 82 (.call 173 [.t 81])])
 (.seq (.reg [o 83 (.bin .add (.t 80) (.t 82))])
 .skip)))
 (.seq (.reg [o 82 (.call 173 [.t 81])])
 (.alt (.seq (.reg [o 76 (.bin .add (.t 75) (.c (.int .i64 1)))])
 (.seq (.reg [o 83 (.bin .add (.t 80) (.t 82))])
 .skip))
 (.seq (.reg [o 83 (.bin .add (.t 80) (.t 82))])
 (.seq (.reg [o 76 (.bin .add (.t 75) (.c (.int .i64 1)))])
 .skip))))))))
 (.seq (.reg [o 81 (.load (some 5) (.t 8))])
 (.alt (.seq (.reg [o 76 (.bin .add (.t 75) (.c (.int .i64 1)))])
 (.alt (.seq (.reg [o 80 (.load none (.t 79))])
 (.seq (.reg [o 82 (.call 173 [.t 81])])
 (.seq (.reg [o 83 (.bin .add (.t 80) (.t 82))])
 .skip)))
 (.seq (.reg [o 82 (.call 173 [.t 81])])
 (.seq (.reg [o 80 (.load none (.t 79))])
 (.seq (.reg [o 83 (.bin .add (.t 80) (.t 82))])
 .skip)))))
 (.alt (.seq (.reg [o 80 (.load none (.t 79))])
 (.alt (.seq (.reg [o 76 (.bin .add (.t 75) (.c (.int .i64 1)))])
 (.seq (.reg [o 82 (.call 173 [.t 81])])
 (.seq (.reg [o 83 (.bin .add (.t 80) (.t 82))])
 .skip)))
 (.seq (.reg [o 82 (.call 173 [.t 81])])
 (.alt (.seq (.reg [o 76 (.bin .add (.t 75) (.c (.int .i64 1)))])
 (.seq (.reg [o 83 (.bin .add (.t 80) (.t 82))])
 .skip))
 (.seq (.reg [o 83 (.bin .add (.t 80) (.t 82))])
 (.seq (.reg [o 76 (.bin .add (.t 75) (.c (.int .i64 1)))])
 .skip))))))
 (.seq (.reg [o 82 (.call 173 [.t 81])])
 (.alt (.seq (.reg [o 76 (.bin .add (.t 75) (.c (.int .i64 1)))])
 (.seq (.reg [o 80 (.load none (.t 79))])
 (.seq (.reg [o 83 (.bin .add (.t 80) (.t 82))])
 .skip)))
 (.seq (.reg [o 80 (.load none (.t 79))])
 (.alt (.seq (.reg [o 76 (.bin .add (.t 75) (.c (.int .i64 1)))])
 (.seq (.reg [o 83 (.bin .add (.t 80) (.t 82))])
 .skip))
 (.seq (.reg [o 83 (.bin .add (.t 80) (.t 82))])
 (.seq (.reg [o 76 (.bin .add (.t 75) (.c (.int .i64 1)))])
 .skip)))))))))))
 (.seq (.reg [o 84 (.call 172 [.t 74,.t 76,.t 83])])
 (.seq (.reg [o 73 (.mv (.t 84))])
 (.seq (.reg [o 85 (.extract (.t 73) 0)])
 (.seq (.reg [o 86 (.extract (.t 73) 1)])
 (.seq (.reg [o 9 (.mv (.t 85))])
 (.seq (.reg [o 10 (.mv (.t 86))])
 .skip)))))))))))) .skip))
 (.seq (.reg [o 11 (.mv (.c (.bool false))),o 12 (.mv (.c (.bool true)))])
 (.seq (.seq (.reg [o 87 (.faddr 0 (.t 8)),o 88 (.load none (.t 87)),o 89 (.call 174 [.t 88])])
 (.cond (.t 89) (.seq (.reg [o 91 (.mv (.t 4))])
 (.seq (.reg [o 92 (.faddr 1 (.t 8))])
 (.seq (.reg [o 94 (.mv (.t 4))])
 (.seq (.reg [o 95 (.mv (.t 7))])
 (.seq (.reg [o 96 (.iaddr 1 (.t 94) (.t 95))])
 (.seq (.reg [o 98 (.faddr 0 (.t 8))])
 (.seq (.alt (.seq (.reg [o 93 (.load none (.t 92))])
 (.alt (.seq (.reg [o 97 (.load none (.t 96))])
 (.seq (.reg [o 99 (.load none (.t 98))])
 (.seq (.reg [o 100 (.call 175 [.t 99])])
 (.seq (.reg [o 101 (.bin .add (.t 97) (.t 100))])
 .skip))))
 (.seq (.reg [o 99 (.load none (.t 98))])
 (.alt (.seq (.reg [o 97 (.load none (.t 96))])
 (.seq (.reg [o 100 (.call 175 [.t 99])])
 (.seq (.reg [o 101 (.bin .add (.t 97) (.t 100))])
 .skip)))
 (.seq (.reg [o 100 (.call 175 [.t 99])])
 (.seq (.reg [o 97 (.load none (.t 96))])
 (.seq (.reg [o 101 (.bin .add (.t 97) (.t 100))])
 .skip)))))))
 (.alt (.seq (.reg [o 97 (.load none (.t 96))])
 (.alt (.seq (.reg [o 93 (.load none (.t 92))])
 (.seq (.reg [o 99 (.load none (.t 98))])
 (.seq (.reg [o 100 (.call 175 [.t 99])])
 (.seq (.reg [o 101 (.bin .add (.t 97) (.t 100))])
 .skip))))
 (.seq (.reg [o 99 (.load none (.t 98))])
 (.alt (.seq (.reg [o 93 (.load none (.t 92))])
 (.seq (.reg [o 100 (.call 175 [.t 99])])
 (.seq (.reg [o 101 (.bin .add (.t 97) (.t 100))])
 .skip)))
 (.seq (.reg [o 100 (.call 175 [.t 99])])
 (.alt (.seq (.reg [o 93 (.load none (.t 92))])
 (.seq (.reg [o 101 (.bin .add (.t 97) (.t 100))])
 .skip))
 (.seq (.reg [o 101 (.bin .add (.t 97) (.t 100))])
 (.seq (.reg [o 93 (.load none (.t 92))])
 .skip))))))))
 (.seq (.reg [o 99 (.load none (.t 98))])
 (.alt (.seq (.reg [o 93 (.load none (.t 92))])
 (.alt (.seq (.reg [o 97 (.load none (.t 96))])
 (.seq (.reg [o 100 (.call 175 [.t 99])])
 (.seq (.reg [o 101 (.bin .add (.t 97) (.t 100))])
 .skip)))
 (.seq (.reg [o 100 (.call 175 [.t 99])])
 (.seq (.reg [o 97 (.load none (.t 96))])
 (.seq (.reg [o 101 (.bin .add (.t 97) (.t 100))])
 .skip)))))
 (.alt (.seq (.reg [o 97 (.load none (.t 96))])
 (.alt (.seq (.reg [o 93 (.load none (.t 92))])
 (.seq (.reg [o 100 (.call 175 [.t 99])])
 (.seq (.reg [o 101 (.bin .add (.t 97) (.t 100))])
 .skip)))
 (.seq (.reg [o 100 (.call 175 [.t 99])])
 (.alt (.seq (.reg [o 93 (.load none (.t 92))])
 (.seq (.reg [o 101 (.bin .add (.t 97) (.t 100))])
 .skip))
 (.seq (.reg [o 101 (.bin .add (.t 97) (.t 100))])
 (.seq (.reg [o 93 (.load none (.t 92))])
 .skip))))))
 (.seq (.reg [o 100 (.call 175 [.t 99])])
 (.alt (.seq (.reg [o 93 (.load none (.t 92))])
 (.seq (.reg [o 97 (.load none (.t 96))])
 (.seq (.reg [o 101 (.bin .add (.t 97) (.t 100))])
 .skip)))
 (.seq (.reg [o 97 (.load none (.t 96))])
 (.alt (.seq (.reg [o 93 (.load none (.t 92))])
 (.seq (.reg [o 101 (.bin .add (.t 97) (.t 100))])
 .skip))
 (.seq (.reg [o 101 (.bin .add (.t 97) (.t 100))])
 (.seq (.reg [o 93 (.load none (.t 92))])
 .skip)))))))))))
 (.seq (.reg [o 102 (.call 172 [.t 91,.t 93,.t 101])])
 (.seq (.reg [o 90 (.mv (.t 102))])
 (.seq (.reg [o 103 (.extract (.t 90) 0)])
 (.seq (.reg [o 104 (.extract (.t 90) 1)])
 (.seq (.reg [o 11 (.mv (.t 103))])
 (.seq (.reg [o 12 (.mv (.t 104))])
 .skip))))))))))))) .skip))
 (.seq (.seq (.reg [o 105 (.mv (.t 10)),o 106 (.un .not (.t 105)),o 107 (.mv (.t 106)),og 108 (.mv (.t 12)) 107 false,og 109 (.un .not (.t 108)) 107 false,o 110 (.pick (.t 107) (.c (.bool true)) (.t 109))])
 (.cond (.t 110) (.seq (.reg [o 111 (.bslice 1 [.int .i64 0] 0 []),o 2 (.mv (.t 111)),o 3 (.mv (.c (.bool false)))])
 .ret) .skip))
 (.reg [o 112 (.mv (.t 6)),o 113 (.mv (.t 112)),og 114 (.mv (.t 9)) 113 false,o 115 (.pick (.t 113) (.c (.bool true)) (.t 114)),o 116 (.mv (.t 115)),og 117 (.mv (.t 11)) 116 false,o 118 (.pick (.t 116) (.c (.bool true)) (.t 117)),o 6 (.mv (.t 118))]))))))))))
 (.reg [o 49 (.mv (.t 7)),o 50 (.bin .add (.t 49) (.c (.int .i64 1))),o 7 (.mv (.t 50))])))))))))))
 (.seq (.reg [o 119 (.mv (.t 4)),o 2 (.mv (.t 119)),o 3 (.mv (.c (.bool true)))])
 .ret))))))),
 [.tmp 2,.tmp 3]⟩
def F137 : Fun := ⟨37,
 .seq (.reg [o 2 (.box 5 (.t 0)),o 4 (.mv (.c (.int .i64 0)))])
 (.seq (.reg [o 5 (.mv (.c (.int .i64 1)))])
 (.seq (.seq (.reg [o 6 (.mv (.c (.int .i64 0)))])
 (.block 0 (.loop (.seq (.seq (.reg [o 7 (.faddr 0 (.t 2)),o 8 (.load none (.t 7)),o 9 (.bin .eql (.t 8) (.c (.int .i64 4))),o 10 (.mv (.t 9)),og 11 (.mv (.t 6)) 10 true,og 12 (.faddr 4 (.t 2)) 10 true,og 13 (.load none (.t 12)) 10 true,og 14 (.lenL (.t 13)) 10 true,og 15 (.bin .lss (.t 11) (.t 14)) 10 true,o 16 (.pick (.t 10) (.t 15) (.c (.bool false))),o 17 (.mv (.t 16)),og 18 (.mv (.t 5)) 17 true,og 19 (.mv (.t 1)) 17 true,og 20 (.bin .leq (.t 18) (.t 19)) 17 true,o 21 (.pick (.t 17) (.t 20) (.c (.bool false)))])
 (.cond (.t 21) .skip (.exit 0)))
 (.seq (.block 1 (.reg [o 24 (.mv (.t 5)),o 25 (.faddr 4 (.t 2)),o 26 (.load none (.t 25)),o 27 (.mv (.t 6)),o 28 (.iaddr 8 (.t 26) (.t 27)),o 29 (.faddr 3 (.t 28)),o 30 (.load (some 5) (.t 29)),o 31 (.mv (.t 1)),o 32 (.mv (.t 5)),o 33 (.bin .sub (.t 31) (.t 32)),o 34 (.call 137 [.t 30,.t 33]),o 35 (.bin .add (.t 24) (.t 34)),o 5 (.mv (.t 35))]))
 (.reg [o 22 (.mv (.t 6)),o 23 (.bin .add (.t 22) (.c (.int .i64 1))),o 6 (.mv (.t 23))]))))))
 (.seq (.reg [o 36 (.mv (.t 5)),o 4 (.mv (.t 36))])
 .ret))),
 [.tmp 4]⟩
def F138 : Fun := ⟨120,
 .seq (.reg [o 1 (.box 5 (.t 0)),o 2 (.mv (.c (.bool false)))])
 (.seq (.seq (.reg [o 5 (.faddr 0 (.t 1)),o 6 (.load none (.t 5)),o 7 (.bin .neq (.t 6) (.c (.int .i64 3))),o 8 (.mv (.t 7)),og 9 (.faddr 2 (.t 1)) 8 true,og 10 (.load none (.t 9)) 8 true,og 11 (.bin .neq (.t 10) (.c (.str []))) 8 true,o 12 (.pick (.t 8) (.t 11) (.c (.bool false))),o 13 (.mv (.t 12)),og 14 (.faddr 0 (.t 1)) 13 false,og 15 (.load none (.t 14)) 13 false,og 16 (.bin .neq (.t 15) (.c (.int .i64 4))) 13 false,og 17 (.mv (.t 16)) 13 false,og 18 (.faddr 3 (.t 1)) 17 true,og 19 (.load none (.t 18)) 17 true,og 20 (.bin .neq (.t 19) (.c (.int .i64 0))) 17 true,og 21 (.mv (.t 20)) 17 true,og 22 (.faddr 4 (.t 1)) 21 false,og 23 (.load none (.t 22)) 21 false,og 24 (.lenL (.t 23)) 21 false,og 25 (.bin .gtr (.t 24) (.c (.int .i64 0))) 21 false,og 26 (.pick (.t 21) (.c (.bool true)) (.t 25)) 17 true,og 27 (.pick (.t 17) (.t 26) (.c (.bool false))) 13 false,o 28 (.pick (.t 13) (.c (.bool true)) (.t 27))])
 (.cond (.t 28) (.seq (.reg [o 2 (.mv (.c (.bool false)))])
 .ret) .skip))
 (.seq (.seq (.reg [o 29 (.faddr 0 (.t 1)),o 30 (.load none (.t 29))])
 (.block 0 (.seq (.reg [o 32 (.bin .eql (.t 30) (.c (.int .i64 0))),o 31 (.mv (.t 32))])
 (.cond (.t 31) (.seq (.reg [o 33 (.faddr 1 (.t 1)),o 34 (.load none (.t 33)),o 35 (.bin .eql (.t 34) (.c (.int .i64 0))),o 2 (.mv (.t 35))])
 .ret) (.seq (.reg [o 37 (.bin .eql (.t 30) (.c (.int .i64 1))),o 36 (.mv (.t 37))])
 (.cond (.t 36) (.seq (.reg [o 38 (.faddr 1 (.t 1)),o 39 (.load none (.t 38)),o 40 (.call 54 [.t 39,.c (.int .i64 0),.c (.int .i64 1)]),o 2 (.mv (.t 40))])
 .ret) (.seq (.reg [o 42 (.bin .eql (.t 30) (.c (.int .i64 2))),o 41 (.mv (.t 42))])
 (.cond (.t 41) (.seq (.reg [o 43 (.faddr 1 (.t 1)),o 44 (.load none (.t 43)),o 45 (.call 54 [.t 44,(.c (.int .i64 (-1000000000))),.c (.int .i64 1000000000)]),o 2 (.mv (.t 45))])
 .ret) (.seq (.reg [o 47 (.bin .eql (.t 30) (.c (.int .i64 3))),o 46 (.mv (.t 47))])
 (.cond (.t 46) (.seq (.reg [o 48 (.faddr 1 (.t 1)),o 49 (.load none (.t 48)),o 50 (.bin .eql (.t 49) (.c (.int .i64 0))),o 51 (.mv (.t 50)),og 52 (.faddr 2 (.t 1)) 51 true,og 53 (.load none (.t 52)) 51 true,og 54 (.lenS (.t 53)) 51 true,og 55 (.bin .leq (.t 54) (.c (.int .i64 400))) 51 true,o 56 (.pick (.t 51) (.t 55) (.c (.bool false))),o 2 (.mv (.t 56))])
 .ret) (.seq (.seq (.reg [o 58 (.bin .eql (.t 30) (.c (.int .i64 6))),o 57 (.mv (.t 58))])
 (.cond (.t 57) .skip (.seq (.reg [o 59 (.bin .eql (.t 30) (.c (.int .i64 7))),o 57 (.mv (.t 59))])
 (.cond (.t 57) .skip (.reg [o 60 (.bin .eql (.t 30) (.c (.int .i64 8))),o 57 (.mv (.t 60))])))))
 (.cond (.t 57) (.seq (.reg [o 61 (.faddr 1 (.t 1)),o 62 (.load none (.t 61)),o 63 (.call 54 [.t 62,.c (.int .i64 0),.c (.int .i64 255)]),o 2 (.mv (.t 63))])
 .ret) (.seq (.reg [o 65 (.bin .eql (.t 30) (.c (.int .i64 4))),o 64 (.mv (.t 65))])
 (.cond (.t 64) (.seq (.seq (.reg [o 66 (.faddr 1 (.t 1)),o 67 (.load none (.t 66)),o 68 (.bin .neq (.t 67) (.c (.int .i64 0))),o 69 (.mv (.t 68)),og 70 (.faddr 3 (.t 1)) 69 false,og 71 (.load none (.t 70)) 69 false,og 72 (.call 54 [.t 71,.c (.int .i64 0),.c (.int .i64 1000000001)]) 69 false,og 73 (.un .not (.t 72)) 69 false,o 74 (.pick (.t 69) (.c (.bool true)) (.t 73))])
 (.cond (.t 74) (.seq (.reg [o 2 (.mv (.c (.bool false)))])
 .ret) .skip))
 (.seq (.seq (.reg [o 3 (.mv (.c (.int .i64 0)))])
 (.block 1 (.loop (.seq (.seq (.reg [o 75 (.mv (.t 3)),o 76 (.faddr 4 (.t 1)),o 77 (.load none (.t 76)),o 78 (.lenL (.t 77)),o 79 (.bin .lss (.t 75) (.t 78))])
 (.cond (.t 79) .skip (.exit 1)))
 (.seq (.block 2 (.seq (.reg [o 82 (.faddr 4 (.t 1)),o 83 (.load none (.t 82)),o 84 (.mv (.t 3)),o 85 (.iaddr 8 (.t 83) (.t 84)),o 86 (.faddr 0 (.t 85)),o 87 (.load (some 3) (.t 86)),o 4 (.new 3 [.bool false,.int .i64 0,.str []]),st (.store 3 (.t 4) (.t 87))])
 (.seq (.reg [o 88 (.load (some 3) (.t 4)),o 89 (.call 176 [.t 88]),o 90 (.un .not (.t 89)),o 91 (.mv (.t 90)),og 92 (.faddr 0 (.t 4)) 91 false,og 93 (.load none (.t 92)) 91 false,og 94 (.un .not (.t 93)) 91 false,og 95 (.mv (.t 94)) 91 false,og 96 (.faddr 1 (.t 4)) 95 true,og 97 (.load none (.t 96)) 95 true,og 98 (.faddr 3 (.t 1)) 95 true,og 99 (.load none (.t 98)) 95 true,og 100 (.bin .geq (.t 97) (.t 99)) 95 true,og 101 (.pick (.t 95) (.t 100) (.c (.bool false))) 91 false,o 102 (.pick (.t 91) (.c (.bool true)) (.t 101)),o 103 (.mv (.t 102)),og 104 (.load (some 5) (.t 1)) 103 false,og 105 (.load (some 3) (.t 4)) 103 false,og 106 (.call 177 [.t 104,.t 105]) 103 false,og 107 (.mv (.t 3)) 103 false,og 108 (.bin .neq (.t 106) (.t 107)) 103 false,o 109 (.pick (.t 103) (.c (.bool true)) (.t 108)),o 110 (.mv (.t 109)),og 111 (.faddr 4 (.t 1)) 110 false,og 112 (.load none (.t 111)) 110 false,og 113 (.mv (.t 3)) 110 false,og 114 (.iaddr 8 (.t 112) (.t 113)) 110 false,og 115 (.faddr 3 (.t 114)) 110 false,og 116 (.load (some 5) (.t 115)) 110 false,og 117 (.call 138 [.t 116]) 110 false,og 118 (.un .not (.t 117)) 110 false,o 119 (.pick (.t 110) (.c (.bool true)) (.t 118))])
 (.cond (.t 119) (.seq (.reg [o 2 (.mv (.c (.bool false)))])
 .ret) .skip))))
 (.reg [o 80 (.mv (.t 3)),o 81 (.bin .add (.t 80) (.c (.int .i64 1))),o 3 (.mv (.t 81))]))))))
 (.seq (.reg [o 2 (.mv (.c (.bool true)))])
 .ret))) .skip))))))))))))))
 (.seq (.reg [o 2 (.mv (.c (.bool false)))])
 .ret))),
 [.tmp 2]⟩
def F139 : Fun := ⟨18,
 .seq (.reg [o 2 (.mv (.c (.bool false)))])
 (.seq (.reg [o 3 (.mv (.t 0)),o 4 (.lenS (.t 3)),o 5 (.bin .geq (.t 4) (.c (.int .i64 1))),o 6 (.mv (.t 5)),og 7 (.mv (.t 0)) 6 true,og 8 (.lenS (.t 7)) 6 true,og 9 (.bin .leq (.t 8) (.c (.int .i64 20))) 6 true,o 10 (.pick (.t 6) (.t 9) (.c (.bool false))),o 11 (.mv (.t 10)),og 12 (.mv (.t 0)) 11 true,og 13 (.call 178 [.t 12,.c (.int .i64 0)]) 11 true,og 14 (.mv (.t 0)) 11 true,og 15 (.lenS (.t 14)) 11 true,og 16 (.bin .eql (.t 13) (.t 15)) 11 true,o 17 (.pick (.t 11) (.t 16) (.c (.bool false))),o 2 (.mv (.t 17))])
 .ret),
 [.tmp 2]⟩
def F140 : Fun := ⟨18,
 .seq (.reg [o 2 (.mv (.c (.bool false)))])
 (.seq (.reg [o 5 (.bslice 1 [.str []] 28 [(0,(.c (.str [101,99,104,111]))),(1,(.c (.str [105,102]))),(2,(.c (.str [101,108,115,101]))),(3,(.c (.str [119,104,105,108,101]))),(4,(.c (.str [102,111,114,101,97,99,104]))),(5,(.c (.str [97,115]))),(6,(.c (.str [98,114,101,97,107]))),(7,(.c (.str [99,111,110,116,105,110,117,101]))),(8,(.c (.str [114,101,116,117,114,110]))),(9,(.c (.str [103,108,111,98,97,108]))),(10,(.c (.str [117,110,115,101,116]))),(11,(.c (.str [116,104,114,111,119]))),(12,(.c (.str [116,114,121]))),(13,(.c (.str [99,97,116,99,104]))),(14,(.c (.str [102,105,110,97,108,108,121]))),(15,(.c (.str [121,105,101,108,100]))),(16,(.c (.str [105,110,99,108,117,100,101]))),(17,(.c (.str [102,117,110,99,116,105,111,110]))),(18,(.c (.str [99,108,97,115,115]))),(19,(.c (.str [116,114,97,105,116]))),(20,(.c (.str [101,120,116,101,110,100,115]))),(21,(.c (.str [117,115,101]))),(22,(.c (.str [112,114,105,118,97,116,101]))),(23,(.c (.str [115,116,97,116,105,99]))),(24,(.c (.str [110,101,119]))),(25,(.c (.str [116,114,117,101]))),(26,(.c (.str [102,97,108,115,101]))),(27,(.c (.str [110,117,108,108])))]),o 3 (.mv (.t 5))])
 (.seq (.seq (.reg [o 4 (.mv (.c (.int .i64 0)))])
 (.block 0 (.loop (.seq (.seq (.reg [o 6 (.mv (.t 4)),o 7 (.mv (.t 3)),o 8 (.lenL (.t 7)),o 9 (.bin .lss (.t 6) (.t 8))])
 (.cond (.t 9) .skip (.exit 0)))
 (.seq (.block 1 (.seq (.reg [o 12 (.mv (.t 3)),o 13 (.mv (.t 4)),o 14 (.iaddr 1 (.t 12) (.t 13)),o 15 (.load none (.t 14)),o 16 (.mv (.t 0)),o 17 (.bin .eql (.t 15) (.t 16))])
 (.cond (.t 17) (.seq (.reg [o 2 (.mv (.c (.bool true)))])
 .ret) .skip)))
 (.reg [o 10 (.mv (.t 4)),o 11 (.bin .add (.t 10) (.c (.int .i64 1))),o 4 (.mv (.t 11))]))))))
 (.seq (.reg [o 2 (.mv (.c (.bool false)))])
 .ret))),
 [.tmp 2]⟩
def F141 : Fun := ⟨30,
 .seq (.reg [o 4 (.mv (.c .nsl))])
 (.seq (.reg [o 6 (.mv (.t 0)),o 7 (.mv (.t 1)),o 8 (.lenL (.t 7)),o 9 (.call 98 [.t 6,.t 8]),o 0 (.mv (.t 9))])
 (.seq (.seq (.reg [o 5 (.mv (.c (.int .i64 0)))])
 (.block 0 (.loop (.seq (.seq (.reg [o 10 (.mv (.t 5)),o 11 (.mv (.t 1)),o 12 (.lenL (.t 11)),o 13 (.bin .lss (.t 10) (.t 12))])
 (.cond (.t 13) .skip (.exit 0)))
 (.seq (.block 1 (.reg [o 16 (.mv (.t 0)),o 17 (.mv (.t 1)),o 18 (.mv (.t 5)),o 19 (.iaddr 2 (.t 17) (.t 18)),o 20 (.faddr 0 (.t 19)),o 21 (.load none (.t 20)),o 23 (.mv (.t 1)),o 24 (.mv (.t 5)),o 25 (.iaddr 2 (.t 23) (.t 24)),o 26 (.faddr 1 (.t 25)),o 27 (.load none (.t 26)),o 22 (.call 142 [.t 16,.t 21]),st (.chk none (.t 26) (.t 27)),o 28 (.call 143 [.t 22,.t 27]),o 0 (.mv (.t 28))]))
 (.reg [o 14 (.mv (.t 5)),o 15 (.bin .add (.t 14) (.c (.int .i64 1))),o 5 (.mv (.t 15))]))))))
 (.seq (.reg [o 29 (.mv (.t 0)),o 4 (.mv (.t 29))])
 .ret))),
 [.tmp 4]⟩
def F142 : Fun := ⟨11,
 .seq (.reg [o 4 (.mv (.c .nsl))])
 (.seq (.reg [o 5 (.mv (.t 0)),o 6 (.mv (.t 1)),o 7 (.lenS (.t 6)),o 8 (.call 98 [.t 5,.t 7]),o 9 (.mv (.t 1)),o 10 (.append 1 1 (.t 8) (.t 9)),o 4 (.mv (.t 10))])
 .ret),
 [.tmp 4]⟩
def F143 : Fun := ⟨12,
 .seq (.reg [o 4 (.mv (.c .nsl))])
 (.seq (.seq (.reg [o 5 (.mv (.t 1))])
 (.cond (.t 5) (.seq (.reg [o 6 (.mv (.t 0)),o 7 (.bslice 1 [.int .u8 0] 1 [(0,(.c (.int .u8 1)))]),o 8 (.append 1 1 (.t 6) (.t 7)),o 4 (.mv (.t 8))])
 .ret) .skip))
 (.seq (.reg [o 9 (.mv (.t 0)),o 10 (.bslice 1 [.int .u8 0] 1 [(0,(.c (.int .u8 0)))]),o 11 (.append 1 1 (.t 9) (.t 10)),o 4 (.mv (.t 11))])
 .ret)),
 [.tmp 4]⟩
def F144 : Fun := ⟨73,
 .seq (.reg [o 1 (.box 5 (.t 0)),o 2 (.mv (.c (.str [])))])
 (.seq (.seq (.reg [o 5 (.faddr 0 (.t 1)),o 6 (.load none (.t 5))])
 (.block 0 (.seq (.reg [o 8 (.bin .eql (.t 6) (.c (.int .i64 0))),o 7 (.mv (.t 8))])
 (.cond (.t 7) (.seq (.reg [o 2 (.mv (.c (.str [78,59])))])
 .ret) (.seq (.reg [o 10 (.bin .eql (.t 6) (.c (.int .i64 1))),o 9 (.mv (.t 10))])
 (.cond (.t 9) (.seq (.reg [o 11 (.faddr 1 (.t 1)),o 12 (.load none (.t 11)),o 13 (.call 179 [.t 12]),o 14 (.bin .add (.c (.str [98,58])) (.t 13)),o 15 (.bin .add (.t 14) (.c (.str [59]))),o 2 (.mv (.t 15))])
 .ret) (.seq (.reg [o 17 (.bin .eql (.t 6) (.c (.int .i64 2))),o 16 (.mv (.t 17))])
 (.cond (.t 16) (.seq (.reg [o 18 (.faddr 1 (.t 1)),o 19 (.load none (.t 18)),o 20 (.call 179 [.t 19]),o 21 (.bin .add (.c (.str [105,58])) (.t 20)),o 22 (.bin .add (.t 21) (.c (.str [59]))),o 2 (.mv (.t 22))])
 .ret) (.seq (.reg [o 24 (.bin .eql (.t 6) (.c (.int .i64 3))),o 23 (.mv (.t 24))])
 (.cond (.t 23) (.seq (.reg [o 25 (.faddr 2 (.t 1)),o 26 (.load none (.t 25)),o 27 (.lenS (.t 26)),o 28 (.callF 179 [.t 27]),o 29 (.bin .add (.c (.str [115,58])) (.t 28)),o 30 (.bin .add (.t 29) (.c (.str [58]))),o 31 (.faddr 2 (.t 1)),o 32 (.load none (.t 31)),o 33 (.bin .add (.t 30) (.t 32)),o 34 (.bin .add (.t 33) (.c (.str [59]))),o 2 (.mv (.t 34))])
 .ret) .skip))))))))))
 (.seq (.reg [o 35 (.faddr 4 (.t 1)),o 36 (.load none (.t 35)),o 37 (.lenL (.t 36)),o 38 (.callF 179 [.t 37]),o 39 (.bin .add (.c (.str [97,58])) (.t 38)),o 40 (.bin .add (.t 39) (.c (.str [58]))),o 41 (.faddr 3 (.t 1)),o 42 (.load none (.t 41)),o 43 (.callF 179 [.t 42]),o 44 (.bin .add (.t 40) (.t 43)),o 45 (.bin .add (.t 44) (.c (.str [123]))),o 3 (.mv (.t 45))])
 (.seq (.seq (.reg [o 4 (.mv (.c (.int .i64 0)))])
 (.block 1 (.loop (.seq (.seq (.reg [o 46 (.mv (.t 4)),o 47 (.faddr 4 (.t 1)),o 48 (.load none (.t 47)),o 49 (.lenL (.t 48)),o 50 (.bin .lss (.t 46) (.t 49))])
 (.cond (.t 50) .skip (.exit 1)))
 (.seq (.block 2 (.draw [o 53 (.mv (.t 3)),o 54 (.faddr 4 (.t 1)),o 55 (.load none (.t 54)),o 56 (.mv (.t 4)),o 57 (.iaddr 8 (.t 55) (.t 56)),o 58 (.faddr 0 (.t 57)),o 59 (.load (some 3) (.t 58)),o 60 (.callF 180 [.t 59]),o 61 (.callF 144 [.t 60]),o 62 (.bin .add (.t 53) (.t 61)),o 63 (.faddr 4 (.t 1)),o 64 (.load none (.t 63)),o 65 (.mv (.t 4)),o 66 (.iaddr 8 (.t 64) (.t 65)),o 67 (.faddr 3 (.t 66)),o 68 (.load (some 5) (.t 67)),o 69 (.callF 144 [.t 68]),o 70 (.bin .add (.t 62) (.t 69)),o 3 (.mv (.t 70))]))
 (.reg [o 51 (.mv (.t 4)),o 52 (.bin .add (.t 51) (.c (.int .i64 1))),o 4 (.mv (.t 52))]))))))
 (.seq (.reg [o 71 (.mv (.t 3)),o 72 (.bin .add (.t 71) (.c (.str [125]))),o 2 (.mv (.t 72))])
 .ret)))),
 [.tmp 2]⟩
def F145 : Fun := ⟨11,
 .seq (.reg [o 1 (.box 2 (.t 0)),o 2 (.new 2 [.str [],.bool false])])
 (.seq (.reg [o 3 (.new 2 [.str [],.bool false])])
 (.seq (.reg [o 4 (.faddr 0 (.t 1)),o 5 (.load none (.t 4)),o 6 (.faddr 0 (.t 3)),st (.store 1 (.t 6) (.t 5))])
 (.seq (.reg [o 7 (.faddr 1 (.t 1)),o 8 (.load none (.t 7)),o 9 (.faddr 1 (.t 3)),st (.store 1 (.t 9) (.t 8))])
 (.seq (.reg [o 10 (.load (some 2) (.t 3)),st (.store 2 (.t 2) (.t 10))])
 .ret)))),
 [.cell 2 (some 2)]⟩
def F146 : Fun := ⟨20,
 .seq (.reg [o 1 (.box 5 (.t 0)),o 2 (.new 5 [.int .i64 0,.int .i64 0,.int .i64 0,.str [],.str []])])
 (.seq (.reg [o 3 (.new 5 [.int .i64 0,.int .i64 0,.int .i64 0,.str [],.str []])])
 (.seq (.reg [o 4 (.faddr 0 (.t 1)),o 5 (.load none (.t 4)),o 6 (.faddr 0 (.t 3)),st (.store 1 (.t 6) (.t 5))])
 (.seq (.reg [o 7 (.faddr 1 (.t 1)),o 8 (.load none (.t 7)),o 9 (.faddr 1 (.t 3)),st (.store 1 (.t 9) (.t 8))])
 (.seq (.reg [o 10 (.faddr 2 (.t 1)),o 11 (.load none (.t 10)),o 12 (.faddr 2 (.t 3)),st (.store 1 (.t 12) (.t 11))])
 (.seq (.reg [o 13 (.faddr 3 (.t 1)),o 14 (.load none (.t 13)),o 15 (.faddr 3 (.t 3)),st (.store 1 (.t 15) (.t 14))])
 (.seq (.reg [o 16 (.faddr 4 (.t 1)),o 17 (.load none (.t 16)),o 18 (.faddr 4 (.t 3)),st (.store 1 (.t 18) (.t 17))])
 (.seq (.reg [o 19 (.load (some 5) (.t 3)),st (.store 5 (.t 2) (.t 19))])
 .ret))))))),
 [.cell 2 (some 5)]⟩
def F147 : Fun := ⟨18,
 .seq (.reg [o 1 (.box 8 (.t 0)),o 2 (.new 8 [.str [],.str [],.bool false,.int .i64 0,.int .i64 0,.str [],.int .i64 0,.nsl])])
 (.seq (.reg [o 3 (.new 8 [.str [],.str [],.bool false,.int .i64 0,.int .i64 0,.str [],.int .i64 0,.nsl])])
 (.seq (.reg [o 4 (.faddr 0 (.t 1)),o 5 (.load none (.t 4)),o 6 (.faddr 0 (.t 3)),st (.store 1 (.t 6) (.t 5))])
 (.seq (.reg [o 7 (.faddr 1 (.t 1)),o 8 (.load none (.t 7)),o 9 (.faddr 1 (.t 3)),st (.store 1 (.t 9) (.t 8))])
 (.seq (.reg [o 10 (.faddr 2 (.t 1)),o 11 (.load none (.t 10)),o 12 (.faddr 2 (.t 3)),st (.store 1 (.t 12) (.t 11))])
 (.seq (.reg [o 13 (.faddr 3 (.t 1)),o 14 (.load (some 5) (.t 13)),o 15 (.call 181 [.t 14]),o 16 (.faddr 3 (.t 3)),st (.store 5 (.t 16) (.t 15))])
 (.seq (.reg [o 17 (.load (some 8) (.t 3)),st (.store 8 (.t 2) (.t 17))])
 .ret)))))),
 [.cell 2 (some 8)]⟩
def F148 : Fun := ⟨20,
 .seq (.reg [o 1 (.box 5 (.t 0)),o 2 (.new 5 [.str [],.str [],.str [],.bool false,.bool false])])
 (.seq (.reg [o 3 (.new 5 [.str [],.str [],.str [],.bool false,.bool false])])
 (.seq (.reg [o 4 (.faddr 0 (.t 1)),o 5 (.load none (.t 4)),o 6 (.faddr 0 (.t 3)),st (.store 1 (.t 6) (.t 5))])
 (.seq (.reg [o 7 (.faddr 1 (.t 1)),o 8 (.load none (.t 7)),o 9 (.faddr 1 (.t 3)),st (.store 1 (.t 9) (.t 8))])
 (.seq (.reg [o 10 (.faddr 2 (.t 1)),o 11 (.load none (.t 10)),o 12 (.faddr 2 (.t 3)),st (.store 1 (.t 12) (.t 11))])
 (.seq (.reg [o 13 (.faddr 3 (.t 1)),o 14 (.load none (.t 13)),o 15 (.faddr 3 (.t 3)),st (.store 1 (.t 15) (.t 14))])
 (.seq (.reg [o 16 (.faddr 4 (.t 1)),o 17 (.load none (.t 16)),o 18 (.faddr 4 (.t 3)),st (.store 1 (.t 18) (.t 17))])
 (.seq (.reg [o 19 (.load (some 5) (.t 3)),st (.store 5 (.t 2) (.t 19))])
 .ret))))))),
 [.cell 2 (some 5)]⟩
def F155 : Fun := ⟨8,
 .seq (.reg [o 4 (.mv (.c (.bool false)))])
 (.seq (.reg [o 5 (.mv (.t 0)),o 6 (.mv (.t 1)),o 7 (.call 191 [.t 5,.t 6]),o 4 (.mv (.t 7))])
 .ret),
 [.tmp 4]⟩
def F158 : Fun := ⟨15,
 .seq (.reg [o 2 (.box 2 (.t 0)),o 3 (.box 2 (.t 1)),o 4 (.mv (.c (.bool false)))])
 (.seq (.seq (.reg [o 5 (.faddr 0 (.t 2)),o 6 (.load none (.t 5)),o 7 (.faddr 0 (.t 3)),o 8 (.load none (.t 7)),o 9 (.bin .neq (.t 6) (.t 8))])
 (.cond (.t 9) (.seq (.reg [o 4 (.mv (.c (.bool false)))])
 .ret) .skip))
 (.seq (.seq (.reg [o 10 (.faddr 1 (.t 2)),o 11 (.load none (.t 10)),o 12 (.faddr 1 (.t 3)),o 13 (.load none (.t 12)),o 14 (.binb .neq (.t 11) (.t 13))])
 (.cond (.t 14) (.seq (.reg [o 4 (.mv (.c (.bool false)))])
 .ret) .skip))
 (.seq (.reg [o 4 (.mv (.c (.bool true)))])
 .ret))),
 [.tmp 4]⟩
def F159 : Fun := ⟨30,
 .seq (.reg [o 2 (.box 5 (.t 0)),o 3 (.box 5 (.t 1)),o 4 (.mv (.c (.bool false)))])
 (.seq (.seq (.reg [o 5 (.faddr 0 (.t 2)),o 6 (.load none (.t 5)),o 7 (.faddr 0 (.t 3)),o 8 (.load none (.t 7)),o 9 (.bin .neq (.t 6) (.t 8))])
 (.cond (.t 9) (.seq (.reg [o 4 (.mv (.c (.bool false)))])
 .ret) .skip))
 (.seq (.seq (.reg [o 10 (.faddr 1 (.t 2)),o 11 (.load none (.t 10)),o 12 (.faddr 1 (.t 3)),o 13 (.load none (.t 12)),o 14 (.bin .neq (.t 11) (.t 13))])
 (.cond (.t 14) (.seq (.reg [o 4 (.mv (.c (.bool false)))])
 .ret) .skip))
 (.seq (.seq (.reg [o 15 (.faddr 2 (.t 2)),o 16 (.load none (.t 15)),o 17 (.faddr 2 (.t 3)),o 18 (.load none (.t 17)),o 19 (.bin .neq (.t 16) (.t 18))])
 (.cond (.t 19) (.seq (.reg [o 4 (.mv (.c (.bool false)))])
 .ret) .skip))
 (.seq (.seq (.reg [o 20 (.faddr 3 (.t 2)),o 21 (.load none (.t 20)),o 22 (.faddr 3 (.t 3)),o 23 (.load none (.t 22)),o 24 (.bin .neq (.t 21) (.t 23))])
 (.cond (.t 24) (.seq (.reg [o 4 (.mv (.c (.bool false)))])
 .ret) .skip))
 (.seq (.seq (.reg [o 25 (.faddr 4 (.t 2)),o 26 (.load none (.t 25)),o 27 (.faddr 4 (.t 3)),o 28 (.load none (.t 27)),o 29 (.bin .neq (.t 26) (.t 28))])
 (.cond (.t 29) (.seq (.reg [o 4 (.mv (.c (.bool false)))])
 .ret) .skip))
 (.seq (.reg [o 4 (.mv (.c (.bool true)))])
 .ret)))))),
 [.tmp 4]⟩
def F160 : Fun := ⟨26,
 .seq (.reg [o 2 (.box 8 (.t 0)),o 3 (.box 8 (.t 1)),o 4 (.mv (.c (.bool false)))])
 (.seq (.seq (.reg [o 5 (.faddr 0 (.t 2)),o 6 (.load none (.t 5)),o 7 (.faddr 0 (.t 3)),o 8 (.load none (.t 7)),o 9 (.bin .neq (.t 6) (.t 8))])
 (.cond (.t 9) (.seq (.reg [o 4 (.mv (.c (.bool false)))])
 .ret) .skip))
 (.seq (.seq (.reg [o 10 (.faddr 1 (.t 2)),o 11 (.load none (.t 10)),o 12 (.faddr 1 (.t 3)),o 13 (.load none (.t 12)),o 14 (.bin .neq (.t 11) (.t 13))])
 (.cond (.t 14) (.seq (.reg [o 4 (.mv (.c (.bool false)))])
 .ret) .skip))
 (.seq (.seq (.reg [o 15 (.faddr 2 (.t 2)),o 16 (.load none (.t 15)),o 17 (.faddr 2 (.t 3)),o 18 (.load none (.t 17)),o 19 (.binb .neq (.t 16) (.t 18))])
 (.cond (.t 19) (.seq (.reg [o 4 (.mv (.c (.bool false)))])
 .ret) .skip))
 (.seq (.seq (.reg [o 20 (.faddr 3 (.t 2)),o 21 (.load (some 5) (.t 20)),o 22 (.faddr 3 (.t 3)),o 23 (.load (some 5) (.t 22)),o 24 (.call 194 [.t 21,.t 23]),o 25 (.un .not (.t 24))])
 (.cond (.t 25) (.seq (.reg [o 4 (.mv (.c (.bool false)))])
 .ret) .skip))
 (.seq (.reg [o 4 (.mv (.c (.bool true)))])
 .ret))))),
 [.tmp 4]⟩
def F161 : Fun := ⟨30,
 .seq (.reg [o 2 (.box 5 (.t 0)),o 3 (.box 5 (.t 1)),o 4 (.mv (.c (.bool false)))])
 (.seq (.seq (.reg [o 5 (.faddr 0 (.t 2)),o 6 (.load none (.t 5)),o 7 (.faddr 0 (.t 3)),o 8 (.load none (.t 7)),o 9 (.bin .neq (.t 6) (.t 8))])
 (.cond (.t 9) (.seq (.reg [o 4 (.mv (.c (.bool false)))])
 .ret) .skip))
 (.seq (.seq (.reg [o 10 (.faddr 1 (.t 2)),o 11 (.load none (.t 10)),o 12 (.faddr 1 (.t 3)),o 13 (.load none (.t 12)),o 14 (.bin .neq (.t 11) (.t 13))])
 (.cond (.t 14) (.seq (.reg [o 4 (.mv (.c (.bool false)))])
 .ret) .skip))
 (.seq (.seq (.reg [o 15 (.faddr 2 (.t 2)),o 16 (.load none (.t 15)),o 17 (.faddr 2 (.t 3)),o 18 (.load none (.t 17)),o 19 (.bin .neq (.t 16) (.t 18))])
 (.cond (.t 19) (.seq (.reg [o 4 (.mv (.c (.bool false)))])
 .ret) .skip))
 (.seq (.seq (.reg [o 20 (.faddr 3 (.t 2)),o 21 (.load none (.t 20)),o 22 (.faddr 3 (.t 3)),o 23 (.load none (.t 22)),o 24 (.binb .neq (.t 21) (.t 23))])
 (.cond (.t 24) (.seq (.reg [o 4 (.mv (.c (.bool false)))])
 .ret) .skip))
 (.seq (.seq (.reg [o 25 (.faddr 4 (.t 2)),o 26 (.load none (.t 25)),o 27 (.faddr 4 (.t 3)),o 28 (.load none (.t 27)),o 29 (.binb .neq (.t 26) (.t 28))])
 (.cond (.t 29) (.seq (.reg [o 4 (.mv (.c (.bool false)))])
 .ret) .skip))
 (.seq (.reg [o 4 (.mv (.c (.bool true)))])
 .ret)))))),
 [.tmp 4]⟩
def F167 : Fun := ⟨19,
 .seq (.reg [o 2 (.box 5 (.t 0)),o 4 (.mv (.c (.int .i64 0)))])
 (.seq (.reg [o 5 (.mv (.t 1)),o 6 (.faddr 2 (.t 2)),o 7 (.load none (.t 6)),o 8 (.lenS (.t 7)),o 9 (.bin .sub (.t 5) (.t 8)),o 1 (.mv (.t 9))])
 (.seq (.seq (.reg [o 10 (.mv (.t 1)),o 11 (.bin .lss (.t 10) (.c (.int .i64 0)))])
 (.cond (.t 11) (.seq (.reg [o 4 (.mv (.c (.int .i64 (-1))))])
 .ret) .skip))
 (.seq (.reg [o 12 (.faddr 4 (.t 2)),o 13 (.load none (.t 12)),o 14 (.mv (.t 1)),o 15 (.call 206 [.t 13,.t 14]),o 1 (.mv (.t 15))])
 (.seq (.seq (.reg [o 16 (.mv (.t 1)),o 17 (.bin .lss (.t 16) (.c (.int .i64 0)))])
 (.cond (.t 17) (.seq (.reg [o 4 (.mv (.c (.int .i64 (-1))))])
 .ret) .skip))
 (.seq (.reg [o 18 (.mv (.t 1)),o 4 (.mv (.t 18))])
 .ret))))),
 [.tmp 4]⟩
def F168 : Fun := ⟨21,
 .seq (.reg [o 2 (.box 6 (.t 0)),o 4 (.mv (.c (.int .i64 0)))])
 (.seq (.seq (.reg [o 5 (.mv (.c (.int .i64 0)))])
 (.block 0 (.loop (.seq (.seq (.reg [o 6 (.mv (.t 5)),o 7 (.faddr 3 (.t 2)),o 8 (.load none (.t 7)),o 9 (.lenL (.t 8)),o 10 (.bin .lss (.t 6) (.t 9))])
 (.cond (.t 10) .skip (.exit 0)))
 (.seq (.block 1 (.seq (.reg [o 13 (.faddr 3 (.t 2)),o 14 (.load none (.t 13)),o 15 (.mv (.t 5)),o 16 (.iaddr 1 (.t 14) (.t 15)),o 17 (.load none (.t 16)),o 18 (.mv (.t 1)),o 19 (.bin .eql (.t 17) (.t 18))])
 (.cond (.t 19) (.seq (.reg [o 20 (.mv (.t 5)),o 4 (.mv (.t 20))])
 .ret) .skip)))
 (.reg [o 11 (.mv (.t 5)),o 12 (.bin .add (.t 11) (.c (.int .i64 1))),o 5 (.mv (.t 12))]))))))
 (.seq (.reg [o 4 (.mv (.c (.int .i64 (-1))))])
 .ret)),
 [.tmp 4]⟩
def F169 : Fun := ⟨154,
 .seq (.reg [o 3 (.box 5 (.t 0)),o 6 (.mv (.c (.bool false)))])
 (.seq (.reg [o 11 (.faddr 1 (.t 3)),o 12 (.load none (.t 11)),o 13 (.bin .eql (.t 12) (.c (.int .i64 0))),o 7 (.mv (.t 13))])
 (.seq (.reg [o 14 (.faddr 2 (.t 3)),o 15 (.load none (.t 14)),o 16 (.bin .eql (.t 15) (.c (.int .i64 0))),o 8 (.mv (.t 16))])
 (.seq (.reg [o 17 (.faddr 3 (.t 3)),o 18 (.load none (.t 17)),o 19 (.bin .eql (.t 18) (.c (.str []))),o 20 (.mv (.t 19)),og 21 (.faddr 0 (.t 3)) 20 false,og 22 (.load none (.t 21)) 20 false,og 23 (.call 207 [.t 22]) 20 false,og 24 (.bin .eql (.t 23) (.c (.int .i64 1))) 20 false,o 25 (.pick (.t 20) (.c (.bool true)) (.t 24)),o 26 (.mv (.t 25)),og 27 (.faddr 0 (.t 3)) 26 false,og 28 (.load none (.t 27)) 26 false,og 29 (.call 207 [.t 28]) 26 false,og 30 (.bin .eql (.t 29) (.c (.int .i64 2))) 26 false,o 31 (.pick (.t 26) (.c (.bool true)) (.t 30)),o 9 (.mv (.t 31))])
 (.seq (.seq (.reg [o 32 (.faddr 0 (.t 3)),o 33 (.load none (.t 32)),o 34 (.call 207 [.t 33]),o 35 (.bin .eql (.t 34) (.c (.int .i64 2))),o 36 (.mv (.t 35)),og 37 (.faddr 3 (.t 3)) 36 true,og 38 (.load none (.t 37)) 36 true,og 39 (.call 96 [.t 38]) 36 true,og 40 (.un .not (.t 39)) 36 true,o 41 (.pick (.t 36) (.t 40) (.c (.bool false)))])
 (.cond (.t 41) (.reg [o 9 (.mv (.c (.bool false)))]) .skip))
 (.seq (.seq (.reg [o 42 (.faddr 0 (.t 3)),o 43 (.load none (.t 42))])
 (.block 0 (.seq (.reg [o 45 (.bin .eql (.t 43) (.c (.int .i64 2))),o 44 (.mv (.t 45))])
 (.cond (.t 44) (.reg [o 46 (.faddr 1 (.t 3)),o 47 (.load none (.t 46)),o 48 (.call 54 [.t 47,.c (.int .i64 0),.c (.int .i64 1000000000)]),o 7 (.mv (.t 48))]) (.seq (.seq (.reg [o 50 (.bin .eql (.t 43) (.c (.int .i64 4))),o 49 (.mv (.t 50))])
 (.cond (.t 49) .skip (.reg [o 51 (.bin .eql (.t 43) (.c (.int .i64 11))),o 49 (.mv (.t 51))])))
 (.cond (.t 49) (.reg [o 52 (.faddr 1 (.t 3)),o 53 (.load none (.t 52)),o 54 (.call 54 [.t 53,.c (.int .i64 0),.c (.int .i64 2)]),o 7 (.mv (.t 54))]) (.seq (.reg [o 56 (.bin .eql (.t 43) (.c (.int .i64 12))),o 55 (.mv (.t 56))])
 (.cond (.t 55) (.reg [o 57 (.faddr 1 (.t 3)),o 58 (.load none (.t 57)),o 59 (.call 54 [.t 58,.c (.int .i64 1),.c (.int .i64 15)]),o 7 (.mv (.t 59))]) (.seq (.reg [o 61 (.bin .eql (.t 43) (.c (.int .i64 3))),o 60 (.mv (.t 61))])
 (.cond (.t 60) (.reg [o 62 (.faddr 3 (.t 3)),o 63 (.load none (.t 62)),o 64 (.lenS (.t 63)),o 65 (.bin .leq (.t 64) (.c (.int .i64 400))),o 9 (.mv (.t 65))]) (.seq (.reg [o 67 (.bin .eql (.t 43) (.c (.int .i64 15))),o 66 (.mv (.t 67))])
 (.cond (.t 66) (.reg [o 68 (.faddr 2 (.t 3)),o 69 (.load none (.t 68)),o 70 (.call 54 [.t 69,.c (.int .i64 0),.c (.int .i64 1)]),o 8 (.mv (.t 70))]) (.seq (.seq (.reg [o 72 (.bin .eql (.t 43) (.c (.int .i64 18))),o 71 (.mv (.t 72))])
 (.cond (.t 71) .skip (.seq (.reg [o 73 (.bin .eql (.t 43) (.c (.int .i64 19))),o 71 (.mv (.t 73))])
 (.cond (.t 71) .skip (.reg [o 74 (.bin .eql (.t 43) (.c (.int .i64 20))),o 71 (.mv (.t 74))])))))
 (.cond (.t 71) (.reg [o 75 (.faddr 2 (.t 3)),o 76 (.load none (.t 75)),o 77 (.call 54 [.t 76,.c (.int .i64 0),.c (.int .i64 81)]),o 8 (.mv (.t 77))]) (.seq (.seq (.reg [o 79 (.bin .eql (.t 43) (.c (.int .i64 21))),o 78 (.mv (.t 79))])
 (.cond (.t 78) .skip (.seq (.reg [o 80 (.bin .eql (.t 43) (.c (.int .i64 22))),o 78 (.mv (.t 80))])
 (.cond (.t 78) .skip (.reg [o 81 (.bin .eql (.t 43) (.c (.int .i64 23))),o 78 (.mv (.t 81))])))))
 (.cond (.t 78) (.reg [o 82 (.faddr 2 (.t 3)),o 83 (.load none (.t 82)),o 84 (.call 54 [.t 83,.c (.int .i64 0),.c (.int .i64 40)]),o 8 (.mv (.t 84))]) (.seq (.reg [o 86 (.bin .eql (.t 43) (.c (.int .i64 24))),o 85 (.mv (.t 86))])
 (.cond (.t 85) (.reg [o 87 (.faddr 2 (.t 3)),o 88 (.load none (.t 87)),o 89 (.bin .geq (.t 88) (.c (.int .i64 0))),o 90 (.mv (.t 89)),og 91 (.faddr 2 (.t 3)) 90 true,og 92 (.load none (.t 91)) 90 true,og 93 (.mv (.t 1)) 90 true,og 94 (.bin .lss (.t 92) (.t 93)) 90 true,o 95 (.pick (.t 90) (.t 94) (.c (.bool false))),o 8 (.mv (.t 95))]) (.seq (.reg [o 97 (.bin .eql (.t 43) (.c (.int .i64 49))),o 96 (.mv (.t 97))])
 (.cond (.t 96) (.reg [o 98 (.faddr 2 (.t 3)),o 99 (.load none (.t 98)),o 100 (.call 54 [.t 99,.c (.int .i64 0),.c (.int .i64 100)]),o 8 (.mv (.t 100))]) (.seq (.reg [o 102 (.bin .eql (.t 43) (.c (.int .i64 52))),o 101 (.mv (.t 102))])
 (.cond (.t 101) (.reg [o 103 (.faddr 2 (.t 3)),o 104 (.load none (.t 103)),o 105 (.call 54 [.t 104,.c (.int .i64 0),.c (.int .i64 1)]),o 8 (.mv (.t 105))]) .skip))))))))))))))))))))))
 (.seq (.seq (.reg [o 106 (.faddr 0 (.t 3)),o 107 (.load none (.t 106)),o 108 (.call 208 [.t 107])])
 (.cond (.t 108) (.reg [o 109 (.faddr 1 (.t 3)),o 110 (.load none (.t 109)),o 111 (.bin .geq (.t 110) (.c (.int .i64 0))),o 112 (.mv (.t 111)),og 113 (.faddr 1 (.t 3)) 112 true,og 114 (.load none (.t 113)) 112 true,og 115 (.mv (.t 1)) 112 true,og 116 (.bin .lss (.t 114) (.t 115)) 112 true,o 117 (.pick (.t 112) (.t 116) (.c (.bool false))),o 7 (.mv (.t 117))]) .skip))
 (.seq (.seq (.reg [o 118 (.faddr 0 (.t 3)),o 119 (.load none (.t 118)),o 120 (.call 174 [.t 119])])
 (.cond (.t 120) (.reg [o 121 (.faddr 1 (.t 3)),o 122 (.load none (.t 121)),o 123 (.bin .geq (.t 122) (.c (.int .i64 0))),o 124 (.mv (.t 123)),og 125 (.faddr 1 (.t 3)) 124 true,og 126 (.load none (.t 125)) 124 true,og 127 (.mv (.t 2)) 124 true,og 128 (.bin .lss (.t 126) (.t 127)) 124 true,o 129 (.pick (.t 124) (.t 128) (.c (.bool false))),o 7 (.mv (.t 129))]) .skip))
 (.seq (.reg [o 130 (.faddr 4 (.t 3)),o 131 (.load none (.t 130)),o 132 (.bin .eql (.t 131) (.c (.str []))),o 10 (.mv (.t 132))])
 (.seq (.seq (.reg [o 133 (.faddr 0 (.t 3)),o 134 (.load none (.t 133)),o 135 (.bin .eql (.t 134) (.c (.int .i64 25)))])
 (.cond (.t 135) (.reg [o 136 (.faddr 4 (.t 3)),o 137 (.load none (.t 136)),o 138 (.call 96 [.t 137]),o 10 (.mv (.t 138))]) .skip))
 (.seq (.reg [o 139 (.faddr 0 (.t 3)),o 140 (.load none (.t 139)),o 141 (.call 54 [.t 140,.c (.int .i64 1),.c (.int .i64 56)]),o 142 (.mv (.t 141)),og 143 (.mv (.t 7)) 142 true,o 144 (.pick (.t 142) (.t 143) (.c (.bool false))),o 145 (.mv (.t 144)),og 146 (.mv (.t 8)) 145 true,o 147 (.pick (.t 145) (.t 146) (.c (.bool false))),o 148 (.mv (.t 147)),og 149 (.mv (.t 9)) 148 true,o 150 (.pick (.t 148) (.t 149) (.c (.bool false))),o 151 (.mv (.t 150)),og 152 (.mv (.t 10)) 151 true,o 153 (.pick (.t 151) (.t 152) (.c (.bool false))),o 6 (.mv (.t 153))])
 .ret)))))))))),
 [.tmp 6]⟩
def F170 : Fun := ⟨57,
 .seq (.reg [o 1 (.box 5 (.t 0)),o 2 (.mv (.c (.int .i64 0)))])
 (.seq (.seq (.reg [o 3 (.faddr 0 (.t 1)),o 4 (.load none (.t 3))])
 (.block 0 (.seq (.seq (.reg [o 6 (.bin .eql (.t 4) (.c (.int .i64 6))),o 5 (.mv (.t 6))])
 (.cond (.t 5) .skip (.seq (.reg [o 7 (.bin .eql (.t 4) (.c (.int .i64 8))),o 5 (.mv (.t 7))])
 (.cond (.t 5) .skip (.seq (.reg [o 8 (.bin .eql (.t 4) (.c (.int .i64 10))),o 5 (.mv (.t 8))])
 (.cond (.t 5) .skip (.seq (.reg [o 9 (.bin .eql (.t 4) (.c (.int .i64 11))),o 5 (.mv (.t 9))])
 (.cond (.t 5) .skip (.seq (.reg [o 10 (.bin .eql (.t 4) (.c (.int .i64 13))),o 5 (.mv (.t 10))])
 (.cond (.t 5) .skip (.seq (.reg [o 11 (.bin .eql (.t 4) (.c (.int .i64 17))),o 5 (.mv (.t 11))])
 (.cond (.t 5) .skip (.seq (.reg [o 12 (.bin .eql (.t 4) (.c (.int .i64 28))),o 5 (.mv (.t 12))])
 (.cond (.t 5) .skip (.seq (.reg [o 13 (.bin .eql (.t 4) (.c (.int .i64 29))),o 5 (.mv (.t 13))])
 (.cond (.t 5) .skip (.seq (.reg [o 14 (.bin .eql (.t 4) (.c (.int .i64 30))),o 5 (.mv (.t 14))])
 (.cond (.t 5) .skip (.seq (.reg [o 15 (.bin .eql (.t 4) (.c (.int .i64 33))),o 5 (.mv (.t 15))])
 (.cond (.t 5) .skip (.seq (.reg [o 16 (.bin .eql (.t 4) (.c (.int .i64 34))),o 5 (.mv (.t 16))])
 (.cond (.t 5) .skip (.seq (.reg [o 17 (.bin .eql (.t 4) (.c (.int .i64 37))),o 5 (.mv (.t 17))])
 (.cond (.t 5) .skip (.seq (.reg [o 18 (.bin .eql (.t 4) (.c (.int .i64 42))),o 5 (.mv (.t 18))])
 (.cond (.t 5) .skip (.seq (.reg [o 19 (.bin .eql (.t 4) (.c (.int .i64 43))),o 5 (.mv (.t 19))])
 (.cond (.t 5) .skip (.seq (.reg [o 20 (.bin .eql (.t 4) (.c (.int .i64 50))),o 5 (.mv (.t 20))])
 (.cond (.t 5) .skip (.reg [o 21 (.bin .eql (.t 4) (.c (.int .i64 54))),o 5 (.mv (.t 21))])))))))))))))))))))))))))))))))
 (.cond (.t 5) (.seq (.reg [o 2 (.mv (.c (.int .i64 1)))])
 .ret) (.seq (.seq (.reg [o 23 (.bin .eql (.t 4) (.c (.int .i64 12))),o 22 (.mv (.t 23))])
 (.cond (.t 22) .skip (.seq (.reg [o 24 (.bin .eql (.t 4) (.c (.int .i64 16))),o 22 (.mv (.t 24))])
 (.cond (.t 22) .skip (.seq (.reg [o 25 (.bin .eql (.t 4) (.c (.int .i64 41))),o 22 (.mv (.t 25))])
 (.cond (.t 22) .skip (.seq (.reg [o 26 (.bin .eql (.t 4) (.c (.int .i64 51))),o 22 (.mv (.t 26))])
 (.cond (.t 22) .skip (.seq (.reg [o 27 (.bin .eql (.t 4) (.c (.int .i64 52))),o 22 (.mv (.t 27))])
 (.cond (.t 22) .skip (.reg [o 28 (.bin .eql (.t 4) (.c (.int .i64 53))),o 22 (.mv (.t 28))])))))))))))
 (.cond (.t 22) (.seq (.reg [o 2 (.mv (.c (.int .i64 2)))])
 .ret) (.seq (.reg [o 30 (.bin .eql (.t 4) (.c (.int .i64 15))),o 29 (.mv (.t 30))])
 (.cond (.t 29) (.seq (.reg [o 31 (.faddr 2 (.t 1)),o 32 (.load none (.t 31)),o 33 (.bin .add (.c (.int .i64 2)) (.t 32)),o 2 (.mv (.t 33))])
 .ret) (.seq (.seq (.reg [o 35 (.bin .eql (.t 4) (.c (.int .i64 18))),o 34 (.mv (.t 35))])
 (.cond (.t 34) .skip (.reg [o 36 (.bin .eql (.t 4) (.c (.int .i64 19))),o 34 (.mv (.t 36))])))
 (.cond (.t 34) (.seq (.reg [o 37 (.faddr 2 (.t 1)),o 38 (.load none (.t 37)),o 39 (.bin .quo (.t 38) (.c (.int .i64 2))),o 40 (.bin .add (.t 39) (.c (.int .i64 1))),o 2 (.mv (.t 40))])
 .ret) (.seq (.reg [o 42 (.bin .eql (.t 4) (.c (.int .i64 20))),o 41 (.mv (.t 42))])
 (.cond (.t 41) (.seq (.reg [o 43 (.faddr 2 (.t 1)),o 44 (.load none (.t 43)),o 45 (.bin .quo (.t 44) (.c (.int .i64 2))),o 46 (.bin .add (.t 45) (.c (.int .i64 2))),o 2 (.mv (.t 46))])
 .ret) (.seq (.seq (.reg [o 48 (.bin .eql (.t 4) (.c (.int .i64 21))),o 47 (.mv (.t 48))])
 (.cond (.t 47) .skip (.reg [o 49 (.bin .eql (.t 4) (.c (.int .i64 22))),o 47 (.mv (.t 49))])))
 (.cond (.t 47) (.seq (.reg [o 50 (.faddr 2 (.t 1)),o 51 (.load none (.t 50)),o 2 (.mv (.t 51))])
 .ret) (.seq (.reg [o 53 (.bin .eql (.t 4) (.c (.int .i64 23))),o 52 (.mv (.t 53))])
 (.cond (.t 52) (.seq (.reg [o 54 (.faddr 2 (.t 1)),o 55 (.load none (.t 54)),o 56 (.bin .add (.t 55) (.c (.int .i64 1))),o 2 (.mv (.t 56))])
 .ret) .skip))))))))))))))))
 (.seq (.reg [o 2 (.mv (.c (.int .i64 0)))])
 .ret)),
 [.tmp 2]⟩
def F171 : Fun := ⟨17,
 .seq (.reg [o 2 (.mv (.c (.bool false)))])
 (.seq (.reg [o 3 (.mv (.t 0)),o 4 (.bin .eql (.t 3) (.c (.int .i64 27))),o 5 (.mv (.t 4)),og 6 (.mv (.t 0)) 5 false,og 7 (.bin .eql (.t 6) (.c (.int .i64 42))) 5 false,o 8 (.pick (.t 5) (.c (.bool true)) (.t 7)),o 9 (.mv (.t 8)),og 10 (.mv (.t 0)) 9 false,og 11 (.bin .eql (.t 10) (.c (.int .i64 43))) 9 false,o 12 (.pick (.t 9) (.c (.bool true)) (.t 11)),o 13 (.mv (.t 12)),og 14 (.mv (.t 0)) 13 false,og 15 (.bin .eql (.t 14) (.c (.int .i64 49))) 13 false,o 16 (.pick (.t 13) (.c (.bool true)) (.t 15)),o 2 (.mv (.t 16))])
 .ret),
 [.tmp 2]⟩
def F172 : Fun := ⟨43,
 .seq (.reg [o 6 (.mv (.c (.bool false))),o 7 (.mv (.c (.bool false)))])
 (.seq (.seq (.reg [o 9 (.mv (.t 1)),o 10 (.mv (.t 0)),o 11 (.lenL (.t 10)),o 12 (.bin .geq (.t 9) (.t 11)),o 13 (.mv (.t 12)),og 14 (.mv (.t 2)) 13 false,og 15 (.call 54 [.t 14,.c (.int .i64 0),.c (.int .i64 500)]) 13 false,og 16 (.un .not (.t 15)) 13 false,o 17 (.pick (.t 13) (.c (.bool true)) (.t 16)),o 18 (.mv (.t 17)),og 19 (.mv (.t 0)) 18 false,og 20 (.mv (.t 1)) 18 false,og 21 (.iaddr 1 (.t 19) (.t 20)) 18 false,og 22 (.load none (.t 21)) 18 false,og 23 (.bin .geq (.t 22) (.c (.int .i64 0))) 18 false,og 24 (.mv (.t 23)) 18 false,og 25 (.mv (.t 0)) 24 true,og 26 (.mv (.t 1)) 24 true,og 27 (.iaddr 1 (.t 25) (.t 26)) 24 true,og 28 (.load none (.t 27)) 24 true,og 29 (.mv (.t 2)) 24 true,og 30 (.bin .neq (.t 28) (.t 29)) 24 true,og 31 (.pick (.t 24) (.t 30) (.c (.bool false))) 18 false,o 32 (.pick (.t 18) (.c (.bool true)) (.t 31))])
 (.cond (.t 32) (.seq (.reg [o 6 (.mv (.c (.bool false))),o 7 (.mv (.c (.bool false)))])
 .ret) .skip))
 (.seq (.reg [o 33 (.mv (.t 0)),o 34 (.mv (.t 1)),o 35 (.iaddr 1 (.t 33) (.t 34)),o 36 (.load none (.t 35)),o 37 (.bin .lss (.t 36) (.c (.int .i64 0))),o 8 (.mv (.t 37))])
 (.seq (.reg [o 38 (.mv (.t 0)),o 39 (.mv (.t 1)),o 40 (.mv (.t 2)),o 41 (.iaddr 1 (.t 38) (.t 39)),st (.store 1 (.t 41) (.t 40))])
 (.seq (.reg [o 42 (.mv (.t 8)),o 6 (.mv (.t 42)),o 7 (.mv (.c (.bool true)))])
 .ret)))),
 [.tmp 6,.tmp 7]⟩
def F173 : Fun := ⟨69,
 .seq (.reg [o 1 (.box 5 (.t 0)),o 2 (.mv (.c (.int .i64 0)))])
 (.seq (.seq (.reg [o 3 (.faddr 0 (.t 1)),o 4 (.load none (.t 3))])
 (.block 0 (.seq (.seq (.reg [o 6 (.bin .eql (.t 4) (.c (.int .i64 2))),o 5 (.mv (.t 6))])
 (.cond (.t 5) .skip (.seq (.reg [o 7 (.bin .eql (.t 4) (.c (.int .i64 3))),o 5 (.mv (.t 7))])
 (.cond (.t 5) .skip (.seq (.reg [o 8 (.bin .eql (.t 4) (.c (.int .i64 4))),o 5 (.mv (.t 8))])
 (.cond (.t 5) .skip (.seq (.reg [o 9 (.bin .eql (.t 4) (.c (.int .i64 5))),o 5 (.mv (.t 9))])
 (.cond (.t 5) .skip (.seq (.reg [o 10 (.bin .eql (.t 4) (.c (.int .i64 7))),o 5 (.mv (.t 10))])
 (.cond (.t 5) .skip (.seq (.reg [o 11 (.bin .eql (.t 4) (.c (.int .i64 9))),o 5 (.mv (.t 11))])
 (.cond (.t 5) .skip (.seq (.reg [o 12 (.bin .eql (.t 4) (.c (.int .i64 14))),o 5 (.mv (.t 12))])
 (.cond (.t 5) .skip (.seq (.reg [o 13 (.bin .eql (.t 4) (.c (.int .i64 24))),o 5 (.mv (.t 13))])
 (.cond (.t 5) .skip (.seq (.reg [o 14 (.bin .eql (.t 4) (.c (.int .i64 25))),o 5 (.mv (.t 14))])
 (.cond (.t 5) .skip (.seq (.reg [o 15 (.bin .eql (.t 4) (.c (.int .i64 40))),o 5 (.mv (.t 15))])
 (.cond (.t 5) .skip (.seq (.reg [o 16 (.bin .eql (.t 4) (.c (.int .i64 50))),o 5 (.mv (.t 16))])
 (.cond (.t 5) .skip (.reg [o 17 (.bin .eql (.t 4) (.c (.int .i64 56))),o 5 (.mv (.t 17))])))))))))))))))))))))))
 (.cond (.t 5) (.seq (.reg [o 2 (.mv (.c (.int .i64 1)))])
 .ret) (.seq (.seq (.reg [o 19 (.bin .eql (.t 4) (.c (.int .i64 10))),o 18 (.mv (.t 19))])
 (.cond (.t 18) .skip (.seq (.reg [o 20 (.bin .eql (.t 4) (.c (.int .i64 12))),o 18 (.mv (.t 20))])
 (.cond (.t 18) .skip (.seq (.reg [o 21 (.bin .eql (.t 4) (.c (.int .i64 16))),o 18 (.mv (.t 21))])
 (.cond (.t 18) .skip (.seq (.reg [o 22 (.bin .eql (.t 4) (.c (.int .i64 28))),o 18 (.mv (.t 22))])
 (.cond (.t 18) .skip (.seq (.reg [o 23 (.bin .eql (.t 4) (.c (.int .i64 29))),o 18 (.mv (.t 23))])
 (.cond (.t 18) .skip (.seq (.reg [o 24 (.bin .eql (.t 4) (.c (.int .i64 30))),o 18 (.mv (.t 24))])
 (.cond (.t 18) .skip (.seq (.reg [o 25 (.bin .eql (.t 4) (.c (.int .i64 33))),o 18 (.mv (.t 25))])
 (.cond (.t 18) .skip (.seq (.reg [o 26 (.bin .eql (.t 4) (.c (.int .i64 34))),o 18 (.mv (.t 26))])
 (.cond (.t 18) .skip (.seq (.reg [o 27 (.bin .eql (.t 4) (.c (.int .i64 37))),o 18 (.mv (.t 27))])
 (.cond (.t 18) .skip (.seq (.reg [o 28 (.bin .eql (.t 4) (.c (.int .i64 41))),o 18 (.mv (.t 28))])
 (.cond (.t 18) .skip (.seq (.reg [o 29 (.bin .eql (.t 4) (.c (.int .i64 42))),o 18 (.mv (.t 29))])
 (.cond (.t 18) .skip (.reg [o 30 (.bin .eql (.t 4) (.c (.int .i64 43))),o 18 (.mv (.t 30))])))))))))))))))))))))))
 (.cond (.t 18) (.seq (.reg [o 2 (.mv (.c (.int .i64 (-1))))])
 .ret) (.seq (.reg [o 32 (.bin .eql (.t 4) (.c (.int .i64 15))),o 31 (.mv (.t 32))])
 (.cond (.t 31) (.seq (.reg [o 33 (.faddr 2 (.t 1)),o 34 (.load none (.t 33)),o 35 (.bin .sub (.c (.int .i64 (-1))) (.t 34)),o 2 (.mv (.t 35))])
 .ret) (.seq (.seq (.reg [o 37 (.bin .eql (.t 4) (.c (.int .i64 18))),o 36 (.mv (.t 37))])
 (.cond (.t 36) .skip (.reg [o 38 (.bin .eql (.t 4) (.c (.int .i64 19))),o 36 (.mv (.t 38))])))
 (.cond (.t 36) (.seq (.reg [o 39 (.faddr 2 (.t 1)),o 40 (.load none (.t 39)),o 41 (.bin .quo (.t 40) (.c (.int .i64 2))),o 42 (.un .neg (.t 41)),o 2 (.mv (.t 42))])
 .ret) (.seq (.reg [o 44 (.bin .eql (.t 4) (.c (.int .i64 20))),o 43 (.mv (.t 44))])
 (.cond (.t 43) (.seq (.reg [o 45 (.faddr 2 (.t 1)),o 46 (.load none (.t 45)),o 47 (.bin .quo (.t 46) (.c (.int .i64 2))),o 48 (.un .neg (.t 47)),o 49 (.bin .sub (.t 48) (.c (.int .i64 1))),o 2 (.mv (.t 49))])
 .ret) (.seq (.seq (.reg [o 51 (.bin .eql (.t 4) (.c (.int .i64 21))),o 50 (.mv (.t 51))])
 (.cond (.t 50) .skip (.reg [o 52 (.bin .eql (.t 4) (.c (.int .i64 22))),o 50 (.mv (.t 52))])))
 (.cond (.t 50) (.seq (.reg [o 53 (.faddr 2 (.t 1)),o 54 (.load none (.t 53)),o 55 (.un .neg (.t 54)),o 2 (.mv (.t 55))])
 .ret) (.seq (.reg [o 57 (.bin .eql (.t 4) (.c (.int .i64 23))),o 56 (.mv (.t 57))])
 (.cond (.t 56) (.seq (.reg [o 58 (.faddr 2 (.t 1)),o 59 (.load none (.t 58)),o 60 (.un .neg (.t 59)),o 61 (.bin .sub (.t 60) (.c (.int .i64 1))),o 2 (.mv (.t 61))])
 .ret) (.seq (.reg [o 63 (.bin .eql (.t 4) (.c (.int .i64 52))),o 62 (.mv (.t 63))])
 (.cond (.t 62) (.seq (.reg [o 64 (.faddr 2 (.t 1)),o 65 (.load none (.t 64)),o 66 (.bin .add (.c (.int .i64 1)) (.t 65)),o 2 (.mv (.t 66))])
 .ret) (.seq (.reg [o 68 (.bin .eql (.t 4) (.c (.int .i64 53))),o 67 (.mv (.t 68))])
 (.cond (.t 67) (.seq (.reg [o 2 (.mv (.c (.int .i64 (-2))))])
 .ret) .skip))))))))))))))))))))
 (.seq (.reg [o 2 (.mv (.c (.int .i64 0)))])
 .ret)),
 [.tmp 2]⟩
def F174 : Fun := ⟨12,
 .seq (.reg [o 2 (.mv (.c (.bool false)))])
 (.seq (.seq (.reg [o 3 (.mv (.t 0))])
 (.block 0 (.seq (.seq (.reg [o 5 (.bin .eql (.t 3) (.c (.int .i64 27))),o 4 (.mv (.t 5))])
 (.cond (.t 4) .skip (.seq (.reg [o 6 (.bin .eql (.t 3) (.c (.int .i64 28))),o 4 (.mv (.t 6))])
 (.cond (.t 4) .skip (.seq (.reg [o 7 (.bin .eql (.t 3) (.c (.int .i64 29))),o 4 (.mv (.t 7))])
 (.cond (.t 4) .skip (.seq (.reg [o 8 (.bin .eql (.t 3) (.c (.int .i64 44))),o 4 (.mv (.t 8))])
 (.cond (.t 4) .skip (.seq (.reg [o 9 (.bin .eql (.t 3) (.c (.int .i64 45))),o 4 (.mv (.t 9))])
 (.cond (.t 4) .skip (.seq (.reg [o 10 (.bin .eql (.t 3) (.c (.int .i64 49))),o 4 (.mv (.t 10))])
 (.cond (.t 4) .skip (.reg [o 11 (.bin .eql (.t 3) (.c (.int .i64 52))),o 4 (.mv (.t 11))])))))))))))))
 (.cond (.t 4) (.seq (.reg [o 2 (.mv (.c (.bool true)))])
 .ret) .skip))))
 (.seq (.reg [o 2 (.mv (.c (.bool false)))])
 .ret)),
 [.tmp 2]⟩
def F175 : Fun := ⟨8,
 .seq (.reg [o 2 (.mv (.c (.int .i64 0)))])
 (.seq (.seq (.reg [o 3 (.mv (.t 0))])
 (.block 0 (.seq (.reg [o 5 (.bin .eql (.t 3) (.c (.int .i64 28))),o 4 (.mv (.t 5))])
 (.cond (.t 4) (.seq (.reg [o 2 (.mv (.c (.int .i64 (-1))))])
 .ret) (.seq (.reg [o 7 (.bin .eql (.t 3) (.c (.int .i64 44))),o 6 (.mv (.t 7))])
 (.cond (.t 6) (.seq (.reg [o 2 (.mv (.c (.int .i64 1)))])
 .ret) .skip))))))
 (.seq (.reg [o 2 (.mv (.c (.int .i64 0)))])
 .ret)),
 [.tmp 2]⟩
def F176 : Fun := ⟨35,
 .seq (.reg [o 1 (.box 3 (.t 0)),o 2 (.mv (.c (.bool false)))])
 (.seq (.seq (.reg [o 5 (.faddr 0 (.t 1)),o 6 (.load none (.t 5)),o 7 (.un .not (.t 6))])
 (.cond (.t 7) (.seq (.reg [o 8 (.faddr 1 (.t 1)),o 9 (.load none (.t 8)),o 10 (.call 54 [.t 9,(.c (.int .i64 (-1000000000))),.c (.int .i64 1000000000)]),o 11 (.mv (.t 10)),og 12 (.faddr 2 (.t 1)) 11 true,og 13 (.load none (.t 12)) 11 true,og 14 (.bin .eql (.t 13) (.c (.str []))) 11 true,o 15 (.pick (.t 11) (.t 14) (.c (.bool false))),o 2 (.mv (.t 15))])
 .ret) .skip))
 (.seq (.reg [o 17 (.faddr 2 (.t 1)),o 18 (.load none (.t 17)),o 19 (.call 209 [.t 18]),o 16 (.mv (.t 19)),o 20 (.extract (.t 16) 0),o 21 (.extract (.t 16) 1),o 3 (.mv (.t 20)),o 4 (.mv (.t 21))])
 (.seq (.reg [o 22 (.faddr 1 (.t 1)),o 23 (.load none (.t 22)),o 24 (.bin .eql (.t 23) (.c (.int .i64 0))),o 25 (.mv (.t 24)),og 26 (.faddr 2 (.t 1)) 25 true,og 27 (.load none (.t 26)) 25 true,og 28 (.lenS (.t 27)) 25 true,og 29 (.bin .leq (.t 28) (.c (.int .i64 400))) 25 true,o 30 (.pick (.t 25) (.t 29) (.c (.bool false))),o 31 (.mv (.t 30)),og 32 (.mv (.t 4)) 31 true,og 33 (.un .not (.t 32)) 31 true,o 34 (.pick (.t 31) (.t 33) (.c (.bool false))),o 2 (.mv (.t 34))])
 .ret))),
 [.tmp 2]⟩
def F177 : Fun := ⟨27,
 .seq (.reg [o 2 (.box 5 (.t 0)),o 3 (.box 3 (.t 1)),o 4 (.mv (.c (.int .i64 0)))])
 (.seq (.seq (.reg [o 5 (.mv (.c (.int .i64 0)))])
 (.block 0 (.loop (.seq (.seq (.reg [o 6 (.faddr 0 (.t 2)),o 7 (.load none (.t 6)),o 8 (.bin .eql (.t 7) (.c (.int .i64 4))),o 9 (.mv (.t 8)),og 10 (.mv (.t 5)) 9 true,og 11 (.faddr 4 (.t 2)) 9 true,og 12 (.load none (.t 11)) 9 true,og 13 (.lenL (.t 12)) 9 true,og 14 (.bin .lss (.t 10) (.t 13)) 9 true,o 15 (.pick (.t 9) (.t 14) (.c (.bool false)))])
 (.cond (.t 15) .skip (.exit 0)))
 (.seq (.block 1 (.seq (.reg [o 18 (.faddr 4 (.t 2)),o 19 (.load none (.t 18)),o 20 (.mv (.t 5)),o 21 (.iaddr 8 (.t 19) (.t 20)),o 22 (.faddr 0 (.t 21)),o 23 (.load (some 3) (.t 22)),o 24 (.load (some 3) (.t 3)),o 25 (.beq false [2,0,1] (.t 23) (.t 24))])
 (.cond (.t 25) (.seq (.reg [o 26 (.mv (.t 5)),o 4 (.mv (.t 26))])
 .ret) .skip)))
 (.reg [o 16 (.mv (.t 5)),o 17 (.bin .add (.t 16) (.c (.int .i64 1))),o 5 (.mv (.t 17))]))))))
 (.seq (.reg [o 4 (.mv (.c (.int .i64 (-1))))])
 .ret)),
 [.tmp 4]⟩
def F178 : Fun := ⟨31,
 .seq (.reg [o 4 (.mv (.c (.int .i64 0)))])
 (.seq (.reg [o 6 (.mv (.t 1)),o 5 (.mv (.t 6))])
 (.seq (.block 0 (.loop (.seq (.seq (.reg [o 7 (.mv (.t 5)),o 8 (.mv (.t 0)),o 9 (.lenS (.t 8)),o 10 (.bin .lss (.t 7) (.t 9)),o 11 (.mv (.t 10)),og 12 (.mv (.t 0)) 11 true,og 13 (.mv (.t 5)) 11 true,og 14 (.index (.t 12) (.t 13)) 11 true,og 15 (.call 210 [.t 14]) 11 true,og 16 (.mv (.t 15)) 11 true,og 17 (.mv (.t 5)) 16 false,og 18 (.mv (.t 1)) 16 false,og 19 (.bin .gtr (.t 17) (.t 18)) 16 false,og 20 (.mv (.t 19)) 16 false,og 21 (.mv (.t 0)) 20 true,og 22 (.mv (.t 5)) 20 true,og 23 (.index (.t 21) (.t 22)) 20 true,og 24 (.call 211 [.t 23]) 20 true,og 25 (.pick (.t 20) (.t 24) (.c (.bool false))) 16 false,og 26 (.pick (.t 16) (.c (.bool true)) (.t 25)) 11 true,o 27 (.pick (.t 11) (.t 26) (.c (.bool false)))])
 (.cond (.t 27) .skip (.exit 0)))
 (.block 1 (.reg [o 28 (.mv (.t 5)),o 29 (.bin .add (.t 28) (.c (.int .i64 1))),o 5 (.mv (.t 29))])))))
 (.seq (.reg [o 30 (.mv (.t 5)),o 4 (.mv (.t 30))])
 .ret))),
 [.tmp 4]⟩
def F179 : Fun := ⟨31,
 .seq (.reg [o 2 (.mv (.c (.str [])))])
 (.seq (.seq (.reg [o 6 (.mv (.t 0)),o 7 (.bin .eql (.t 6) (.c (.int .i64 0)))])
 (.cond (.t 7) (.seq (.reg [o 2 (.mv (.c (.str [48])))])
 .ret) .skip))
 (.seq (.reg [o 3 (.mv (.c (.str [])))])
 (.seq (.seq (.reg [o 8 (.mv (.t 0)),o 4 (.mv (.t 8))])
 (.block 0 (.loop (.seq (.seq (.reg [o 9 (.mv (.t 4)),o 10 (.bin .neq (.t 9) (.c (.int .i64 0)))])
 (.cond (.t 10) .skip (.exit 0)))
 (.seq (.block 1 (.seq (.reg [o 13 (.mv (.t 4)),o 14 (.bin .rem (.t 13) (.c (.int .i64 10))),o 5 (.mv (.t 14))])
 (.seq (.seq (.reg [o 15 (.mv (.t 5)),o 16 (.bin .lss (.t 15) (.c (.int .i64 0)))])
 (.cond (.t 16) (.reg [o 17 (.mv (.t 5)),o 18 (.un .neg (.t 17)),o 5 (.mv (.t 18))]) .skip))
 (.reg [o 19 (.mv (.t 5)),o 20 (.bin .add (.c (.int .i64 48)) (.t 19)),o 21 (.toInt .u8 (.t 20)),o 22 (.bslice 1 [.int .u8 0] 1 [(0,(.t 21))]),o 23 (.toStr (.t 22)),o 24 (.mv (.t 3)),o 25 (.bin .add (.t 23) (.t 24)),o 3 (.mv (.t 25))]))))
 (.reg [o 11 (.mv (.t 4)),o 12 (.bin .quo (.t 11) (.c (.int .i64 10))),o 4 (.mv (.t 12))]))))))
 (.seq (.seq (.reg [o 26 (.mv (.t 0)),o 27 (.bin .lss (.t 26) (.c (.int .i64 0)))])
 (.cond (.t 27) (.seq (.reg [o 28 (.mv (.t 3)),o 29 (.bin .add (.c (.str [45])) (.t 28)),o 2 (.mv (.t 29))])
 .ret) .skip))
 (.seq (.reg [o 30 (.mv (.t 3)),o 2 (.mv (.t 30))])
 .ret))))),
 [.tmp 2]⟩
def F181 : Fun := ⟨21,
 .seq (.reg [o 1 (.box 5 (.t 0)),o 2 (.new 5 [.int .i64 0,.int .i64 0,.str [],.int .i64 0,.nsl])])
 (.seq (.reg [o 3 (.new 5 [.int .i64 0,.int .i64 0,.str [],.int .i64 0,.nsl])])
 (.seq (.reg [o 4 (.faddr 0 (.t 1)),o 5 (.load none (.t 4)),o 6 (.faddr 0 (.t 3)),st (.store 1 (.t 6) (.t 5))])
 (.seq (.reg [o 7 (.faddr 1 (.t 1)),o 8 (.load none (.t 7)),o 9 (.faddr 1 (.t 3)),st (.store 1 (.t 9) (.t 8))])
 (.seq (.reg [o 10 (.faddr 2 (.t 1)),o 11 (.load none (.t 10)),o 12 (.faddr 2 (.t 3)),st (.store 1 (.t 12) (.t 11))])
 (.seq (.reg [o 13 (.faddr 3 (.t 1)),o 14 (.load none (.t 13)),o 15 (.faddr 3 (.t 3)),st (.store 1 (.t 15) (.t 14))])
 (.seq (.reg [o 16 (.faddr 4 (.t 1)),o 17 (.load none (.t 16)),o 18 (.call 212 [.t 17]),o 19 (.faddr 4 (.t 3)),st (.store 1 (.t 19) (.t 18))])
 (.seq (.reg [o 20 (.load (some 5) (.t 3)),st (.store 5 (.t 2) (.t 20))])
 .ret))))))),
 [.cell 2 (some 5)]⟩
def F191 : Fun := ⟨18,
 .seq (.reg [o 4 (.mv (.c (.bool false)))])
 (.seq (.reg [o 5 (.mv (.t 0)),o 6 (.lenS (.t 5)),o 7 (.mv (.t 1)),o 8 (.lenS (.t 7)),o 9 (.bin .geq (.t 6) (.t 8)),o 10 (.mv (.t 9)),og 11 (.mv (.t 0)) 10 true,og 12 (.mv (.t 1)) 10 true,og 13 (.lenS (.t 12)) 10 true,og 14 (.sliceS (.t 11) none (some (.t 13))) 10 true,og 15 (.mv (.t 1)) 10 true,og 16 (.bin .eql (.t 14) (.t 15)) 10 true,o 17 (.pick (.t 10) (.t 16) (.c (.bool false))),o 4 (.mv (.t 17))])
 .ret),
 [.tmp 4]⟩
def F194 : Fun := ⟨31,
 .seq (.reg [o 2 (.box 5 (.t 0)),o 3 (.box 5 (.t 1)),o 4 (.mv (.c (.bool false)))])
 (.seq (.seq (.reg [o 5 (.faddr 0 (.t 2)),o 6 (.load none (.t 5)),o 7 (.faddr 0 (.t 3)),o 8 (.load none (.t 7)),o 9 (.bin .neq (.t 6) (.t 8))])
 (.cond (.t 9) (.seq (.reg [o 4 (.mv (.c (.bool false)))])
 .ret) .skip))
 (.seq (.seq (.reg [o 10 (.faddr 1 (.t 2)),o 11 (.load none (.t 10)),o 12 (.faddr 1 (.t 3)),o 13 (.load none (.t 12)),o 14 (.bin .neq (.t 11) (.t 13))])
 (.cond (.t 14) (.seq (.reg [o 4 (.mv (.c (.bool false)))])
 .ret) .skip))
 (.seq (.seq (.reg [o 15 (.faddr 2 (.t 2)),o 16 (.load none (.t 15)),o 17 (.faddr 2 (.t 3)),o 18 (.load none (.t 17)),o 19 (.bin .neq (.t 16) (.t 18))])
 (.cond (.t 19) (.seq (.reg [o 4 (.mv (.c (.bool false)))])
 .ret) .skip))
 (.seq (.seq (.reg [o 20 (.faddr 3 (.t 2)),o 21 (.load none (.t 20)),o 22 (.faddr 3 (.t 3)),o 23 (.load none (.t 22)),o 24 (.bin .neq (.t 21) (.t 23))])
 (.cond (.t 24) (.seq (.reg [o 4 (.mv (.c (.bool false)))])
 .ret) .skip))
 (.seq (.seq (.reg [o 25 (.faddr 4 (.t 2)),o 26 (.load none (.t 25)),o 27 (.faddr 4 (.t 3)),o 28 (.load none (.t 27)),o 29 (.call 219 [.t 26,.t 28]),o 30 (.un .not (.t 29))])
 (.cond (.t 30) (.seq (.reg [o 4 (.mv (.c (.bool false)))])
 .ret) .skip))
 (.seq (.reg [o 4 (.mv (.c (.bool true)))])
 .ret)))))),
 [.tmp 4]⟩
def F206 : Fun := ⟨27,
 .seq (.reg [o 4 (.mv (.c (.int .i64 0)))])
 (.seq (.reg [o 6 (.mv (.t 1)),o 7 (.mv (.t 0)),o 8 (.lenL (.t 7)),o 9 (.bin .sub (.t 6) (.t 8)),o 1 (.mv (.t 9))])
 (.seq (.seq (.reg [o 10 (.mv (.t 1)),o 11 (.bin .lss (.t 10) (.c (.int .i64 0)))])
 (.cond (.t 11) (.seq (.reg [o 4 (.mv (.c (.int .i64 (-1))))])
 .ret) .skip))
 (.seq (.seq (.reg [o 5 (.mv (.c (.int .i64 0)))])
 (.block 0 (.loop (.seq (.seq (.reg [o 12 (.mv (.t 5)),o 13 (.mv (.t 0)),o 14 (.lenL (.t 13)),o 15 (.bin .lss (.t 12) (.t 14))])
 (.cond (.t 15) .skip (.exit 0)))
 (.seq (.block 1 (.seq (.reg [o 18 (.mv (.t 0)),o 19 (.mv (.t 5)),o 20 (.iaddr 8 (.t 18) (.t 19)),o 21 (.load (some 8) (.t 20)),o 22 (.mv (.t 1)),o 23 (.call 223 [.t 21,.t 22]),o 1 (.mv (.t 23))])
 (.seq (.reg [o 24 (.mv (.t 1)),o 25 (.bin .lss (.t 24) (.c (.int .i64 0)))])
 (.cond (.t 25) (.seq (.reg [o 4 (.mv (.c (.int .i64 (-1))))])
 .ret) .skip))))
 (.reg [o 16 (.mv (.t 5)),o 17 (.bin .add (.t 16) (.c (.int .i64 1))),o 5 (.mv (.t 17))]))))))
 (.seq (.reg [o 26 (.mv (.t 1)),o 4 (.mv (.t 26))])
 .ret)))),
 [.tmp 4]⟩
def F207 : Fun := ⟨25,
 .seq (.reg [o 2 (.mv (.c (.int .i64 0)))])
 (.seq (.seq (.reg [o 3 (.mv (.t 0))])
 (.block 0 (.seq (.seq (.reg [o 5 (.bin .eql (.t 3) (.c (.int .i64 3))),o 4 (.mv (.t 5))])
 (.cond (.t 4) .skip (.seq (.reg [o 6 (.bin .eql (.t 3) (.c (.int .i64 31))),o 4 (.mv (.t 6))])
 (.cond (.t 4) .skip (.seq (.reg [o 7 (.bin .eql (.t 3) (.c (.int .i64 55))),o 4 (.mv (.t 7))])
 (.cond (.t 4) .skip (.seq (.reg [o 8 (.bin .eql (.t 3) (.c (.int .i64 56))),o 4 (.mv (.t 8))])
 (.cond (.t 4) .skip (.seq (.reg [o 9 (.bin .eql (.t 3) (.c (.int .i64 35))),o 4 (.mv (.t 9))])
 (.cond (.t 4) .skip (.reg [o 10 (.bin .eql (.t 3) (.c (.int .i64 36))),o 4 (.mv (.t 10))])))))))))))
 (.cond (.t 4) (.seq (.reg [o 2 (.mv (.c (.int .i64 1)))])
 .ret) (.seq (.seq (.reg [o 12 (.bin .eql (.t 3) (.c (.int .i64 7))),o 11 (.mv (.t 12))])
 (.cond (.t 11) .skip (.seq (.reg [o 13 (.bin .eql (.t 3) (.c (.int .i64 8))),o 11 (.mv (.t 13))])
 (.cond (.t 11) .skip (.seq (.reg [o 14 (.bin .eql (.t 3) (.c (.int .i64 17))),o 11 (.mv (.t 14))])
 (.cond (.t 11) .skip (.seq (.reg [o 15 (.bin .eql (.t 3) (.c (.int .i64 19))),o 11 (.mv (.t 15))])
 (.cond (.t 11) .skip (.seq (.reg [o 16 (.bin .eql (.t 3) (.c (.int .i64 20))),o 11 (.mv (.t 16))])
 (.cond (.t 11) .skip (.seq (.reg [o 17 (.bin .eql (.t 3) (.c (.int .i64 22))),o 11 (.mv (.t 17))])
 (.cond (.t 11) .skip (.seq (.reg [o 18 (.bin .eql (.t 3) (.c (.int .i64 23))),o 11 (.mv (.t 18))])
 (.cond (.t 11) .skip (.seq (.reg [o 19 (.bin .eql (.t 3) (.c (.int .i64 25))),o 11 (.mv (.t 19))])
 (.cond (.t 11) .skip (.seq (.reg [o 20 (.bin .eql (.t 3) (.c (.int .i64 26))),o 11 (.mv (.t 20))])
 (.cond (.t 11) .skip (.seq (.reg [o 21 (.bin .eql (.t 3) (.c (.int .i64 32))),o 11 (.mv (.t 21))])
 (.cond (.t 11) .skip (.seq (.reg [o 22 (.bin .eql (.t 3) (.c (.int .i64 34))),o 11 (.mv (.t 22))])
 (.cond (.t 11) .skip (.seq (.reg [o 23 (.bin .eql (.t 3) (.c (.int .i64 39))),o 11 (.mv (.t 23))])
 (.cond (.t 11) .skip (.reg [o 24 (.bin .eql (.t 3) (.c (.int .i64 44))),o 11 (.mv (.t 24))])))))))))))))))))))))))))
 (.cond (.t 11) (.seq (.reg [o 2 (.mv (.c (.int .i64 2)))])
 .ret) .skip))))))
 (.seq (.reg [o 2 (.mv (.c (.int .i64 0)))])
 .ret)),
 [.tmp 2]⟩
def F208 : Fun := ⟨12,
 .seq (.reg [o 2 (.mv (.c (.bool false)))])
 (.seq (.seq (.reg [o 3 (.mv (.t 0))])
 (.block 0 (.seq (.seq (.reg [o 5 (.bin .eql (.t 3) (.c (.int .i64 5))),o 4 (.mv (.t 5))])
 (.cond (.t 4) .skip (.seq (.reg [o 6 (.bin .eql (.t 3) (.c (.int .i64 6))),o 4 (.mv (.t 6))])
 (.cond (.t 4) .skip (.seq (.reg [o 7 (.bin .eql (.t 3) (.c (.int .i64 18))),o 4 (.mv (.t 7))])
 (.cond (.t 4) .skip (.seq (.reg [o 8 (.bin .eql (.t 3) (.c (.int .i64 21))),o 4 (.mv (.t 8))])
 (.cond (.t 4) .skip (.seq (.reg [o 9 (.bin .eql (.t 3) (.c (.int .i64 24))),o 4 (.mv (.t 9))])
 (.cond (.t 4) .skip (.seq (.reg [o 10 (.bin .eql (.t 3) (.c (.int .i64 26))),o 4 (.mv (.t 10))])
 (.cond (.t 4) .skip (.reg [o 11 (.bin .eql (.t 3) (.c (.int .i64 38))),o 4 (.mv (.t 11))])))))))))))))
 (.cond (.t 4) (.seq (.reg [o 2 (.mv (.c (.bool true)))])
 .ret) .skip))))
 (.seq (.reg [o 2 (.mv (.c (.bool false)))])
 .ret)),
 [.tmp 2]⟩
def F209 : Fun := ⟨40,
 .seq (.reg [o 2 (.mv (.c (.int .i64 0))),o 3 (.mv (.c (.bool false)))])
 (.seq (.reg [o 7 (.mv (.t 0)),o 8 (.lenS (.t 7)),o 9 (.bin .gtr (.t 8) (.c (.int .i64 0))),o 10 (.mv (.t 9)),og 11 (.mv (.t 0)) 10 true,og 12 (.index (.t 11) (.c (.int .i64 0))) 10 true,og 13 (.bin .eql (.t 12) (.c (.int .u8 45))) 10 true,o 14 (.pick (.t 10) (.t 13) (.c (.bool false))),o 4 (.mv (.t 14))])
 (.seq (.seq (.reg [o 15 (.mv (.t 4))])
 (.cond (.t 15) (.reg [o 16 (.mv (.t 0)),o 17 (.sliceS (.t 16) (some (.c (.int .i64 1))) none),o 0 (.mv (.t 17))]) .skip))
 (.seq (.reg [o 19 (.mv (.t 0)),o 20 (.call 224 [.t 19]),o 18 (.mv (.t 20)),o 21 (.extract (.t 18) 0),o 22 (.extract (.t 18) 1),o 5 (.mv (.t 21)),o 6 (.mv (.t 22))])
 (.seq (.seq (.reg [o 23 (.mv (.t 6)),o 24 (.un .not (.t 23)),o 25 (.mv (.t 24)),og 26 (.mv (.t 5)) 25 false,og 27 (.bin .gtr (.t 26) (.c (.int .i64 1000000000))) 25 false,o 28 (.pick (.t 25) (.c (.bool true)) (.t 27)),o 29 (.mv (.t 28)),og 30 (.mv (.t 4)) 29 false,og 31 (.mv (.t 30)) 29 false,og 32 (.mv (.t 5)) 31 true,og 33 (.bin .eql (.t 32) (.c (.int .i64 0))) 31 true,og 34 (.pick (.t 31) (.t 33) (.c (.bool false))) 29 false,o 35 (.pick (.t 29) (.c (.bool true)) (.t 34))])
 (.cond (.t 35) (.seq (.reg [o 2 (.mv (.c (.int .i64 0))),o 3 (.mv (.c (.bool false)))])
 .ret) .skip))
 (.seq (.seq (.reg [o 36 (.mv (.t 4))])
 (.cond (.t 36) (.seq (.reg [o 37 (.mv (.t 5)),o 38 (.un .neg (.t 37)),o 2 (.mv (.t 38)),o 3 (.mv (.c (.bool true)))])
 .ret) .skip))
 (.seq (.reg [o 39 (.mv (.t 5)),o 2 (.mv (.t 39)),o 3 (.mv (.c (.bool true)))])
 .ret)))))),
 [.tmp 2,.tmp 3]⟩
def F210 : Fun := ⟨15,
 .seq (.reg [o 2 (.mv (.c (.bool false)))])
 (.seq (.reg [o 3 (.mv (.t 0)),o 4 (.toInt .i64 (.t 3)),o 5 (.call 54 [.t 4,.c (.int .i64 97),.c (.int .i64 122)]),o 6 (.mv (.t 5)),og 7 (.mv (.t 0)) 6 false,og 8 (.toInt .i64 (.t 7)) 6 false,og 9 (.call 54 [.t 8,.c (.int .i64 65),.c (.int .i64 90)]) 6 false,o 10 (.pick (.t 6) (.c (.bool true)) (.t 9)),o 11 (.mv (.t 10)),og 12 (.mv (.t 0)) 11 false,og 13 (.bin .eql (.t 12) (.c (.int .u8 95))) 11 false,o 14 (.pick (.t 11) (.c (.bool true)) (.t 13)),o 2 (.mv (.t 14))])
 .ret),
 [.tmp 2]⟩
def F211 : Fun := ⟨6,
 .seq (.reg [o 2 (.mv (.c (.bool false)))])
 (.seq (.reg [o 3 (.mv (.t 0)),o 4 (.toInt .i64 (.t 3)),o 5 (.call 54 [.t 4,.c (.int .i64 48),.c (.int .i64 57)]),o 2 (.mv (.t 5))])
 .ret),
 [.tmp 2]⟩
def F212 : Fun := ⟨23,
 .seq (.reg [o 2 (.mv (.c .nsl))])
 (.seq (.reg [o 5 (.mv (.t 0)),o 6 (.lenL (.t 5)),o 7 (.mkslice 8 [.bool false,.int .i64 0,.str [],.int .i64 0,.int .i64 0,.str [],.int .i64 0,.nsl] 96 (.t 6) (.t 6)),o 3 (.mv (.t 7))])
 (.seq (.seq (.reg [o 4 (.mv (.c (.int .i64 0)))])
 (.block 0 (.loop (.seq (.seq (.reg [o 8 (.mv (.t 4)),o 9 (.mv (.t 0)),o 10 (.lenL (.t 9)),o 11 (.bin .lss (.t 8) (.t 10))])
 (.cond (.t 11) .skip (.exit 0)))
 (.seq (.block 1 (.reg [o 14 (.mv (.t 3)),o 15 (.mv (.t 4)),o 16 (.mv (.t 0)),o 17 (.mv (.t 4)),o 18 (.iaddr 8 (.t 16) (.t 17)),o 19 (.load (some 8) (.t 18)),o 20 (.call 225 [.t 19]),o 21 (.iaddr 8 (.t 14) (.t 15)),st (.store 8 (.t 21) (.t 20))]))
 (.reg [o 12 (.mv (.t 4)),o 13 (.bin .add (.t 12) (.c (.int .i64 1))),o 4 (.mv (.t 13))]))))))
 (.seq (.reg [o 22 (.mv (.t 3)),o 2 (.mv (.t 22))])
 .ret))),
 [.tmp 2]⟩
def F219 : Fun := ⟨27,
 .seq (.reg [o 4 (.mv (.c (.bool false)))])
 (.seq (.seq (.reg [o 6 (.mv (.t 0)),o 7 (.lenL (.t 6)),o 8 (.mv (.t 1)),o 9 (.lenL (.t 8)),o 10 (.bin .neq (.t 7) (.t 9))])
 (.cond (.t 10) (.seq (.reg [o 4 (.mv (.c (.bool false)))])
 .ret) .skip))
 (.seq (.seq (.reg [o 5 (.mv (.c (.int .i64 0)))])
 (.block 0 (.loop (.seq (.seq (.reg [o 11 (.mv (.t 5)),o 12 (.mv (.t 0)),o 13 (.lenL (.t 12)),o 14 (.bin .lss (.t 11) (.t 13))])
 (.cond (.t 14) .skip (.exit 0)))
 (.seq (.block 1 (.seq (.reg [o 17 (.mv (.t 0)),o 18 (.mv (.t 5)),o 19 (.iaddr 8 (.t 17) (.t 18)),o 20 (.load (some 8) (.t 19)),o 21 (.mv (.t 1)),o 22 (.mv (.t 5)),o 23 (.iaddr 8 (.t 21) (.t 22)),o 24 (.load (some 8) (.t 23)),o 25 (.callF 228 [.t 20,.t 24]),o 26 (.un .not (.t 25))])
 (.cond (.t 26) (.seq (.reg [o 4 (.mv (.c (.bool false)))])
 .ret) .skip)))
 (.reg [o 15 (.mv (.t 5)),o 16 (.bin .add (.t 15) (.c (.int .i64 1))),o 5 (.mv (.t 16))]))))))
 (.seq (.reg [o 4 (.mv (.c (.bool true)))])
 .ret))),
 [.tmp 4]⟩
def F223 : Fun := ⟨18,
 .seq (.reg [o 2 (.box 8 (.t 0)),o 4 (.mv (.c (.int .i64 0)))])
 (.seq (.reg [o 5 (.faddr 0 (.t 2)),o 6 (.load (some 3) (.t 5)),o 7 (.mv (.t 1)),o 8 (.call 232 [.t 6,.t 7]),o 1 (.mv (.t 8))])
 (.seq (.seq (.reg [o 9 (.mv (.t 1)),o 10 (.bin .lss (.t 9) (.c (.int .i64 0)))])
 (.cond (.t 10) (.seq (.reg [o 4 (.mv (.c (.int .i64 (-1))))])
 .ret) .skip))
 (.seq (.reg [o 11 (.faddr 3 (.t 2)),o 12 (.load (some 5) (.t 11)),o 13 (.mv (.t 1)),o 14 (.call 167 [.t 12,.t 13]),o 1 (.mv (.t 14))])
 (.seq (.seq (.reg [o 15 (.mv (.t 1)),o 16 (.bin .lss (.t 15) (.c (.int .i64 0)))])
 (.cond (.t 16) (.seq (.reg [o 4 (.mv (.c (.int .i64 (-1))))])
 .ret) .skip))
 (.seq (.reg [o 17 (.mv (.t 1)),o 4 (.mv (.t 17))])
 .ret))))),
 [.tmp 4]⟩
def F224 : Fun := ⟨39,
 .seq (.reg [o 2 (.mv (.c (.int .i64 0))),o 3 (.mv (.c (.bool false)))])
 (.seq (.seq (.reg [o 6 (.mv (.t 0)),o 7 (.lenS (.t 6)),o 8 (.call 54 [.t 7,.c (.int .i64 1),.c (.int .i64 13)]),o 9 (.un .not (.t 8))])
 (.cond (.t 9) (.seq (.reg [o 2 (.mv (.c (.int .i64 0))),o 3 (.mv (.c (.bool false)))])
 .ret) .skip))
 (.seq (.reg [o 4 (.mv (.c (.int .i64 0)))])
 (.seq (.seq (.reg [o 5 (.mv (.c (.int .i64 0)))])
 (.block 0 (.loop (.seq (.seq (.reg [o 10 (.mv (.t 5)),o 11 (.mv (.t 0)),o 12 (.lenS (.t 11)),o 13 (.bin .lss (.t 10) (.t 12))])
 (.cond (.t 13) .skip (.exit 0)))
 (.seq (.block 1 (.seq (.seq (.reg [o 16 (.mv (.t 0)),o 17 (.mv (.t 5)),o 18 (.index (.t 16) (.t 17)),o 19 (.toInt .i64 (.t 18)),o 20 (.call 54 [.t 19,.c (.int .i64 48),.c (.int .i64 57)]),o 21 (.un .not (.t 20))])
 (.cond (.t 21) (.seq (.reg [o 2 (.mv (.c (.int .i64 0))),o 3 (.mv (.c (.bool false)))])
 .ret) .skip))
 (.reg [o 22 (.mv (.t 4)),o 23 (.bin .mul (.c (.int .i64 10)) (.t 22)),o 24 (.mv (.t 0)),o 25 (.mv (.t 5)),o 26 (.index (.t 24) (.t 25)),o 27 (.bin .sub (.t 26) (.c (.int .u8 48))),o 28 (.toInt .i64 (.t 27)),o 29 (.bin .add (.t 23) (.t 28)),o 4 (.mv (.t 29))])))
 (.reg [o 14 (.mv (.t 5)),o 15 (.bin .add (.t 14) (.c (.int .i64 1))),o 5 (.mv (.t 15))]))))))
 (.seq (.seq (.reg [o 30 (.mv (.t 4)),o 31 (.bin .gtr (.t 30) (.c (.int .i64 1000000000000))),o 32 (.mv (.t 31)),og 33 (.mv (.t 4)) 32 false,og 34 (.call 179 [.t 33]) 32 false,og 35 (.mv (.t 0)) 32 false,og 36 (.bin .neq (.t 34) (.t 35)) 32 false,o 37 (.pick (.t 32) (.c (.bool true)) (.t 36))])
 (.cond (.t 37) (.seq (.reg [o 2 (.mv (.c (.int .i64 0))),o 3 (.mv (.c (.bool false)))])
 .ret) .skip))
 (.seq (.reg [o 38 (.mv (.t 4)),o 2 (.mv (.t 38)),o 3 (.mv (.c (.bool true)))])
 .ret))))),
 [.tmp 2,.tmp 3]⟩
def F225 : Fun := ⟨13,
 .seq (.reg [o 1 (.box 8 (.t 0)),o 2 (.new 8 [.bool false,.int .i64 0,.str [],.int .i64 0,.int .i64 0,.str [],.int .i64 0,.nsl])])
 (.seq (.reg [o 3 (.new 8 [.bool false,.int .i64 0,.str [],.int .i64 0,.int .i64 0,.str [],.int .i64 0,.nsl])])
 (.seq (.reg [o 4 (.faddr 0 (.t 1)),o 5 (.load (some 3) (.t 4)),o 6 (.call 233 [.t 5]),o 7 (.faddr 0 (.t 3)),st (.store 3 (.t 7) (.t 6))])
 (.seq (.reg [o 8 (.faddr 3 (.t 1)),o 9 (.load (some 5) (.t 8)),o 10 (.call 181 [.t 9]),o 11 (.faddr 3 (.t 3)),st (.store 5 (.t 11) (.t 10))])
 (.seq (.reg [o 12 (.load (some 8) (.t 3)),st (.store 8 (.t 2) (.t 12))])
 .ret)))),
 [.cell 2 (some 8)]⟩
def F228 : Fun := ⟨17,
 .seq (.reg [o 2 (.box 8 (.t 0)),o 3 (.box 8 (.t 1)),o 4 (.mv (.c (.bool false)))])
 (.seq (.seq (.reg [o 5 (.faddr 0 (.t 2)),o 6 (.load (some 3) (.t 5)),o 7 (.faddr 0 (.t 3)),o 8 (.load (some 3) (.t 7)),o 9 (.call 235 [.t 6,.t 8]),o 10 (.un .not (.t 9))])
 (.cond (.t 10) (.seq (.reg [o 4 (.mv (.c (.bool false)))])
 .ret) .skip))
 (.seq (.seq (.reg [o 11 (.faddr 3 (.t 2)),o 12 (.load (some 5) (.t 11)),o 13 (.faddr 3 (.t 3)),o 14 (.load (some 5) (.t 13)),o 15 (.call 194 [.t 12,.t 14]),o 16 (.un .not (.t 15))])
 (.cond (.t 16) (.seq (.reg [o 4 (.mv (.c (.bool false)))])
 .ret) .skip))
 (.seq (.reg [o 4 (.mv (.c (.bool true)))])
 .ret))),
 [.tmp 4]⟩
def F232 : Fun := ⟨13,
 .seq (.reg [o 2 (.box 3 (.t 0)),o 4 (.mv (.c (.int .i64 0)))])
 (.seq (.reg [o 5 (.mv (.t 1)),o 6 (.faddr 2 (.t 2)),o 7 (.load none (.t 6)),o 8 (.lenS (.t 7)),o 9 (.bin .sub (.t 5) (.t 8)),o 1 (.mv (.t 9))])
 (.seq (.seq (.reg [o 10 (.mv (.t 1)),o 11 (.bin .lss (.t 10) (.c (.int .i64 0)))])
 (.cond (.t 11) (.seq (.reg [o 4 (.mv (.c (.int .i64 (-1))))])
 .ret) .skip))
 (.seq (.reg [o 12 (.mv (.t 1)),o 4 (.mv (.t 12))])
 .ret))),
 [.tmp 4]⟩
def F233 : Fun := ⟨14,
 .seq (.reg [o 1 (.box 3 (.t 0)),o 2 (.new 3 [.bool false,.int .i64 0,.str []])])
 (.seq (.reg [o 3 (.new 3 [.bool false,.int .i64 0,.str []])])
 (.seq (.reg [o 4 (.faddr 0 (.t 1)),o 5 (.load none (.t 4)),o 6 (.faddr 0 (.t 3)),st (.store 1 (.t 6) (.t 5))])
 (.seq (.reg [o 7 (.faddr 1 (.t 1)),o 8 (.load none (.t 7)),o 9 (.faddr 1 (.t 3)),st (.store 1 (.t 9) (.t 8))])
 (.seq (.reg [o 10 (.faddr 2 (.t 1)),o 11 (.load none (.t 10)),o 12 (.faddr 2 (.t 3)),st (.store 1 (.t 12) (.t 11))])
 (.seq (.reg [o 13 (.load (some 3) (.t 3)),st (.store 3 (.t 2) (.t 13))])
 .ret))))),
 [.cell 2 (some 3)]⟩
def F235 : Fun := ⟨20,
 .seq (.reg [o 2 (.box 3 (.t 0)),o 3 (.box 3 (.t 1)),o 4 (.mv (.c (.bool false)))])
 (.seq (.seq (.reg [o 5 (.faddr 0 (.t 2)),o 6 (.load none (.t 5)),o 7 (.faddr 0 (.t 3)),o 8 (.load none (.t 7)),o 9 (.binb .neq (.t 6) (.t 8))])
 (.cond (.t 9) (.seq (.reg [o 4 (.mv (.c (.bool false)))])
 .ret) .skip))
 (.seq (.seq (.reg [o 10 (.faddr 1 (.t 2)),o 11 (.load none (.t 10)),o 12 (.faddr 1 (.t 3)),o 13 (.load none (.t 12)),o 14 (.bin .neq (.t 11) (.t 13))])
 (.cond (.t 14) (.seq (.reg [o 4 (.mv (.c (.bool false)))])
 .ret) .skip))
 (.seq (.seq (.reg [o 15 (.faddr 2 (.t 2)),o 16 (.load none (.t 15)),o 17 (.faddr 2 (.t 3)),o 18 (.load none (.t 17)),o 19 (.bin .neq (.t 16) (.t 18))])
 (.cond (.t 19) (.seq (.reg [o 4 (.mv (.c (.bool false)))])
 .ret) .skip))
 (.seq (.reg [o 4 (.mv (.c (.bool true)))])
 .ret)))),
 [.tmp 4]⟩
theorem c3 : compF Tryz.prog 3 = some F3 := by kernel_rfl
theorem c5 : compF Tryz.prog 5 = some F5 := by kernel_rfl
theorem c6 : compF Tryz.prog 6 = some F6 := by kernel_rfl
theorem c7 : compF Tryz.prog 7 = some F7 := by kernel_rfl
theorem c8 : compF Tryz.prog 8 = some F8 := by kernel_rfl
theorem c9 : compF Tryz.prog 9 = some F9 := by kernel_rfl
theorem c11 : compF Tryz.prog 11 = some F11 := by kernel_rfl
theorem c12 : compF Tryz.prog 12 = some F12 := by kernel_rfl
theorem c13 : compF Tryz.prog 13 = some F13 := by kernel_rfl
theorem c14 : compF Tryz.prog 14 = some F14 := by kernel_rfl
theorem c15 : compF Tryz.prog 15 = some F15 := by kernel_rfl
theorem c19 : compF Tryz.prog 19 = some F19 := by kernel_rfl
theorem c20 : compF Tryz.prog 20 = some F20 := by kernel_rfl
theorem c21 : compF Tryz.prog 21 = some F21 := by kernel_rfl
theorem c22 : compF Tryz.prog 22 = some F22 := by kernel_rfl
theorem c23 : compF Tryz.prog 23 = some F23 := by kernel_rfl
theorem c24 : compF Tryz.prog 24 = some F24 := by kernel_rfl
theorem c25 : compF Tryz.prog 25 = some F25 := by kernel_rfl
theorem c26 : compF Tryz.prog 26 = some F26 := by kernel_rfl
theorem c27 : compF Tryz.prog 27 = some F27 := by kernel_rfl
theorem c28 : compF Tryz.prog 28 = some F28 := by kernel_rfl
theorem c33 : compF Tryz.prog 33 = some F33 := by kernel_rfl
theorem c34 : compF Tryz.prog 34 = some F34 := by kernel_rfl
theorem c35 : compF Tryz.prog 35 = some F35 := by kernel_rfl
theorem c36 : compF Tryz.prog 36 = some F36 := by kernel_rfl
theorem c37 : compF Tryz.prog 37 = some F37 := by kernel_rfl
theorem c38 : compF Tryz.prog 38 = some F38 := by kernel_rfl
theorem c39 : compF Tryz.prog 39 = some F39 := by kernel_rfl
theorem c48 : compF Tryz.prog 48 = some F48 := by kernel_rfl
theorem c49 : compF Tryz.prog 49 = some F49 := by kernel_rfl
theorem c50 : compF Tryz.prog 50 = some F50 := by kernel_rfl
theorem c51 : compF Tryz.prog 51 = some F51 := by kernel_rfl
theorem c52 : compF Tryz.prog 52 = some F52 := by kernel_rfl
theorem c53 : compF Tryz.prog 53 = some F53 := by kernel_rfl
theorem c54 : compF Tryz.prog 54 = some F54 := by kernel_rfl
theorem c55 : compF Tryz.prog 55 = some F55 := by kernel_rfl
theorem c56 : compF Tryz.prog 56 = some F56 := by kernel_rfl
theorem c57 : compF Tryz.prog 57 = some F57 := by kernel_rfl
theorem c64 : compF Tryz.prog 64 = some F64 := by kernel_rfl
theorem c67 : compF Tryz.prog 67 = some F67 := by kernel_rfl
theorem c68 : compF Tryz.prog 68 = some F68 := by kernel_rfl
theorem c69 : compF Tryz.prog 69 = some F69 := by kernel_rfl
theorem c70 : compF Tryz.prog 70 = some F70 := by kernel_rfl
theorem c71 : compF Tryz.prog 71 = some F71 := by kernel_rfl
theorem c72 : compF Tryz.prog 72 = some F72 := by kernel_rfl
theorem c73 : compF Tryz.prog 73 = some F73 := by kernel_rfl
theorem c74 : compF Tryz.prog 74 = some F74 := by kernel_rfl
theorem c75 : compF Tryz.prog 75 = some F75 := by kernel_rfl
theorem c87 : compF Tryz.prog 87 = some F87 := by kernel_rfl
theorem c88 : compF Tryz.prog 88 = some F88 := by kernel_rfl
theorem c89 : compF Tryz.prog 89 = some F89 := by kernel_rfl
theorem c90 : compF Tryz.prog 90 = some F90 := by kernel_rfl
theorem c91 : compF Tryz.prog 91 = some F91 := by kernel_rfl
theorem c92 : compF Tryz.prog 92 = some F92 := by kernel_rfl
theorem c93 : compF Tryz.prog 93 = some F93 := by kernel_rfl
theorem c94 : compF Tryz.prog 94 = some F94 := by kernel_rfl
theorem c95 : compF Tryz.prog 95 = some F95 := by kernel_rfl
theorem c96 : compF Tryz.prog 96 = some F96 := by kernel_rfl
theorem c97 : compF Tryz.prog 97 = some F97 := by kernel_rfl
theorem c98 : compF Tryz.prog 98 = some F98 := by kernel_rfl
theorem c99 : compF Tryz.prog 99 = some F99 := by kernel_rfl
theorem c100 : compF Tryz.prog 100 = some F100 := by kernel_rfl
theorem c101 : compF Tryz.prog 101 = some F101 := by kernel_rfl
theorem c102 : compF Tryz.prog 102 = some F102 := by kernel_rfl
theorem c103 : compF Tryz.prog 103 = some F103 := by kernel_rfl
theorem c104 : compF Tryz.prog 104 = some F104 := by kernel_rfl
theorem c105 : compF Tryz.prog 105 = some F105 := by kernel_rfl
theorem c114 : compF Tryz.prog 114 = some F114 := by kernel_rfl
theorem c115 : compF Tryz.prog 115 = some F115 := by kernel_rfl
theorem c116 : compF Tryz.prog 116 = some F116 := by kernel_rfl
theorem c117 : compF Tryz.prog 117 = some F117 := by kernel_rfl
theorem c118 : compF Tryz.prog 118 = some F118 := by kernel_rfl
theorem c119 : compF Tryz.prog 119 = some F119 := by kernel_rfl
theorem c131 : compF Tryz.prog 131 = some F131 := by kernel_rfl
theorem c132 : compF Tryz.prog 132 = some F132 := by kernel_rfl
theorem c133 : compF Tryz.prog 133 = some F133 := by kernel_rfl
theorem c134 : compF Tryz.prog 134 = some F134 := by kernel_rfl
theorem c135 : compF Tryz.prog 135 = some F135 := by kernel_rfl
theorem c136 : compF Tryz.prog 136 = some F136 := by kernel_rfl
theorem c137 : compF Tryz.prog 137 = some F137 := by kernel_rfl
theorem c138 : compF Tryz.prog 138 = some F138 := by kernel_rfl
theorem c139 : compF Tryz.prog 139 = some F139 := by kernel_rfl
theorem c140 : compF Tryz.prog 140 = some F140 := by kernel_rfl
theorem c141 : compF Tryz.prog 141 = some F141 := by kernel_rfl
theorem c142 : compF Tryz.prog 142 = some F142 := by kernel_rfl
theorem c143 : compF Tryz.prog 143 = some F143 := by kernel_rfl
theorem c144 : compF Tryz.prog 144 = some F144 := by kernel_rfl
theorem c145 : compF Tryz.prog 145 = some F145 := by kernel_rfl
theorem c146 : compF Tryz.prog 146 = some F146 := by kernel_rfl
theorem c147 : compF Tryz.prog 147 = some F147 := by kernel_rfl
theorem c148 : compF Tryz.prog 148 = some F148 := by kernel_rfl
theorem c155 : compF Tryz.prog 155 = some F155 := by kernel_rfl
theorem c158 : compF Tryz.prog 158 = some F158 := by kernel_rfl
theorem c159 : compF Tryz.prog 159 = some F159 := by kernel_rfl
theorem c160 : compF Tryz.prog 160 = some F160 := by kernel_rfl
theorem c161 : compF Tryz.prog 161 = some F161 := by kernel_rfl
theorem c167 : compF Tryz.prog 167 = some F167 := by kernel_rfl
theorem c168 : compF Tryz.prog 168 = some F168 := by kernel_rfl
theorem c169 : compF Tryz.prog 169 = some F169 := by kernel_rfl
theorem c170 : compF Tryz.prog 170 = some F170 := by kernel_rfl
theorem c171 : compF Tryz.prog 171 = some F171 := by kernel_rfl
theorem c172 : compF Tryz.prog 172 = some F172 := by kernel_rfl
theorem c173 : compF Tryz.prog 173 = some F173 := by kernel_rfl
theorem c174 : compF Tryz.prog 174 = some F174 := by kernel_rfl
theorem c175 : compF Tryz.prog 175 = some F175 := by kernel_rfl
theorem c176 : compF Tryz.prog 176 = some F176 := by kernel_rfl
theorem c177 : compF Tryz.prog 177 = some F177 := by kernel_rfl
theorem c178 : compF Tryz.prog 178 = some F178 := by kernel_rfl
theorem c179 : compF Tryz.prog 179 = some F179 := by kernel_rfl
theorem c181 : compF Tryz.prog 181 = some F181 := by kernel_rfl
theorem c191 : compF Tryz.prog 191 = some F191 := by kernel_rfl
theorem c194 : compF Tryz.prog 194 = some F194 := by kernel_rfl
theorem c206 : compF Tryz.prog 206 = some F206 := by kernel_rfl
theorem c207 : compF Tryz.prog 207 = some F207 := by kernel_rfl
theorem c208 : compF Tryz.prog 208 = some F208 := by kernel_rfl
theorem c209 : compF Tryz.prog 209 = some F209 := by kernel_rfl
theorem c210 : compF Tryz.prog 210 = some F210 := by kernel_rfl
theorem c211 : compF Tryz.prog 211 = some F211 := by kernel_rfl
theorem c212 : compF Tryz.prog 212 = some F212 := by kernel_rfl
theorem c219 : compF Tryz.prog 219 = some F219 := by kernel_rfl
theorem c223 : compF Tryz.prog 223 = some F223 := by kernel_rfl
theorem c224 : compF Tryz.prog 224 = some F224 := by kernel_rfl
theorem c225 : compF Tryz.prog 225 = some F225 := by kernel_rfl
theorem c228 : compF Tryz.prog 228 = some F228 := by kernel_rfl
theorem c232 : compF Tryz.prog 232 = some F232 := by kernel_rfl
theorem c233 : compF Tryz.prog 233 = some F233 := by kernel_rfl
theorem c235 : compF Tryz.prog 235 = some F235 := by kernel_rfl
end A
end Go.Proofs.YtgalkppgeoknaaaGreatDoor
