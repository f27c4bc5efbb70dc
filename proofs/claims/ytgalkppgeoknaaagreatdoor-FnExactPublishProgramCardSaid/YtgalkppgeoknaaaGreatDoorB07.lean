import Derived.Test.YtgalkppgeoknaaaGreatDoorRows
import Derived.Test.YtgalkppgeoknaaaGreatDoorB06

/-
  The functions of the seat in the small language: printed by a program (wip/tools/irdump.lean), each held against the model's code. No condition.
-/
set_option linter.unusedVariables false
set_option linter.unusedSimpArgs false
namespace Go.Proofs.YtgalkppgeoknaaaGreatDoor
namespace A
set_option linter.unusedVariables false
def F10 : Fun := ⟨39,
 .seq (.reg [o 7 (.box 2 (.t 3)),o 8 (.mv (.c .nsl)),o 9 (.mv (.c (.bool false)))])
 (.seq (.reg [o 15 (.load (some 2) (.t 7)),o 16 (.call 29 [.t 15]),o 14 (.mv (.t 16)),o 17 (.extract (.t 14) 0),o 18 (.extract (.t 14) 1),o 10 (.mv (.t 17)),o 11 (.mv (.t 18))])
 (.seq (.reg [o 20 (.mv (.t 10)),o 21 (.call 30 [.t 20]),o 19 (.mv (.t 21)),o 22 (.extract (.t 19) 0),o 23 (.extract (.t 19) 1),o 12 (.mv (.t 22)),o 13 (.mv (.t 23))])
 (.seq (.seq (.reg [o 24 (.mv (.t 11)),o 25 (.un .not (.t 24)),o 26 (.mv (.t 25)),og 27 (.mv (.t 13)) 26 false,og 28 (.un .not (.t 27)) 26 false,o 29 (.pick (.t 26) (.c (.bool true)) (.t 28))])
 (.cond (.t 29) (.seq (.reg [o 30 (.mv (.t 0)),o 31 (.call 31 [.t 30]),o 8 (.mv (.t 31)),o 9 (.mv (.c (.bool false)))])
 .ret) .skip))
 (.seq (.reg [o 32 (.mv (.t 0)),o 33 (.mv (.t 1)),o 34 (.mv (.t 2)),o 35 (.mv (.t 12)),o 36 (.call 32 [.t 32,.t 33,.t 34,.t 35]),o 37 (.extract (.t 36) 0),o 38 (.extract (.t 36) 1),o 8 (.mv (.t 37)),o 9 (.mv (.t 38))])
 .ret)))),
 [.tmp 8,.tmp 9]⟩
def F29 : Fun := ⟨123,
 .seq (.reg [o 1 (.box 2 (.t 0)),o 2 (.mv (.c .nsl)),o 3 (.mv (.c (.bool false)))])
 (.seq (.seq (.reg [o 17 (.load (some 2) (.t 1)),o 18 (.call 58 [.t 17]),o 19 (.un .not (.t 18))])
 (.cond (.t 19) (.seq (.reg [o 2 (.mv (.c .nsl)),o 3 (.mv (.c (.bool false)))])
 .ret) .skip))
 (.seq (.reg [o 20 (.build [.nsl] []),o 4 (.new 1 [.nsl]),st (.store 1 (.t 4) (.t 20))])
 (.seq (.reg [o 21 (.faddr 0 (.t 1)),o 22 (.load none (.t 21)),o 23 (.lenL (.t 22)),o 24 (.call 59 [.t 4,.t 23])])
 (.seq (.seq (.reg [o 25 (.faddr 0 (.t 1)),o 26 (.load none (.t 25)),o 27 (.lenL (.t 26)),o 28 (.mv (.c (.int .i64 0)))])
 (.block 0 (.loop (.seq (.reg [o 29 (.bin .lss (.t 28) (.t 27))])
 (.seq (.cond (.t 29) .skip (.exit 0))
 (.seq (.block 1 (.seq (.reg [o 30 (.iaddr 6 (.t 26) (.t 28)),o 31 (.load (some 6) (.t 30)),o 6 (.new 6 [.str [],.nsl,.nsl,.nsl,.bool false,.nsl]),st (.store 6 (.t 6) (.t 31))])
 (.seq (.reg [o 32 (.faddr 0 (.t 6)),o 33 (.load none (.t 32)),o 34 (.call 60 [.t 4,.t 33])])
 (.seq (.seq (.reg [o 35 (.faddr 1 (.t 6)),o 36 (.load none (.t 35)),o 37 (.faddr 2 (.t 6)),o 38 (.load none (.t 37)),o 39 (.bslice 1 [.nsl] 2 [(0,(.t 36)),(1,(.t 38))]),o 40 (.lenL (.t 39)),o 41 (.mv (.c (.int .i64 0)))])
 (.block 2 (.loop (.seq (.reg [o 42 (.bin .lss (.t 41) (.t 40))])
 (.seq (.cond (.t 42) .skip (.exit 2))
 (.seq (.block 3 (.seq (.reg [o 43 (.iaddr 1 (.t 39) (.t 41)),o 44 (.load none (.t 43)),o 8 (.mv (.t 44))])
 (.seq (.reg [o 45 (.mv (.t 8)),o 46 (.lenL (.t 45)),o 47 (.call 59 [.t 4,.t 46])])
 (.seq (.reg [o 48 (.mv (.t 8)),o 49 (.lenL (.t 48)),o 50 (.mv (.c (.int .i64 0)))])
 (.block 4 (.loop (.seq (.reg [o 51 (.bin .lss (.t 50) (.t 49))])
 (.seq (.cond (.t 51) .skip (.exit 4))
 (.seq (.block 5 (.seq (.reg [o 52 (.iaddr 2 (.t 48) (.t 50)),o 53 (.load (some 2) (.t 52)),o 10 (.new 2 [.str [],.bool false]),st (.store 2 (.t 10) (.t 53))])
 (.seq (.reg [o 54 (.faddr 0 (.t 10)),o 55 (.load none (.t 54)),o 56 (.call 60 [.t 4,.t 55])])
 (.reg [o 57 (.faddr 1 (.t 10)),o 58 (.load none (.t 57)),o 59 (.call 61 [.t 4,.t 58])]))))
 (.reg [o 60 (.bin .add (.t 50) (.c (.int .i64 1))),o 50 (.mv (.t 60))]))))))))))
 (.reg [o 61 (.bin .add (.t 41) (.c (.int .i64 1))),o 41 (.mv (.t 61))])))))))
 (.seq (.reg [o 62 (.faddr 3 (.t 6)),o 63 (.load none (.t 62)),o 64 (.lenL (.t 63)),o 65 (.call 59 [.t 4,.t 64])])
 (.seq (.seq (.reg [o 66 (.faddr 3 (.t 6)),o 67 (.load none (.t 66)),o 68 (.lenL (.t 67)),o 69 (.mv (.c (.int .i64 0)))])
 (.block 6 (.loop (.seq (.reg [o 70 (.bin .lss (.t 69) (.t 68))])
 (.seq (.cond (.t 70) .skip (.exit 6))
 (.seq (.block 7 (.seq (.reg [o 71 (.iaddr 1 (.t 67) (.t 69)),o 72 (.load none (.t 71)),o 12 (.mv (.t 72))])
 (.reg [o 73 (.mv (.t 12)),o 74 (.call 60 [.t 4,.t 73])])))
 (.reg [o 75 (.bin .add (.t 69) (.c (.int .i64 1))),o 69 (.mv (.t 75))])))))))
 (.seq (.reg [o 76 (.faddr 4 (.t 6)),o 77 (.load none (.t 76)),o 78 (.call 61 [.t 4,.t 77])])
 (.seq (.reg [o 79 (.faddr 5 (.t 6)),o 80 (.load none (.t 79)),o 81 (.lenL (.t 80)),o 82 (.call 59 [.t 4,.t 81])])
 (.seq (.reg [o 83 (.faddr 5 (.t 6)),o 84 (.load none (.t 83)),o 85 (.lenL (.t 84)),o 86 (.mv (.c (.int .i64 0)))])
 (.block 8 (.loop (.seq (.reg [o 87 (.bin .lss (.t 86) (.t 85))])
 (.seq (.cond (.t 87) .skip (.exit 8))
 (.seq (.block 9 (.seq (.reg [o 88 (.iaddr 5 (.t 84) (.t 86)),o 89 (.load (some 5) (.t 88)),o 14 (.new 5 [.int .i64 0,.int .i64 0,.int .i64 0,.str [],.str []]),st (.store 5 (.t 14) (.t 89))])
 (.seq (.reg [o 90 (.faddr 0 (.t 14)),o 91 (.load none (.t 90)),o 92 (.call 59 [.t 4,.t 91])])
 (.seq (.reg [o 93 (.faddr 1 (.t 14)),o 94 (.load none (.t 93)),o 95 (.call 59 [.t 4,.t 94])])
 (.seq (.reg [o 96 (.faddr 2 (.t 14)),o 97 (.load none (.t 96)),o 98 (.call 59 [.t 4,.t 97])])
 (.seq (.reg [o 99 (.faddr 3 (.t 14)),o 100 (.load none (.t 99)),o 101 (.call 60 [.t 4,.t 100])])
 (.reg [o 102 (.faddr 4 (.t 14)),o 103 (.load none (.t 102)),o 104 (.call 60 [.t 4,.t 103])])))))))
 (.reg [o 105 (.bin .add (.t 86) (.c (.int .i64 1))),o 86 (.mv (.t 105))])))))))))))))))
 (.reg [o 106 (.bin .add (.t 28) (.c (.int .i64 1))),o 28 (.mv (.t 106))])))))))
 (.seq (.reg [o 107 (.faddr 1 (.t 1)),o 108 (.load none (.t 107)),o 109 (.lenL (.t 108)),o 110 (.call 59 [.t 4,.t 109])])
 (.seq (.seq (.reg [o 111 (.faddr 1 (.t 1)),o 112 (.load none (.t 111)),o 113 (.lenL (.t 112)),o 114 (.mv (.c (.int .i64 0)))])
 (.block 10 (.loop (.seq (.reg [o 115 (.bin .lss (.t 114) (.t 113))])
 (.seq (.cond (.t 115) .skip (.exit 10))
 (.seq (.block 11 (.seq (.reg [o 116 (.iaddr 4 (.t 112) (.t 114)),o 117 (.load (some 4) (.t 116)),o 16 (.new 4 [.str [],.str [],.nsl,.nsl]),st (.store 4 (.t 16) (.t 117))])
 (.reg [o 118 (.load (some 4) (.t 16)),o 119 (.call 62 [.t 4,.t 118])])))
 (.reg [o 120 (.bin .add (.t 114) (.c (.int .i64 1))),o 114 (.mv (.t 120))])))))))
 (.seq (.reg [o 121 (.faddr 0 (.t 4)),o 122 (.load none (.t 121)),o 2 (.mv (.t 122)),o 3 (.mv (.c (.bool true)))])
 .ret))))))),
 [.tmp 2,.tmp 3]⟩
def F30 : Fun := ⟨45,
 .seq (.reg [o 2 (.mv (.c .nsl)),o 3 (.mv (.c (.bool false)))])
 (.seq (.seq (.reg [o 8 (.mv (.t 0)),o 9 (.lenL (.t 8)),o 10 (.bin .gtr (.t 9) (.c (.int .i64 24000)))])
 (.cond (.t 10) (.seq (.reg [o 2 (.mv (.c .nsl)),o 3 (.mv (.c (.bool false)))])
 .ret) .skip))
 (.seq (.reg [o 11 (.mv (.t 0)),o 12 (.lenL (.t 11)),o 13 (.bslice 1 [.int .i64 0] 1 [(0,(.t 12))]),o 4 (.mv (.t 13))])
 (.seq (.seq (.reg [o 5 (.mv (.c (.int .i64 0)))])
 (.block 0 (.loop (.seq (.seq (.reg [o 14 (.mv (.t 5)),o 15 (.mv (.t 0)),o 16 (.lenL (.t 15)),o 17 (.bin .lss (.t 14) (.t 16))])
 (.cond (.t 17) .skip (.exit 0)))
 (.seq (.block 1 (.seq (.reg [o 6 (.mv (.c (.int .i64 0)))])
 (.seq (.seq (.reg [o 20 (.mv (.t 5)),o 7 (.mv (.t 20))])
 (.block 2 (.loop (.seq (.seq (.reg [o 21 (.mv (.t 7)),o 22 (.mv (.t 5)),o 23 (.bin .add (.t 22) (.c (.int .i64 6))),o 24 (.bin .lss (.t 21) (.t 23))])
 (.cond (.t 24) .skip (.exit 2)))
 (.seq (.block 3 (.seq (.reg [o 27 (.mv (.t 6)),o 28 (.bin .mul (.t 27) (.c (.int .i64 256))),o 6 (.mv (.t 28))])
 (.seq (.reg [o 29 (.mv (.t 7)),o 30 (.mv (.t 0)),o 31 (.lenL (.t 30)),o 32 (.bin .lss (.t 29) (.t 31))])
 (.cond (.t 32) (.reg [o 33 (.mv (.t 6)),o 34 (.mv (.t 0)),o 35 (.mv (.t 7)),o 36 (.iaddr 1 (.t 34) (.t 35)),o 37 (.load none (.t 36)),o 38 (.toInt .i64 (.t 37)),o 39 (.bin .add (.t 33) (.t 38)),o 6 (.mv (.t 39))]) .skip))))
 (.reg [o 25 (.mv (.t 7)),o 26 (.bin .add (.t 25) (.c (.int .i64 1))),o 7 (.mv (.t 26))]))))))
 (.reg [o 40 (.mv (.t 4)),o 41 (.mv (.t 6)),o 42 (.bslice 1 [.int .i64 0] 1 [(0,(.t 41))]),o 43 (.append 1 8 (.t 40) (.t 42)),o 4 (.mv (.t 43))]))))
 (.reg [o 18 (.mv (.t 5)),o 19 (.bin .add (.t 18) (.c (.int .i64 6))),o 5 (.mv (.t 19))]))))))
 (.seq (.reg [o 44 (.mv (.t 4)),o 2 (.mv (.t 44)),o 3 (.mv (.c (.bool true)))])
 .ret)))),
 [.tmp 2,.tmp 3]⟩
def F31 : Fun := ⟨24,
 .seq (.reg [o 2 (.mv (.c .nsl))])
 (.seq (.reg [o 6 (.mv (.t 0)),o 7 (.call 63 [.t 6]),o 3 (.mv (.t 7))])
 (.seq (.seq (.reg [o 8 (.mv (.t 0)),o 9 (.lenL (.t 8)),o 10 (.mv (.c (.int .i64 0)))])
 (.block 0 (.loop (.seq (.reg [o 11 (.bin .lss (.t 10) (.t 9))])
 (.seq (.cond (.t 11) .skip (.exit 0))
 (.seq (.block 1 (.seq (.reg [o 12 (.mv (.t 10)),o 13 (.iaddr 4 (.t 8) (.t 10)),o 14 (.load (some 4) (.t 13)),o 5 (.new 4 [.int .i64 0,.int .i64 0,.int .i64 0,.nsl]),o 4 (.mv (.t 12)),st (.store 4 (.t 5) (.t 14))])
 (.reg [o 15 (.mv (.t 3)),o 16 (.mv (.t 4)),o 17 (.faddr 3 (.t 5)),o 18 (.load none (.t 17)),o 19 (.call 64 [.t 18]),o 20 (.iaddr 4 (.t 15) (.t 16)),o 21 (.faddr 3 (.t 20)),st (.store 1 (.t 21) (.t 19))])))
 (.reg [o 22 (.bin .add (.t 10) (.c (.int .i64 1))),o 10 (.mv (.t 22))])))))))
 (.seq (.reg [o 23 (.mv (.t 3)),o 2 (.mv (.t 23))])
 .ret))),
 [.tmp 2]⟩
def F32 : Fun := ⟨74,
 .seq (.reg [o 8 (.mv (.c .nsl)),o 9 (.mv (.c (.bool false)))])
 (.seq (.reg [o 11 (.mv (.t 0)),o 12 (.call 31 [.t 11]),o 10 (.mv (.t 12))])
 (.seq (.seq (.reg [o 13 (.mv (.t 0)),o 14 (.call 65 [.t 13]),o 15 (.un .not (.t 14)),o 16 (.mv (.t 15)),og 17 (.mv (.t 1)) 16 false,og 18 (.mv (.t 0)) 16 false,og 19 (.lenL (.t 18)) 16 false,og 20 (.bin .sub (.t 19) (.c (.int .i64 1))) 16 false,og 21 (.call 66 [.t 17,.c (.int .i64 0),.t 20]) 16 false,og 22 (.un .not (.t 21)) 16 false,o 23 (.pick (.t 16) (.c (.bool true)) (.t 22)),o 24 (.mv (.t 23)),og 25 (.mv (.t 0)) 24 false,og 26 (.mv (.t 1)) 24 false,og 27 (.iaddr 4 (.t 25) (.t 26)) 24 false,og 28 (.faddr 0 (.t 27)) 24 false,og 29 (.load none (.t 28)) 24 false,og 30 (.bin .rem (.t 29) (.c (.int .i64 2))) 24 false,og 31 (.bin .eql (.t 30) (.c (.int .i64 1))) 24 false,o 32 (.pick (.t 24) (.c (.bool true)) (.t 31)),o 33 (.mv (.t 32)),og 34 (.mv (.t 0)) 33 false,og 35 (.mv (.t 1)) 33 false,og 36 (.iaddr 4 (.t 34) (.t 35)) 33 false,og 37 (.faddr 0 (.t 36)) 33 false,og 38 (.load none (.t 37)) 33 false,og 39 (.bin .gtr (.t 38) (.c (.int .i64 999999999998))) 33 false,o 40 (.pick (.t 33) (.c (.bool true)) (.t 39)),o 41 (.mv (.t 40)),og 42 (.mv (.t 2)) 41 false,og 43 (.call 66 [.t 42,.c (.int .i64 1),.c (.int .i64 1000000000000)]) 41 false,og 44 (.un .not (.t 43)) 41 false,o 45 (.pick (.t 41) (.c (.bool true)) (.t 44)),o 46 (.mv (.t 45)),og 47 (.mv (.t 3)) 46 false,og 48 (.lenL (.t 47)) 46 false,og 49 (.bin .gtr (.t 48) (.c (.int .i64 4100))) 46 false,o 50 (.pick (.t 46) (.c (.bool true)) (.t 49))])
 (.cond (.t 50) (.seq (.reg [o 51 (.mv (.t 10)),o 8 (.mv (.t 51)),o 9 (.mv (.c (.bool false)))])
 .ret) .skip))
 (.seq (.reg [o 52 (.mv (.t 10)),o 53 (.mv (.t 1)),o 54 (.mv (.t 10)),o 55 (.mv (.t 1)),o 56 (.iaddr 4 (.t 54) (.t 55)),o 57 (.faddr 0 (.t 56)),o 58 (.load none (.t 57)),o 59 (.bin .add (.t 58) (.c (.int .i64 2))),o 60 (.iaddr 4 (.t 52) (.t 53)),o 61 (.faddr 0 (.t 60)),st (.store 1 (.t 61) (.t 59))])
 (.seq (.reg [o 62 (.mv (.t 10)),o 63 (.mv (.t 1)),o 64 (.mv (.t 2)),o 65 (.iaddr 4 (.t 62) (.t 63)),o 66 (.faddr 2 (.t 65)),st (.store 1 (.t 66) (.t 64))])
 (.seq (.reg [o 67 (.mv (.t 10)),o 68 (.mv (.t 1)),o 69 (.mv (.t 3)),o 70 (.call 64 [.t 69]),o 71 (.iaddr 4 (.t 67) (.t 68)),o 72 (.faddr 3 (.t 71)),st (.store 1 (.t 72) (.t 70))])
 (.seq (.reg [o 73 (.mv (.t 10)),o 8 (.mv (.t 73)),o 9 (.mv (.c (.bool true)))])
 .ret)))))),
 [.tmp 8,.tmp 9]⟩
def F58 : Fun := ⟨167,
 .seq (.reg [o 1 (.box 2 (.t 0)),o 2 (.mv (.c (.bool false)))])
 (.seq (.seq (.reg [o 19 (.faddr 0 (.t 1)),o 20 (.load none (.t 19)),o 21 (.lenL (.t 20)),o 22 (.bin .gtr (.t 21) (.c (.int .i64 5000))),o 23 (.mv (.t 22)),og 24 (.faddr 1 (.t 1)) 23 false,og 25 (.load none (.t 24)) 23 false,og 26 (.lenL (.t 25)) 23 false,og 27 (.bin .eql (.t 26) (.c (.int .i64 0))) 23 false,o 28 (.pick (.t 23) (.c (.bool true)) (.t 27))])
 (.cond (.t 28) (.seq (.reg [o 2 (.mv (.c (.bool false)))])
 .ret) .skip))
 (.seq (.reg [o 29 .mkmap,o 3 (.mv (.t 29))])
 (.seq (.seq (.reg [o 30 (.faddr 0 (.t 1)),o 31 (.load none (.t 30)),o 32 (.lenL (.t 31)),o 33 (.mv (.c (.int .i64 0)))])
 (.block 0 (.loop (.seq (.reg [o 34 (.bin .lss (.t 33) (.t 32))])
 (.seq (.cond (.t 34) .skip (.exit 0))
 (.seq (.block 1 (.seq (.reg [o 35 (.mv (.t 33)),o 36 (.iaddr 6 (.t 31) (.t 33)),o 37 (.load (some 6) (.t 36)),o 5 (.new 6 [.str [],.nsl,.nsl,.nsl,.bool false,.nsl]),o 4 (.mv (.t 35)),st (.store 6 (.t 5) (.t 37))])
 (.seq (.seq (.reg [o 39 (.mv (.t 3)),o 40 (.faddr 0 (.t 5)),o 41 (.load none (.t 40)),o 42 (.lookup 1 (.int .i64 0) true (.t 39) (.t 41)),o 38 (.mv (.t 42)),o 43 (.extract (.t 38) 0),o 44 (.extract (.t 38) 1),o 6 (.mv (.t 43)),o 7 (.mv (.t 44))])
 (.seq (.reg [o 45 (.mv (.t 7)),o 46 (.mv (.t 45)),og 47 (.load (some 6) (.t 5)) 46 false,og 48 (.call 106 [.t 47]) 46 false,og 49 (.un .not (.t 48)) 46 false,o 50 (.pick (.t 46) (.c (.bool true)) (.t 49))])
 (.cond (.t 50) (.seq (.reg [o 2 (.mv (.c (.bool false)))])
 .ret) .skip)))
 (.reg [o 51 (.mv (.t 3)),o 52 (.faddr 0 (.t 5)),o 53 (.load none (.t 52)),o 54 (.mv (.t 4)),st (.mupd 1 (.t 51) (.t 53) (.t 54))]))))
 (.reg [o 55 (.bin .add (.t 33) (.c (.int .i64 1))),o 33 (.mv (.t 55))])))))))
 (.seq (.seq (.reg [o 56 (.faddr 1 (.t 1)),o 57 (.load none (.t 56)),o 58 (.iaddr 4 (.t 57) (.c (.int .i64 0))),o 59 (.load (some 4) (.t 58)),o 8 (.new 4 [.str [],.str [],.nsl,.nsl]),st (.store 4 (.t 8) (.t 59))])
 (.seq (.reg [o 60 (.faddr 0 (.t 8)),o 61 (.load none (.t 60)),o 62 (.bin .neq (.t 61) (.c (.str [69,114,114,111,114]))),o 63 (.mv (.t 62)),og 64 (.faddr 2 (.t 8)) 63 false,og 65 (.load none (.t 64)) 63 false,og 66 (.lenL (.t 65)) 63 false,og 67 (.bin .eql (.t 66) (.c (.int .i64 0))) 63 false,o 68 (.pick (.t 63) (.c (.bool true)) (.t 67)),o 69 (.mv (.t 68)),og 70 (.faddr 2 (.t 8)) 69 false,og 71 (.load none (.t 70)) 69 false,og 72 (.iaddr 8 (.t 71) (.c (.int .i64 0))) 69 false,og 73 (.faddr 0 (.t 72)) 69 false,og 74 (.load none (.t 73)) 69 false,og 75 (.bin .neq (.t 74) (.c (.str [109,101,115,115,97,103,101]))) 69 false,o 76 (.pick (.t 69) (.c (.bool true)) (.t 75))])
 (.cond (.t 76) (.seq (.reg [o 2 (.mv (.c (.bool false)))])
 .ret) .skip)))
 (.seq (.reg [o 77 .mkmap,o 9 (.mv (.t 77))])
 (.seq (.seq (.reg [o 78 (.faddr 1 (.t 1)),o 79 (.load none (.t 78)),o 80 (.lenL (.t 79)),o 81 (.mv (.c (.int .i64 0)))])
 (.block 2 (.loop (.seq (.reg [o 82 (.bin .lss (.t 81) (.t 80))])
 (.seq (.cond (.t 82) .skip (.exit 2))
 (.seq (.block 3 (.seq (.reg [o 83 (.iaddr 4 (.t 79) (.t 81)),o 84 (.load (some 4) (.t 83)),o 11 (.new 4 [.str [],.str [],.nsl,.nsl]),st (.store 4 (.t 11) (.t 84))])
 (.seq (.seq (.reg [o 85 (.mv (.t 9)),o 86 (.faddr 0 (.t 11)),o 87 (.load none (.t 86)),o 88 (.lookup 1 (.bool false) false (.t 85) (.t 87))])
 (.cond (.t 88) (.seq (.reg [o 2 (.mv (.c (.bool false)))])
 .ret) .skip))
 (.seq (.reg [o 89 (.mv (.t 9)),o 90 (.faddr 0 (.t 11)),o 91 (.load none (.t 90)),st (.mupd 1 (.t 89) (.t 91) (.c (.bool true)))])
 (.seq (.reg [o 92 .mkmap,o 12 (.mv (.t 92))])
 (.seq (.seq (.reg [o 93 (.faddr 2 (.t 11)),o 94 (.load none (.t 93)),o 95 (.lenL (.t 94)),o 96 (.mv (.c (.int .i64 0)))])
 (.block 4 (.loop (.seq (.reg [o 97 (.bin .lss (.t 96) (.t 95))])
 (.seq (.cond (.t 97) .skip (.exit 4))
 (.seq (.block 5 (.seq (.reg [o 98 (.iaddr 8 (.t 94) (.t 96)),o 99 (.load (some 8) (.t 98)),o 14 (.new 8 [.str [],.str [],.bool false,.int .i64 0,.int .i64 0,.str [],.int .i64 0,.nsl]),st (.store 8 (.t 14) (.t 99))])
 (.seq (.seq (.reg [o 100 (.mv (.t 12)),o 101 (.faddr 0 (.t 14)),o 102 (.load none (.t 101)),o 103 (.lookup 1 (.bool false) false (.t 100) (.t 102)),o 104 (.mv (.t 103)),og 105 (.faddr 0 (.t 14)) 104 false,og 106 (.load none (.t 105)) 104 false,og 107 (.call 107 [.t 106]) 104 false,og 108 (.un .not (.t 107)) 104 false,o 109 (.pick (.t 104) (.c (.bool true)) (.t 108)),o 110 (.mv (.t 109)),og 111 (.faddr 3 (.t 14)) 110 false,og 112 (.load (some 5) (.t 111)) 110 false,og 113 (.call 108 [.t 112]) 110 false,og 114 (.un .not (.t 113)) 110 false,o 115 (.pick (.t 110) (.c (.bool true)) (.t 114)),o 116 (.mv (.t 115)),og 117 (.faddr 3 (.t 14)) 116 false,og 118 (.faddr 0 (.t 117)) 116 false,og 119 (.load none (.t 118)) 116 false,og 120 (.call 66 [.t 119,.c (.int .i64 0),.c (.int .i64 3)]) 116 false,og 121 (.un .not (.t 120)) 116 false,o 122 (.pick (.t 116) (.c (.bool true)) (.t 121))])
 (.cond (.t 122) (.seq (.reg [o 2 (.mv (.c (.bool false)))])
 .ret) .skip))
 (.reg [o 123 (.mv (.t 12)),o 124 (.faddr 0 (.t 14)),o 125 (.load none (.t 124)),st (.mupd 1 (.t 123) (.t 125) (.c (.bool true)))]))))
 (.reg [o 126 (.bin .add (.t 96) (.c (.int .i64 1))),o 96 (.mv (.t 126))])))))))
 (.seq (.reg [o 127 (.faddr 3 (.t 11)),o 128 (.load none (.t 127)),o 129 (.lenL (.t 128)),o 130 (.mv (.c (.int .i64 0)))])
 (.block 6 (.loop (.seq (.reg [o 131 (.bin .lss (.t 130) (.t 129))])
 (.seq (.cond (.t 131) .skip (.exit 6))
 (.seq (.block 7 (.seq (.reg [o 132 (.iaddr 5 (.t 128) (.t 130)),o 133 (.load (some 5) (.t 132)),o 16 (.new 5 [.str [],.str [],.str [],.bool false,.bool false]),st (.store 5 (.t 16) (.t 133))])
 (.seq (.reg [o 135 (.mv (.t 3)),o 136 (.faddr 2 (.t 16)),o 137 (.load none (.t 136)),o 138 (.bin .add (.t 137) (.c (.str [58,58]))),o 139 (.faddr 0 (.t 16)),o 140 (.load none (.t 139)),o 141 (.bin .add (.t 138) (.t 140)),o 142 (.lookup 1 (.int .i64 0) true (.t 135) (.t 141)),o 134 (.mv (.t 142)),o 143 (.extract (.t 134) 0),o 144 (.extract (.t 134) 1),o 17 (.mv (.t 143)),o 18 (.mv (.t 144))])
 (.seq (.reg [o 145 (.mv (.t 18)),o 146 (.un .not (.t 145)),o 147 (.mv (.t 146)),og 148 (.faddr 0 (.t 1)) 147 false,og 149 (.load none (.t 148)) 147 false,og 150 (.mv (.t 17)) 147 false,og 151 (.iaddr 6 (.t 149) (.t 150)) 147 false,og 152 (.load (some 6) (.t 151)) 147 false,og 153 (.call 109 [.t 152]) 147 false,o 154 (.pick (.t 147) (.c (.bool true)) (.t 153)),o 155 (.mv (.t 154)),og 156 (.faddr 0 (.t 1)) 155 false,og 157 (.load none (.t 156)) 155 false,og 158 (.mv (.t 17)) 155 false,og 159 (.iaddr 6 (.t 157) (.t 158)) 155 false,og 160 (.faddr 2 (.t 159)) 155 false,og 161 (.load none (.t 160)) 155 false,og 162 (.lenL (.t 161)) 155 false,og 163 (.bin .gtr (.t 162) (.c (.int .i64 0))) 155 false,o 164 (.pick (.t 155) (.c (.bool true)) (.t 163))])
 (.cond (.t 164) (.seq (.reg [o 2 (.mv (.c (.bool false)))])
 .ret) .skip)))))
 (.reg [o 165 (.bin .add (.t 130) (.c (.int .i64 1))),o 130 (.mv (.t 165))])))))))))))))
 (.reg [o 166 (.bin .add (.t 81) (.c (.int .i64 1))),o 81 (.mv (.t 166))])))))))
 (.seq (.reg [o 2 (.mv (.c (.bool true)))])
 .ret))))))),
 [.tmp 2]⟩
def F59 : Fun := ⟨13,
 .reg [o 4 (.mv (.t 0)),o 5 (.mv (.t 0)),o 6 (.nilck (.t 5)),o 7 (.faddr 0 (.t 6)),o 8 (.load none (.t 7)),o 9 (.mv (.t 1)),o 10 (.call 110 [.t 8,.t 9]),o 11 (.nilck (.t 4)),o 12 (.faddr 0 (.t 11)),st (.store 1 (.t 12) (.t 10))],
 []⟩
def F60 : Fun := ⟨13,
 .reg [o 4 (.mv (.t 0)),o 5 (.mv (.t 0)),o 6 (.nilck (.t 5)),o 7 (.faddr 0 (.t 6)),o 8 (.load none (.t 7)),o 9 (.mv (.t 1)),o 10 (.call 111 [.t 8,.t 9]),o 11 (.nilck (.t 4)),o 12 (.faddr 0 (.t 11)),st (.store 1 (.t 12) (.t 10))],
 []⟩
def F61 : Fun := ⟨8,
 .reg [o 4 (.mv (.t 0)),o 5 (.mv (.t 1)),o 6 (.call 112 [.t 5]),o 7 (.call 59 [.t 4,.t 6])],
 []⟩
def F62 : Fun := ⟨85,
 .seq (.reg [o 3 (.box 4 (.t 1))])
 (.seq (.reg [o 10 (.mv (.t 0)),o 11 (.faddr 0 (.t 3)),o 12 (.load none (.t 11)),o 13 (.call 60 [.t 10,.t 12])])
 (.seq (.reg [o 14 (.mv (.t 0)),o 15 (.faddr 1 (.t 3)),o 16 (.load none (.t 15)),o 17 (.call 60 [.t 14,.t 16])])
 (.seq (.reg [o 18 (.mv (.t 0)),o 19 (.faddr 2 (.t 3)),o 20 (.load none (.t 19)),o 21 (.lenL (.t 20)),o 22 (.call 59 [.t 18,.t 21])])
 (.seq (.seq (.reg [o 23 (.faddr 2 (.t 3)),o 24 (.load none (.t 23)),o 25 (.lenL (.t 24)),o 26 (.mv (.c (.int .i64 0)))])
 (.block 0 (.loop (.seq (.reg [o 27 (.bin .lss (.t 26) (.t 25))])
 (.seq (.cond (.t 27) .skip (.exit 0))
 (.seq (.block 1 (.seq (.reg [o 28 (.iaddr 8 (.t 24) (.t 26)),o 29 (.load (some 8) (.t 28)),o 5 (.new 8 [.str [],.str [],.bool false,.int .i64 0,.int .i64 0,.str [],.int .i64 0,.nsl]),st (.store 8 (.t 5) (.t 29))])
 (.seq (.reg [o 30 (.mv (.t 0)),o 31 (.faddr 0 (.t 5)),o 32 (.load none (.t 31)),o 33 (.call 60 [.t 30,.t 32])])
 (.seq (.reg [o 34 (.mv (.t 0)),o 35 (.faddr 1 (.t 5)),o 36 (.load none (.t 35)),o 37 (.call 60 [.t 34,.t 36])])
 (.seq (.reg [o 38 (.mv (.t 0)),o 39 (.faddr 2 (.t 5)),o 40 (.load none (.t 39)),o 41 (.call 61 [.t 38,.t 40])])
 (.seq (.reg [o 43 (.faddr 3 (.t 5)),o 44 (.load (some 5) (.t 43)),o 45 (.call 113 [.t 44]),o 42 (.mv (.t 45)),o 46 (.extract (.t 42) 0),o 47 (.extract (.t 42) 1),o 6 (.mv (.t 46)),o 7 (.mv (.t 47))])
 (.reg [o 48 (.mv (.t 0)),o 49 (.mv (.t 6)),o 50 (.call 60 [.t 48,.t 49])])))))))
 (.reg [o 51 (.bin .add (.t 26) (.c (.int .i64 1))),o 26 (.mv (.t 51))])))))))
 (.seq (.reg [o 52 (.mv (.t 0)),o 53 (.faddr 3 (.t 3)),o 54 (.load none (.t 53)),o 55 (.lenL (.t 54)),o 56 (.call 59 [.t 52,.t 55])])
 (.seq (.reg [o 57 (.faddr 3 (.t 3)),o 58 (.load none (.t 57)),o 59 (.lenL (.t 58)),o 60 (.mv (.c (.int .i64 0)))])
 (.block 2 (.loop (.seq (.reg [o 61 (.bin .lss (.t 60) (.t 59))])
 (.seq (.cond (.t 61) .skip (.exit 2))
 (.seq (.block 3 (.seq (.reg [o 62 (.iaddr 5 (.t 58) (.t 60)),o 63 (.load (some 5) (.t 62)),o 9 (.new 5 [.str [],.str [],.str [],.bool false,.bool false]),st (.store 5 (.t 9) (.t 63))])
 (.seq (.reg [o 64 (.mv (.t 0)),o 65 (.faddr 0 (.t 9)),o 66 (.load none (.t 65)),o 67 (.call 60 [.t 64,.t 66])])
 (.seq (.reg [o 68 (.mv (.t 0)),o 69 (.faddr 1 (.t 9)),o 70 (.load none (.t 69)),o 71 (.call 60 [.t 68,.t 70])])
 (.seq (.reg [o 72 (.mv (.t 0)),o 73 (.faddr 2 (.t 9)),o 74 (.load none (.t 73)),o 75 (.call 60 [.t 72,.t 74])])
 (.seq (.reg [o 76 (.mv (.t 0)),o 77 (.faddr 3 (.t 9)),o 78 (.load none (.t 77)),o 79 (.call 61 [.t 76,.t 78])])
 (.reg [o 80 (.mv (.t 0)),o 81 (.faddr 4 (.t 9)),o 82 (.load none (.t 81)),o 83 (.call 61 [.t 80,.t 82])])))))))
 (.reg [o 84 (.bin .add (.t 60) (.c (.int .i64 1))),o 60 (.mv (.t 84))])))))))))))),
 []⟩
def F63 : Fun := ⟨8,
 .seq (.reg [o 2 (.mv (.c .nsl))])
 (.seq (.seq (.reg [o 3 (.mv (.t 0)),o 4 (.isnl false (.t 3))])
 (.cond (.t 4) (.seq (.reg [o 2 (.mv (.c .nsl))])
 .ret) .skip))
 (.seq (.reg [o 5 (.bslice 4 [.int .i64 0,.int .i64 0,.int .i64 0,.nsl] 0 []),o 6 (.mv (.t 0)),o 7 (.append 4 48 (.t 5) (.t 6)),o 2 (.mv (.t 7))])
 .ret)),
 [.tmp 2]⟩
def F65 : Fun := ⟨47,
 .seq (.reg [o 2 (.mv (.c (.bool false)))])
 (.seq (.seq (.reg [o 5 (.mv (.t 0)),o 6 (.lenL (.t 5)),o 7 (.mv (.c (.int .i64 0)))])
 (.block 0 (.loop (.seq (.reg [o 8 (.bin .lss (.t 7) (.t 6))])
 (.seq (.cond (.t 8) .skip (.exit 0))
 (.seq (.block 1 (.seq (.reg [o 9 (.iaddr 4 (.t 5) (.t 7)),o 10 (.load (some 4) (.t 9)),o 4 (.new 4 [.int .i64 0,.int .i64 0,.int .i64 0,.nsl]),st (.store 4 (.t 4) (.t 10))])
 (.seq (.reg [o 11 (.faddr 0 (.t 4)),o 12 (.load none (.t 11)),o 13 (.call 66 [.t 12,.c (.int .i64 0),.c (.int .i64 1000000000000)]),o 14 (.un .not (.t 13)),o 15 (.mv (.t 14)),og 16 (.faddr 2 (.t 4)) 15 false,og 17 (.load none (.t 16)) 15 false,og 18 (.call 66 [.t 17,.c (.int .i64 0),.c (.int .i64 1000000000000)]) 15 false,og 19 (.un .not (.t 18)) 15 false,o 20 (.pick (.t 15) (.c (.bool true)) (.t 19)),o 21 (.mv (.t 20)),og 22 (.faddr 1 (.t 4)) 21 false,og 23 (.load none (.t 22)) 21 false,og 24 (.call 66 [.t 23,.c (.int .i64 0),.c (.int .i64 8)]) 21 false,og 25 (.un .not (.t 24)) 21 false,o 26 (.pick (.t 21) (.c (.bool true)) (.t 25)),o 27 (.mv (.t 26)),og 28 (.faddr 3 (.t 4)) 27 false,og 29 (.load none (.t 28)) 27 false,og 30 (.lenL (.t 29)) 27 false,og 31 (.bin .gtr (.t 30) (.c (.int .i64 4100))) 27 false,o 32 (.pick (.t 27) (.c (.bool true)) (.t 31)),o 33 (.mv (.t 32)),og 34 (.faddr 0 (.t 4)) 33 false,og 35 (.load none (.t 34)) 33 false,og 36 (.bin .rem (.t 35) (.c (.int .i64 2))) 33 false,og 37 (.bin .eql (.t 36) (.c (.int .i64 1))) 33 false,og 38 (.faddr 1 (.t 4)) 33 false,og 39 (.load none (.t 38)) 33 false,og 40 (.bin .gtr (.t 39) (.c (.int .i64 0))) 33 false,og 41 (.binb .neq (.t 37) (.t 40)) 33 false,o 42 (.pick (.t 33) (.c (.bool true)) (.t 41))])
 (.cond (.t 42) (.seq (.reg [o 2 (.mv (.c (.bool false)))])
 .ret) .skip))))
 (.reg [o 43 (.bin .add (.t 7) (.c (.int .i64 1))),o 7 (.mv (.t 43))])))))))
 (.seq (.reg [o 44 (.mv (.t 0)),o 45 (.lenL (.t 44)),o 46 (.bin .leq (.t 45) (.c (.int .i64 8))),o 2 (.mv (.t 46))])
 .ret)),
 [.tmp 2]⟩
def F66 : Fun := ⟨15,
 .seq (.reg [o 6 (.mv (.c (.bool false)))])
 (.seq (.reg [o 7 (.mv (.t 1)),o 8 (.mv (.t 0)),o 9 (.bin .leq (.t 7) (.t 8)),o 10 (.mv (.t 9)),og 11 (.mv (.t 0)) 10 true,og 12 (.mv (.t 2)) 10 true,og 13 (.bin .leq (.t 11) (.t 12)) 10 true,o 14 (.pick (.t 10) (.t 13) (.c (.bool false))),o 6 (.mv (.t 14))])
 .ret),
 [.tmp 6]⟩
def F106 : Fun := ⟨120,
 .seq (.reg [o 1 (.box 6 (.t 0)),o 2 (.mv (.c (.bool false)))])
 (.seq (.seq (.reg [o 12 (.faddr 0 (.t 1)),o 13 (.load none (.t 12)),o 14 (.lenS (.t 13)),o 15 (.call 66 [.t 14,.c (.int .i64 1),.c (.int .i64 100)]),o 16 (.un .not (.t 15)),o 17 (.mv (.t 16)),og 18 (.faddr 3 (.t 1)) 17 false,og 19 (.load none (.t 18)) 17 false,og 20 (.lenL (.t 19)) 17 false,og 21 (.bin .gtr (.t 20) (.c (.int .i64 600))) 17 false,o 22 (.pick (.t 17) (.c (.bool true)) (.t 21)),o 23 (.mv (.t 22)),og 24 (.faddr 5 (.t 1)) 23 false,og 25 (.load none (.t 24)) 23 false,og 26 (.lenL (.t 25)) 23 false,og 27 (.bin .gtr (.t 26) (.c (.int .i64 8000))) 23 false,o 28 (.pick (.t 23) (.c (.bool true)) (.t 27)),o 29 (.mv (.t 28)),og 30 (.faddr 1 (.t 1)) 29 false,og 31 (.load none (.t 30)) 29 false,og 32 (.lenL (.t 31)) 29 false,og 33 (.faddr 2 (.t 1)) 29 false,og 34 (.load none (.t 33)) 29 false,og 35 (.lenL (.t 34)) 29 false,og 36 (.bin .add (.t 32) (.t 35)) 29 false,og 37 (.faddr 3 (.t 1)) 29 false,og 38 (.load none (.t 37)) 29 false,og 39 (.lenL (.t 38)) 29 false,og 40 (.bin .gtr (.t 36) (.t 39)) 29 false,o 41 (.pick (.t 29) (.c (.bool true)) (.t 40))])
 (.cond (.t 41) (.seq (.reg [o 2 (.mv (.c (.bool false)))])
 .ret) .skip))
 (.seq (.reg [o 42 .mkmap,o 3 (.mv (.t 42))])
 (.seq (.seq (.reg [o 43 (.faddr 3 (.t 1)),o 44 (.load none (.t 43)),o 45 (.lenL (.t 44)),o 46 (.mv (.c (.int .i64 0)))])
 (.block 0 (.loop (.seq (.reg [o 47 (.bin .lss (.t 46) (.t 45))])
 (.seq (.cond (.t 47) .skip (.exit 0))
 (.seq (.block 1 (.seq (.reg [o 48 (.iaddr 1 (.t 44) (.t 46)),o 49 (.load none (.t 48)),o 5 (.mv (.t 49))])
 (.seq (.seq (.reg [o 50 (.mv (.t 3)),o 51 (.mv (.t 5)),o 52 (.lookup 1 (.bool false) false (.t 50) (.t 51)),o 53 (.mv (.t 52)),og 54 (.mv (.t 5)) 53 false,og 55 (.call 107 [.t 54]) 53 false,og 56 (.un .not (.t 55)) 53 false,o 57 (.pick (.t 53) (.c (.bool true)) (.t 56)),o 58 (.mv (.t 57)),og 59 (.mv (.t 5)) 58 false,og 60 (.bin .eql (.t 59) (.c (.str [116,104,105,115]))) 58 false,o 61 (.pick (.t 58) (.c (.bool true)) (.t 60))])
 (.cond (.t 61) (.seq (.reg [o 2 (.mv (.c (.bool false)))])
 .ret) .skip))
 (.reg [o 62 (.mv (.t 3)),o 63 (.mv (.t 5)),st (.mupd 1 (.t 62) (.t 63) (.c (.bool true)))]))))
 (.reg [o 64 (.bin .add (.t 46) (.c (.int .i64 1))),o 46 (.mv (.t 64))])))))))
 (.seq (.seq (.reg [o 65 (.faddr 1 (.t 1)),o 66 (.load none (.t 65)),o 68 (.faddr 2 (.t 1)),o 69 (.load none (.t 68)),o 72 (.mv (.c (.int .i64 0))),o 67 (.call 149 [.t 66]),st (.chk none (.t 68) (.t 69)),o 70 (.append 2 24 (.t 67) (.t 69)),o 71 (.lenL (.t 70))])
 (.block 2 (.loop (.seq (.reg [o 73 (.bin .lss (.t 72) (.t 71))])
 (.seq (.cond (.t 73) .skip (.exit 2))
 (.seq (.block 3 (.seq (.reg [o 74 (.mv (.t 72)),o 75 (.iaddr 2 (.t 70) (.t 72)),o 76 (.load (some 2) (.t 75)),o 7 (.new 2 [.str [],.bool false]),o 6 (.mv (.t 74)),st (.store 2 (.t 7) (.t 76))])
 (.seq (.reg [o 77 (.faddr 3 (.t 1)),o 78 (.load none (.t 77)),o 79 (.mv (.t 6)),o 80 (.iaddr 1 (.t 78) (.t 79)),o 81 (.load none (.t 80)),o 82 (.faddr 0 (.t 7)),o 83 (.load none (.t 82)),o 84 (.bin .neq (.t 81) (.t 83))])
 (.cond (.t 84) (.seq (.reg [o 2 (.mv (.c (.bool false)))])
 .ret) .skip))))
 (.reg [o 85 (.bin .add (.t 72) (.c (.int .i64 1))),o 72 (.mv (.t 85))])))))))
 (.seq (.seq (.reg [o 86 (.faddr 5 (.t 1)),o 87 (.load none (.t 86)),o 88 (.lenL (.t 87)),o 89 (.mv (.c (.int .i64 0)))])
 (.block 4 (.loop (.seq (.reg [o 90 (.bin .lss (.t 89) (.t 88))])
 (.seq (.cond (.t 90) .skip (.exit 4))
 (.seq (.block 5 (.seq (.reg [o 91 (.iaddr 5 (.t 87) (.t 89)),o 92 (.load (some 5) (.t 91)),o 9 (.new 5 [.int .i64 0,.int .i64 0,.int .i64 0,.str [],.str []]),st (.store 5 (.t 9) (.t 92))])
 (.seq (.reg [o 93 (.faddr 0 (.t 9)),o 94 (.load none (.t 93)),o 95 (.bin .eql (.t 94) (.c (.int .i64 54))),o 96 (.mv (.t 95)),og 97 (.faddr 4 (.t 1)) 96 true,og 98 (.load none (.t 97)) 96 true,og 99 (.un .not (.t 98)) 96 true,o 100 (.pick (.t 96) (.t 99) (.c (.bool false)))])
 (.cond (.t 100) (.seq (.reg [o 2 (.mv (.c (.bool false)))])
 .ret) .skip))))
 (.reg [o 101 (.bin .add (.t 89) (.c (.int .i64 1))),o 89 (.mv (.t 101))])))))))
 (.seq (.seq (.reg [o 102 (.load (some 6) (.t 1)),o 103 (.call 109 [.t 102]),o 104 (.mv (.t 103)),og 105 (.faddr 3 (.t 1)) 104 true,og 106 (.load none (.t 105)) 104 true,og 107 (.lenL (.t 106)) 104 true,og 108 (.bin .gtr (.t 107) (.c (.int .i64 0))) 104 true,og 109 (.mv (.t 108)) 104 true,og 110 (.faddr 4 (.t 1)) 109 false,og 111 (.load none (.t 110)) 109 false,og 112 (.pick (.t 109) (.c (.bool true)) (.t 111)) 104 true,o 113 (.pick (.t 104) (.t 112) (.c (.bool false)))])
 (.cond (.t 113) (.seq (.reg [o 2 (.mv (.c (.bool false)))])
 .ret) .skip))
 (.seq (.reg [o 115 (.load (some 6) (.t 1)),o 116 (.call 150 [.t 115]),o 114 (.mv (.t 116)),o 117 (.extract (.t 114) 0),o 118 (.extract (.t 114) 1),o 10 (.mv (.t 117)),o 11 (.mv (.t 118))])
 (.seq (.reg [o 119 (.mv (.t 11)),o 2 (.mv (.t 119))])
 .ret)))))))),
 [.tmp 2]⟩
def F107 : Fun := ⟨10,
 .seq (.reg [o 2 (.mv (.c (.bool false)))])
 (.seq (.reg [o 3 (.mv (.t 0)),o 4 (.call 151 [.t 3]),o 5 (.mv (.t 4)),og 6 (.mv (.t 0)) 5 true,og 7 (.call 152 [.t 6]) 5 true,og 8 (.un .not (.t 7)) 5 true,o 9 (.pick (.t 5) (.t 8) (.c (.bool false))),o 2 (.mv (.t 9))])
 .ret),
 [.tmp 2]⟩
def F108 : Fun := ⟨10,
 .seq (.reg [o 1 (.box 5 (.t 0)),o 2 (.mv (.c (.bool false)))])
 (.seq (.reg [o 3 (.load (some 5) (.t 1)),o 4 (.call 153 [.t 3]),o 5 (.bin .leq (.t 4) (.c (.int .i64 200))),o 6 (.mv (.t 5)),og 7 (.load (some 5) (.t 1)) 6 true,og 8 (.call 154 [.t 7]) 6 true,o 9 (.pick (.t 6) (.t 8) (.c (.bool false))),o 2 (.mv (.t 9))])
 .ret),
 [.tmp 2]⟩
def F109 : Fun := ⟨6,
 .seq (.reg [o 1 (.box 6 (.t 0)),o 2 (.mv (.c (.bool false)))])
 (.seq (.reg [o 3 (.faddr 0 (.t 1)),o 4 (.load none (.t 3)),o 5 (.call 155 [.t 4,.c (.str [47])]),o 2 (.mv (.t 5))])
 .ret),
 [.tmp 2]⟩
def F110 : Fun := ⟨32,
 .seq (.reg [o 4 (.mv (.c .nsl))])
 (.seq (.reg [o 6 (.bslice 1 [.int .u8 0] 0 []),o 7 (.mv (.t 0)),o 8 (.append 1 1 (.t 6) (.t 7)),o 5 (.mv (.t 8))])
 (.seq (.seq (.reg [o 9 (.mv (.t 1)),o 10 (.bin .lss (.t 9) (.c (.int .i64 0))),o 11 (.mv (.t 10)),og 12 (.mv (.t 1)) 11 false,og 13 (.bin .gtr (.t 12) (.c (.int .i64 1000000000000))) 11 false,o 14 (.pick (.t 11) (.c (.bool true)) (.t 13))])
 (.cond (.t 14) (.seq (.reg [o 15 (.mv (.t 5)),o 4 (.mv (.t 15))])
 .ret) .skip))
 (.seq (.block 0 (.loop (.seq (.seq (.reg [o 16 (.mv (.t 1)),o 17 (.bin .geq (.t 16) (.c (.int .i64 128)))])
 (.cond (.t 17) .skip (.exit 0)))
 (.block 1 (.seq (.reg [o 18 (.mv (.t 5)),o 19 (.mv (.t 1)),o 20 (.bin .rem (.t 19) (.c (.int .i64 128))),o 21 (.toInt .u8 (.t 20)),o 22 (.bin .add (.t 21) (.c (.int .u8 128))),o 23 (.bslice 1 [.int .u8 0] 1 [(0,(.t 22))]),o 24 (.append 1 1 (.t 18) (.t 23)),o 5 (.mv (.t 24))])
 (.reg [o 25 (.mv (.t 1)),o 26 (.bin .quo (.t 25) (.c (.int .i64 128))),o 1 (.mv (.t 26))]))))))
 (.seq (.reg [o 27 (.mv (.t 5)),o 28 (.mv (.t 1)),o 29 (.toInt .u8 (.t 28)),o 30 (.bslice 1 [.int .u8 0] 1 [(0,(.t 29))]),o 31 (.append 1 1 (.t 27) (.t 30)),o 4 (.mv (.t 31))])
 .ret)))),
 [.tmp 4]⟩
def F111 : Fun := ⟨11,
 .seq (.reg [o 4 (.mv (.c .nsl))])
 (.seq (.reg [o 5 (.mv (.t 0)),o 6 (.mv (.t 1)),o 7 (.lenS (.t 6)),o 8 (.call 110 [.t 5,.t 7]),o 9 (.mv (.t 1)),o 10 (.append 1 1 (.t 8) (.t 9)),o 4 (.mv (.t 10))])
 .ret),
 [.tmp 4]⟩
def F112 : Fun := ⟨4,
 .seq (.reg [o 2 (.mv (.c (.int .i64 0)))])
 (.seq (.seq (.reg [o 3 (.mv (.t 0))])
 (.cond (.t 3) (.seq (.reg [o 2 (.mv (.c (.int .i64 1)))])
 .ret) .skip))
 (.seq (.reg [o 2 (.mv (.c (.int .i64 0)))])
 .ret)),
 [.tmp 2]⟩
def F113 : Fun := ⟨15,
 .seq (.reg [o 1 (.box 5 (.t 0)),o 2 (.mv (.c (.str []))),o 3 (.mv (.c (.bool false)))])
 (.seq (.seq (.reg [o 4 (.load (some 5) (.t 1)),o 5 (.call 108 [.t 4]),o 6 (.un .not (.t 5)),o 7 (.mv (.t 6)),og 8 (.load (some 5) (.t 1)) 7 false,og 9 (.call 156 [.t 8]) 7 false,og 10 (.un .not (.t 9)) 7 false,o 11 (.pick (.t 7) (.c (.bool true)) (.t 10))])
 (.cond (.t 11) (.seq (.reg [o 2 (.mv (.c (.str []))),o 3 (.mv (.c (.bool false)))])
 .ret) .skip))
 (.seq (.reg [o 12 (.load (some 5) (.t 1)),o 13 (.call 157 [.c .nsl,.t 12]),o 14 (.toStr (.t 13)),o 2 (.mv (.t 14)),o 3 (.mv (.c (.bool true)))])
 .ret)),
 [.tmp 2,.tmp 3]⟩
def F149 : Fun := ⟨8,
 .seq (.reg [o 2 (.mv (.c .nsl))])
 (.seq (.seq (.reg [o 3 (.mv (.t 0)),o 4 (.isnl false (.t 3))])
 (.cond (.t 4) (.seq (.reg [o 2 (.mv (.c .nsl))])
 .ret) .skip))
 (.seq (.reg [o 5 (.bslice 2 [.str [],.bool false] 0 []),o 6 (.mv (.t 0)),o 7 (.append 2 24 (.t 5) (.t 6)),o 2 (.mv (.t 7))])
 .ret)),
 [.tmp 2]⟩
def F150 : Fun := ⟨107,
 .seq (.reg [o 1 (.box 6 (.t 0)),o 2 (.mv (.c .nsl)),o 3 (.mv (.c (.bool false)))])
 (.seq (.seq (.reg [o 12 (.faddr 5 (.t 1)),o 13 (.load none (.t 12)),o 14 (.lenL (.t 13)),o 15 (.bin .eql (.t 14) (.c (.int .i64 0)))])
 (.cond (.t 15) (.seq (.reg [o 2 (.mv (.c .nsl)),o 3 (.mv (.c (.bool false)))])
 .ret) .skip))
 (.seq (.reg [o 16 (.faddr 5 (.t 1)),o 17 (.load none (.t 16)),o 18 (.lenL (.t 17)),o 19 (.mkslice 1 [.int .i64 0] 8 (.t 18) (.t 18)),o 4 (.new 1 [.nsl]),st (.store 1 (.t 4) (.t 19))])
 (.seq (.seq (.reg [o 20 (.faddr 5 (.t 1)),o 21 (.load none (.t 20)),o 22 (.lenL (.t 21)),o 23 (.mv (.c (.int .i64 0)))])
 (.block 0 (.loop (.seq (.reg [o 24 (.bin .lss (.t 23) (.t 22))])
 (.seq (.cond (.t 24) .skip (.exit 0))
 (.seq (.block 1 (.seq (.reg [o 25 (.mv (.t 23)),o 26 (.iaddr 5 (.t 21) (.t 23)),o 27 (.load (some 5) (.t 26)),o 6 (.new 5 [.int .i64 0,.int .i64 0,.int .i64 0,.str [],.str []]),o 5 (.mv (.t 25)),st (.store 5 (.t 6) (.t 27))])
 (.seq (.seq (.reg [o 28 (.load (some 5) (.t 6)),o 29 (.faddr 3 (.t 1)),o 30 (.load none (.t 29)),o 31 (.lenL (.t 30)),o 32 (.faddr 5 (.t 1)),o 33 (.load none (.t 32)),o 34 (.lenL (.t 33)),o 35 (.call 182 [.t 28,.t 31,.t 34]),o 36 (.un .not (.t 35))])
 (.cond (.t 36) (.seq (.reg [o 2 (.mv (.c .nsl)),o 3 (.mv (.c (.bool false)))])
 .ret) .skip))
 (.reg [o 37 (.load none (.t 4)),o 38 (.mv (.t 5)),o 39 (.iaddr 1 (.t 37) (.t 38)),st (.store 1 (.t 39) (.c (.int .i64 (-1))))]))))
 (.reg [o 40 (.bin .add (.t 23) (.c (.int .i64 1))),o 23 (.mv (.t 40))])))))))
 (.seq (.reg [o 41 (.load none (.t 4)),o 42 (.iaddr 1 (.t 41) (.c (.int .i64 0))),st (.store 1 (.t 42) (.c (.int .i64 0)))])
 (.seq (.reg [o 43 (.bslice 1 [.int .i64 0] 1 [(0,(.c (.int .i64 0)))]),o 7 (.new 1 [.nsl]),st (.store 1 (.t 7) (.t 43))])
 (.seq (.reg [o 44 (.mkfn 183 [.t 4,.t 7]),o 8 (.mv (.t 44))])
 (.seq (.block 2 (.loop (.seq (.seq (.reg [o 45 (.load none (.t 7)),o 46 (.lenL (.t 45)),o 47 (.bin .gtr (.t 46) (.c (.int .i64 0)))])
 (.cond (.t 47) .skip (.exit 2)))
 (.block 3 (.seq (.reg [o 48 (.load none (.t 7)),o 49 (.load none (.t 7)),o 50 (.lenL (.t 49)),o 51 (.bin .sub (.t 50) (.c (.int .i64 1))),o 52 (.iaddr 1 (.t 48) (.t 51)),o 53 (.load none (.t 52)),o 9 (.mv (.t 53))])
 (.seq (.reg [o 54 (.load none (.t 7)),o 55 (.load none (.t 7)),o 56 (.lenL (.t 55)),o 57 (.bin .sub (.t 56) (.c (.int .i64 1))),o 58 (.slice 1 (.t 54) none (some (.t 57))),st (.store 1 (.t 7) (.t 58))])
 (.seq (.reg [o 59 (.faddr 5 (.t 1)),o 60 (.load none (.t 59)),o 61 (.mv (.t 9)),o 62 (.iaddr 5 (.t 60) (.t 61)),o 63 (.load (some 5) (.t 62)),o 10 (.new 5 [.int .i64 0,.int .i64 0,.int .i64 0,.str [],.str []]),st (.store 5 (.t 10) (.t 63))])
 (.seq (.reg [o 64 (.load none (.t 4)),o 65 (.mv (.t 9)),o 66 (.iaddr 1 (.t 64) (.t 65)),o 67 (.load none (.t 66)),o 11 (.mv (.t 67))])
 (.seq (.seq (.reg [o 70 (.mv (.t 11))])
 (.seq (.reg [o 68 (.load (some 5) (.t 10))])
 (.seq (.reg [o 69 (.call 184 [.t 68])])
 (.seq (.reg [o 71 (.bin .gtr (.t 69) (.t 70))])
 (.seq (.reg [o 72 (.mv (.t 71))])
 (.seq (.reg [og 73 (.faddr 0 (.t 10)) 72 false])
 (.seq (.reg [og 74 (.load none (.t 73)) 72 false])
 (.seq (.reg [og 75 (.call 185 [.t 74]) 72 false])
 (.seq (.reg [og 76 (.un .not (.t 75)) 72 false])
 (.seq (.reg [og 77 (.mv (.t 76)) 72 false])
 (.seq (.reg [og 78 (.mv (.t 8)) 77 true])
 (.seq (.reg [og 79 (.mv (.t 9)) 77 true])
 (.seq (.reg [og 81 (.mv (.t 11)) 77 true])
 (.seq (.alt (.seq (.reg [og 80 (.bin .add (.t 79) (.c (.int .i64 1))) 77 true])
 (.seq (.reg [og 82 (.load (some 5) (.t 10)) 77 true])
 (.seq (.reg [og 83 (.call 186 [.t 82]) 77 true])
 (.seq (.reg [og 84 (.bin .add (.t 81) (.t 83)) 77 true])
 .skip))))
 (.seq (.reg [og 82 (.load (some 5) (.t 10)) 77 true])
 (.alt (.seq (.reg [og 80 (.bin .add (.t 79) (.c (.int .i64 1))) 77 true])
 (.seq (.reg [og 83 (.call 186 [.t 82]) 77 true])
 (.seq (.reg [og 84 (.bin .add (.t 81) (.t 83)) 77 true])
 .skip)))
 (.seq (.reg [og 83 (.call 186 [.t 82]) 77 true])
 (.alt (.seq (.reg [og 80 (.bin .add (.t 79) (.c (.int .i64 1))) 77 true])
 (.seq (.reg [og 84 (.bin .add (.t 81) (.t 83)) 77 true])
 .skip))
 (.seq (.reg [og 84 (.bin .add (.t 81) (.t 83)) 77 true])
 (.seq (.reg [og 80 (.bin .add (.t 79) (.c (.int .i64 1))) 77 true])
 .skip)))))))
 (.seq (.reg [og 85 (.callv (.t 78) [.t 80,.t 84]) 77 true])
 (.seq (.reg [og 86 (.un .not (.t 85)) 77 true])
 (.seq (.reg [og 87 (.pick (.t 77) (.t 86) (.c (.bool false))) 72 false])
 (.seq (.reg [o 88 (.pick (.t 72) (.c (.bool true)) (.t 87))])
 (.seq (.reg [o 89 (.mv (.t 88))])
 (.seq (.reg [og 90 (.faddr 0 (.t 10)) 89 false])
 (.seq (.reg [og 91 (.load none (.t 90)) 89 false])
 (.seq (.reg [og 92 (.call 187 [.t 91]) 89 false])
 (.seq (.reg [og 93 (.mv (.t 92)) 89 false])
 (.seq (.reg [og 94 (.mv (.t 8)) 93 true])
 (.seq (.reg [og 95 (.faddr 1 (.t 10)) 93 true])
 (.seq (.reg [og 97 (.mv (.t 11)) 93 true])
 (.seq (.reg [og 98 (.faddr 0 (.t 10)) 93 true])
 (.seq (.alt (.seq (.reg [og 96 (.load none (.t 95)) 93 true])
 (.seq (.reg [og 99 (.load none (.t 98)) 93 true])
 (.seq (.reg [og 100 (.call 188 [.t 99]) 93 true])
 (.seq (.reg [og 101 (.bin .add (.t 97) (.t 100)) 93 true])
 .skip))))
 (.seq (.reg [og 99 (.load none (.t 98)) 93 true])
 (.alt (.seq (.reg [og 96 (.load none (.t 95)) 93 true])
 (.seq (.reg [og 100 (.call 188 [.t 99]) 93 true])
 (.seq (.reg [og 101 (.bin .add (.t 97) (.t 100)) 93 true])
 .skip)))
 (.seq (.reg [og 100 (.call 188 [.t 99]) 93 true])
 (.alt (.seq (.reg [og 96 (.load none (.t 95)) 93 true])
 (.seq (.reg [og 101 (.bin .add (.t 97) (.t 100)) 93 true])
 .skip))
 (.seq (.reg [og 101 (.bin .add (.t 97) (.t 100)) 93 true])
 (.seq (.reg [og 96 (.load none (.t 95)) 93 true])
 .skip)))))))
 (.seq (.reg [og 102 (.callv (.t 94) [.t 96,.t 101]) 93 true])
 (.seq (.reg [og 103 (.un .not (.t 102)) 93 true])
 (.seq (.reg [og 104 (.pick (.t 93) (.t 103) (.c (.bool false))) 89 false])
 (.seq (.reg [o 105 (.pick (.t 89) (.c (.bool true)) (.t 104))])
 .skip))))))))))))))))))))))))))))))))
 (.cond (.t 105) (.seq (.reg [o 2 (.mv (.c .nsl)),o 3 (.mv (.c (.bool false)))])
 .ret) .skip))))))))))
 (.seq (.reg [o 106 (.load none (.t 4)),o 2 (.mv (.t 106)),o 3 (.mv (.c (.bool true)))])
 .ret)))))))),
 [.tmp 2,.tmp 3]⟩
def F151 : Fun := ⟨17,
 .seq (.reg [o 2 (.mv (.c (.bool false)))])
 (.seq (.reg [o 3 (.mv (.t 0)),o 4 (.lenS (.t 3)),o 5 (.bin .leq (.t 4) (.c (.int .i64 20))),o 6 (.mv (.t 5)),og 7 (.mv (.t 0)) 6 true,og 8 (.call 189 [.t 7]) 6 true,og 9 (.mv (.t 0)) 6 true,og 10 (.lenS (.t 9)) 6 true,og 11 (.bin .eql (.t 8) (.t 10)) 6 true,o 12 (.pick (.t 6) (.t 11) (.c (.bool false))),o 13 (.mv (.t 12)),og 14 (.mv (.t 0)) 13 true,og 15 (.bin .neq (.t 14) (.c (.str []))) 13 true,o 16 (.pick (.t 13) (.t 15) (.c (.bool false))),o 2 (.mv (.t 16))])
 .ret),
 [.tmp 2]⟩
def F152 : Fun := ⟨33,
 .seq (.reg [o 2 (.mv (.c (.bool false)))])
 (.seq (.seq (.reg [o 3 (.mv (.t 0))])
 (.block 0 (.seq (.seq (.reg [o 5 (.bin .eql (.t 3) (.c (.str [101,99,104,111]))),o 4 (.mv (.t 5))])
 (.cond (.t 4) .skip (.seq (.reg [o 6 (.bin .eql (.t 3) (.c (.str [105,102]))),o 4 (.mv (.t 6))])
 (.cond (.t 4) .skip (.seq (.reg [o 7 (.bin .eql (.t 3) (.c (.str [101,108,115,101]))),o 4 (.mv (.t 7))])
 (.cond (.t 4) .skip (.seq (.reg [o 8 (.bin .eql (.t 3) (.c (.str [119,104,105,108,101]))),o 4 (.mv (.t 8))])
 (.cond (.t 4) .skip (.seq (.reg [o 9 (.bin .eql (.t 3) (.c (.str [102,111,114,101,97,99,104]))),o 4 (.mv (.t 9))])
 (.cond (.t 4) .skip (.seq (.reg [o 10 (.bin .eql (.t 3) (.c (.str [97,115]))),o 4 (.mv (.t 10))])
 (.cond (.t 4) .skip (.seq (.reg [o 11 (.bin .eql (.t 3) (.c (.str [98,114,101,97,107]))),o 4 (.mv (.t 11))])
 (.cond (.t 4) .skip (.seq (.reg [o 12 (.bin .eql (.t 3) (.c (.str [99,111,110,116,105,110,117,101]))),o 4 (.mv (.t 12))])
 (.cond (.t 4) .skip (.seq (.reg [o 13 (.bin .eql (.t 3) (.c (.str [114,101,116,117,114,110]))),o 4 (.mv (.t 13))])
 (.cond (.t 4) .skip (.seq (.reg [o 14 (.bin .eql (.t 3) (.c (.str [103,108,111,98,97,108]))),o 4 (.mv (.t 14))])
 (.cond (.t 4) .skip (.seq (.reg [o 15 (.bin .eql (.t 3) (.c (.str [117,110,115,101,116]))),o 4 (.mv (.t 15))])
 (.cond (.t 4) .skip (.seq (.reg [o 16 (.bin .eql (.t 3) (.c (.str [116,104,114,111,119]))),o 4 (.mv (.t 16))])
 (.cond (.t 4) .skip (.seq (.reg [o 17 (.bin .eql (.t 3) (.c (.str [116,114,121]))),o 4 (.mv (.t 17))])
 (.cond (.t 4) .skip (.seq (.reg [o 18 (.bin .eql (.t 3) (.c (.str [99,97,116,99,104]))),o 4 (.mv (.t 18))])
 (.cond (.t 4) .skip (.seq (.reg [o 19 (.bin .eql (.t 3) (.c (.str [102,105,110,97,108,108,121]))),o 4 (.mv (.t 19))])
 (.cond (.t 4) .skip (.seq (.reg [o 20 (.bin .eql (.t 3) (.c (.str [121,105,101,108,100]))),o 4 (.mv (.t 20))])
 (.cond (.t 4) .skip (.seq (.reg [o 21 (.bin .eql (.t 3) (.c (.str [105,110,99,108,117,100,101]))),o 4 (.mv (.t 21))])
 (.cond (.t 4) .skip (.seq (.reg [o 22 (.bin .eql (.t 3) (.c (.str [102,117,110,99,116,105,111,110]))),o 4 (.mv (.t 22))])
 (.cond (.t 4) .skip (.seq (.reg [o 23 (.bin .eql (.t 3) (.c (.str [99,108,97,115,115]))),o 4 (.mv (.t 23))])
 (.cond (.t 4) .skip (.seq (.reg [o 24 (.bin .eql (.t 3) (.c (.str [116,114,97,105,116]))),o 4 (.mv (.t 24))])
 (.cond (.t 4) .skip (.seq (.reg [o 25 (.bin .eql (.t 3) (.c (.str [101,120,116,101,110,100,115]))),o 4 (.mv (.t 25))])
 (.cond (.t 4) .skip (.seq (.reg [o 26 (.bin .eql (.t 3) (.c (.str [117,115,101]))),o 4 (.mv (.t 26))])
 (.cond (.t 4) .skip (.seq (.reg [o 27 (.bin .eql (.t 3) (.c (.str [112,114,105,118,97,116,101]))),o 4 (.mv (.t 27))])
 (.cond (.t 4) .skip (.seq (.reg [o 28 (.bin .eql (.t 3) (.c (.str [115,116,97,116,105,99]))),o 4 (.mv (.t 28))])
 (.cond (.t 4) .skip (.seq (.reg [o 29 (.bin .eql (.t 3) (.c (.str [110,101,119]))),o 4 (.mv (.t 29))])
 (.cond (.t 4) .skip (.seq (.reg [o 30 (.bin .eql (.t 3) (.c (.str [116,114,117,101]))),o 4 (.mv (.t 30))])
 (.cond (.t 4) .skip (.seq (.reg [o 31 (.bin .eql (.t 3) (.c (.str [102,97,108,115,101]))),o 4 (.mv (.t 31))])
 (.cond (.t 4) .skip (.reg [o 32 (.bin .eql (.t 3) (.c (.str [110,117,108,108]))),o 4 (.mv (.t 32))])))))))))))))))))))))))))))))))))))))))))))))))))))))))
 (.cond (.t 4) (.seq (.reg [o 2 (.mv (.c (.bool true)))])
 .ret) .skip))))
 (.seq (.reg [o 2 (.mv (.c (.bool false)))])
 .ret)),
 [.tmp 2]⟩
def F153 : Fun := ⟨23,
 .seq (.reg [o 1 (.box 5 (.t 0)),o 2 (.mv (.c (.int .i64 0)))])
 (.seq (.reg [o 3 (.mv (.c (.int .i64 1)))])
 (.seq (.seq (.reg [o 6 (.faddr 0 (.t 1)),o 7 (.load none (.t 6)),o 8 (.bin .eql (.t 7) (.c (.int .i64 4)))])
 (.cond (.t 8) (.seq (.reg [o 9 (.faddr 4 (.t 1)),o 10 (.load none (.t 9)),o 11 (.lenL (.t 10)),o 12 (.mv (.c (.int .i64 0)))])
 (.block 0 (.loop (.seq (.reg [o 13 (.bin .lss (.t 12) (.t 11))])
 (.seq (.cond (.t 13) .skip (.exit 0))
 (.seq (.block 1 (.seq (.reg [o 14 (.iaddr 8 (.t 10) (.t 12)),o 15 (.load (some 8) (.t 14)),o 5 (.new 8 [.bool false,.int .i64 0,.str [],.int .i64 0,.int .i64 0,.str [],.int .i64 0,.nsl]),st (.store 8 (.t 5) (.t 15))])
 (.reg [o 16 (.mv (.t 3)),o 17 (.faddr 3 (.t 5)),o 18 (.load (some 5) (.t 17)),o 19 (.call 153 [.t 18]),o 20 (.bin .add (.t 16) (.t 19)),o 3 (.mv (.t 20))])))
 (.reg [o 21 (.bin .add (.t 12) (.c (.int .i64 1))),o 12 (.mv (.t 21))]))))))) .skip))
 (.seq (.reg [o 22 (.mv (.t 3)),o 2 (.mv (.t 22))])
 .ret))),
 [.tmp 2]⟩
def F154 : Fun := ⟨123,
 .seq (.reg [o 1 (.box 5 (.t 0)),o 2 (.mv (.c (.bool false)))])
 (.seq (.seq (.reg [o 6 (.faddr 0 (.t 1)),o 7 (.load none (.t 6)),o 8 (.bin .neq (.t 7) (.c (.int .i64 3))),o 9 (.mv (.t 8)),og 10 (.faddr 2 (.t 1)) 9 true,og 11 (.load none (.t 10)) 9 true,og 12 (.bin .neq (.t 11) (.c (.str []))) 9 true,o 13 (.pick (.t 9) (.t 12) (.c (.bool false))),o 14 (.mv (.t 13)),og 15 (.faddr 0 (.t 1)) 14 false,og 16 (.load none (.t 15)) 14 false,og 17 (.bin .neq (.t 16) (.c (.int .i64 4))) 14 false,og 18 (.mv (.t 17)) 14 false,og 19 (.faddr 3 (.t 1)) 18 true,og 20 (.load none (.t 19)) 18 true,og 21 (.bin .neq (.t 20) (.c (.int .i64 0))) 18 true,og 22 (.mv (.t 21)) 18 true,og 23 (.faddr 4 (.t 1)) 22 false,og 24 (.load none (.t 23)) 22 false,og 25 (.lenL (.t 24)) 22 false,og 26 (.bin .gtr (.t 25) (.c (.int .i64 0))) 22 false,og 27 (.pick (.t 22) (.c (.bool true)) (.t 26)) 18 true,og 28 (.pick (.t 18) (.t 27) (.c (.bool false))) 14 false,o 29 (.pick (.t 14) (.c (.bool true)) (.t 28))])
 (.cond (.t 29) (.seq (.reg [o 2 (.mv (.c (.bool false)))])
 .ret) .skip))
 (.seq (.seq (.reg [o 30 (.faddr 0 (.t 1)),o 31 (.load none (.t 30))])
 (.block 0 (.seq (.reg [o 33 (.bin .eql (.t 31) (.c (.int .i64 0))),o 32 (.mv (.t 33))])
 (.cond (.t 32) (.seq (.reg [o 34 (.faddr 1 (.t 1)),o 35 (.load none (.t 34)),o 36 (.bin .eql (.t 35) (.c (.int .i64 0))),o 2 (.mv (.t 36))])
 .ret) (.seq (.reg [o 38 (.bin .eql (.t 31) (.c (.int .i64 1))),o 37 (.mv (.t 38))])
 (.cond (.t 37) (.seq (.reg [o 39 (.faddr 1 (.t 1)),o 40 (.load none (.t 39)),o 41 (.bin .eql (.t 40) (.c (.int .i64 0))),o 42 (.mv (.t 41)),og 43 (.faddr 1 (.t 1)) 42 false,og 44 (.load none (.t 43)) 42 false,og 45 (.bin .eql (.t 44) (.c (.int .i64 1))) 42 false,o 46 (.pick (.t 42) (.c (.bool true)) (.t 45)),o 2 (.mv (.t 46))])
 .ret) (.seq (.reg [o 48 (.bin .eql (.t 31) (.c (.int .i64 2))),o 47 (.mv (.t 48))])
 (.cond (.t 47) (.seq (.reg [o 49 (.faddr 1 (.t 1)),o 50 (.load none (.t 49)),o 51 (.call 66 [.t 50,(.c (.int .i64 (-1000000000))),.c (.int .i64 1000000000)]),o 2 (.mv (.t 51))])
 .ret) (.seq (.reg [o 53 (.bin .eql (.t 31) (.c (.int .i64 3))),o 52 (.mv (.t 53))])
 (.cond (.t 52) (.seq (.reg [o 54 (.faddr 1 (.t 1)),o 55 (.load none (.t 54)),o 56 (.bin .eql (.t 55) (.c (.int .i64 0))),o 57 (.mv (.t 56)),og 58 (.faddr 2 (.t 1)) 57 true,og 59 (.load none (.t 58)) 57 true,og 60 (.lenS (.t 59)) 57 true,og 61 (.bin .leq (.t 60) (.c (.int .i64 400))) 57 true,o 62 (.pick (.t 57) (.t 61) (.c (.bool false))),o 2 (.mv (.t 62))])
 .ret) (.seq (.seq (.reg [o 64 (.bin .eql (.t 31) (.c (.int .i64 6))),o 63 (.mv (.t 64))])
 (.cond (.t 63) .skip (.seq (.reg [o 65 (.bin .eql (.t 31) (.c (.int .i64 7))),o 63 (.mv (.t 65))])
 (.cond (.t 63) .skip (.reg [o 66 (.bin .eql (.t 31) (.c (.int .i64 8))),o 63 (.mv (.t 66))])))))
 (.cond (.t 63) (.seq (.reg [o 67 (.faddr 1 (.t 1)),o 68 (.load none (.t 67)),o 69 (.call 66 [.t 68,.c (.int .i64 0),.c (.int .i64 255)]),o 2 (.mv (.t 69))])
 .ret) (.seq (.reg [o 71 (.bin .eql (.t 31) (.c (.int .i64 4))),o 70 (.mv (.t 71))])
 (.cond (.t 70) (.seq (.seq (.reg [o 72 (.faddr 1 (.t 1)),o 73 (.load none (.t 72)),o 74 (.bin .neq (.t 73) (.c (.int .i64 0))),o 75 (.mv (.t 74)),og 76 (.faddr 3 (.t 1)) 75 false,og 77 (.load none (.t 76)) 75 false,og 78 (.call 66 [.t 77,.c (.int .i64 0),.c (.int .i64 1000000001)]) 75 false,og 79 (.un .not (.t 78)) 75 false,o 80 (.pick (.t 75) (.c (.bool true)) (.t 79))])
 (.cond (.t 80) (.seq (.reg [o 2 (.mv (.c (.bool false)))])
 .ret) .skip))
 (.seq (.reg [o 81 .mkmap,o 3 (.mv (.t 81))])
 (.seq (.seq (.reg [o 82 (.faddr 4 (.t 1)),o 83 (.load none (.t 82)),o 84 (.lenL (.t 83)),o 85 (.mv (.c (.int .i64 0)))])
 (.block 1 (.loop (.seq (.reg [o 86 (.bin .lss (.t 85) (.t 84))])
 (.seq (.cond (.t 86) .skip (.exit 1))
 (.seq (.block 2 (.seq (.reg [o 87 (.iaddr 8 (.t 83) (.t 85)),o 88 (.load (some 8) (.t 87)),o 5 (.new 8 [.bool false,.int .i64 0,.str [],.int .i64 0,.int .i64 0,.str [],.int .i64 0,.nsl]),st (.store 8 (.t 5) (.t 88))])
 (.seq (.seq (.reg [o 89 (.faddr 0 (.t 5)),o 90 (.load (some 3) (.t 89)),o 91 (.call 190 [.t 90]),o 92 (.un .not (.t 91)),o 93 (.mv (.t 92)),og 94 (.mv (.t 3)) 93 false,og 95 (.faddr 0 (.t 5)) 93 false,og 96 (.load (some 3) (.t 95)) 93 false,og 97 (.lookup 3 (.bool false) false (.t 94) (.t 96)) 93 false,o 98 (.pick (.t 93) (.c (.bool true)) (.t 97)),o 99 (.mv (.t 98)),og 100 (.faddr 0 (.t 5)) 99 false,og 101 (.faddr 0 (.t 100)) 99 false,og 102 (.load none (.t 101)) 99 false,og 103 (.un .not (.t 102)) 99 false,og 104 (.mv (.t 103)) 99 false,og 105 (.faddr 0 (.t 5)) 104 true,og 106 (.faddr 1 (.t 105)) 104 true,og 107 (.load none (.t 106)) 104 true,og 108 (.faddr 3 (.t 1)) 104 true,og 109 (.load none (.t 108)) 104 true,og 110 (.bin .geq (.t 107) (.t 109)) 104 true,og 111 (.pick (.t 104) (.t 110) (.c (.bool false))) 99 false,o 112 (.pick (.t 99) (.c (.bool true)) (.t 111)),o 113 (.mv (.t 112)),og 114 (.faddr 3 (.t 5)) 113 false,og 115 (.load (some 5) (.t 114)) 113 false,og 116 (.call 154 [.t 115]) 113 false,og 117 (.un .not (.t 116)) 113 false,o 118 (.pick (.t 113) (.c (.bool true)) (.t 117))])
 (.cond (.t 118) (.seq (.reg [o 2 (.mv (.c (.bool false)))])
 .ret) .skip))
 (.reg [o 119 (.mv (.t 3)),o 120 (.faddr 0 (.t 5)),o 121 (.load (some 3) (.t 120)),st (.mupd 3 (.t 119) (.t 121) (.c (.bool true)))]))))
 (.reg [o 122 (.bin .add (.t 85) (.c (.int .i64 1))),o 85 (.mv (.t 122))])))))))
 (.seq (.reg [o 2 (.mv (.c (.bool true)))])
 .ret)))) .skip))))))))))))))
 (.seq (.reg [o 2 (.mv (.c (.bool false)))])
 .ret))),
 [.tmp 2]⟩
def F156 : Fun := ⟨23,
 .seq (.reg [o 1 (.box 5 (.t 0)),o 2 (.mv (.c (.bool false)))])
 (.seq (.seq (.reg [o 5 (.faddr 0 (.t 1)),o 6 (.load none (.t 5)),o 7 (.bin .eql (.t 6) (.c (.int .i64 4)))])
 (.cond (.t 7) (.seq (.seq (.reg [o 8 (.faddr 4 (.t 1)),o 9 (.load none (.t 8)),o 10 (.lenL (.t 9)),o 11 (.mv (.c (.int .i64 0)))])
 (.block 0 (.loop (.seq (.reg [o 12 (.bin .lss (.t 11) (.t 10))])
 (.seq (.cond (.t 12) .skip (.exit 0))
 (.seq (.block 1 (.seq (.reg [o 13 (.iaddr 8 (.t 9) (.t 11)),o 14 (.load (some 8) (.t 13)),o 4 (.new 8 [.bool false,.int .i64 0,.str [],.int .i64 0,.int .i64 0,.str [],.int .i64 0,.nsl]),st (.store 8 (.t 4) (.t 14))])
 (.seq (.reg [o 15 (.faddr 3 (.t 4)),o 16 (.load (some 5) (.t 15)),o 17 (.call 156 [.t 16]),o 18 (.un .not (.t 17))])
 (.cond (.t 18) (.seq (.reg [o 2 (.mv (.c (.bool false)))])
 .ret) .skip))))
 (.reg [o 19 (.bin .add (.t 11) (.c (.int .i64 1))),o 11 (.mv (.t 19))])))))))
 (.seq (.reg [o 2 (.mv (.c (.bool true)))])
 .ret)) .skip))
 (.seq (.reg [o 20 (.faddr 0 (.t 1)),o 21 (.load none (.t 20)),o 22 (.call 66 [.t 21,.c (.int .i64 0),.c (.int .i64 3)]),o 2 (.mv (.t 22))])
 .ret)),
 [.tmp 2]⟩
def F157 : Fun := ⟨78,
 .seq (.reg [o 3 (.box 5 (.t 1)),o 4 (.mv (.c .nsl))])
 (.seq (.seq (.reg [o 7 (.faddr 0 (.t 3)),o 8 (.load none (.t 7))])
 (.block 0 (.seq (.reg [o 10 (.bin .eql (.t 8) (.c (.int .i64 0))),o 9 (.mv (.t 10))])
 (.cond (.t 9) (.seq (.reg [o 11 (.mv (.t 0)),o 12 (.append 1 1 (.t 11) (.c (.str [78,59]))),o 4 (.mv (.t 12))])
 .ret) (.seq (.reg [o 14 (.bin .eql (.t 8) (.c (.int .i64 1))),o 13 (.mv (.t 14))])
 (.cond (.t 13) (.seq (.reg [o 15 (.mv (.t 0)),o 16 (.faddr 1 (.t 3)),o 17 (.load none (.t 16)),o 18 (.call 192 [.t 17]),o 19 (.bin .add (.c (.str [98,58])) (.t 18)),o 20 (.bin .add (.t 19) (.c (.str [59]))),o 21 (.append 1 1 (.t 15) (.t 20)),o 4 (.mv (.t 21))])
 .ret) (.seq (.reg [o 23 (.bin .eql (.t 8) (.c (.int .i64 2))),o 22 (.mv (.t 23))])
 (.cond (.t 22) (.seq (.reg [o 24 (.mv (.t 0)),o 25 (.faddr 1 (.t 3)),o 26 (.load none (.t 25)),o 27 (.call 192 [.t 26]),o 28 (.bin .add (.c (.str [105,58])) (.t 27)),o 29 (.bin .add (.t 28) (.c (.str [59]))),o 30 (.append 1 1 (.t 24) (.t 29)),o 4 (.mv (.t 30))])
 .ret) (.seq (.reg [o 32 (.bin .eql (.t 8) (.c (.int .i64 3))),o 31 (.mv (.t 32))])
 (.cond (.t 31) (.seq (.reg [o 33 (.mv (.t 0)),o 34 (.faddr 2 (.t 3)),o 35 (.load none (.t 34)),o 36 (.lenS (.t 35)),o 37 (.callF 192 [.t 36]),o 38 (.bin .add (.c (.str [115,58])) (.t 37)),o 39 (.bin .add (.t 38) (.c (.str [58]))),o 40 (.faddr 2 (.t 3)),o 41 (.load none (.t 40)),o 42 (.bin .add (.t 39) (.t 41)),o 43 (.bin .add (.t 42) (.c (.str [59]))),o 44 (.append 1 1 (.t 33) (.t 43)),o 4 (.mv (.t 44))])
 .ret) .skip))))))))))
 (.seq (.reg [o 45 (.mv (.t 0)),o 46 (.faddr 4 (.t 3)),o 47 (.load none (.t 46)),o 48 (.lenL (.t 47)),o 49 (.callF 192 [.t 48]),o 50 (.bin .add (.c (.str [97,58])) (.t 49)),o 51 (.bin .add (.t 50) (.c (.str [58]))),o 52 (.faddr 3 (.t 3)),o 53 (.load none (.t 52)),o 54 (.callF 192 [.t 53]),o 55 (.bin .add (.t 51) (.t 54)),o 56 (.bin .add (.t 55) (.c (.str [123]))),o 57 (.append 1 1 (.t 45) (.t 56)),o 0 (.mv (.t 57))])
 (.seq (.seq (.reg [o 58 (.faddr 4 (.t 3)),o 59 (.load none (.t 58)),o 60 (.lenL (.t 59)),o 61 (.mv (.c (.int .i64 0)))])
 (.block 1 (.loop (.seq (.reg [o 62 (.bin .lss (.t 61) (.t 60))])
 (.seq (.cond (.t 62) .skip (.exit 1))
 (.seq (.block 2 (.seq (.reg [o 63 (.iaddr 8 (.t 59) (.t 61)),o 64 (.load (some 8) (.t 63)),o 6 (.new 8 [.bool false,.int .i64 0,.str [],.int .i64 0,.int .i64 0,.str [],.int .i64 0,.nsl]),st (.store 8 (.t 6) (.t 64))])
 (.seq (.reg [o 65 (.mv (.t 0)),o 66 (.faddr 0 (.t 6)),o 67 (.load (some 3) (.t 66)),o 68 (.call 193 [.t 67]),o 69 (.call 157 [.t 65,.t 68]),o 0 (.mv (.t 69))])
 (.reg [o 70 (.mv (.t 0)),o 71 (.faddr 3 (.t 6)),o 72 (.load (some 5) (.t 71)),o 73 (.call 157 [.t 70,.t 72]),o 0 (.mv (.t 73))]))))
 (.reg [o 74 (.bin .add (.t 61) (.c (.int .i64 1))),o 61 (.mv (.t 74))])))))))
 (.seq (.reg [o 75 (.mv (.t 0)),o 76 (.bslice 1 [.int .u8 0] 1 [(0,(.c (.int .u8 125)))]),o 77 (.append 1 1 (.t 75) (.t 76)),o 4 (.mv (.t 77))])
 .ret)))),
 [.tmp 4]⟩
def F182 : Fun := ⟨68,
 .seq (.reg [o 3 (.box 5 (.t 0)),o 6 (.mv (.c (.bool false)))])
 (.seq (.seq (.reg [o 7 (.faddr 0 (.t 3)),o 8 (.load none (.t 7)),o 9 (.call 213 [.t 8]),o 10 (.un .not (.t 9)),o 11 (.mv (.t 10)),og 12 (.load (some 5) (.t 3)) 11 false,og 13 (.mv (.t 1)) 11 false,og 14 (.mv (.t 2)) 11 false,og 15 (.call 214 [.t 12,.t 13,.t 14]) 11 false,og 16 (.un .not (.t 15)) 11 false,o 17 (.pick (.t 11) (.c (.bool true)) (.t 16)),o 18 (.mv (.t 17)),og 19 (.load (some 5) (.t 3)) 18 false,og 20 (.mv (.t 1)) 18 false,og 21 (.call 215 [.t 19,.t 20]) 18 false,og 22 (.un .not (.t 21)) 18 false,o 23 (.pick (.t 18) (.c (.bool true)) (.t 22))])
 (.cond (.t 23) (.seq (.reg [o 6 (.mv (.c (.bool false)))])
 .ret) .skip))
 (.seq (.seq (.reg [o 24 (.faddr 0 (.t 3)),o 25 (.load none (.t 24))])
 (.block 0 (.seq (.seq (.reg [o 30 (.bin .eql (.t 25) (.c (.int .i64 31))),o 29 (.mv (.t 30))])
 (.cond (.t 29) .skip (.seq (.reg [o 31 (.bin .eql (.t 25) (.c (.int .i64 55))),o 29 (.mv (.t 31))])
 (.cond (.t 29) .skip (.seq (.reg [o 32 (.bin .eql (.t 25) (.c (.int .i64 56))),o 29 (.mv (.t 32))])
 (.cond (.t 29) .skip (.seq (.reg [o 33 (.bin .eql (.t 25) (.c (.int .i64 35))),o 29 (.mv (.t 33))])
 (.cond (.t 29) .skip (.reg [o 34 (.bin .eql (.t 25) (.c (.int .i64 36))),o 29 (.mv (.t 34))])))))))))
 (.cond (.t 29) .skip (.seq (.reg [o 36 (.bin .eql (.t 25) (.c (.int .i64 3))),o 35 (.mv (.t 36))])
 (.cond (.t 35) (.seq (.reg [o 37 (.faddr 3 (.t 3)),o 38 (.load none (.t 37)),o 39 (.lenS (.t 38)),o 40 (.bin .gtr (.t 39) (.c (.int .i64 400)))])
 (.cond (.t 40) (.seq (.reg [o 6 (.mv (.c (.bool false)))])
 .ret) .skip)) (.seq (.seq (.reg [o 42 (.bin .eql (.t 25) (.c (.int .i64 7))),o 41 (.mv (.t 42))])
 (.cond (.t 41) .skip (.seq (.reg [o 43 (.bin .eql (.t 25) (.c (.int .i64 8))),o 41 (.mv (.t 43))])
 (.cond (.t 41) .skip (.seq (.reg [o 44 (.bin .eql (.t 25) (.c (.int .i64 17))),o 41 (.mv (.t 44))])
 (.cond (.t 41) .skip (.seq (.reg [o 45 (.bin .eql (.t 25) (.c (.int .i64 19))),o 41 (.mv (.t 45))])
 (.cond (.t 41) .skip (.seq (.reg [o 46 (.bin .eql (.t 25) (.c (.int .i64 20))),o 41 (.mv (.t 46))])
 (.cond (.t 41) .skip (.seq (.reg [o 47 (.bin .eql (.t 25) (.c (.int .i64 22))),o 41 (.mv (.t 47))])
 (.cond (.t 41) .skip (.seq (.reg [o 48 (.bin .eql (.t 25) (.c (.int .i64 23))),o 41 (.mv (.t 48))])
 (.cond (.t 41) .skip (.seq (.reg [o 49 (.bin .eql (.t 25) (.c (.int .i64 25))),o 41 (.mv (.t 49))])
 (.cond (.t 41) .skip (.seq (.reg [o 50 (.bin .eql (.t 25) (.c (.int .i64 26))),o 41 (.mv (.t 50))])
 (.cond (.t 41) .skip (.seq (.reg [o 51 (.bin .eql (.t 25) (.c (.int .i64 32))),o 41 (.mv (.t 51))])
 (.cond (.t 41) .skip (.seq (.reg [o 52 (.bin .eql (.t 25) (.c (.int .i64 34))),o 41 (.mv (.t 52))])
 (.cond (.t 41) .skip (.seq (.reg [o 53 (.bin .eql (.t 25) (.c (.int .i64 39))),o 41 (.mv (.t 53))])
 (.cond (.t 41) .skip (.reg [o 54 (.bin .eql (.t 25) (.c (.int .i64 44))),o 41 (.mv (.t 54))])))))))))))))))))))))))))
 (.cond (.t 41) (.seq (.reg [o 55 (.faddr 3 (.t 3)),o 56 (.load none (.t 55)),o 57 (.call 107 [.t 56]),o 58 (.un .not (.t 57))])
 (.cond (.t 58) (.seq (.reg [o 6 (.mv (.c (.bool false)))])
 .ret) .skip)) (.seq (.reg [o 26 (.faddr 3 (.t 3)),o 27 (.load none (.t 26)),o 28 (.bin .neq (.t 27) (.c (.str [])))])
 (.cond (.t 28) (.seq (.reg [o 6 (.mv (.c (.bool false)))])
 .ret) .skip))))))))))
 (.seq (.seq (.reg [o 59 (.faddr 0 (.t 3)),o 60 (.load none (.t 59)),o 61 (.bin .eql (.t 60) (.c (.int .i64 25)))])
 (.cond (.t 61) (.seq (.reg [o 62 (.faddr 4 (.t 3)),o 63 (.load none (.t 62)),o 64 (.call 107 [.t 63]),o 6 (.mv (.t 64))])
 .ret) .skip))
 (.seq (.reg [o 65 (.faddr 4 (.t 3)),o 66 (.load none (.t 65)),o 67 (.bin .eql (.t 66) (.c (.str []))),o 6 (.mv (.t 67))])
 .ret)))),
 [.tmp 6]⟩
def F183 : Fun := ⟨44,
 .seq (.reg [o 6 (.mv (.c (.bool false)))])
 (.seq (.seq (.reg [o 7 (.mv (.t 0)),o 8 (.load none (.t 2)),o 9 (.lenL (.t 8)),o 10 (.bin .geq (.t 7) (.t 9)),o 11 (.mv (.t 10)),og 12 (.mv (.t 1)) 11 false,og 13 (.call 66 [.t 12,.c (.int .i64 0),.c (.int .i64 500)]) 11 false,og 14 (.un .not (.t 13)) 11 false,o 15 (.pick (.t 11) (.c (.bool true)) (.t 14)),o 16 (.mv (.t 15)),og 17 (.load none (.t 2)) 16 false,og 18 (.mv (.t 0)) 16 false,og 19 (.iaddr 1 (.t 17) (.t 18)) 16 false,og 20 (.load none (.t 19)) 16 false,og 21 (.bin .geq (.t 20) (.c (.int .i64 0))) 16 false,og 22 (.mv (.t 21)) 16 false,og 23 (.load none (.t 2)) 22 true,og 24 (.mv (.t 0)) 22 true,og 25 (.iaddr 1 (.t 23) (.t 24)) 22 true,og 26 (.load none (.t 25)) 22 true,og 27 (.mv (.t 1)) 22 true,og 28 (.bin .neq (.t 26) (.t 27)) 22 true,og 29 (.pick (.t 22) (.t 28) (.c (.bool false))) 16 false,o 30 (.pick (.t 16) (.c (.bool true)) (.t 29))])
 (.cond (.t 30) (.seq (.reg [o 6 (.mv (.c (.bool false)))])
 .ret) .skip))
 (.seq (.seq (.reg [o 31 (.load none (.t 2)),o 32 (.mv (.t 0)),o 33 (.iaddr 1 (.t 31) (.t 32)),o 34 (.load none (.t 33)),o 35 (.bin .lss (.t 34) (.c (.int .i64 0)))])
 (.cond (.t 35) (.seq (.reg [o 36 (.load none (.t 2)),o 37 (.mv (.t 0)),o 38 (.mv (.t 1)),o 39 (.iaddr 1 (.t 36) (.t 37)),st (.store 1 (.t 39) (.t 38))])
 (.reg [o 40 (.load none (.t 3)),o 41 (.mv (.t 0)),o 42 (.bslice 1 [.int .i64 0] 1 [(0,(.t 41))]),o 43 (.append 1 8 (.t 40) (.t 42)),st (.store 1 (.t 3) (.t 43))])) .skip))
 (.seq (.reg [o 6 (.mv (.c (.bool true)))])
 .ret))),
 [.tmp 6]⟩
def F184 : Fun := ⟨57,
 .seq (.reg [o 1 (.box 5 (.t 0)),o 2 (.mv (.c (.int .i64 0)))])
 (.seq (.seq (.reg [o 3 (.faddr 0 (.t 1)),o 4 (.load none (.t 3))])
 (.block 0 (.seq (.seq (.reg [o 6 (.bin .eql (.t 4) (.c (.int .i64 6))),o 5 (.mv (.t 6))])
 (.cond (.t 5) .skip (.seq (.reg [o 7 (.bin .eql (.t 4) (.c (.int .i64 8))),o 5 (.mv (.t 7))])
 (.cond (.t 5) .skip (.seq (.reg [o 8 (.bin .eql (.t 4) (.c (.int .i64 10))),o 5 (.mv (.t 8))])
 (.cond (.t 5) .skip (.seq (.reg [o 9 (.bin .eql (.t 4) (.c (.int .i64 11))),o 5 (.mv (.t 9))])
 (.cond (.t 5) .skip (.seq (.reg [o 10 (.bin .eql (.t 4) (.c (.int .i64 13))),o 5 (.mv (.t 10))])
 (.cond (.t 5) .skip (.seq (.reg [o 11 (.bin .eql (.t 4) (.c (.int .i64 17))),o 5 (.mv (.t 11))])
 (.cond (.t 5) .skip (.seq (.reg [o 12 (.bin .eql (.t 4) (.c (.int .i64 28))),o 5 (.mv (.t 12))])
 (.cond (.t 5) .skip (.seq (.reg [o 13 (.bin .eql (.t 4) (.c (.int .i64 29))),o 5 (.mv (.t 13))])
 (.cond (.t 5) .skip (.seq (.reg [o 14 (.bin .eql (.t 4) (.c (.int .i64 30))),o 5 (.mv (.t 14))])
 (.cond (.t 5) .skip (.seq (.reg [o 15 (.bin .eql (.t 4) (.c (.int .i64 33))),o 5 (.mv (.t 15))])
 (.cond (.t 5) .skip (.seq (.reg [o 16 (.bin .eql (.t 4) (.c (.int .i64 34))),o 5 (.mv (.t 16))])
 (.cond (.t 5) .skip (.seq (.reg [o 17 (.bin .eql (.t 4) (.c (.int .i64 37))),o 5 (.mv (.t 17))])
 (.cond (.t 5) .skip (.seq (.reg [o 18 (.bin .eql (.t 4) (.c (.int .i64 42))),o 5 (.mv (.t 18))])
 (.cond (.t 5) .skip (.seq (.reg [o 19 (.bin .eql (.t 4) (.c (.int .i64 43))),o 5 (.mv (.t 19))])
 (.cond (.t 5) .skip (.seq (.reg [o 20 (.bin .eql (.t 4) (.c (.int .i64 50))),o 5 (.mv (.t 20))])
 (.cond (.t 5) .skip (.reg [o 21 (.bin .eql (.t 4) (.c (.int .i64 54))),o 5 (.mv (.t 21))])))))))))))))))))))))))))))))))
 (.cond (.t 5) (.seq (.reg [o 2 (.mv (.c (.int .i64 1)))])
 .ret) (.seq (.seq (.reg [o 23 (.bin .eql (.t 4) (.c (.int .i64 12))),o 22 (.mv (.t 23))])
 (.cond (.t 22) .skip (.seq (.reg [o 24 (.bin .eql (.t 4) (.c (.int .i64 16))),o 22 (.mv (.t 24))])
 (.cond (.t 22) .skip (.seq (.reg [o 25 (.bin .eql (.t 4) (.c (.int .i64 41))),o 22 (.mv (.t 25))])
 (.cond (.t 22) .skip (.seq (.reg [o 26 (.bin .eql (.t 4) (.c (.int .i64 51))),o 22 (.mv (.t 26))])
 (.cond (.t 22) .skip (.seq (.reg [o 27 (.bin .eql (.t 4) (.c (.int .i64 52))),o 22 (.mv (.t 27))])
 (.cond (.t 22) .skip (.reg [o 28 (.bin .eql (.t 4) (.c (.int .i64 53))),o 22 (.mv (.t 28))])))))))))))
 (.cond (.t 22) (.seq (.reg [o 2 (.mv (.c (.int .i64 2)))])
 .ret) (.seq (.reg [o 30 (.bin .eql (.t 4) (.c (.int .i64 15))),o 29 (.mv (.t 30))])
 (.cond (.t 29) (.seq (.reg [o 31 (.faddr 2 (.t 1)),o 32 (.load none (.t 31)),o 33 (.bin .add (.c (.int .i64 2)) (.t 32)),o 2 (.mv (.t 33))])
 .ret) (.seq (.seq (.reg [o 35 (.bin .eql (.t 4) (.c (.int .i64 18))),o 34 (.mv (.t 35))])
 (.cond (.t 34) .skip (.reg [o 36 (.bin .eql (.t 4) (.c (.int .i64 19))),o 34 (.mv (.t 36))])))
 (.cond (.t 34) (.seq (.reg [o 37 (.faddr 2 (.t 1)),o 38 (.load none (.t 37)),o 39 (.bin .quo (.t 38) (.c (.int .i64 2))),o 40 (.bin .add (.t 39) (.c (.int .i64 1))),o 2 (.mv (.t 40))])
 .ret) (.seq (.reg [o 42 (.bin .eql (.t 4) (.c (.int .i64 20))),o 41 (.mv (.t 42))])
 (.cond (.t 41) (.seq (.reg [o 43 (.faddr 2 (.t 1)),o 44 (.load none (.t 43)),o 45 (.bin .quo (.t 44) (.c (.int .i64 2))),o 46 (.bin .add (.t 45) (.c (.int .i64 2))),o 2 (.mv (.t 46))])
 .ret) (.seq (.seq (.reg [o 48 (.bin .eql (.t 4) (.c (.int .i64 21))),o 47 (.mv (.t 48))])
 (.cond (.t 47) .skip (.reg [o 49 (.bin .eql (.t 4) (.c (.int .i64 22))),o 47 (.mv (.t 49))])))
 (.cond (.t 47) (.seq (.reg [o 50 (.faddr 2 (.t 1)),o 51 (.load none (.t 50)),o 2 (.mv (.t 51))])
 .ret) (.seq (.reg [o 53 (.bin .eql (.t 4) (.c (.int .i64 23))),o 52 (.mv (.t 53))])
 (.cond (.t 52) (.seq (.reg [o 54 (.faddr 2 (.t 1)),o 55 (.load none (.t 54)),o 56 (.bin .add (.t 55) (.c (.int .i64 1))),o 2 (.mv (.t 56))])
 .ret) .skip))))))))))))))))
 (.seq (.reg [o 2 (.mv (.c (.int .i64 0)))])
 .ret)),
 [.tmp 2]⟩
def F185 : Fun := ⟨17,
 .seq (.reg [o 2 (.mv (.c (.bool false)))])
 (.seq (.reg [o 3 (.mv (.t 0)),o 4 (.bin .eql (.t 3) (.c (.int .i64 27))),o 5 (.mv (.t 4)),og 6 (.mv (.t 0)) 5 false,og 7 (.bin .eql (.t 6) (.c (.int .i64 42))) 5 false,o 8 (.pick (.t 5) (.c (.bool true)) (.t 7)),o 9 (.mv (.t 8)),og 10 (.mv (.t 0)) 9 false,og 11 (.bin .eql (.t 10) (.c (.int .i64 43))) 9 false,o 12 (.pick (.t 9) (.c (.bool true)) (.t 11)),o 13 (.mv (.t 12)),og 14 (.mv (.t 0)) 13 false,og 15 (.bin .eql (.t 14) (.c (.int .i64 49))) 13 false,o 16 (.pick (.t 13) (.c (.bool true)) (.t 15)),o 2 (.mv (.t 16))])
 .ret),
 [.tmp 2]⟩
def F186 : Fun := ⟨69,
 .seq (.reg [o 1 (.box 5 (.t 0)),o 2 (.mv (.c (.int .i64 0)))])
 (.seq (.seq (.reg [o 3 (.faddr 0 (.t 1)),o 4 (.load none (.t 3))])
 (.block 0 (.seq (.seq (.reg [o 6 (.bin .eql (.t 4) (.c (.int .i64 2))),o 5 (.mv (.t 6))])
 (.cond (.t 5) .skip (.seq (.reg [o 7 (.bin .eql (.t 4) (.c (.int .i64 3))),o 5 (.mv (.t 7))])
 (.cond (.t 5) .skip (.seq (.reg [o 8 (.bin .eql (.t 4) (.c (.int .i64 4))),o 5 (.mv (.t 8))])
 (.cond (.t 5) .skip (.seq (.reg [o 9 (.bin .eql (.t 4) (.c (.int .i64 5))),o 5 (.mv (.t 9))])
 (.cond (.t 5) .skip (.seq (.reg [o 10 (.bin .eql (.t 4) (.c (.int .i64 7))),o 5 (.mv (.t 10))])
 (.cond (.t 5) .skip (.seq (.reg [o 11 (.bin .eql (.t 4) (.c (.int .i64 9))),o 5 (.mv (.t 11))])
 (.cond (.t 5) .skip (.seq (.reg [o 12 (.bin .eql (.t 4) (.c (.int .i64 14))),o 5 (.mv (.t 12))])
 (.cond (.t 5) .skip (.seq (.reg [o 13 (.bin .eql (.t 4) (.c (.int .i64 24))),o 5 (.mv (.t 13))])
 (.cond (.t 5) .skip (.seq (.reg [o 14 (.bin .eql (.t 4) (.c (.int .i64 25))),o 5 (.mv (.t 14))])
 (.cond (.t 5) .skip (.seq (.reg [o 15 (.bin .eql (.t 4) (.c (.int .i64 40))),o 5 (.mv (.t 15))])
 (.cond (.t 5) .skip (.seq (.reg [o 16 (.bin .eql (.t 4) (.c (.int .i64 50))),o 5 (.mv (.t 16))])
 (.cond (.t 5) .skip (.reg [o 17 (.bin .eql (.t 4) (.c (.int .i64 56))),o 5 (.mv (.t 17))])))))))))))))))))))))))
 (.cond (.t 5) (.seq (.reg [o 2 (.mv (.c (.int .i64 1)))])
 .ret) (.seq (.seq (.reg [o 19 (.bin .eql (.t 4) (.c (.int .i64 10))),o 18 (.mv (.t 19))])
 (.cond (.t 18) .skip (.seq (.reg [o 20 (.bin .eql (.t 4) (.c (.int .i64 12))),o 18 (.mv (.t 20))])
 (.cond (.t 18) .skip (.seq (.reg [o 21 (.bin .eql (.t 4) (.c (.int .i64 16))),o 18 (.mv (.t 21))])
 (.cond (.t 18) .skip (.seq (.reg [o 22 (.bin .eql (.t 4) (.c (.int .i64 28))),o 18 (.mv (.t 22))])
 (.cond (.t 18) .skip (.seq (.reg [o 23 (.bin .eql (.t 4) (.c (.int .i64 29))),o 18 (.mv (.t 23))])
 (.cond (.t 18) .skip (.seq (.reg [o 24 (.bin .eql (.t 4) (.c (.int .i64 30))),o 18 (.mv (.t 24))])
 (.cond (.t 18) .skip (.seq (.reg [o 25 (.bin .eql (.t 4) (.c (.int .i64 33))),o 18 (.mv (.t 25))])
 (.cond (.t 18) .skip (.seq (.reg [o 26 (.bin .eql (.t 4) (.c (.int .i64 34))),o 18 (.mv (.t 26))])
 (.cond (.t 18) .skip (.seq (.reg [o 27 (.bin .eql (.t 4) (.c (.int .i64 37))),o 18 (.mv (.t 27))])
 (.cond (.t 18) .skip (.seq (.reg [o 28 (.bin .eql (.t 4) (.c (.int .i64 41))),o 18 (.mv (.t 28))])
 (.cond (.t 18) .skip (.seq (.reg [o 29 (.bin .eql (.t 4) (.c (.int .i64 42))),o 18 (.mv (.t 29))])
 (.cond (.t 18) .skip (.reg [o 30 (.bin .eql (.t 4) (.c (.int .i64 43))),o 18 (.mv (.t 30))])))))))))))))))))))))))
 (.cond (.t 18) (.seq (.reg [o 2 (.mv (.c (.int .i64 (-1))))])
 .ret) (.seq (.reg [o 32 (.bin .eql (.t 4) (.c (.int .i64 15))),o 31 (.mv (.t 32))])
 (.cond (.t 31) (.seq (.reg [o 33 (.faddr 2 (.t 1)),o 34 (.load none (.t 33)),o 35 (.bin .sub (.c (.int .i64 (-1))) (.t 34)),o 2 (.mv (.t 35))])
 .ret) (.seq (.seq (.reg [o 37 (.bin .eql (.t 4) (.c (.int .i64 18))),o 36 (.mv (.t 37))])
 (.cond (.t 36) .skip (.reg [o 38 (.bin .eql (.t 4) (.c (.int .i64 19))),o 36 (.mv (.t 38))])))
 (.cond (.t 36) (.seq (.reg [o 39 (.faddr 2 (.t 1)),o 40 (.load none (.t 39)),o 41 (.bin .quo (.t 40) (.c (.int .i64 2))),o 42 (.un .neg (.t 41)),o 2 (.mv (.t 42))])
 .ret) (.seq (.reg [o 44 (.bin .eql (.t 4) (.c (.int .i64 20))),o 43 (.mv (.t 44))])
 (.cond (.t 43) (.seq (.reg [o 45 (.faddr 2 (.t 1)),o 46 (.load none (.t 45)),o 47 (.bin .quo (.t 46) (.c (.int .i64 2))),o 48 (.un .neg (.t 47)),o 49 (.bin .sub (.t 48) (.c (.int .i64 1))),o 2 (.mv (.t 49))])
 .ret) (.seq (.seq (.reg [o 51 (.bin .eql (.t 4) (.c (.int .i64 21))),o 50 (.mv (.t 51))])
 (.cond (.t 50) .skip (.reg [o 52 (.bin .eql (.t 4) (.c (.int .i64 22))),o 50 (.mv (.t 52))])))
 (.cond (.t 50) (.seq (.reg [o 53 (.faddr 2 (.t 1)),o 54 (.load none (.t 53)),o 55 (.un .neg (.t 54)),o 2 (.mv (.t 55))])
 .ret) (.seq (.reg [o 57 (.bin .eql (.t 4) (.c (.int .i64 23))),o 56 (.mv (.t 57))])
 (.cond (.t 56) (.seq (.reg [o 58 (.faddr 2 (.t 1)),o 59 (.load none (.t 58)),o 60 (.un .neg (.t 59)),o 61 (.bin .sub (.t 60) (.c (.int .i64 1))),o 2 (.mv (.t 61))])
 .ret) (.seq (.reg [o 63 (.bin .eql (.t 4) (.c (.int .i64 52))),o 62 (.mv (.t 63))])
 (.cond (.t 62) (.seq (.reg [o 64 (.faddr 2 (.t 1)),o 65 (.load none (.t 64)),o 66 (.bin .add (.c (.int .i64 1)) (.t 65)),o 2 (.mv (.t 66))])
 .ret) (.seq (.reg [o 68 (.bin .eql (.t 4) (.c (.int .i64 53))),o 67 (.mv (.t 68))])
 (.cond (.t 67) (.seq (.reg [o 2 (.mv (.c (.int .i64 (-2))))])
 .ret) .skip))))))))))))))))))))
 (.seq (.reg [o 2 (.mv (.c (.int .i64 0)))])
 .ret)),
 [.tmp 2]⟩
def F187 : Fun := ⟨12,
 .seq (.reg [o 2 (.mv (.c (.bool false)))])
 (.seq (.seq (.reg [o 3 (.mv (.t 0))])
 (.block 0 (.seq (.seq (.reg [o 5 (.bin .eql (.t 3) (.c (.int .i64 27))),o 4 (.mv (.t 5))])
 (.cond (.t 4) .skip (.seq (.reg [o 6 (.bin .eql (.t 3) (.c (.int .i64 28))),o 4 (.mv (.t 6))])
 (.cond (.t 4) .skip (.seq (.reg [o 7 (.bin .eql (.t 3) (.c (.int .i64 29))),o 4 (.mv (.t 7))])
 (.cond (.t 4) .skip (.seq (.reg [o 8 (.bin .eql (.t 3) (.c (.int .i64 44))),o 4 (.mv (.t 8))])
 (.cond (.t 4) .skip (.seq (.reg [o 9 (.bin .eql (.t 3) (.c (.int .i64 45))),o 4 (.mv (.t 9))])
 (.cond (.t 4) .skip (.seq (.reg [o 10 (.bin .eql (.t 3) (.c (.int .i64 49))),o 4 (.mv (.t 10))])
 (.cond (.t 4) .skip (.reg [o 11 (.bin .eql (.t 3) (.c (.int .i64 52))),o 4 (.mv (.t 11))])))))))))))))
 (.cond (.t 4) (.seq (.reg [o 2 (.mv (.c (.bool true)))])
 .ret) .skip))))
 (.seq (.reg [o 2 (.mv (.c (.bool false)))])
 .ret)),
 [.tmp 2]⟩
def F188 : Fun := ⟨8,
 .seq (.reg [o 2 (.mv (.c (.int .i64 0)))])
 (.seq (.seq (.reg [o 3 (.mv (.t 0))])
 (.block 0 (.seq (.reg [o 5 (.bin .eql (.t 3) (.c (.int .i64 28))),o 4 (.mv (.t 5))])
 (.cond (.t 4) (.seq (.reg [o 2 (.mv (.c (.int .i64 (-1))))])
 .ret) (.seq (.reg [o 7 (.bin .eql (.t 3) (.c (.int .i64 44))),o 6 (.mv (.t 7))])
 (.cond (.t 6) (.seq (.reg [o 2 (.mv (.c (.int .i64 1)))])
 .ret) .skip))))))
 (.seq (.reg [o 2 (.mv (.c (.int .i64 0)))])
 .ret)),
 [.tmp 2]⟩
def F189 : Fun := ⟨33,
 .seq (.reg [o 2 (.mv (.c (.int .i64 0)))])
 (.seq (.reg [o 3 (.mv (.c (.int .i64 0)))])
 (.seq (.block 0 (.loop (.seq (.seq (.reg [o 4 (.mv (.t 3)),o 5 (.mv (.t 0)),o 6 (.lenS (.t 5)),o 7 (.bin .lss (.t 4) (.t 6)),o 8 (.mv (.t 7)),og 9 (.mv (.t 0)) 8 true,og 10 (.mv (.t 3)) 8 true,og 11 (.index (.t 9) (.t 10)) 8 true,og 12 (.call 216 [.t 11]) 8 true,og 13 (.mv (.t 12)) 8 true,og 14 (.mv (.t 0)) 13 false,og 15 (.mv (.t 3)) 13 false,og 16 (.index (.t 14) (.t 15)) 13 false,og 17 (.bin .eql (.t 16) (.c (.int .u8 95))) 13 false,og 18 (.pick (.t 13) (.c (.bool true)) (.t 17)) 8 true,og 19 (.mv (.t 18)) 8 true,og 20 (.mv (.t 3)) 19 false,og 21 (.bin .gtr (.t 20) (.c (.int .i64 0))) 19 false,og 22 (.mv (.t 21)) 19 false,og 23 (.mv (.t 0)) 22 true,og 24 (.mv (.t 3)) 22 true,og 25 (.index (.t 23) (.t 24)) 22 true,og 26 (.call 217 [.t 25]) 22 true,og 27 (.pick (.t 22) (.t 26) (.c (.bool false))) 19 false,og 28 (.pick (.t 19) (.c (.bool true)) (.t 27)) 8 true,o 29 (.pick (.t 8) (.t 28) (.c (.bool false)))])
 (.cond (.t 29) .skip (.exit 0)))
 (.block 1 (.reg [o 30 (.mv (.t 3)),o 31 (.bin .add (.t 30) (.c (.int .i64 1))),o 3 (.mv (.t 31))])))))
 (.seq (.reg [o 32 (.mv (.t 3)),o 2 (.mv (.t 32))])
 .ret))),
 [.tmp 2]⟩
def F190 : Fun := ⟨35,
 .seq (.reg [o 1 (.box 3 (.t 0)),o 2 (.mv (.c (.bool false)))])
 (.seq (.seq (.reg [o 5 (.faddr 0 (.t 1)),o 6 (.load none (.t 5)),o 7 (.un .not (.t 6))])
 (.cond (.t 7) (.seq (.reg [o 8 (.faddr 2 (.t 1)),o 9 (.load none (.t 8)),o 10 (.bin .eql (.t 9) (.c (.str []))),o 11 (.mv (.t 10)),og 12 (.faddr 1 (.t 1)) 11 true,og 13 (.load none (.t 12)) 11 true,og 14 (.call 66 [.t 13,(.c (.int .i64 (-1000000000))),.c (.int .i64 1000000000)]) 11 true,o 15 (.pick (.t 11) (.t 14) (.c (.bool false))),o 2 (.mv (.t 15))])
 .ret) .skip))
 (.seq (.reg [o 17 (.faddr 2 (.t 1)),o 18 (.load none (.t 17)),o 19 (.call 200 [.t 18]),o 16 (.mv (.t 19)),o 20 (.extract (.t 16) 0),o 21 (.extract (.t 16) 1),o 3 (.mv (.t 20)),o 4 (.mv (.t 21))])
 (.seq (.reg [o 22 (.faddr 1 (.t 1)),o 23 (.load none (.t 22)),o 24 (.bin .eql (.t 23) (.c (.int .i64 0))),o 25 (.mv (.t 24)),og 26 (.faddr 2 (.t 1)) 25 true,og 27 (.load none (.t 26)) 25 true,og 28 (.lenS (.t 27)) 25 true,og 29 (.bin .leq (.t 28) (.c (.int .i64 400))) 25 true,o 30 (.pick (.t 25) (.t 29) (.c (.bool false))),o 31 (.mv (.t 30)),og 32 (.mv (.t 4)) 31 true,og 33 (.un .not (.t 32)) 31 true,o 34 (.pick (.t 31) (.t 33) (.c (.bool false))),o 2 (.mv (.t 34))])
 .ret))),
 [.tmp 2]⟩
def F192 : Fun := ⟨5,
 .seq (.reg [o 2 (.mv (.c (.str [])))])
 (.seq (.reg [o 3 (.mv (.t 0)),o 4 (.call 218 [.t 3]),o 2 (.mv (.t 4))])
 .ret),
 [.tmp 2]⟩
def F200 : Fun := ⟨8,
 .seq (.reg [o 2 (.mv (.c (.int .i64 0))),o 3 (.mv (.c (.bool false)))])
 (.seq (.reg [o 4 (.mv (.t 0)),o 5 (.call 220 [.t 4,(.c (.int .i64 (-1000000000))),.c (.int .i64 1000000000)]),o 6 (.extract (.t 5) 0),o 7 (.extract (.t 5) 1),o 2 (.mv (.t 6)),o 3 (.mv (.t 7))])
 .ret),
 [.tmp 2,.tmp 3]⟩
def F213 : Fun := ⟨5,
 .seq (.reg [o 2 (.mv (.c (.bool false)))])
 (.seq (.reg [o 3 (.mv (.t 0)),o 4 (.call 66 [.t 3,.c (.int .i64 1),.c (.int .i64 56)]),o 2 (.mv (.t 4))])
 .ret),
 [.tmp 2]⟩
def F214 : Fun := ⟨62,
 .seq (.reg [o 3 (.box 5 (.t 0)),o 6 (.mv (.c (.bool false)))])
 (.seq (.block 0 (.seq (.reg [o 8 (.faddr 0 (.t 3)),o 9 (.load none (.t 8)),o 10 (.bin .eql (.t 9) (.c (.int .i64 2))),o 7 (.mv (.t 10))])
 (.cond (.t 7) (.seq (.reg [o 11 (.faddr 1 (.t 3)),o 12 (.load none (.t 11)),o 13 (.call 66 [.t 12,.c (.int .i64 0),.c (.int .i64 1000000000)]),o 6 (.mv (.t 13))])
 .ret) (.seq (.reg [o 15 (.faddr 0 (.t 3)),o 16 (.load none (.t 15)),o 17 (.bin .eql (.t 16) (.c (.int .i64 4))),o 18 (.mv (.t 17)),og 19 (.faddr 0 (.t 3)) 18 false,og 20 (.load none (.t 19)) 18 false,og 21 (.bin .eql (.t 20) (.c (.int .i64 11))) 18 false,o 22 (.pick (.t 18) (.c (.bool true)) (.t 21)),o 14 (.mv (.t 22))])
 (.cond (.t 14) (.seq (.reg [o 23 (.faddr 1 (.t 3)),o 24 (.load none (.t 23)),o 25 (.call 66 [.t 24,.c (.int .i64 0),.c (.int .i64 2)]),o 6 (.mv (.t 25))])
 .ret) (.seq (.reg [o 27 (.faddr 0 (.t 3)),o 28 (.load none (.t 27)),o 29 (.bin .eql (.t 28) (.c (.int .i64 12))),o 26 (.mv (.t 29))])
 (.cond (.t 26) (.seq (.reg [o 30 (.faddr 1 (.t 3)),o 31 (.load none (.t 30)),o 32 (.call 66 [.t 31,.c (.int .i64 1),.c (.int .i64 15)]),o 6 (.mv (.t 32))])
 .ret) (.seq (.reg [o 34 (.faddr 0 (.t 3)),o 35 (.load none (.t 34)),o 36 (.call 226 [.t 35]),o 33 (.mv (.t 36))])
 (.cond (.t 33) (.seq (.reg [o 37 (.faddr 1 (.t 3)),o 38 (.load none (.t 37)),o 39 (.bin .geq (.t 38) (.c (.int .i64 0))),o 40 (.mv (.t 39)),og 41 (.faddr 1 (.t 3)) 40 true,og 42 (.load none (.t 41)) 40 true,og 43 (.mv (.t 1)) 40 true,og 44 (.bin .lss (.t 42) (.t 43)) 40 true,o 45 (.pick (.t 40) (.t 44) (.c (.bool false))),o 6 (.mv (.t 45))])
 .ret) (.seq (.reg [o 47 (.faddr 0 (.t 3)),o 48 (.load none (.t 47)),o 49 (.call 187 [.t 48]),o 46 (.mv (.t 49))])
 (.cond (.t 46) (.seq (.reg [o 50 (.faddr 1 (.t 3)),o 51 (.load none (.t 50)),o 52 (.bin .geq (.t 51) (.c (.int .i64 0))),o 53 (.mv (.t 52)),og 54 (.faddr 1 (.t 3)) 53 true,og 55 (.load none (.t 54)) 53 true,og 56 (.mv (.t 2)) 53 true,og 57 (.bin .lss (.t 55) (.t 56)) 53 true,o 58 (.pick (.t 53) (.t 57) (.c (.bool false))),o 6 (.mv (.t 58))])
 .ret) .skip)))))))))))
 (.seq (.reg [o 59 (.faddr 1 (.t 3)),o 60 (.load none (.t 59)),o 61 (.bin .eql (.t 60) (.c (.int .i64 0))),o 6 (.mv (.t 61))])
 .ret)),
 [.tmp 6]⟩
def F215 : Fun := ⟨46,
 .seq (.reg [o 2 (.box 5 (.t 0)),o 4 (.mv (.c (.bool false)))])
 (.seq (.seq (.reg [o 5 (.faddr 0 (.t 2)),o 6 (.load none (.t 5))])
 (.block 0 (.seq (.seq (.reg [o 8 (.bin .eql (.t 6) (.c (.int .i64 15))),o 7 (.mv (.t 8))])
 (.cond (.t 7) .skip (.reg [o 9 (.bin .eql (.t 6) (.c (.int .i64 52))),o 7 (.mv (.t 9))])))
 (.cond (.t 7) (.seq (.reg [o 10 (.faddr 2 (.t 2)),o 11 (.load none (.t 10)),o 12 (.call 66 [.t 11,.c (.int .i64 0),.c (.int .i64 1)]),o 4 (.mv (.t 12))])
 .ret) (.seq (.seq (.reg [o 14 (.bin .eql (.t 6) (.c (.int .i64 18))),o 13 (.mv (.t 14))])
 (.cond (.t 13) .skip (.seq (.reg [o 15 (.bin .eql (.t 6) (.c (.int .i64 19))),o 13 (.mv (.t 15))])
 (.cond (.t 13) .skip (.reg [o 16 (.bin .eql (.t 6) (.c (.int .i64 20))),o 13 (.mv (.t 16))])))))
 (.cond (.t 13) (.seq (.reg [o 17 (.faddr 2 (.t 2)),o 18 (.load none (.t 17)),o 19 (.call 66 [.t 18,.c (.int .i64 0),.c (.int .i64 81)]),o 4 (.mv (.t 19))])
 .ret) (.seq (.seq (.reg [o 21 (.bin .eql (.t 6) (.c (.int .i64 21))),o 20 (.mv (.t 21))])
 (.cond (.t 20) .skip (.seq (.reg [o 22 (.bin .eql (.t 6) (.c (.int .i64 22))),o 20 (.mv (.t 22))])
 (.cond (.t 20) .skip (.reg [o 23 (.bin .eql (.t 6) (.c (.int .i64 23))),o 20 (.mv (.t 23))])))))
 (.cond (.t 20) (.seq (.reg [o 24 (.faddr 2 (.t 2)),o 25 (.load none (.t 24)),o 26 (.call 66 [.t 25,.c (.int .i64 0),.c (.int .i64 40)]),o 4 (.mv (.t 26))])
 .ret) (.seq (.reg [o 28 (.bin .eql (.t 6) (.c (.int .i64 24))),o 27 (.mv (.t 28))])
 (.cond (.t 27) (.seq (.reg [o 29 (.faddr 2 (.t 2)),o 30 (.load none (.t 29)),o 31 (.bin .geq (.t 30) (.c (.int .i64 0))),o 32 (.mv (.t 31)),og 33 (.faddr 2 (.t 2)) 32 true,og 34 (.load none (.t 33)) 32 true,og 35 (.mv (.t 1)) 32 true,og 36 (.bin .lss (.t 34) (.t 35)) 32 true,o 37 (.pick (.t 32) (.t 36) (.c (.bool false))),o 4 (.mv (.t 37))])
 .ret) (.seq (.reg [o 39 (.bin .eql (.t 6) (.c (.int .i64 49))),o 38 (.mv (.t 39))])
 (.cond (.t 38) (.seq (.reg [o 40 (.faddr 2 (.t 2)),o 41 (.load none (.t 40)),o 42 (.call 66 [.t 41,.c (.int .i64 0),.c (.int .i64 100)]),o 4 (.mv (.t 42))])
 .ret) .skip))))))))))))
 (.seq (.reg [o 43 (.faddr 2 (.t 2)),o 44 (.load none (.t 43)),o 45 (.bin .eql (.t 44) (.c (.int .i64 0))),o 4 (.mv (.t 45))])
 .ret)),
 [.tmp 4]⟩
def F216 : Fun := ⟨17,
 .seq (.reg [o 2 (.mv (.c (.bool false)))])
 (.seq (.reg [o 3 (.mv (.t 0)),o 4 (.bin .geq (.t 3) (.c (.int .u8 65))),o 5 (.mv (.t 4)),og 6 (.mv (.t 0)) 5 true,og 7 (.bin .leq (.t 6) (.c (.int .u8 90))) 5 true,o 8 (.pick (.t 5) (.t 7) (.c (.bool false))),o 9 (.mv (.t 8)),og 10 (.mv (.t 0)) 9 false,og 11 (.bin .geq (.t 10) (.c (.int .u8 97))) 9 false,og 12 (.mv (.t 11)) 9 false,og 13 (.mv (.t 0)) 12 true,og 14 (.bin .leq (.t 13) (.c (.int .u8 122))) 12 true,og 15 (.pick (.t 12) (.t 14) (.c (.bool false))) 9 false,o 16 (.pick (.t 9) (.c (.bool true)) (.t 15)),o 2 (.mv (.t 16))])
 .ret),
 [.tmp 2]⟩
def F217 : Fun := ⟨9,
 .seq (.reg [o 2 (.mv (.c (.bool false)))])
 (.seq (.reg [o 3 (.mv (.t 0)),o 4 (.bin .geq (.t 3) (.c (.int .u8 48))),o 5 (.mv (.t 4)),og 6 (.mv (.t 0)) 5 true,og 7 (.bin .leq (.t 6) (.c (.int .u8 57))) 5 true,o 8 (.pick (.t 5) (.t 7) (.c (.bool false))),o 2 (.mv (.t 8))])
 .ret),
 [.tmp 2]⟩
def F220 : Fun := ⟨37,
 .seq (.reg [o 6 (.mv (.c (.int .i64 0))),o 7 (.mv (.c (.bool false)))])
 (.seq (.seq (.reg [o 10 (.mv (.t 0)),o 11 (.lenS (.t 10)),o 12 (.bin .gtr (.t 11) (.c (.int .i64 20)))])
 (.cond (.t 12) (.seq (.reg [o 6 (.mv (.c (.int .i64 0))),o 7 (.mv (.c (.bool false)))])
 .ret) .skip))
 (.seq (.reg [o 14 (.mv (.t 0)),o 15 (.call 229 [.t 14]),o 13 (.mv (.t 15)),o 16 (.extract (.t 13) 0),o 17 (.extract (.t 13) 1),o 8 (.mv (.t 16)),o 9 (.mv (.t 17))])
 (.seq (.seq (.reg [o 18 (.mv (.t 9)),o 19 (.isni true (.t 18)),o 20 (.mv (.t 19)),og 21 (.mv (.t 8)) 20 false,og 22 (.call 218 [.t 21]) 20 false,og 23 (.mv (.t 0)) 20 false,og 24 (.bin .neq (.t 22) (.t 23)) 20 false,o 25 (.pick (.t 20) (.c (.bool true)) (.t 24)),o 26 (.mv (.t 25)),og 27 (.mv (.t 8)) 26 false,og 28 (.mv (.t 1)) 26 false,og 29 (.bin .lss (.t 27) (.t 28)) 26 false,o 30 (.pick (.t 26) (.c (.bool true)) (.t 29)),o 31 (.mv (.t 30)),og 32 (.mv (.t 8)) 31 false,og 33 (.mv (.t 2)) 31 false,og 34 (.bin .gtr (.t 32) (.t 33)) 31 false,o 35 (.pick (.t 31) (.c (.bool true)) (.t 34))])
 (.cond (.t 35) (.seq (.reg [o 6 (.mv (.c (.int .i64 0))),o 7 (.mv (.c (.bool false)))])
 .ret) .skip))
 (.seq (.reg [o 36 (.mv (.t 8)),o 6 (.mv (.t 36)),o 7 (.mv (.c (.bool true)))])
 .ret)))),
 [.tmp 6,.tmp 7]⟩
def F226 : Fun := ⟨12,
 .seq (.reg [o 2 (.mv (.c (.bool false)))])
 (.seq (.seq (.reg [o 3 (.mv (.t 0))])
 (.block 0 (.seq (.seq (.reg [o 5 (.bin .eql (.t 3) (.c (.int .i64 5))),o 4 (.mv (.t 5))])
 (.cond (.t 4) .skip (.seq (.reg [o 6 (.bin .eql (.t 3) (.c (.int .i64 6))),o 4 (.mv (.t 6))])
 (.cond (.t 4) .skip (.seq (.reg [o 7 (.bin .eql (.t 3) (.c (.int .i64 18))),o 4 (.mv (.t 7))])
 (.cond (.t 4) .skip (.seq (.reg [o 8 (.bin .eql (.t 3) (.c (.int .i64 21))),o 4 (.mv (.t 8))])
 (.cond (.t 4) .skip (.seq (.reg [o 9 (.bin .eql (.t 3) (.c (.int .i64 24))),o 4 (.mv (.t 9))])
 (.cond (.t 4) .skip (.seq (.reg [o 10 (.bin .eql (.t 3) (.c (.int .i64 26))),o 4 (.mv (.t 10))])
 (.cond (.t 4) .skip (.reg [o 11 (.bin .eql (.t 3) (.c (.int .i64 38))),o 4 (.mv (.t 11))])))))))))))))
 (.cond (.t 4) (.seq (.reg [o 2 (.mv (.c (.bool true)))])
 .ret) .skip))))
 (.seq (.reg [o 2 (.mv (.c (.bool false)))])
 .ret)),
 [.tmp 2]⟩
theorem c10 : compF Tryz.prog 10 = some F10 := by kernel_rfl
theorem c29 : compF Tryz.prog 29 = some F29 := by kernel_rfl
theorem c30 : compF Tryz.prog 30 = some F30 := by kernel_rfl
theorem c31 : compF Tryz.prog 31 = some F31 := by kernel_rfl
theorem c32 : compF Tryz.prog 32 = some F32 := by kernel_rfl
theorem c58 : compF Tryz.prog 58 = some F58 := by kernel_rfl
theorem c59 : compF Tryz.prog 59 = some F59 := by kernel_rfl
theorem c60 : compF Tryz.prog 60 = some F60 := by kernel_rfl
theorem c61 : compF Tryz.prog 61 = some F61 := by kernel_rfl
theorem c62 : compF Tryz.prog 62 = some F62 := by kernel_rfl
theorem c63 : compF Tryz.prog 63 = some F63 := by kernel_rfl
theorem c65 : compF Tryz.prog 65 = some F65 := by kernel_rfl
theorem c66 : compF Tryz.prog 66 = some F66 := by kernel_rfl
theorem c106 : compF Tryz.prog 106 = some F106 := by kernel_rfl
theorem c107 : compF Tryz.prog 107 = some F107 := by kernel_rfl
theorem c108 : compF Tryz.prog 108 = some F108 := by kernel_rfl
theorem c109 : compF Tryz.prog 109 = some F109 := by kernel_rfl
theorem c110 : compF Tryz.prog 110 = some F110 := by kernel_rfl
theorem c111 : compF Tryz.prog 111 = some F111 := by kernel_rfl
theorem c112 : compF Tryz.prog 112 = some F112 := by kernel_rfl
theorem c113 : compF Tryz.prog 113 = some F113 := by kernel_rfl
theorem c149 : compF Tryz.prog 149 = some F149 := by kernel_rfl
theorem c150 : compF Tryz.prog 150 = some F150 := by kernel_rfl
theorem c151 : compF Tryz.prog 151 = some F151 := by kernel_rfl
theorem c152 : compF Tryz.prog 152 = some F152 := by kernel_rfl
theorem c153 : compF Tryz.prog 153 = some F153 := by kernel_rfl
theorem c154 : compF Tryz.prog 154 = some F154 := by kernel_rfl
theorem c156 : compF Tryz.prog 156 = some F156 := by kernel_rfl
theorem c157 : compF Tryz.prog 157 = some F157 := by kernel_rfl
theorem c182 : compF Tryz.prog 182 = some F182 := by kernel_rfl
theorem c183 : compF Tryz.prog 183 = some F183 := by kernel_rfl
theorem c184 : compF Tryz.prog 184 = some F184 := by kernel_rfl
theorem c185 : compF Tryz.prog 185 = some F185 := by kernel_rfl
theorem c186 : compF Tryz.prog 186 = some F186 := by kernel_rfl
theorem c187 : compF Tryz.prog 187 = some F187 := by kernel_rfl
theorem c188 : compF Tryz.prog 188 = some F188 := by kernel_rfl
theorem c189 : compF Tryz.prog 189 = some F189 := by kernel_rfl
theorem c190 : compF Tryz.prog 190 = some F190 := by kernel_rfl
theorem c192 : compF Tryz.prog 192 = some F192 := by kernel_rfl
theorem c200 : compF Tryz.prog 200 = some F200 := by kernel_rfl
theorem c213 : compF Tryz.prog 213 = some F213 := by kernel_rfl
theorem c214 : compF Tryz.prog 214 = some F214 := by kernel_rfl
theorem c215 : compF Tryz.prog 215 = some F215 := by kernel_rfl
theorem c216 : compF Tryz.prog 216 = some F216 := by kernel_rfl
theorem c217 : compF Tryz.prog 217 = some F217 := by kernel_rfl
theorem c220 : compF Tryz.prog 220 = some F220 := by kernel_rfl
theorem c226 : compF Tryz.prog 226 = some F226 := by kernel_rfl
def grow {α : Type} (f : α → List AV) (z : List AV) (n : Nat) (ys : List α) : List (List AV) := ys.map f ++ List.replicate (n - ys.length) z
theorem grow_nil {α : Type} (f : α → List AV) (z : List AV) (n : Nat) : grow f z n [] = List.replicate n z := by simp [grow]
theorem grow_all {α : Type} (f : α → List AV) (z : List AV) {n : Nat} {ys : List α} (h : ys.length = n) : grow f z n ys = ys.map f := by simp [grow,h]
theorem grow_get {α : Type} (f : α → List AV) (z : List AV) {n i : Nat} {ys : List α} (hi : ys.length = i) (h : i < n) : (grow f z n ys)[i]? = some z := by
  unfold grow
  rw [List.getElem?_append_right (by simp; omega),List.length_map,hi,Nat.sub_self,List.getElem?_replicate,if_pos (by omega)]
theorem grow_set {α : Type} (f : α → List AV) (z : List AV) {n i : Nat} {ys : List α} (hi : ys.length = i) (h : i < n) (y : α) : (grow f z n ys).set i (f y) = grow f z n (ys ++ [y]) := by
  unfold grow
  have e : n - ys.length = (n - (i + 1)) + 1 := by omega
  rw [e,List.replicate_succ,List.set_append_right _ _ (by simp; omega),List.length_map,hi,Nat.sub_self,List.set_cons_zero]
  simp [hi]
theorem from_agg_mem {c : Nat} {l : List AV} (h : From c (.agg l)) : ∀ a,a ∈ l → From c a := fun a ha T hT => by
  have := h T hT
  cases this with
  | agg h => obtain ⟨j,hj,e⟩ := List.mem_iff_getElem.1 ha; exact h j a (by rw [← e]; exact List.getElem?_eq_getElem hj)
theorem take_len {α : Type} (l : List α) {w : Nat} (h : l.length = w) : l.take w = l := by rw [List.take_of_length_le (by omega)]
def toSF (w : Nat) (z : List AV) (bytes g : Nat) : Fun := ⟨23,
  .seq (.reg [o 2 (.mv (.c .nsl))])
  (.seq (.reg [o 5 (.mv (.t 0)),o 6 (.lenL (.t 5)),o 7 (.mkslice w z bytes (.t 6) (.t 6)),o 3 (.mv (.t 7))])
  (.seq (.seq (.reg [o 4 (.mv (.c (.int .i64 0)))])
  (.block 0 (.loop (.seq (.seq (.reg [o 8 (.mv (.t 4)),o 9 (.mv (.t 0)),o 10 (.lenL (.t 9)),o 11 (.bin .lss (.t 8) (.t 10))])
    (.cond (.t 11) (.skip) (.exit 0)))
    (.seq (.block 1 (.reg [o 14 (.mv (.t 3)),o 15 (.mv (.t 4)),o 16 (.mv (.t 0)),o 17 (.mv (.t 4)),o 18 (.iaddr w (.t 16) (.t 17)),o 19 (.load (some w) (.t 18)),o 20 (.call g [(.t 19)]),o 21 (.iaddr w (.t 14) (.t 15)),st (.store w (.t 21) (.t 20))]))
    (.reg [o 12 (.mv (.t 4)),o 13 (.bin .add (.t 12) (.c (.int .i64 1))),o 4 (.mv (.t 13))]))))))
  (.seq (.reg [o 22 (.mv (.t 3)),o 2 (.mv (.t 22))])
  (.ret)))),
  [.tmp 2]⟩
def toPF (z : AV) (bytes : Nat) : Fun := ⟨22,
  .seq (.reg [o 2 (.mv (.c .nsl))])
  (.seq (.reg [o 5 (.mv (.t 0)),o 6 (.lenL (.t 5)),o 7 (.mkslice 1 [z] bytes (.t 6) (.t 6)),o 3 (.mv (.t 7))])
  (.seq (.seq (.reg [o 4 (.mv (.c (.int .i64 0)))])
  (.block 0 (.loop (.seq (.seq (.reg [o 8 (.mv (.t 4)),o 9 (.mv (.t 0)),o 10 (.lenL (.t 9)),o 11 (.bin .lss (.t 8) (.t 10))])
    (.cond (.t 11) (.skip) (.exit 0)))
    (.seq (.block 1 (.reg [o 14 (.mv (.t 3)),o 15 (.mv (.t 4)),o 16 (.mv (.t 0)),o 17 (.mv (.t 4)),o 18 (.iaddr 1 (.t 16) (.t 17)),o 19 (.load none (.t 18)),o 20 (.iaddr 1 (.t 14) (.t 15)),st (.store 1 (.t 20) (.t 19))]))
    (.reg [o 12 (.mv (.t 4)),o 13 (.bin .add (.t 12) (.c (.int .i64 1))),o 4 (.mv (.t 13))]))))))
  (.seq (.reg [o 21 (.mv (.t 3)),o 2 (.mv (.t 21))])
  (.ret)))),
  [.tmp 2]⟩
def szSF (w g : Nat) : Fun := ⟨27,
  .seq (.reg [o 4 (.mv (.c (.int .i64 0)))])
  (.seq (.reg [o 6 (.mv (.t 1)),o 7 (.mv (.t 0)),o 8 (.lenL (.t 7)),o 9 (.bin .sub (.t 6) (.t 8)),o 1 (.mv (.t 9))])
  (.seq (.seq (.reg [o 10 (.mv (.t 1)),o 11 (.bin .lss (.t 10) (.c (.int .i64 0)))])
  (.cond (.t 11) (.seq (.reg [o 4 (.mv (.c (.int .i64 (-1))))])
   (.ret)) (.skip)))
  (.seq (.seq (.reg [o 5 (.mv (.c (.int .i64 0)))])
  (.block 0 (.loop (.seq (.seq (.reg [o 12 (.mv (.t 5)),o 13 (.mv (.t 0)),o 14 (.lenL (.t 13)),o 15 (.bin .lss (.t 12) (.t 14))])
    (.cond (.t 15) (.skip) (.exit 0)))
    (.seq (.block 1 (.seq (.reg [o 18 (.mv (.t 0)),o 19 (.mv (.t 5)),o 20 (.iaddr w (.t 18) (.t 19)),o 21 (.load (some w) (.t 20)),o 22 (.mv (.t 1)),o 23 (.call g [(.t 21),(.t 22)]),o 1 (.mv (.t 23))])
     (.seq (.reg [o 24 (.mv (.t 1)),o 25 (.bin .lss (.t 24) (.c (.int .i64 0)))])
     (.cond (.t 25) (.seq (.reg [o 4 (.mv (.c (.int .i64 (-1))))])
      (.ret)) (.skip)))))
    (.reg [o 16 (.mv (.t 5)),o 17 (.bin .add (.t 16) (.c (.int .i64 1))),o 5 (.mv (.t 17))]))))))
  (.seq (.reg [o 26 (.mv (.t 1)),o 4 (.mv (.t 26))])
  (.ret))))),
  [.tmp 4]⟩
def eqSF (w g : Nat) : Fun := ⟨27,
  .seq (.reg [o 4 (.mv (.c (.bool false)))])
  (.seq (.seq (.reg [o 6 (.mv (.t 0)),o 7 (.lenL (.t 6)),o 8 (.mv (.t 1)),o 9 (.lenL (.t 8)),o 10 (.bin .neq (.t 7) (.t 9))])
  (.cond (.t 10) (.seq (.reg [o 4 (.mv (.c (.bool false)))])
   (.ret)) (.skip)))
  (.seq (.seq (.reg [o 5 (.mv (.c (.int .i64 0)))])
  (.block 0 (.loop (.seq (.seq (.reg [o 11 (.mv (.t 5)),o 12 (.mv (.t 0)),o 13 (.lenL (.t 12)),o 14 (.bin .lss (.t 11) (.t 13))])
    (.cond (.t 14) (.skip) (.exit 0)))
    (.seq (.block 1 (.seq (.reg [o 17 (.mv (.t 0)),o 18 (.mv (.t 5)),o 19 (.iaddr w (.t 17) (.t 18)),o 20 (.load (some w) (.t 19)),o 21 (.mv (.t 1)),o 22 (.mv (.t 5)),o 23 (.iaddr w (.t 21) (.t 22)),o 24 (.load (some w) (.t 23)),o 25 (.callF g [(.t 20),(.t 24)]),o 26 (.un .not (.t 25))])
     (.cond (.t 26) (.seq (.reg [o 4 (.mv (.c (.bool false)))])
      (.ret)) (.skip))))
    (.reg [o 15 (.mv (.t 5)),o 16 (.bin .add (.t 15) (.c (.int .i64 1))),o 5 (.mv (.t 16))]))))))
  (.seq (.reg [o 4 (.mv (.c (.bool true)))])
  (.ret)))),
  [.tmp 4]⟩
def eqPF : Fun := ⟨26,
  .seq (.reg [o 4 (.mv (.c (.bool false)))])
  (.seq (.seq (.reg [o 6 (.mv (.t 0)),o 7 (.lenL (.t 6)),o 8 (.mv (.t 1)),o 9 (.lenL (.t 8)),o 10 (.bin .neq (.t 7) (.t 9))])
  (.cond (.t 10) (.seq (.reg [o 4 (.mv (.c (.bool false)))])
   (.ret)) (.skip)))
  (.seq (.seq (.reg [o 5 (.mv (.c (.int .i64 0)))])
  (.block 0 (.loop (.seq (.seq (.reg [o 11 (.mv (.t 5)),o 12 (.mv (.t 0)),o 13 (.lenL (.t 12)),o 14 (.bin .lss (.t 11) (.t 13))])
    (.cond (.t 14) (.skip) (.exit 0)))
    (.seq (.block 1 (.seq (.reg [o 17 (.mv (.t 0)),o 18 (.mv (.t 5)),o 19 (.iaddr 1 (.t 17) (.t 18)),o 20 (.load none (.t 19)),o 21 (.mv (.t 1)),o 22 (.mv (.t 5)),o 23 (.iaddr 1 (.t 21) (.t 22)),o 24 (.load none (.t 23)),o 25 (.bin .neq (.t 20) (.t 24))])
     (.cond (.t 25) (.seq (.reg [o 4 (.mv (.c (.bool false)))])
      (.ret)) (.skip))))
    (.reg [o 15 (.mv (.t 5)),o 16 (.bin .add (.t 15) (.c (.int .i64 1))),o 5 (.mv (.t 16))]))))))
  (.seq (.reg [o 4 (.mv (.c (.bool true)))])
  (.ret)))),
  [.tmp 4]⟩
section
variable {P : Program} {α : Type} {enc : α → List AV} {con : α → α} {w : Nat} {f g : Nat}
theorem toS_fn {z : List AV} {bytes : Nat} (hf : compF P f = some (toSF w z bytes g)) (hz : z.length = w) (hw : ∀ x,(enc x).length = w) (hcell : ∀ x a,a ∈ enc x → a.cell = true) {s : SL α} (hn : s.list.length * bytes ≤ 281474976710656) (hn' : s.list.length ≤ 281474976710656)
    (hg : ∀ x,x ∈ s.list → Tr P g [.agg (enc x)] fun _ r => ∃ b,r = .agg (enc b) ∧ con b = con x) :
    Tr P f [s.av w enc] fun _ r => ∃ b : SL α,r = b.av w enc ∧ b.list.map con = s.list.map con := by
  intro c
  refine con_of hf (by simp [toSF]) ?_
  unfold toSF
  simp
  refine ⟨by omega,by omega,loop_nat s.list.length (fun i e H c' => c ≤ c' ∧ e 0 = s.av w enc ∧ e 3 = .ref 0 c w s.list.length ∧ e 4 = .int .i64 i ∧ ∃ ys : List α,ys.length = i ∧ ys.map con = (s.list.take i).map con ∧ (∀ y ∈ ys,From c (.agg (enc y))) ∧ H = [⟨false,c,w,grow enc z s.list.length ys⟩])
    ⟨by omega,rfl,rfl,rfl,[],rfl,rfl,by simp,by rw [grow_nil]⟩ ?_⟩
  intro i e H c' hi ⟨hc,e0,e3,e4,ys,hy,hcon,hfr,hH⟩ N hN
  subst hH
  simp [e0,e3,e4]
  refine ⟨fun h => ⟨s.list[i],List.getElem?_eq_getElem h,?_⟩,fun h => ?_⟩
  · simp [hw,take_len,e0,e3,e4]
    refine call_tree0 (hg _ (List.getElem_mem h)) fun r c'' hc' ⟨b,hr,hb⟩ hf => ?_
    subst hr
    simp [h,hw,e0,e3,e4]
    refine ⟨_,grow_get _ _ hy h,hN _ _ _ h ⟨by omega,by simp [upd,e0],by simp [upd,e3],by simp [upd]; exact step64 (by unfold mx; omega) h,ys ++ [b],by simp [hy],?_,?_,?_⟩⟩
    · rw [List.take_succ_eq_append_getElem h,List.map_append,List.map_append,hcon]; simp [hb]
    · intro y hym
      rcases List.mem_append.1 hym with h1 | h1
      · exact hfr y h1
      · simp at h1; subst h1; exact hf.mono hc
    · rw [putA_all (by rw [hw,hz]),grow_set _ _ hy h]
  · have : i = s.list.length := by omega
    subst this
    rw [grow_all _ _ hy]
    refine fin_slc (by simp) (by simpa using hy) (by simp; exact fun x _ a ha => hcell x a ha) ⟨rfl,⟨.mk c ys,rfl,by simpa using hcon⟩,from_slc (Nat.le_refl _) ?_⟩
    simp [e0,e3,e4]
    exact fun y hym a ha => from_agg_mem (hfr y hym) a ha
theorem szS_fn (hf : compF P f = some (szSF w g)) (hw : ∀ x,(enc x).length = w) {sz : α → Nat} {s : SL α} (hn : s.list.length ≤ mx) {left : Int} (hl : Room left)
    (hg : ∀ x,x ∈ s.list → ∀ left,Room left → Fnc P g [.agg (enc x),.int .i64 left] (.int .i64 (szOf (sz x) left))) :
    Fnc P f [s.av w enc,.int .i64 left] (.int .i64 (szOf (s.list.length + szL sz s.list) left)) := by
  refine fn_of hf (by simp [szSF]) fun c => ?_
  unfold szSF
  simp [szOf_wrap hn hl]
  constructor
  · intro h; exact fin_plain (by simp; unfold szOf; split <;> omega)
  · intro h
    refine loop_nat s.list.length (fun i e H c => e 0 = s.av w enc ∧ e 5 = .int .i64 i ∧ e 1 = .int .i64 (left - s.list.length - szL sz (s.list.take i)) ∧ 0 ≤ left - s.list.length - szL sz (s.list.take i) ∧ H = []) ⟨rfl,rfl,by simp [szL],by simpa [szL] using h,rfl⟩ ?_
    intro i e H c hi ⟨e0,e5,e1,hp,hH⟩ N hN
    subst hH
    simp [e0,e5,e1]
    refine ⟨fun h => ⟨s.list[i],List.getElem?_eq_getElem h,?_⟩,fun h => ?_⟩
    · have hr : Room (left - s.list.length - szL sz (s.list.take i)) := ⟨by omega,by have := hl.2; omega⟩
      have hst : szL sz (s.list.take (i + 1)) = szL sz (s.list.take i) + sz s.list[i] := szL_step _ _ h
      have hle := szL_le sz s.list (i + 1)
      simp [hw,take_len,e0,e5,e1]
      refine call_fn0 (hg _ (List.getElem_mem h) _ hr) .int fun c' _ => ?_
      simp [e0,e5,e1]
      unfold szOf
      split
      · refine ⟨fun h' => by omega,fun h' => hN _ _ _ h ⟨by simp [upd,e0],?_,by simp [upd]; omega,by omega,rfl⟩⟩
        simp [upd]; exact step64 hn h
      · refine ⟨fun h' => fin_plain (by rw [if_neg (by omega)]; exact ⟨rfl,rfl⟩),fun h' => by omega⟩
    · have : i = s.list.length := by omega
      subst this
      refine fin_plain ⟨?_,rfl⟩
      rw [List.take_length] at hp ⊢
      unfold szOf
      rw [if_pos (by push_cast; omega)]
      congr 1
      push_cast; omega
theorem eqS_fn (hf : compF P f = some (eqSF w g)) (hw : ∀ x,(enc x).length = w) {s t : SL α} (hn : s.list.length ≤ mx) (he : s.list.map con = t.list.map con)
    (hg : ∀ x,x ∈ s.list → ∀ y,con x = con y → Fnc P g [.agg (enc x),.agg (enc y)] (.bool true)) : Fnc P f [s.av w enc,t.av w enc] (.bool true) := by
  have hlen : s.list.length = t.list.length := by have := congrArg List.length he; simpa using this
  refine fn_of hf (by simp [eqSF]) fun c => ?_
  unfold eqSF
  simp [hlen]
  refine loop_nat s.list.length (fun i e H c => e 0 = s.av w enc ∧ e 1 = t.av w enc ∧ e 5 = .int .i64 i ∧ H = []) ⟨rfl,rfl,rfl,rfl⟩ ?_
  intro i e H c hi ⟨e0,e1,e5,hH⟩ N hN
  subst hH
  simp [e0,e1,e5]
  refine ⟨fun h => ⟨s.list[i],List.getElem?_eq_getElem h,?_⟩,fun h => fin_plain ⟨rfl,rfl⟩⟩
  have ht : i < t.list.length := by omega
  have hc : con s.list[i] = con t.list[i] := by
    have h1 : (s.list.map con)[i]? = (t.list.map con)[i]? := by rw [he]
    simpa [h,ht] using h1
  simp [hw,take_len,e0,e1,e5]
  refine ⟨t.list[i],List.getElem?_eq_getElem ht,?_⟩
  simp [hw,take_len,e0,e1,e5]
  refine callF_fn0 (hg _ (List.getElem_mem h) _ hc) .bool fun c' _ => ?_
  simp [e0,e1,e5]
  exact hN _ _ _ h ⟨by simp [upd,e0],by simp [upd,e1],by simp [upd]; exact step64 hn h,rfl⟩
theorem toP_fn {v : α → AV} {z : AV} {bytes : Nat} (hf : compF P f = some (toPF z bytes)) (hc : ∀ x,(v x).cell = true) (hfr : ∀ x c,From c (v x)) (hv : ∀ x (K : List AV → Prop),cellsW (v x) K = K [v x]) {s : SL α} (hn : s.list.length * bytes ≤ 281474976710656) (hn' : s.list.length ≤ 281474976710656) :
    Tr P f [s.av 1 fun x => [v x]] fun _ r => ∃ t,r = (SL.mk t s.list).av 1 fun x => [v x] := by
  intro c
  refine con_of hf (by simp [toPF]) ?_
  unfold toPF
  simp
  refine ⟨by omega,by omega,loop_nat s.list.length (fun i e H c' => e 0 = (s.av 1 fun x => [v x]) ∧ e 3 = .ref 0 c 1 s.list.length ∧ e 4 = .int .i64 i ∧ H = [⟨false,c,1,grow (fun x => [v x]) [z] s.list.length (s.list.take i)⟩]) ⟨rfl,rfl,rfl,by rw [List.take_zero,grow_nil]⟩ ?_⟩
  intro i e H c' hi ⟨e0,e3,e4,hH⟩ N hN
  subst hH
  simp [e0,e3,e4]
  refine ⟨fun h => ⟨s.list[i],List.getElem?_eq_getElem h,?_⟩,fun h => ?_⟩
  · have hl : (s.list.take i).length = i := by simp; omega
    simp [h,hv,e0,e3,e4]
    refine ⟨_,grow_get _ _ hl h,hN _ _ _ h ⟨by simp [upd,e0],by simp [upd,e3],by simp [upd]; exact step64 (by unfold mx; omega) h,?_⟩⟩
    rw [List.take_succ_eq_append_getElem h,← grow_set _ _ hl h]; rfl
  · have : i = s.list.length := by omega
    subst this
    rw [List.take_length,grow_all _ _ rfl]
    refine fin_slc (by simp) (by simp) (by simp; exact fun x _ => hc x) ⟨rfl,⟨c,rfl⟩,from_slc (Nat.le_refl _) ?_⟩
    simp [e0,e3,e4]
    exact fun x _ => hfr x c
theorem eqP_fn {v : α → AV} (hf : compF P f = some eqPF) (hv : ∀ x (K : AV → Prop),binW .neq (v x) (v x) K = K (.bool false)) {s t : SL α} (hn : s.list.length ≤ mx) (he : s.list = t.list) : Fnc P f [s.av 1 fun x => [v x],t.av 1 fun x => [v x]] (.bool true) := by
  refine fn_of hf (by simp [eqPF]) fun c => ?_
  unfold eqPF
  simp [← he]
  refine loop_nat s.list.length (fun i e H c => e 0 = (s.av 1 fun x => [v x]) ∧ e 1 = (t.av 1 fun x => [v x]) ∧ e 5 = .int .i64 i ∧ H = []) ⟨rfl,rfl,rfl,rfl⟩ ?_
  intro i e H c hi ⟨e0,e1,e5,hH⟩ N hN
  subst hH
  simp [e0,e1,e5]
  refine ⟨fun h => ⟨s.list[i],List.getElem?_eq_getElem h,?_⟩,fun h => fin_plain ⟨rfl,rfl⟩⟩
  simp [e0,e1,e5]
  refine ⟨s.list[i],by rw [← he]; exact List.getElem?_eq_getElem h,?_⟩
  simp [hv,e0,e1,e5]
  exact hN _ _ _ h ⟨by simp [upd,e0],by simp [upd,e1],by simp [upd]; exact step64 hn h,rfl⟩
def szPF : Fun := ⟨12,
  .seq (.reg [o 4 (.mv (.c (.int .i64 0)))])
  (.seq (.reg [o 5 (.mv (.t 1)),o 6 (.mv (.t 0)),o 7 (.lenL (.t 6)),o 8 (.bin .sub (.t 5) (.t 7)),o 1 (.mv (.t 8))])
  (.seq (.seq (.reg [o 9 (.mv (.t 1)),o 10 (.bin .lss (.t 9) (.c (.int .i64 0)))])
  (.cond (.t 10) (.seq (.reg [o 4 (.mv (.c (.int .i64 (-1))))])
   (.ret)) (.skip)))
  (.seq (.reg [o 11 (.mv (.t 1)),o 4 (.mv (.t 11))])
  (.ret)))),
  [.tmp 4]⟩
theorem szP_fn (hf : compF P f = some szPF) {s : SL α} (hn : s.list.length ≤ mx) {left : Int} (hl : Room left) : Fnc P f [s.av w enc,.int .i64 left] (.int .i64 (szOf s.list.length left)) := by
  refine fn_of hf (by simp [szPF]) fun c => ?_
  unfold szPF
  simp [szOf_wrap hn hl]
  unfold szOf
  constructor
  · intro h; exact fin_plain (by simp; omega)
  · intro h; exact fin_plain (by simp; omega)
theorem szOf_neg {n : Nat} {left : Int} (h : left < n) : szOf n left = -1 := if_neg (by omega)
theorem szOf_lt {n : Nat} {left : Int} (h : szOf n left < 0) : left < n := by unfold szOf at h; split at h <;> omega
theorem szOf_ge {n : Nat} {left : Int} (h : 0 ≤ szOf n left) : szOf n left = left - n ∧ n ≤ left := by unfold szOf at *; split at h <;> first | (rw [if_pos (by assumption)]; exact ⟨rfl,by assumption⟩) | omega
theorem szL_mem {sz : α → Nat} {l : List α} {x : α} (h : x ∈ l) : sz x ≤ szL sz l := by
  obtain ⟨i,hi,rfl⟩ := List.mem_iff_getElem.1 h
  have h1 := szL_step sz l hi
  have h2 := szL_le sz l (i + 1)
  omega
theorem szL_map {sz : α → Nat} (h : ∀ x,sz (con x) = sz x) (l : List α) : szL sz (l.map con) = szL sz l := by
  unfold szL; rw [List.map_map]; congr 1; exact List.map_congr_left fun x _ => h x
theorem sh_int {n : Nat} {t : TypeId} {k : IntKind} (hu : P.underlying t = some (.int k)) {a : AV} (h : ShC P n t [a]) : ∃ i,a = .int k i ∧ IOk k i := by
  cases n with
  | zero => exact h.elim
  | succ n => simp only [ShC,hu] at h; obtain ⟨i,h1,h2⟩ := h; cases h1; exact ⟨i,rfl,h2⟩
theorem sh_bool {n : Nat} {t : TypeId} (hu : P.underlying t = some .bool) {a : AV} (h : ShC P n t [a]) : ∃ b,a = .bool b := by
  cases n with
  | zero => exact h.elim
  | succ n => simp only [ShC,hu] at h; obtain ⟨i,h1⟩ := h; cases h1; exact ⟨i,rfl⟩
theorem sh_str {n : Nat} {t : TypeId} (hu : P.underlying t = some .string) {a : AV} (h : ShC P n t [a]) : ∃ l,a = .str l ∧ l.length ≤ mx := by
  cases n with
  | zero => exact h.elim
  | succ n => simp only [ShC,hu] at h; obtain ⟨i,h1,h2⟩ := h; cases h1; exact ⟨i,rfl,h2⟩
theorem rows_typed {ok : α → Prop} : ∀ (rows : List (List AV)),(∀ row,row ∈ rows → ∃ x,row = enc x ∧ ok x) → ∃ xs : List α,rows = xs.map enc ∧ ∀ x,x ∈ xs → ok x := by
  intro rows
  induction rows with
  | nil => intro _; exact ⟨[],rfl,by simp⟩
  | cons r rows ih =>
    intro h
    obtain ⟨x,hx,ox⟩ := h r (List.mem_cons_self ..)
    obtain ⟨xs,hxs,oxs⟩ := ih fun row hr => h row (List.mem_cons_of_mem _ hr)
    exact ⟨x :: xs,by simp [hx,hxs],by simpa using ⟨ox,oxs⟩⟩
theorem sh_slc {ok : α → Prop} {n : Nat} {t el : TypeId} (hu : P.underlying t = some (.slice el)) (hw : P.cellsOf el = w) (he : ∀ n row,ShC P n el row → ∃ x,row = enc x ∧ ok x) {a : AV} (h : ShC P n t [a]) :
    ∃ s : SL α,a = s.av w enc ∧ s.list.length ≤ mx ∧ ∀ x,x ∈ s.list → ok x := by
  cases n with
  | zero => exact h.elim
  | succ n =>
    simp only [ShC,hu] at h
    rcases h with h | ⟨tag,rows,h1,h2,h3⟩
    · cases h; exact ⟨.nil,rfl,by simp,by simp⟩
    · cases h1
      obtain ⟨xs,hxs,ox⟩ := rows_typed (enc := enc) (ok := ok) rows fun row hr => he n row (h3 row hr)
      subst hxs
      exact ⟨.mk tag xs,by rw [hw]; rfl,by simpa using h2,by simpa using ox⟩
theorem sh_struct {n : Nat} {t : TypeId} {fs : Array Field} (hu : P.underlying t = some (.struct fs)) {as0 : List AV} (h : ShC P n t as0) : ∃ m,as0.length = P.cellsOf t ∧ ∀ f,f ∈ fs.toList → ShC P m f.type ((as0.drop f.offset).take (P.cellsOf f.type)) := by
  cases n with
  | zero => exact h.elim
  | succ n => simp only [ShC,hu] at h; exact ⟨n,h⟩
def fieldsAre (P : Program) (t : TypeId) (l : List (TypeId × Nat)) : Bool :=
  match P.underlying t with
  | some (.struct fs) => (fs.toList.map fun f => (f.type,f.offset)) == l
  | _ => false
theorem sh_fields {n : Nat} {t : TypeId} {l : List (TypeId × Nat)} (hu : fieldsAre P t l = true) {as0 : List AV} (h : ShC P n t as0) : ∃ m,as0.length = P.cellsOf t ∧ ∀ p,p ∈ l → ShC P m p.1 ((as0.drop p.2).take (P.cellsOf p.1)) := by
  unfold fieldsAre at hu
  split at hu
  · rename_i fs hfs
    simp only [beq_iff_eq] at hu
    obtain ⟨m,h1,h2⟩ := sh_struct hfs h
    refine ⟨m,h1,fun p hp => ?_⟩
    rw [← hu] at hp
    obtain ⟨f,hf,rfl⟩ := List.mem_map.1 hp
    exact h2 f hf
  · cases hu
theorem sh_int1 {n : Nat} {t : TypeId} {k : IntKind} (hu : P.underlying t = some (.int k)) {row : List AV} (h : ShC P n t row) : ∃ i,row = [.int k i] ∧ IOk k i := by
  cases n with
  | zero => exact h.elim
  | succ n => simp only [ShC,hu] at h; exact h
theorem sh_str1 {n : Nat} {t : TypeId} (hu : P.underlying t = some .string) {row : List AV} (h : ShC P n t row) : ∃ l,row = [.str l] ∧ l.length ≤ mx := by
  cases n with
  | zero => exact h.elim
  | succ n => simp only [ShC,hu] at h; exact h
end
set_option maxRecDepth 100000
def szIntS (s : SL Int) : Nat := s.list.length
def okIntS (s : SL Int) : Prop := s.list.length ≤ mx ∧ ∀ x,x ∈ s.list → IOk .i64 x
theorem shIntS {n : Nat} {a : AV} (h : ShC Tryz.prog n 47 [a]) : ∃ s : SL Int,a = s.av 1 encI ∧ okIntS s := by
  obtain ⟨s,h1,h2,h3⟩ := sh_slc (P := Tryz.prog) (t := 47) (el := 3) (w := 1) (enc := encI) (ok := fun x => IOk .i64 x) (by kernel_rfl) (by kernel_rfl) (fun n row h => by obtain ⟨i,h1,h2⟩ := sh_int1 (k := .i64) (P := Tryz.prog) (t := 3) (by kernel_rfl) h; exact ⟨i,h1,h2⟩) h
  exact ⟨s,h1,h2,h3⟩
theorem szIntS_fn {s : SL Int} (hs : okIntS s) {left : Int} (hl : Room left) : Fnc Tryz.prog 48 [s.av 1 encI,.int .i64 left] (.int .i64 (szOf (szIntS s) left)) := szP_fn c48 hs.1 hl
theorem toIntS_fn {s : SL Int} (h : szIntS s ≤ 1048576) : Tr Tryz.prog 55 [s.av 1 encI] fun _ r => ∃ t,r = (SL.mk t s.list).av 1 encI := by
  unfold szIntS at h
  exact toP_fn (v := fun n => .int .i64 n) (z := .int .i64 0) (bytes := 8) c55 (fun _ => rfl) (fun _ _ => by simp) (fun _ _ => rfl) (by omega) (by omega)
theorem eqIntS_fn {s t : SL Int} (h : szIntS s ≤ 1099511627776) (he : s.list = t.list) : Fnc Tryz.prog 67 [s.av 1 encI,t.av 1 encI] (.bool true) := by
  unfold szIntS at h
  exact eqP_fn (v := fun n => .int .i64 n) c67 (fun x K => by simp) (by unfold mx; omega) he
structure TLine where
  Seq : Int
  Owner : Int
  Version : Int
  Words : SL Int
def TLine.enc (s : TLine) : List AV := [.int .i64 s.Seq,.int .i64 s.Owner,.int .i64 s.Version,s.Words.av 1 encI]
@[simp] theorem TLine.len (s : TLine) : s.enc.length = 4 := (rfl)
@[simp] theorem TLine.all (s : TLine) : s.enc.take 4 = s.enc := (rfl)
@[simp] theorem TLine.g0 (s : TLine) (K : AV → Prop) : getW s.enc 0 K = K (.int .i64 s.Seq) := by simp [TLine.enc]
@[simp] theorem TLine.g1 (s : TLine) (K : AV → Prop) : getW s.enc 1 K = K (.int .i64 s.Owner) := by simp [TLine.enc]
@[simp] theorem TLine.g2 (s : TLine) (K : AV → Prop) : getW s.enc 2 K = K (.int .i64 s.Version) := by simp [TLine.enc]
@[simp] theorem TLine.g3 (s : TLine) (K : AV → Prop) : getW s.enc 3 K = K (s.Words.av 1 encI) := by simp [TLine.enc]
theorem TLine.cells (s : TLine) : ∀ a,a ∈ s.enc → a.cell = true := by simp [TLine.enc]
def TLine.sz (s : TLine) : Nat := (szIntS s.Words)
def TLine.ok (s : TLine) : Prop := okIntS s.Words
def TLine.con (s : TLine) : TLine := { s with Words := s.Words.pcon }
theorem TLine.sz_con (s : TLine) : s.con.sz = s.sz := by
  simp [TLine.sz,TLine.con,szIntS]
theorem TLine.sh : ∀ (n : Nat) (row : List AV),ShC Tryz.prog n 49 row → ∃ s : TLine,row = s.enc ∧ s.ok := by
  intro n row h
  obtain ⟨m,hl,hf⟩ := sh_fields (l := [(3,0),(3,1),(3,2),(47,3)]) (by kernel_rfl) h
  have hl' : row.length = 4 := hl.trans (by kernel_rfl)
  match row,hl' with
  | [x0,x1,x2,x3],_ =>
    have h0 := hf (3,0) (by simp)
    rw [show Tryz.prog.cellsOf 3 = 1 by kernel_rfl] at h0
    obtain ⟨v0,rfl,_⟩ := sh_int (k := .i64) (t := 3) (by kernel_rfl) (show ShC Tryz.prog m 3 [x0] from h0)
    have h1 := hf (3,1) (by simp)
    rw [show Tryz.prog.cellsOf 3 = 1 by kernel_rfl] at h1
    obtain ⟨v1,rfl,_⟩ := sh_int (k := .i64) (t := 3) (by kernel_rfl) (show ShC Tryz.prog m 3 [x1] from h1)
    have h2 := hf (3,2) (by simp)
    rw [show Tryz.prog.cellsOf 3 = 1 by kernel_rfl] at h2
    obtain ⟨v2,rfl,_⟩ := sh_int (k := .i64) (t := 3) (by kernel_rfl) (show ShC Tryz.prog m 3 [x2] from h2)
    have h3 := hf (47,3) (by simp)
    rw [show Tryz.prog.cellsOf 47 = 1 by kernel_rfl] at h3
    obtain ⟨v3,rfl,k3⟩ := shIntS (show ShC Tryz.prog m 47 [x3] from h3)
    exact ⟨⟨v0,v1,v2,v3⟩,rfl,k3⟩
theorem TLine.sz_fn {s : TLine} (hs : s.ok) {left : Int} (hl : Room left) : Fnc Tryz.prog 19 [.agg s.enc,.int .i64 left] (.int .i64 (szOf s.sz left)) := by
  unfold TLine.ok at hs
  have hr := hl.2
  refine fn_of c19 (by simp [F19]) fun c => ?_
  unfold F19
  simp
  refine call_fn0 (szIntS_fn hs hl) .int fun _ _ => ?_
  simp
  refine ⟨fun h => fin_plain ⟨by have := szOf_lt h; rw [szOf_neg (by simp only [TLine.sz]; omega)],rfl⟩,fun h => ?_⟩
  obtain ⟨h0,k0⟩ := szOf_ge h
  rw [h0]
  have hz : s.sz = (szIntS s.Words) := rfl
  have e : szOf s.sz left = left - ((szIntS s.Words) : Int) := by
    unfold szOf
    rw [if_pos (by omega)]
    omega
  exact fin_plain ⟨by rw [e],rfl⟩
theorem TLine.to_fn {s : TLine} (h : s.sz ≤ 1048576) : Tr Tryz.prog 26 [.agg s.enc] fun _ r => ∃ b : TLine,r = .agg b.enc ∧ b.con = s.con := by
  simp only [TLine.sz] at h
  intro c
  refine con_of c26 (by simp [F26]) ?_
  unfold F26
  simp [putA]
  refine call_tree0 (toIntS_fn (by omega)) fun r3 c3 hc3 ⟨t3,e3⟩ f3 => ?_
  subst e3
  simp [putA]
  refine fin_plain ⟨rfl,⟨⟨s.Seq,s.Owner,s.Version,.mk t3 s.Words.list⟩,rfl,?_⟩,from_agg ?_⟩
  · simp [TLine.con,SL.con,SL.pcon]
  · simp
    exact f3.mono (by omega)
theorem TLine.eq_fn {a b : TLine} (h : a.sz ≤ 1099511627776) (he : a.con = b.con) : Fnc Tryz.prog 33 [.agg a.enc,.agg b.enc] (.bool true) := by
  simp only [TLine.sz] at h
  have e0 : a.Seq = b.Seq := (congrArg TLine.Seq he : a.con.Seq = b.con.Seq)
  have e1 : a.Owner = b.Owner := (congrArg TLine.Owner he : a.con.Owner = b.con.Owner)
  have e2 : a.Version = b.Version := (congrArg TLine.Version he : a.con.Version = b.con.Version)
  have e3 : a.Words.list = b.Words.list := congrArg (fun s => s.Words.list) he
  refine fn_of c33 (by simp [F33]) fun c => ?_
  unfold F33
  simp [e0,e1,e2]
  refine call_fn0 (eqIntS_fn (by omega) e3) .bool fun _ _ => ?_
  simp [e0,e1,e2]
  exact fin_plain ⟨rfl,rfl⟩
def szLineS (s : SL TLine) : Nat := s.list.length + szL TLine.sz s.list
def okLineS (s : SL TLine) : Prop := s.list.length ≤ mx ∧ ∀ x,x ∈ s.list → TLine.ok x
theorem szLineS_con {s t : SL TLine} (h : s.list.map TLine.con = t.list.map TLine.con) : szLineS s = szLineS t := by
  unfold szLineS
  rw [← szL_map (con := TLine.con) TLine.sz_con s.list,← szL_map (con := TLine.con) TLine.sz_con t.list,h]
  have := congrArg List.length h; simp at this; rw [this]
theorem shLineS {n : Nat} {a : AV} (h : ShC Tryz.prog n 22 [a]) : ∃ s : SL TLine,a = s.av 4 TLine.enc ∧ okLineS s := by
  obtain ⟨s,h1,h2,h3⟩ := sh_slc (P := Tryz.prog) (t := 22) (el := 49) (w := 4) (enc := TLine.enc) (ok := TLine.ok) (by kernel_rfl) (by kernel_rfl) (TLine.sh) h
  exact ⟨s,h1,h2,h3⟩
theorem szLineS_fn {s : SL TLine} (hs : okLineS s) {left : Int} (hl : Room left) : Fnc Tryz.prog 5 [s.av 4 TLine.enc,.int .i64 left] (.int .i64 (szOf (szLineS s) left)) :=
  szS_fn (g := 19) c5 (fun _ => rfl) hs.1 hl fun x hx left hl => TLine.sz_fn (hs.2 x hx) hl
theorem toLineS_fn {s : SL TLine} (h : szLineS s ≤ 1048576) : Tr Tryz.prog 8 [s.av 4 TLine.enc] fun _ r => ∃ b : SL TLine,r = b.av 4 TLine.enc ∧ b.list.map TLine.con = s.list.map TLine.con := by
  unfold szLineS at h
  exact toS_fn (g := 26) (z := [.int .i64 0,.int .i64 0,.int .i64 0,.nsl]) (bytes := 48) c8 rfl (fun _ => rfl) (fun x => TLine.cells x) (by omega) (by omega) fun x hx => TLine.to_fn (by have := szL_mem (sz := TLine.sz) hx; omega)
theorem eqLineS_fn {s t : SL TLine} (h : szLineS s ≤ 1099511627776) (he : s.list.map TLine.con = t.list.map TLine.con) : Fnc Tryz.prog 11 [s.av 4 TLine.enc,t.av 4 TLine.enc] (.bool true) := by
  unfold szLineS at h
  exact eqS_fn (g := 33) (con := TLine.con) c11 (fun _ => rfl) (by unfold mx; omega) he fun x hx y hxy => TLine.eq_fn (by have := szL_mem (sz := TLine.sz) hx; omega) hxy
structure TParam where
  Name : List UInt8
  Ref : Bool
def TParam.enc (s : TParam) : List AV := [.str s.Name,.bool s.Ref]
@[simp] theorem TParam.len (s : TParam) : s.enc.length = 2 := (rfl)
@[simp] theorem TParam.all (s : TParam) : s.enc.take 2 = s.enc := (rfl)
@[simp] theorem TParam.g0 (s : TParam) (K : AV → Prop) : getW s.enc 0 K = K (.str s.Name) := by simp [TParam.enc]
@[simp] theorem TParam.g1 (s : TParam) (K : AV → Prop) : getW s.enc 1 K = K (.bool s.Ref) := by simp [TParam.enc]
theorem TParam.cells (s : TParam) : ∀ a,a ∈ s.enc → a.cell = true := by simp [TParam.enc]
def TParam.sz (s : TParam) : Nat := s.Name.length
def TParam.ok (s : TParam) : Prop := s.Name.length ≤ mx
def TParam.con (s : TParam) : TParam := s
theorem TParam.sz_con (s : TParam) : s.con.sz = s.sz := rfl
theorem TParam.sh : ∀ (n : Nat) (row : List AV),ShC Tryz.prog n 179 row → ∃ s : TParam,row = s.enc ∧ s.ok := by
  intro n row h
  obtain ⟨m,hl,hf⟩ := sh_fields (l := [(9,0),(4,1)]) (by kernel_rfl) h
  have hl' : row.length = 2 := hl.trans (by kernel_rfl)
  match row,hl' with
  | [x0,x1],_ =>
    have h0 := hf (9,0) (by simp)
    rw [show Tryz.prog.cellsOf 9 = 1 by kernel_rfl] at h0
    obtain ⟨v0,rfl,k0⟩ := sh_str (t := 9) (by kernel_rfl) (show ShC Tryz.prog m 9 [x0] from h0)
    have h1 := hf (4,1) (by simp)
    rw [show Tryz.prog.cellsOf 4 = 1 by kernel_rfl] at h1
    obtain ⟨v1,rfl⟩ := sh_bool (t := 4) (by kernel_rfl) (show ShC Tryz.prog m 4 [x1] from h1)
    exact ⟨⟨v0,v1⟩,rfl,k0⟩
theorem TParam.sz_fn {s : TParam} (hs : s.ok) {left : Int} (hl : Room left) : Fnc Tryz.prog 131 [.agg s.enc,.int .i64 left] (.int .i64 (szOf s.sz left)) := by
  unfold TParam.ok at hs
  have hr := hl.2
  refine fn_of c131 (by simp [F131]) fun c => ?_
  unfold F131
  simp
  rw [szOf_wrap hs hl]
  refine ⟨fun h => fin_plain ⟨by rw [szOf_neg (by simp only [TParam.sz]; omega)],rfl⟩,fun h => ?_⟩
  have hz : s.sz = s.Name.length := rfl
  have e : szOf s.sz left = left - (s.Name.length : Int) := by
    unfold szOf
    rw [if_pos (by omega)]
    omega
  exact fin_plain ⟨by rw [e],rfl⟩
theorem TParam.to_fn {s : TParam} (h : s.sz ≤ 1048576) : Tr Tryz.prog 145 [.agg s.enc] fun _ r => ∃ b : TParam,r = .agg b.enc ∧ b.con = s.con := by
  simp only [TParam.sz] at h
  intro c
  refine con_of c145 (by simp [F145]) ?_
  unfold F145
  simp [putA]
  refine fin_plain ⟨rfl,⟨⟨s.Name,s.Ref⟩,rfl,?_⟩,from_agg ?_⟩
  · rfl
  · simp
theorem TParam.eq_fn {a b : TParam} (h : a.sz ≤ 1099511627776) (he : a.con = b.con) : Fnc Tryz.prog 158 [.agg a.enc,.agg b.enc] (.bool true) := by
  simp only [TParam.sz] at h
  have e0 : a.Name = b.Name := (congrArg TParam.Name he : a.con.Name = b.con.Name)
  have e1 : a.Ref = b.Ref := (congrArg TParam.Ref he : a.con.Ref = b.con.Ref)
  refine fn_of c158 (by simp [F158]) fun c => ?_
  unfold F158
  simp [e0,e1]
  exact fin_plain ⟨rfl,rfl⟩
def szParamS (s : SL TParam) : Nat := s.list.length + szL TParam.sz s.list
def okParamS (s : SL TParam) : Prop := s.list.length ≤ mx ∧ ∀ x,x ∈ s.list → TParam.ok x
theorem shParamS {n : Nat} {a : AV} (h : ShC Tryz.prog n 73 [a]) : ∃ s : SL TParam,a = s.av 2 TParam.enc ∧ okParamS s := by
  obtain ⟨s,h1,h2,h3⟩ := sh_slc (P := Tryz.prog) (t := 73) (el := 179) (w := 2) (enc := TParam.enc) (ok := TParam.ok) (by kernel_rfl) (by kernel_rfl) (TParam.sh) h
  exact ⟨s,h1,h2,h3⟩
theorem szParamS_fn {s : SL TParam} (hs : okParamS s) {left : Int} (hl : Room left) : Fnc Tryz.prog 87 [s.av 2 TParam.enc,.int .i64 left] (.int .i64 (szOf (szParamS s) left)) :=
  szS_fn (g := 131) c87 (fun _ => rfl) hs.1 hl fun x hx left hl => TParam.sz_fn (hs.2 x hx) hl
theorem toParamS_fn {s : SL TParam} (h : szParamS s ≤ 1048576) : Tr Tryz.prog 101 [s.av 2 TParam.enc] fun _ r => ∃ b : SL TParam,r = b.av 2 TParam.enc ∧ b.list.map TParam.con = s.list.map TParam.con := by
  unfold szParamS at h
  exact toS_fn (g := 145) (z := [.str [],.bool false]) (bytes := 24) c101 rfl (fun _ => rfl) (fun x => TParam.cells x) (by omega) (by omega) fun x hx => TParam.to_fn (by have := szL_mem (sz := TParam.sz) hx; omega)
theorem eqParamS_fn {s t : SL TParam} (h : szParamS s ≤ 1099511627776) (he : s.list.map TParam.con = t.list.map TParam.con) : Fnc Tryz.prog 114 [s.av 2 TParam.enc,t.av 2 TParam.enc] (.bool true) := by
  unfold szParamS at h
  exact eqS_fn (g := 158) (con := TParam.con) c114 (fun _ => rfl) (by unfold mx; omega) he fun x hx y hxy => TParam.eq_fn (by have := szL_mem (sz := TParam.sz) hx; omega) hxy
def szStringS (s : SL (List UInt8)) : Nat := s.list.length + szL List.length s.list
def okStringS (s : SL (List UInt8)) : Prop := s.list.length ≤ mx ∧ ∀ x,x ∈ s.list → x.length ≤ mx
theorem shStringS {n : Nat} {a : AV} (h : ShC Tryz.prog n 74 [a]) : ∃ s : SL (List UInt8),a = s.av 1 encS ∧ okStringS s := by
  obtain ⟨s,h1,h2,h3⟩ := sh_slc (P := Tryz.prog) (t := 74) (el := 9) (w := 1) (enc := encS) (ok := fun x => x.length ≤ mx) (by kernel_rfl) (by kernel_rfl) (fun n row h => sh_str1 (P := Tryz.prog) (t := 9) (by kernel_rfl) h) h
  exact ⟨s,h1,h2,h3⟩
theorem szStringS_fn {s : SL (List UInt8)} (hs : okStringS s) {left : Int} (hl : Room left) : Fnc Tryz.prog 88 [s.av 1 encS,.int .i64 left] (.int .i64 (szOf (szStringS s) left)) := by
  have hn := hs.1
  refine fn_of c88 (by simp [F88]) fun c => ?_
  unfold F88 szStringS
  simp [szOf_wrap hn hl]
  constructor
  · intro h; exact fin_plain (by simp; unfold szOf; split <;> omega)
  · intro h
    refine loop_nat s.list.length (fun i e H c => e 0 = s.av 1 encS ∧ e 5 = .int .i64 i ∧ e 1 = .int .i64 (left - s.list.length - szL List.length (s.list.take i)) ∧ 0 ≤ left - s.list.length - szL List.length (s.list.take i) ∧ H = []) ⟨rfl,rfl,by simp [szL],by simpa [szL] using h,rfl⟩ ?_
    intro i e H c hi ⟨e0,e5,e1,hp,hH⟩ N hN
    subst hH
    by_cases hil : i < s.list.length
    · have hg : s.list[i]? = some s.list[i] := List.getElem?_eq_getElem hil
      have hr : Room (left - s.list.length - szL List.length (s.list.take i)) := ⟨by omega,by have := hl.2; omega⟩
      have hst : szL List.length (s.list.take (i + 1)) = szL List.length (s.list.take i) + s.list[i].length := szL_step _ _ hil
      have hxm := hs.2 _ (List.getElem_mem hil)
      generalize s.list[i] = x at hg hst hxm
      simp [e0,e5,e1,hil]
      refine ⟨x,hg,?_⟩
      simp [e0,e5,e1,hil]
      rw [szOf_wrap hxm hr]
      refine ⟨fun h' => fin_plain ⟨?_,rfl⟩,fun h' => hN _ _ _ hil ⟨by simp [upd,e0],by simp [upd]; exact step64 hn hil,by simp [upd]; omega,by omega,rfl⟩⟩
      have hle := szL_le List.length s.list (i + 1)
      unfold szOf
      rw [if_neg (by omega)]
    · have : i = s.list.length := by omega
      subst this
      simp [e0,e5,e1]
      refine fin_plain ⟨?_,rfl⟩
      rw [List.take_length] at hp
      unfold szOf
      rw [if_pos (by push_cast; omega)]
      congr 1
      push_cast; omega
theorem toStringS_fn {s : SL (List UInt8)} (h : szStringS s ≤ 1048576) : Tr Tryz.prog 102 [s.av 1 encS] fun _ r => ∃ t,r = (SL.mk t s.list).av 1 encS := by
  unfold szStringS at h
  exact toP_fn (v := fun l => .str l) (z := .str []) (bytes := 16) c102 (fun _ => rfl) (fun _ _ => by simp) (fun _ _ => rfl) (by omega) (by omega)
theorem eqStringS_fn {s t : SL (List UInt8)} (h : szStringS s ≤ 1099511627776) (he : s.list = t.list) : Fnc Tryz.prog 115 [s.av 1 encS,t.av 1 encS] (.bool true) := by
  unfold szStringS at h
  exact eqP_fn (v := fun l => .str l) c115 (fun x K => by simp) (by unfold mx; omega) he
structure TIns where
  Op : Int
  A : Int
  B : Int
  S : List UInt8
  T : List UInt8
def TIns.enc (s : TIns) : List AV := [.int .i64 s.Op,.int .i64 s.A,.int .i64 s.B,.str s.S,.str s.T]
@[simp] theorem TIns.len (s : TIns) : s.enc.length = 5 := (rfl)
@[simp] theorem TIns.all (s : TIns) : s.enc.take 5 = s.enc := (rfl)
@[simp] theorem TIns.g0 (s : TIns) (K : AV → Prop) : getW s.enc 0 K = K (.int .i64 s.Op) := by simp [TIns.enc]
@[simp] theorem TIns.g1 (s : TIns) (K : AV → Prop) : getW s.enc 1 K = K (.int .i64 s.A) := by simp [TIns.enc]
@[simp] theorem TIns.g2 (s : TIns) (K : AV → Prop) : getW s.enc 2 K = K (.int .i64 s.B) := by simp [TIns.enc]
@[simp] theorem TIns.g3 (s : TIns) (K : AV → Prop) : getW s.enc 3 K = K (.str s.S) := by simp [TIns.enc]
@[simp] theorem TIns.g4 (s : TIns) (K : AV → Prop) : getW s.enc 4 K = K (.str s.T) := by simp [TIns.enc]
theorem TIns.cells (s : TIns) : ∀ a,a ∈ s.enc → a.cell = true := by simp [TIns.enc]
def TIns.sz (s : TIns) : Nat := s.S.length + s.T.length
def TIns.ok (s : TIns) : Prop := s.S.length ≤ mx ∧ s.T.length ≤ mx
def TIns.con (s : TIns) : TIns := s
theorem TIns.sz_con (s : TIns) : s.con.sz = s.sz := rfl
theorem TIns.sh : ∀ (n : Nat) (row : List AV),ShC Tryz.prog n 181 row → ∃ s : TIns,row = s.enc ∧ s.ok := by
  intro n row h
  obtain ⟨m,hl,hf⟩ := sh_fields (l := [(3,0),(3,1),(3,2),(9,3),(9,4)]) (by kernel_rfl) h
  have hl' : row.length = 5 := hl.trans (by kernel_rfl)
  match row,hl' with
  | [x0,x1,x2,x3,x4],_ =>
    have h0 := hf (3,0) (by simp)
    rw [show Tryz.prog.cellsOf 3 = 1 by kernel_rfl] at h0
    obtain ⟨v0,rfl,_⟩ := sh_int (k := .i64) (t := 3) (by kernel_rfl) (show ShC Tryz.prog m 3 [x0] from h0)
    have h1 := hf (3,1) (by simp)
    rw [show Tryz.prog.cellsOf 3 = 1 by kernel_rfl] at h1
    obtain ⟨v1,rfl,_⟩ := sh_int (k := .i64) (t := 3) (by kernel_rfl) (show ShC Tryz.prog m 3 [x1] from h1)
    have h2 := hf (3,2) (by simp)
    rw [show Tryz.prog.cellsOf 3 = 1 by kernel_rfl] at h2
    obtain ⟨v2,rfl,_⟩ := sh_int (k := .i64) (t := 3) (by kernel_rfl) (show ShC Tryz.prog m 3 [x2] from h2)
    have h3 := hf (9,3) (by simp)
    rw [show Tryz.prog.cellsOf 9 = 1 by kernel_rfl] at h3
    obtain ⟨v3,rfl,k3⟩ := sh_str (t := 9) (by kernel_rfl) (show ShC Tryz.prog m 9 [x3] from h3)
    have h4 := hf (9,4) (by simp)
    rw [show Tryz.prog.cellsOf 9 = 1 by kernel_rfl] at h4
    obtain ⟨v4,rfl,k4⟩ := sh_str (t := 9) (by kernel_rfl) (show ShC Tryz.prog m 9 [x4] from h4)
    exact ⟨⟨v0,v1,v2,v3,v4⟩,rfl,⟨k3,k4⟩⟩
theorem TIns.sz_fn {s : TIns} (hs : s.ok) {left : Int} (hl : Room left) : Fnc Tryz.prog 132 [.agg s.enc,.int .i64 left] (.int .i64 (szOf s.sz left)) := by
  unfold TIns.ok at hs
  have hr := hl.2
  refine fn_of c132 (by simp [F132]) fun c => ?_
  unfold F132
  simp
  rw [szOf_wrap hs.1 hl]
  refine ⟨fun h => fin_plain ⟨by rw [szOf_neg (by simp only [TIns.sz]; omega)],rfl⟩,fun h => ?_⟩
  rw [szOf_wrap hs.2 ⟨by omega,by omega⟩]
  refine ⟨fun h => fin_plain ⟨by rw [szOf_neg (by simp only [TIns.sz]; omega)],rfl⟩,fun h => ?_⟩
  have hz : s.sz = s.S.length + s.T.length := rfl
  have e : szOf s.sz left = left - (s.S.length : Int) - (s.T.length : Int) := by
    unfold szOf
    rw [if_pos (by omega)]
    omega
  exact fin_plain ⟨by rw [e],rfl⟩
theorem TIns.to_fn {s : TIns} (h : s.sz ≤ 1048576) : Tr Tryz.prog 146 [.agg s.enc] fun _ r => ∃ b : TIns,r = .agg b.enc ∧ b.con = s.con := by
  simp only [TIns.sz] at h
  intro c
  refine con_of c146 (by simp [F146]) ?_
  unfold F146
  simp [putA]
  refine fin_plain ⟨rfl,⟨⟨s.Op,s.A,s.B,s.S,s.T⟩,rfl,?_⟩,from_agg ?_⟩
  · rfl
  · simp
theorem TIns.eq_fn {a b : TIns} (h : a.sz ≤ 1099511627776) (he : a.con = b.con) : Fnc Tryz.prog 159 [.agg a.enc,.agg b.enc] (.bool true) := by
  simp only [TIns.sz] at h
  have e0 : a.Op = b.Op := (congrArg TIns.Op he : a.con.Op = b.con.Op)
  have e1 : a.A = b.A := (congrArg TIns.A he : a.con.A = b.con.A)
  have e2 : a.B = b.B := (congrArg TIns.B he : a.con.B = b.con.B)
  have e3 : a.S = b.S := (congrArg TIns.S he : a.con.S = b.con.S)
  have e4 : a.T = b.T := (congrArg TIns.T he : a.con.T = b.con.T)
  refine fn_of c159 (by simp [F159]) fun c => ?_
  unfold F159
  simp [e0,e1,e2,e3,e4]
  exact fin_plain ⟨rfl,rfl⟩
def szInsS (s : SL TIns) : Nat := s.list.length + szL TIns.sz s.list
def okInsS (s : SL TIns) : Prop := s.list.length ≤ mx ∧ ∀ x,x ∈ s.list → TIns.ok x
theorem shInsS {n : Nat} {a : AV} (h : ShC Tryz.prog n 75 [a]) : ∃ s : SL TIns,a = s.av 5 TIns.enc ∧ okInsS s := by
  obtain ⟨s,h1,h2,h3⟩ := sh_slc (P := Tryz.prog) (t := 75) (el := 181) (w := 5) (enc := TIns.enc) (ok := TIns.ok) (by kernel_rfl) (by kernel_rfl) (TIns.sh) h
  exact ⟨s,h1,h2,h3⟩
theorem szInsS_fn {s : SL TIns} (hs : okInsS s) {left : Int} (hl : Room left) : Fnc Tryz.prog 89 [s.av 5 TIns.enc,.int .i64 left] (.int .i64 (szOf (szInsS s) left)) :=
  szS_fn (g := 132) c89 (fun _ => rfl) hs.1 hl fun x hx left hl => TIns.sz_fn (hs.2 x hx) hl
theorem toInsS_fn {s : SL TIns} (h : szInsS s ≤ 1048576) : Tr Tryz.prog 103 [s.av 5 TIns.enc] fun _ r => ∃ b : SL TIns,r = b.av 5 TIns.enc ∧ b.list.map TIns.con = s.list.map TIns.con := by
  unfold szInsS at h
  exact toS_fn (g := 146) (z := [.int .i64 0,.int .i64 0,.int .i64 0,.str [],.str []]) (bytes := 56) c103 rfl (fun _ => rfl) (fun x => TIns.cells x) (by omega) (by omega) fun x hx => TIns.to_fn (by have := szL_mem (sz := TIns.sz) hx; omega)
theorem eqInsS_fn {s t : SL TIns} (h : szInsS s ≤ 1099511627776) (he : s.list.map TIns.con = t.list.map TIns.con) : Fnc Tryz.prog 116 [s.av 5 TIns.enc,t.av 5 TIns.enc] (.bool true) := by
  unfold szInsS at h
  exact eqS_fn (g := 159) (con := TIns.con) c116 (fun _ => rfl) (by unfold mx; omega) he fun x hx y hxy => TIns.eq_fn (by have := szL_mem (sz := TIns.sz) hx; omega) hxy
structure TFunc where
  Name : List UInt8
  Params : SL TParam
  Uses : SL TParam
  Slots : SL (List UInt8)
  Gen : Bool
  Code : SL TIns
def TFunc.enc (s : TFunc) : List AV := [.str s.Name,s.Params.av 2 TParam.enc,s.Uses.av 2 TParam.enc,s.Slots.av 1 encS,.bool s.Gen,s.Code.av 5 TIns.enc]
@[simp] theorem TFunc.len (s : TFunc) : s.enc.length = 6 := (rfl)
@[simp] theorem TFunc.all (s : TFunc) : s.enc.take 6 = s.enc := (rfl)
@[simp] theorem TFunc.g0 (s : TFunc) (K : AV → Prop) : getW s.enc 0 K = K (.str s.Name) := by simp [TFunc.enc]
@[simp] theorem TFunc.g1 (s : TFunc) (K : AV → Prop) : getW s.enc 1 K = K (s.Params.av 2 TParam.enc) := by simp [TFunc.enc]
@[simp] theorem TFunc.g2 (s : TFunc) (K : AV → Prop) : getW s.enc 2 K = K (s.Uses.av 2 TParam.enc) := by simp [TFunc.enc]
@[simp] theorem TFunc.g3 (s : TFunc) (K : AV → Prop) : getW s.enc 3 K = K (s.Slots.av 1 encS) := by simp [TFunc.enc]
@[simp] theorem TFunc.g4 (s : TFunc) (K : AV → Prop) : getW s.enc 4 K = K (.bool s.Gen) := by simp [TFunc.enc]
@[simp] theorem TFunc.g5 (s : TFunc) (K : AV → Prop) : getW s.enc 5 K = K (s.Code.av 5 TIns.enc) := by simp [TFunc.enc]
theorem TFunc.cells (s : TFunc) : ∀ a,a ∈ s.enc → a.cell = true := by simp [TFunc.enc]
def TFunc.sz (s : TFunc) : Nat := s.Name.length + (szParamS s.Params) + (szParamS s.Uses) + (szStringS s.Slots) + (szInsS s.Code)
def TFunc.ok (s : TFunc) : Prop := s.Name.length ≤ mx ∧ okParamS s.Params ∧ okParamS s.Uses ∧ okStringS s.Slots ∧ okInsS s.Code
def TFunc.con (s : TFunc) : TFunc := { s with Params := s.Params.con TParam.con,Uses := s.Uses.con TParam.con,Slots := s.Slots.pcon,Code := s.Code.con TIns.con }
theorem TFunc.sz_con (s : TFunc) : s.con.sz = s.sz := by
  simp [TFunc.sz,TFunc.con,szParamS,szParamS,szStringS,szInsS,szL_map TParam.sz_con,szL_map TParam.sz_con,szL_map TIns.sz_con]
theorem TFunc.sh : ∀ (n : Nat) (row : List AV),ShC Tryz.prog n 77 row → ∃ s : TFunc,row = s.enc ∧ s.ok := by
  intro n row h
  obtain ⟨m,hl,hf⟩ := sh_fields (l := [(9,0),(73,1),(73,2),(74,3),(4,4),(75,5)]) (by kernel_rfl) h
  have hl' : row.length = 6 := hl.trans (by kernel_rfl)
  match row,hl' with
  | [x0,x1,x2,x3,x4,x5],_ =>
    have h0 := hf (9,0) (by simp)
    rw [show Tryz.prog.cellsOf 9 = 1 by kernel_rfl] at h0
    obtain ⟨v0,rfl,k0⟩ := sh_str (t := 9) (by kernel_rfl) (show ShC Tryz.prog m 9 [x0] from h0)
    have h1 := hf (73,1) (by simp)
    rw [show Tryz.prog.cellsOf 73 = 1 by kernel_rfl] at h1
    obtain ⟨v1,rfl,k1⟩ := shParamS (show ShC Tryz.prog m 73 [x1] from h1)
    have h2 := hf (73,2) (by simp)
    rw [show Tryz.prog.cellsOf 73 = 1 by kernel_rfl] at h2
    obtain ⟨v2,rfl,k2⟩ := shParamS (show ShC Tryz.prog m 73 [x2] from h2)
    have h3 := hf (74,3) (by simp)
    rw [show Tryz.prog.cellsOf 74 = 1 by kernel_rfl] at h3
    obtain ⟨v3,rfl,k3⟩ := shStringS (show ShC Tryz.prog m 74 [x3] from h3)
    have h4 := hf (4,4) (by simp)
    rw [show Tryz.prog.cellsOf 4 = 1 by kernel_rfl] at h4
    obtain ⟨v4,rfl⟩ := sh_bool (t := 4) (by kernel_rfl) (show ShC Tryz.prog m 4 [x4] from h4)
    have h5 := hf (75,5) (by simp)
    rw [show Tryz.prog.cellsOf 75 = 1 by kernel_rfl] at h5
    obtain ⟨v5,rfl,k5⟩ := shInsS (show ShC Tryz.prog m 75 [x5] from h5)
    exact ⟨⟨v0,v1,v2,v3,v4,v5⟩,rfl,⟨k0,k1,k2,k3,k5⟩⟩
theorem TFunc.sz_fn {s : TFunc} (hs : s.ok) {left : Int} (hl : Room left) : Fnc Tryz.prog 49 [.agg s.enc,.int .i64 left] (.int .i64 (szOf s.sz left)) := by
  unfold TFunc.ok at hs
  have hr := hl.2
  refine fn_of c49 (by simp [F49]) fun c => ?_
  unfold F49
  simp
  rw [szOf_wrap hs.1 hl]
  refine ⟨fun h => fin_plain ⟨by rw [szOf_neg (by simp only [TFunc.sz]; omega)],rfl⟩,fun h => ?_⟩
  refine call_fn0 (szParamS_fn hs.2.1 ⟨by omega,by omega⟩) .int fun _ _ => ?_
  simp
  refine ⟨fun h => fin_plain ⟨by have := szOf_lt h; rw [szOf_neg (by simp only [TFunc.sz]; omega)],rfl⟩,fun h => ?_⟩
  obtain ⟨h1,k1⟩ := szOf_ge h
  rw [h1]
  refine call_fn0 (szParamS_fn hs.2.2.1 ⟨by omega,by omega⟩) .int fun _ _ => ?_
  simp
  refine ⟨fun h => fin_plain ⟨by have := szOf_lt h; rw [szOf_neg (by simp only [TFunc.sz]; omega)],rfl⟩,fun h => ?_⟩
  obtain ⟨h2,k2⟩ := szOf_ge h
  rw [h2]
  refine call_fn0 (szStringS_fn hs.2.2.2.1 ⟨by omega,by omega⟩) .int fun _ _ => ?_
  simp
  refine ⟨fun h => fin_plain ⟨by have := szOf_lt h; rw [szOf_neg (by simp only [TFunc.sz]; omega)],rfl⟩,fun h => ?_⟩
  obtain ⟨h3,k3⟩ := szOf_ge h
  rw [h3]
  refine call_fn0 (szInsS_fn hs.2.2.2.2 ⟨by omega,by omega⟩) .int fun _ _ => ?_
  simp
  refine ⟨fun h => fin_plain ⟨by have := szOf_lt h; rw [szOf_neg (by simp only [TFunc.sz]; omega)],rfl⟩,fun h => ?_⟩
  obtain ⟨h4,k4⟩ := szOf_ge h
  rw [h4]
  have hz : s.sz = s.Name.length + (szParamS s.Params) + (szParamS s.Uses) + (szStringS s.Slots) + (szInsS s.Code) := rfl
  have e : szOf s.sz left = left - (s.Name.length : Int) - ((szParamS s.Params) : Int) - ((szParamS s.Uses) : Int) - ((szStringS s.Slots) : Int) - ((szInsS s.Code) : Int) := by
    unfold szOf
    rw [if_pos (by omega)]
    omega
  exact fin_plain ⟨by rw [e],rfl⟩
theorem TFunc.to_fn {s : TFunc} (h : s.sz ≤ 1048576) : Tr Tryz.prog 56 [.agg s.enc] fun _ r => ∃ b : TFunc,r = .agg b.enc ∧ b.con = s.con := by
  simp only [TFunc.sz] at h
  intro c
  refine con_of c56 (by simp [F56]) ?_
  unfold F56
  simp [putA]
  refine call_tree0 (toParamS_fn (by omega)) fun r1 c1 hc1 ⟨b1,e1,q1⟩ f1 => ?_
  subst e1
  simp [putA]
  refine call_tree0 (toParamS_fn (by omega)) fun r2 c2 hc2 ⟨b2,e2,q2⟩ f2 => ?_
  subst e2
  simp [putA]
  refine call_tree0 (toStringS_fn (by omega)) fun r3 c3 hc3 ⟨t3,e3⟩ f3 => ?_
  subst e3
  simp [putA]
  refine call_tree0 (toInsS_fn (by omega)) fun r5 c5 hc5 ⟨b5,e5,q5⟩ f5 => ?_
  subst e5
  simp [putA]
  refine fin_plain ⟨rfl,⟨⟨s.Name,b1,b2,.mk t3 s.Slots.list,s.Gen,b5⟩,rfl,?_⟩,from_agg ?_⟩
  · simp [TFunc.con,SL.con,SL.pcon,q1,q2,q5]
  · simp
    exact ⟨f1.mono (by omega),f2.mono (by omega),f3.mono (by omega),f5.mono (by omega)⟩
theorem TFunc.eq_fn {a b : TFunc} (h : a.sz ≤ 1099511627776) (he : a.con = b.con) : Fnc Tryz.prog 68 [.agg a.enc,.agg b.enc] (.bool true) := by
  simp only [TFunc.sz] at h
  have e0 : a.Name = b.Name := (congrArg TFunc.Name he : a.con.Name = b.con.Name)
  have e1 : a.Params.list.map TParam.con = b.Params.list.map TParam.con := congrArg (fun s => s.Params.list) he
  have e2 : a.Uses.list.map TParam.con = b.Uses.list.map TParam.con := congrArg (fun s => s.Uses.list) he
  have e3 : a.Slots.list = b.Slots.list := congrArg (fun s => s.Slots.list) he
  have e4 : a.Gen = b.Gen := (congrArg TFunc.Gen he : a.con.Gen = b.con.Gen)
  have e5 : a.Code.list.map TIns.con = b.Code.list.map TIns.con := congrArg (fun s => s.Code.list) he
  refine fn_of c68 (by simp [F68]) fun c => ?_
  unfold F68
  simp [e0,e4]
  refine call_fn0 (eqParamS_fn (by omega) e1) .bool fun _ _ => ?_
  simp [e0,e4]
  refine call_fn0 (eqParamS_fn (by omega) e2) .bool fun _ _ => ?_
  simp [e0,e4]
  refine call_fn0 (eqStringS_fn (by omega) e3) .bool fun _ _ => ?_
  simp [e0,e4]
  refine call_fn0 (eqInsS_fn (by omega) e5) .bool fun _ _ => ?_
  simp [e0,e4]
  exact fin_plain ⟨rfl,rfl⟩
def szFuncS (s : SL TFunc) : Nat := s.list.length + szL TFunc.sz s.list
def okFuncS (s : SL TFunc) : Prop := s.list.length ≤ mx ∧ ∀ x,x ∈ s.list → TFunc.ok x
theorem shFuncS {n : Nat} {a : AV} (h : ShC Tryz.prog n 23 [a]) : ∃ s : SL TFunc,a = s.av 6 TFunc.enc ∧ okFuncS s := by
  obtain ⟨s,h1,h2,h3⟩ := sh_slc (P := Tryz.prog) (t := 23) (el := 77) (w := 6) (enc := TFunc.enc) (ok := TFunc.ok) (by kernel_rfl) (by kernel_rfl) (TFunc.sh) h
  exact ⟨s,h1,h2,h3⟩
theorem szFuncS_fn {s : SL TFunc} (hs : okFuncS s) {left : Int} (hl : Room left) : Fnc Tryz.prog 20 [s.av 6 TFunc.enc,.int .i64 left] (.int .i64 (szOf (szFuncS s) left)) :=
  szS_fn (g := 49) c20 (fun _ => rfl) hs.1 hl fun x hx left hl => TFunc.sz_fn (hs.2 x hx) hl
theorem toFuncS_fn {s : SL TFunc} (h : szFuncS s ≤ 1048576) : Tr Tryz.prog 27 [s.av 6 TFunc.enc] fun _ r => ∃ b : SL TFunc,r = b.av 6 TFunc.enc ∧ b.list.map TFunc.con = s.list.map TFunc.con := by
  unfold szFuncS at h
  exact toS_fn (g := 56) (z := [.str [],.nsl,.nsl,.nsl,.bool false,.nsl]) (bytes := 120) c27 rfl (fun _ => rfl) (fun x => TFunc.cells x) (by omega) (by omega) fun x hx => TFunc.to_fn (by have := szL_mem (sz := TFunc.sz) hx; omega)
theorem eqFuncS_fn {s t : SL TFunc} (h : szFuncS s ≤ 1099511627776) (he : s.list.map TFunc.con = t.list.map TFunc.con) : Fnc Tryz.prog 34 [s.av 6 TFunc.enc,t.av 6 TFunc.enc] (.bool true) := by
  unfold szFuncS at h
  exact eqS_fn (g := 68) (con := TFunc.con) c34 (fun _ => rfl) (by unfold mx; omega) he fun x hx y hxy => TFunc.eq_fn (by have := szL_mem (sz := TFunc.sz) hx; omega) hxy
structure TMethod where
  Name : List UInt8
  Owner : List UInt8
  From : List UInt8
  Private : Bool
  Static : Bool
def TMethod.enc (s : TMethod) : List AV := [.str s.Name,.str s.Owner,.str s.From,.bool s.Private,.bool s.Static]
@[simp] theorem TMethod.len (s : TMethod) : s.enc.length = 5 := (rfl)
@[simp] theorem TMethod.all (s : TMethod) : s.enc.take 5 = s.enc := (rfl)
@[simp] theorem TMethod.g0 (s : TMethod) (K : AV → Prop) : getW s.enc 0 K = K (.str s.Name) := by simp [TMethod.enc]
@[simp] theorem TMethod.g1 (s : TMethod) (K : AV → Prop) : getW s.enc 1 K = K (.str s.Owner) := by simp [TMethod.enc]
@[simp] theorem TMethod.g2 (s : TMethod) (K : AV → Prop) : getW s.enc 2 K = K (.str s.From) := by simp [TMethod.enc]
@[simp] theorem TMethod.g3 (s : TMethod) (K : AV → Prop) : getW s.enc 3 K = K (.bool s.Private) := by simp [TMethod.enc]
@[simp] theorem TMethod.g4 (s : TMethod) (K : AV → Prop) : getW s.enc 4 K = K (.bool s.Static) := by simp [TMethod.enc]
theorem TMethod.cells (s : TMethod) : ∀ a,a ∈ s.enc → a.cell = true := by simp [TMethod.enc]
def TMethod.sz (s : TMethod) : Nat := s.Name.length + s.Owner.length + s.From.length
def TMethod.ok (s : TMethod) : Prop := s.Name.length ≤ mx ∧ s.Owner.length ≤ mx ∧ s.From.length ≤ mx
def TMethod.con (s : TMethod) : TMethod := s
theorem TMethod.sz_con (s : TMethod) : s.con.sz = s.sz := rfl
theorem TMethod.sh : ∀ (n : Nat) (row : List AV),ShC Tryz.prog n 189 row → ∃ s : TMethod,row = s.enc ∧ s.ok := by
  intro n row h
  obtain ⟨m,hl,hf⟩ := sh_fields (l := [(9,0),(9,1),(9,2),(4,3),(4,4)]) (by kernel_rfl) h
  have hl' : row.length = 5 := hl.trans (by kernel_rfl)
  match row,hl' with
  | [x0,x1,x2,x3,x4],_ =>
    have h0 := hf (9,0) (by simp)
    rw [show Tryz.prog.cellsOf 9 = 1 by kernel_rfl] at h0
    obtain ⟨v0,rfl,k0⟩ := sh_str (t := 9) (by kernel_rfl) (show ShC Tryz.prog m 9 [x0] from h0)
    have h1 := hf (9,1) (by simp)
    rw [show Tryz.prog.cellsOf 9 = 1 by kernel_rfl] at h1
    obtain ⟨v1,rfl,k1⟩ := sh_str (t := 9) (by kernel_rfl) (show ShC Tryz.prog m 9 [x1] from h1)
    have h2 := hf (9,2) (by simp)
    rw [show Tryz.prog.cellsOf 9 = 1 by kernel_rfl] at h2
    obtain ⟨v2,rfl,k2⟩ := sh_str (t := 9) (by kernel_rfl) (show ShC Tryz.prog m 9 [x2] from h2)
    have h3 := hf (4,3) (by simp)
    rw [show Tryz.prog.cellsOf 4 = 1 by kernel_rfl] at h3
    obtain ⟨v3,rfl⟩ := sh_bool (t := 4) (by kernel_rfl) (show ShC Tryz.prog m 4 [x3] from h3)
    have h4 := hf (4,4) (by simp)
    rw [show Tryz.prog.cellsOf 4 = 1 by kernel_rfl] at h4
    obtain ⟨v4,rfl⟩ := sh_bool (t := 4) (by kernel_rfl) (show ShC Tryz.prog m 4 [x4] from h4)
    exact ⟨⟨v0,v1,v2,v3,v4⟩,rfl,⟨k0,k1,k2⟩⟩
theorem TMethod.sz_fn {s : TMethod} (hs : s.ok) {left : Int} (hl : Room left) : Fnc Tryz.prog 134 [.agg s.enc,.int .i64 left] (.int .i64 (szOf s.sz left)) := by
  unfold TMethod.ok at hs
  have hr := hl.2
  refine fn_of c134 (by simp [F134]) fun c => ?_
  unfold F134
  simp
  rw [szOf_wrap hs.1 hl]
  refine ⟨fun h => fin_plain ⟨by rw [szOf_neg (by simp only [TMethod.sz]; omega)],rfl⟩,fun h => ?_⟩
  rw [szOf_wrap hs.2.1 ⟨by omega,by omega⟩]
  refine ⟨fun h => fin_plain ⟨by rw [szOf_neg (by simp only [TMethod.sz]; omega)],rfl⟩,fun h => ?_⟩
  rw [szOf_wrap hs.2.2 ⟨by omega,by omega⟩]
  refine ⟨fun h => fin_plain ⟨by rw [szOf_neg (by simp only [TMethod.sz]; omega)],rfl⟩,fun h => ?_⟩
  have hz : s.sz = s.Name.length + s.Owner.length + s.From.length := rfl
  have e : szOf s.sz left = left - (s.Name.length : Int) - (s.Owner.length : Int) - (s.From.length : Int) := by
    unfold szOf
    rw [if_pos (by omega)]
    omega
  exact fin_plain ⟨by rw [e],rfl⟩
theorem TMethod.to_fn {s : TMethod} (h : s.sz ≤ 1048576) : Tr Tryz.prog 148 [.agg s.enc] fun _ r => ∃ b : TMethod,r = .agg b.enc ∧ b.con = s.con := by
  simp only [TMethod.sz] at h
  intro c
  refine con_of c148 (by simp [F148]) ?_
  unfold F148
  simp [putA]
  refine fin_plain ⟨rfl,⟨⟨s.Name,s.Owner,s.From,s.Private,s.Static⟩,rfl,?_⟩,from_agg ?_⟩
  · rfl
  · simp
theorem TMethod.eq_fn {a b : TMethod} (h : a.sz ≤ 1099511627776) (he : a.con = b.con) : Fnc Tryz.prog 161 [.agg a.enc,.agg b.enc] (.bool true) := by
  simp only [TMethod.sz] at h
  have e0 : a.Name = b.Name := (congrArg TMethod.Name he : a.con.Name = b.con.Name)
  have e1 : a.Owner = b.Owner := (congrArg TMethod.Owner he : a.con.Owner = b.con.Owner)
  have e2 : a.From = b.From := (congrArg TMethod.From he : a.con.From = b.con.From)
  have e3 : a.Private = b.Private := (congrArg TMethod.Private he : a.con.Private = b.con.Private)
  have e4 : a.Static = b.Static := (congrArg TMethod.Static he : a.con.Static = b.con.Static)
  refine fn_of c161 (by simp [F161]) fun c => ?_
  unfold F161
  simp [e0,e1,e2,e3,e4]
  exact fin_plain ⟨rfl,rfl⟩
def szMethodS (s : SL TMethod) : Nat := s.list.length + szL TMethod.sz s.list
def okMethodS (s : SL TMethod) : Prop := s.list.length ≤ mx ∧ ∀ x,x ∈ s.list → TMethod.ok x
theorem shMethodS {n : Nat} {a : AV} (h : ShC Tryz.prog n 80 [a]) : ∃ s : SL TMethod,a = s.av 5 TMethod.enc ∧ okMethodS s := by
  obtain ⟨s,h1,h2,h3⟩ := sh_slc (P := Tryz.prog) (t := 80) (el := 189) (w := 5) (enc := TMethod.enc) (ok := TMethod.ok) (by kernel_rfl) (by kernel_rfl) (TMethod.sh) h
  exact ⟨s,h1,h2,h3⟩
theorem szMethodS_fn {s : SL TMethod} (hs : okMethodS s) {left : Int} (hl : Room left) : Fnc Tryz.prog 91 [s.av 5 TMethod.enc,.int .i64 left] (.int .i64 (szOf (szMethodS s) left)) :=
  szS_fn (g := 134) c91 (fun _ => rfl) hs.1 hl fun x hx left hl => TMethod.sz_fn (hs.2 x hx) hl
theorem toMethodS_fn {s : SL TMethod} (h : szMethodS s ≤ 1048576) : Tr Tryz.prog 105 [s.av 5 TMethod.enc] fun _ r => ∃ b : SL TMethod,r = b.av 5 TMethod.enc ∧ b.list.map TMethod.con = s.list.map TMethod.con := by
  unfold szMethodS at h
  exact toS_fn (g := 148) (z := [.str [],.str [],.str [],.bool false,.bool false]) (bytes := 56) c105 rfl (fun _ => rfl) (fun x => TMethod.cells x) (by omega) (by omega) fun x hx => TMethod.to_fn (by have := szL_mem (sz := TMethod.sz) hx; omega)
theorem eqMethodS_fn {s t : SL TMethod} (h : szMethodS s ≤ 1099511627776) (he : s.list.map TMethod.con = t.list.map TMethod.con) : Fnc Tryz.prog 118 [s.av 5 TMethod.enc,t.av 5 TMethod.enc] (.bool true) := by
  unfold szMethodS at h
  exact eqS_fn (g := 161) (con := TMethod.con) c118 (fun _ => rfl) (by unfold mx; omega) he fun x hx y hxy => TMethod.eq_fn (by have := szL_mem (sz := TMethod.sz) hx; omega) hxy
end A
end Go.Proofs.YtgalkppgeoknaaaGreatDoor
