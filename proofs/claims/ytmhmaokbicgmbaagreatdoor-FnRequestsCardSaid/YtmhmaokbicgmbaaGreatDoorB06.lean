import Derived.Test.YtmhmaokbicgmbaaGreatDoorRows
import Derived.Test.YtmhmaokbicgmbaaGreatDoorB05

/-
  The functions of the seat in the small language: printed by a program (wip/tools/irdump.lean), each held against the model's code. No condition.
-/


namespace Go.Proofs.YtmhmaokbicgmbaaGreatDoor
namespace A
set_option linter.unusedVariables false
/- loop.example/g03011/laws.FnExactRequestVars -/
def F3 : Fun := ⟨69,
  .seq (.reg [o 1 (.box 3 (.t 0)), o 2 (.mv (.c (.bool false)))])
  (.seq (.reg [o 3 (.mv (.c (.int .i64 1048576)))])
  (.seq (.reg [o 11 (.load (some 3) (.t 1)), o 12 (.mv (.t 3)), o 13 (.call 5 [(.t 11), (.t 12)]), o 3 (.mv (.t 13))])
  (.seq (.seq (.reg [o 14 (.mv (.t 3)), o 15 (.bin .lss (.t 14) (.c (.int .i64 0)))])
  (.cond (.t 15) (.seq (.reg [o 2 (.mv (.c (.bool true)))])
   (.ret)) (.skip)))
  (.seq (.reg [o 16 (.load (some 3) (.t 1)), o 17 (.call 7 [(.t 16)]), o 18 (.call 6 [(.t 17)]), o 4 (.mv (.t 18))])
  (.seq (.reg [o 19 (.load (some 3) (.t 1)), o 20 (.call 7 [(.t 19)]), o 5 (.new 3 [(.str []), .nsl, .nsl]), st (.store 3 (.t 5) (.t 20))])
  (.seq (.reg [o 21 (.load (some 3) (.t 5)), o 22 (.call 8 [(.t 21)]), o 6 (.mv (.t 22))])
  (.seq (.seq (.reg [o 23 (.mv (.t 6)), o 24 (.mv (.t 4)), o 25 (.call 9 [(.t 23), (.t 24)]), o 26 (.un .not (.t 25))])
  (.cond (.t 26) (.seq (.reg [o 2 (.mv (.c (.bool false)))])
   (.ret)) (.skip)))
  (.seq (.seq (.draw [o 27 (.load (some 3) (.t 5)), o 28 (.load (some 3) (.t 1)), o 29 (.callF 7 [(.t 28)]), o 30 (.callF 10 [(.t 27), (.t 29)]), o 31 (.un .not (.t 30))])
  (.cond (.t 31) (.seq (.reg [o 2 (.mv (.c (.bool false)))])
   (.ret)) (.skip)))
  (.seq (.reg [o 7 (.mv (.c (.int .i64 1)))])
  (.seq (.reg [o 32 (.load (some 3) (.t 5)), o 33 (.mv (.t 7)), o 34 (.call 11 [(.t 32), (.t 33)]), o 7 (.mv (.t 34))])
  (.seq (.seq (.reg [o 35 (.mv (.t 7)), o 36 (.bin .lss (.t 35) (.c (.int .i64 0))), o 37 (.mv (.t 36)), og 38 (.mv (.t 6)) 37 false, og 39 (.mv (.t 4)) 37 false, og 40 (.call 9 [(.t 38), (.t 39)]) 37 false, og 41 (.un .not (.t 40)) 37 false, o 42 (.pick (.t 37) (.c (.bool true)) (.t 41))])
  (.cond (.t 42) (.seq (.reg [o 2 (.mv (.c (.bool false)))])
   (.ret)) (.skip)))
  (.seq (.reg [o 8 (.mv (.c (.int .i64 1)))])
  (.seq (.reg [o 43 (.mv (.t 6)), o 44 (.mv (.t 8)), o 45 (.call 12 [(.t 43), (.t 44)]), o 8 (.mv (.t 45))])
  (.seq (.reg [o 9 (.mv (.c (.int .i64 1)))])
  (.seq (.reg [o 46 (.mv (.t 6)), o 47 (.mv (.t 9)), o 48 (.call 13 [(.t 46), (.t 47)]), o 9 (.mv (.t 48))])
  (.seq (.seq (.reg [o 49 (.mv (.t 9)), o 50 (.bin .lss (.t 49) (.c (.int .i64 0)))])
  (.cond (.t 50) (.seq (.reg [o 2 (.mv (.c (.bool false)))])
   (.ret)) (.skip)))
  (.seq (.seq (.reg [o 51 (.mv (.t 9)), o 52 (.mv (.t 8)), o 53 (.bin .neq (.t 51) (.t 52))])
  (.cond (.t 53) (.seq (.reg [o 2 (.mv (.c (.bool false)))])
   (.ret)) (.skip)))
  (.seq (.reg [o 54 (.load (some 3) (.t 1)), o 55 (.call 7 [(.t 54)]), o 56 (.call 8 [(.t 55)]), o 10 (.mv (.t 56))])
  (.seq (.seq (.reg [o 57 (.mv (.t 10)), o 58 (.mv (.t 4)), o 59 (.call 9 [(.t 57), (.t 58)]), o 60 (.un .not (.t 59))])
  (.cond (.t 60) (.seq (.reg [o 2 (.mv (.c (.bool false)))])
   (.ret)) (.skip)))
  (.seq (.reg [o 9 (.mv (.c (.int .i64 1)))])
  (.seq (.reg [o 61 (.mv (.t 6)), o 62 (.mv (.t 9)), o 63 (.call 13 [(.t 61), (.t 62)]), o 9 (.mv (.t 63))])
  (.seq (.seq (.reg [o 64 (.mv (.t 9)), o 65 (.bin .lss (.t 64) (.c (.int .i64 0)))])
  (.cond (.t 65) (.seq (.reg [o 2 (.mv (.c (.bool false)))])
   (.ret)) (.skip)))
  (.seq (.seq (.reg [o 66 (.mv (.t 9)), o 67 (.mv (.t 8)), o 68 (.bin .neq (.t 66) (.t 67))])
  (.cond (.t 68) (.seq (.reg [o 2 (.mv (.c (.bool false)))])
   (.ret)) (.skip)))
  (.seq (.reg [o 2 (.mv (.c (.bool true)))])
  (.ret))))))))))))))))))))))))),
  [.tmp 2]⟩
/- loop.example/g03011/laws.FnRequests -/
def F4 : Fun := ⟨186,
  .seq (.reg [o 2 (.mv (.c (.bool false)))])
  (.seq (.seq (.reg [o 17 (.mv (.t 0)), o 18 (.call 14 [(.t 17)])])
  (.cond (.t 18) (.seq (.reg [o 2 (.mv (.c (.bool true)))])
   (.ret)) (.skip)))
  (.seq (.reg [o 19 (.mv (.t 0)), o 20 (.call 15 [(.t 19)]), o 3 (.new 3 [(.str []), .nsl, .nsl]), st (.store 3 (.t 3) (.t 20))])
  (.seq (.reg [o 21 (.load (some 3) (.t 3)), o 22 (.call 16 [(.t 21)]), o 4 (.mv (.t 22))])
  (.seq (.reg [o 24 (.mv (.t 4)), o 25 (.call 17 [(.t 24)]), o 23 (.mv (.t 25)), o 26 (.extract (.t 23) 0), o 27 (.extract (.t 23) 1), o 5 (.new 3 [(.str []), .nsl, .nsl]), st (.store 3 (.t 5) (.t 26)), o 6 (.mv (.t 27))])
  (.seq (.seq (.reg [o 28 (.load (some 3) (.t 3)), o 29 (.call 18 [(.t 28)]), o 30 (.un .not (.t 29))])
  (.cond (.t 30) (.seq (.reg [o 31 (.mv (.t 4)), o 32 (.bin .eql (.t 31) (.c (.str []))), o 33 (.mv (.t 32)), og 34 (.mv (.t 6)) 33 true, og 35 (.un .not (.t 34)) 33 true, o 36 (.pick (.t 33) (.t 35) (.c (.bool false))), o 37 (.mv (.t 36)), og 38 (.load (some 3) (.t 3)) 37 true, og 39 (.call 8 [(.t 38)]) 37 true, og 40 (.lenL (.t 39)) 37 true, og 41 (.bin .eql (.t 40) (.c (.int .i64 0))) 37 true, o 42 (.pick (.t 37) (.t 41) (.c (.bool false))), o 2 (.mv (.t 42))])
   (.ret)) (.skip)))
  (.seq (.reg [o 44 (.faddr 1 (.t 3)), o 45 (.load none (.t 44)), o 46 (.call 20 [(.t 45)]), o 47 (.call 19 [(.t 46)]), o 43 (.mv (.t 47)), o 48 (.extract (.t 43) 0), o 49 (.extract (.t 43) 1), o 7 (.mv (.t 48)), o 8 (.mv (.t 49))])
  (.seq (.reg [o 51 (.faddr 2 (.t 3)), o 52 (.load none (.t 51)), o 53 (.call 22 [(.t 52)]), o 54 (.call 21 [(.t 53)]), o 50 (.mv (.t 54)), o 55 (.extract (.t 50) 0), o 56 (.extract (.t 50) 1), o 9 (.mv (.t 55)), o 10 (.mv (.t 56))])
  (.seq (.seq (.reg [o 57 (.mv (.t 6)), o 58 (.un .not (.t 57)), o 59 (.mv (.t 58)), og 60 (.faddr 0 (.t 5)) 59 false, og 61 (.load none (.t 60)) 59 false, og 62 (.faddr 0 (.t 3)) 59 false, og 63 (.load none (.t 62)) 59 false, og 64 (.bin .neq (.t 61) (.t 63)) 59 false, o 65 (.pick (.t 59) (.c (.bool true)) (.t 64)), o 66 (.mv (.t 65)), og 67 (.faddr 1 (.t 5)) 66 false, og 68 (.load none (.t 67)) 66 false, og 69 (.faddr 1 (.t 3)) 66 false, og 70 (.load none (.t 69)) 66 false, og 71 (.call 23 [(.t 68), (.t 70)]) 66 false, og 72 (.un .not (.t 71)) 66 false, o 73 (.pick (.t 66) (.c (.bool true)) (.t 72)), o 74 (.mv (.t 73)), og 75 (.faddr 2 (.t 5)) 74 false, og 76 (.load none (.t 75)) 74 false, og 77 (.faddr 2 (.t 3)) 74 false, og 78 (.load none (.t 77)) 74 false, og 79 (.call 23 [(.t 76), (.t 78)]) 74 false, og 80 (.un .not (.t 79)) 74 false, o 81 (.pick (.t 74) (.c (.bool true)) (.t 80)), o 82 (.mv (.t 81)), og 83 (.mv (.t 8)) 82 false, og 84 (.un .not (.t 83)) 82 false, o 85 (.pick (.t 82) (.c (.bool true)) (.t 84)), o 86 (.mv (.t 85)), og 87 (.mv (.t 7)) 86 false, og 88 (.faddr 1 (.t 3)) 86 false, og 89 (.load none (.t 88)) 86 false, og 90 (.call 23 [(.t 87), (.t 89)]) 86 false, og 91 (.un .not (.t 90)) 86 false, o 92 (.pick (.t 86) (.c (.bool true)) (.t 91)), o 93 (.mv (.t 92)), og 94 (.mv (.t 10)) 93 false, og 95 (.un .not (.t 94)) 93 false, o 96 (.pick (.t 93) (.c (.bool true)) (.t 95)), o 97 (.mv (.t 96)), og 98 (.mv (.t 9)) 97 false, og 99 (.faddr 2 (.t 3)) 97 false, og 100 (.load none (.t 99)) 97 false, og 101 (.call 23 [(.t 98), (.t 100)]) 97 false, og 102 (.un .not (.t 101)) 97 false, o 103 (.pick (.t 97) (.c (.bool true)) (.t 102))])
  (.cond (.t 103) (.seq (.reg [o 2 (.mv (.c (.bool false)))])
   (.ret)) (.skip)))
  (.seq (.reg [o 104 (.load (some 3) (.t 3)), o 105 (.call 8 [(.t 104)]), o 11 (.mv (.t 105))])
  (.seq (.seq (.reg [o 106 (.mv (.t 11)), o 107 (.lenL (.t 106)), o 108 (.bin .neq (.t 107) (.c (.int .i64 2))), o 109 (.mv (.t 108)), og 110 (.mv (.t 11)) 109 false, og 111 (.call 24 [(.t 110)]) 109 false, og 112 (.un .not (.t 111)) 109 false, o 113 (.pick (.t 109) (.c (.bool true)) (.t 112)), o 114 (.mv (.t 113)), og 115 (.mv (.t 11)) 114 false, og 116 (.iaddr 6 (.t 115) (.c (.int .i64 0))) 114 false, og 117 (.faddr 0 (.t 116)) 114 false, og 118 (.load none (.t 117)) 114 false, og 119 (.bin .neq (.t 118) (.c (.str [103, 101, 116]))) 114 false, o 120 (.pick (.t 114) (.c (.bool true)) (.t 119))])
  (.cond (.t 120) (.seq (.reg [o 2 (.mv (.c (.bool false)))])
   (.ret)) (.skip)))
  (.seq (.seq (.reg [o 12 (.mv (.c (.int .i64 0)))])
  (.block 0 (.loop (.seq (.seq (.reg [o 121 (.mv (.t 12)), o 122 (.faddr 1 (.t 3)), o 123 (.load none (.t 122)), o 124 (.lenL (.t 123)), o 125 (.bin .lss (.t 121) (.t 124))])
    (.cond (.t 125) (.skip) (.exit 0)))
    (.seq (.block 1 (.seq (.seq (.reg [o 129 (.mv (.t 11))])
     (.seq (.reg [o 130 (.iaddr 6 (.t 129) (.c (.int .i64 0)))])
     (.seq (.reg [o 131 (.faddr 1 (.t 130))])
     (.seq (.reg [o 133 (.faddr 1 (.t 3))])
     (.seq (.reg [o 135 (.mv (.t 12))])
     (.alt (.seq (.reg [o 132 (.load (some 5) (.t 131))])
      (.alt (.seq (.reg [o 134 (.load none (.t 133))])
       (.seq (.reg [o 136 (.iaddr 2 (.t 134) (.t 135))])
       (.seq (.reg [o 137 (.faddr 0 (.t 136))])
       (.alt (.seq (.reg [o 138 (.load none (.t 137))])
        (.alt (.seq (.reg [o 139 (.call 26 [(.t 138)])])
         (.alt (.seq (.reg [o 140 (.call 25 [(.t 132), (.t 139)])])
          (.seq (.reg [o 128 (.mv (.t 140))])
          (.seq (.reg [o 141 (.extract (.t 128) 0)])
          (.seq (.reg [o 142 (.extract (.t 128) 1)])
          (.seq (.reg [o 13 (.new 5 [(.int .i64 0), (.int .i64 0), (.str []), (.int .i64 0), .nsl])])
          (.seq (.reg [st (.store 5 (.t 13) (.t 141))])
          (.seq (.reg [o 14 (.mv (.t 142))])
          (.skip))))))))
         (.seq (.reg [o 13 (.new 5 [(.int .i64 0), (.int .i64 0), (.str []), (.int .i64 0), .nsl])])
          (.seq (.reg [o 140 (.call 25 [(.t 132), (.t 139)])])
          (.seq (.reg [o 128 (.mv (.t 140))])
          (.seq (.reg [o 141 (.extract (.t 128) 0)])
          (.seq (.reg [o 142 (.extract (.t 128) 1)])
          (.seq (.reg [st (.store 5 (.t 13) (.t 141))])
          (.seq (.reg [o 14 (.mv (.t 142))])
          (.skip))))))))))
        (.seq (.reg [o 13 (.new 5 [(.int .i64 0), (.int .i64 0), (.str []), (.int .i64 0), .nsl])])
         (.seq (.reg [o 139 (.call 26 [(.t 138)])])
         (.seq (.reg [o 140 (.call 25 [(.t 132), (.t 139)])])
         (.seq (.reg [o 128 (.mv (.t 140))])
         (.seq (.reg [o 141 (.extract (.t 128) 0)])
         (.seq (.reg [o 142 (.extract (.t 128) 1)])
         (.seq (.reg [st (.store 5 (.t 13) (.t 141))])
         (.seq (.reg [o 14 (.mv (.t 142))])
         (.skip)))))))))))
       (.seq (.reg [o 13 (.new 5 [(.int .i64 0), (.int .i64 0), (.str []), (.int .i64 0), .nsl])])
        (.seq (.reg [o 138 (.load none (.t 137))])
        (.seq (.reg [o 139 (.call 26 [(.t 138)])])
        (.seq (.reg [o 140 (.call 25 [(.t 132), (.t 139)])])
        (.seq (.reg [o 128 (.mv (.t 140))])
        (.seq (.reg [o 141 (.extract (.t 128) 0)])
        (.seq (.reg [o 142 (.extract (.t 128) 1)])
        (.seq (.reg [st (.store 5 (.t 13) (.t 141))])
        (.seq (.reg [o 14 (.mv (.t 142))])
        (.skip))))))))))))))
      (.seq (.reg [o 13 (.new 5 [(.int .i64 0), (.int .i64 0), (.str []), (.int .i64 0), .nsl])])
       (.seq (.reg [o 134 (.load none (.t 133))])
       (.seq (.reg [o 136 (.iaddr 2 (.t 134) (.t 135))])
       (.seq (.reg [o 137 (.faddr 0 (.t 136))])
       (.seq (.reg [o 138 (.load none (.t 137))])
       (.seq (.reg [o 139 (.call 26 [(.t 138)])])
       (.seq (.reg [o 140 (.call 25 [(.t 132), (.t 139)])])
       (.seq (.reg [o 128 (.mv (.t 140))])
       (.seq (.reg [o 141 (.extract (.t 128) 0)])
       (.seq (.reg [o 142 (.extract (.t 128) 1)])
       (.seq (.reg [st (.store 5 (.t 13) (.t 141))])
       (.seq (.reg [o 14 (.mv (.t 142))])
       (.skip)))))))))))))))
     (.alt (.seq (.reg [o 134 (.load none (.t 133))])
       (.seq (.reg [o 136 (.iaddr 2 (.t 134) (.t 135))])
       (.seq (.reg [o 137 (.faddr 0 (.t 136))])
       (.alt (.seq (.reg [o 132 (.load (some 5) (.t 131))])
        (.alt (.seq (.reg [o 138 (.load none (.t 137))])
         (.alt (.seq (.reg [o 139 (.call 26 [(.t 138)])])
          (.alt (.seq (.reg [o 140 (.call 25 [(.t 132), (.t 139)])])
           (.seq (.reg [o 128 (.mv (.t 140))])
           (.seq (.reg [o 141 (.extract (.t 128) 0)])
           (.seq (.reg [o 142 (.extract (.t 128) 1)])
           (.seq (.reg [o 13 (.new 5 [(.int .i64 0), (.int .i64 0), (.str []), (.int .i64 0), .nsl])])
           (.seq (.reg [st (.store 5 (.t 13) (.t 141))])
           (.seq (.reg [o 14 (.mv (.t 142))])
           (.skip))))))))
          (.seq (.reg [o 13 (.new 5 [(.int .i64 0), (.int .i64 0), (.str []), (.int .i64 0), .nsl])])
           (.seq (.reg [o 140 (.call 25 [(.t 132), (.t 139)])])
           (.seq (.reg [o 128 (.mv (.t 140))])
           (.seq (.reg [o 141 (.extract (.t 128) 0)])
           (.seq (.reg [o 142 (.extract (.t 128) 1)])
           (.seq (.reg [st (.store 5 (.t 13) (.t 141))])
           (.seq (.reg [o 14 (.mv (.t 142))])
           (.skip))))))))))
         (.seq (.reg [o 13 (.new 5 [(.int .i64 0), (.int .i64 0), (.str []), (.int .i64 0), .nsl])])
          (.seq (.reg [o 139 (.call 26 [(.t 138)])])
          (.seq (.reg [o 140 (.call 25 [(.t 132), (.t 139)])])
          (.seq (.reg [o 128 (.mv (.t 140))])
          (.seq (.reg [o 141 (.extract (.t 128) 0)])
          (.seq (.reg [o 142 (.extract (.t 128) 1)])
          (.seq (.reg [st (.store 5 (.t 13) (.t 141))])
          (.seq (.reg [o 14 (.mv (.t 142))])
          (.skip)))))))))))
        (.seq (.reg [o 13 (.new 5 [(.int .i64 0), (.int .i64 0), (.str []), (.int .i64 0), .nsl])])
         (.seq (.reg [o 138 (.load none (.t 137))])
         (.seq (.reg [o 139 (.call 26 [(.t 138)])])
         (.seq (.reg [o 140 (.call 25 [(.t 132), (.t 139)])])
         (.seq (.reg [o 128 (.mv (.t 140))])
         (.seq (.reg [o 141 (.extract (.t 128) 0)])
         (.seq (.reg [o 142 (.extract (.t 128) 1)])
         (.seq (.reg [st (.store 5 (.t 13) (.t 141))])
         (.seq (.reg [o 14 (.mv (.t 142))])
         (.skip))))))))))))
       (.alt (.seq (.reg [o 138 (.load none (.t 137))])
         (.alt (.seq (.reg [o 132 (.load (some 5) (.t 131))])
          (.alt (.seq (.reg [o 139 (.call 26 [(.t 138)])])
           (.alt (.seq (.reg [o 140 (.call 25 [(.t 132), (.t 139)])])
            (.seq (.reg [o 128 (.mv (.t 140))])
            (.seq (.reg [o 141 (.extract (.t 128) 0)])
            (.seq (.reg [o 142 (.extract (.t 128) 1)])
            (.seq (.reg [o 13 (.new 5 [(.int .i64 0), (.int .i64 0), (.str []), (.int .i64 0), .nsl])])
            (.seq (.reg [st (.store 5 (.t 13) (.t 141))])
            (.seq (.reg [o 14 (.mv (.t 142))])
            (.skip))))))))
           (.seq (.reg [o 13 (.new 5 [(.int .i64 0), (.int .i64 0), (.str []), (.int .i64 0), .nsl])])
            (.seq (.reg [o 140 (.call 25 [(.t 132), (.t 139)])])
            (.seq (.reg [o 128 (.mv (.t 140))])
            (.seq (.reg [o 141 (.extract (.t 128) 0)])
            (.seq (.reg [o 142 (.extract (.t 128) 1)])
            (.seq (.reg [st (.store 5 (.t 13) (.t 141))])
            (.seq (.reg [o 14 (.mv (.t 142))])
            (.skip))))))))))
          (.seq (.reg [o 13 (.new 5 [(.int .i64 0), (.int .i64 0), (.str []), (.int .i64 0), .nsl])])
           (.seq (.reg [o 139 (.call 26 [(.t 138)])])
           (.seq (.reg [o 140 (.call 25 [(.t 132), (.t 139)])])
           (.seq (.reg [o 128 (.mv (.t 140))])
           (.seq (.reg [o 141 (.extract (.t 128) 0)])
           (.seq (.reg [o 142 (.extract (.t 128) 1)])
           (.seq (.reg [st (.store 5 (.t 13) (.t 141))])
           (.seq (.reg [o 14 (.mv (.t 142))])
           (.skip)))))))))))
         (.alt (.seq (.reg [o 139 (.call 26 [(.t 138)])])
           (.alt (.seq (.reg [o 132 (.load (some 5) (.t 131))])
            (.alt (.seq (.reg [o 140 (.call 25 [(.t 132), (.t 139)])])
             (.seq (.reg [o 128 (.mv (.t 140))])
             (.seq (.reg [o 141 (.extract (.t 128) 0)])
             (.seq (.reg [o 142 (.extract (.t 128) 1)])
             (.seq (.reg [o 13 (.new 5 [(.int .i64 0), (.int .i64 0), (.str []), (.int .i64 0), .nsl])])
             (.seq (.reg [st (.store 5 (.t 13) (.t 141))])
             (.seq (.reg [o 14 (.mv (.t 142))])
             (.skip))))))))
            (.seq (.reg [o 13 (.new 5 [(.int .i64 0), (.int .i64 0), (.str []), (.int .i64 0), .nsl])])
             (.seq (.reg [o 140 (.call 25 [(.t 132), (.t 139)])])
             (.seq (.reg [o 128 (.mv (.t 140))])
             (.seq (.reg [o 141 (.extract (.t 128) 0)])
             (.seq (.reg [o 142 (.extract (.t 128) 1)])
             (.seq (.reg [st (.store 5 (.t 13) (.t 141))])
             (.seq (.reg [o 14 (.mv (.t 142))])
             (.skip))))))))))
           (.seq (.reg [o 13 (.new 5 [(.int .i64 0), (.int .i64 0), (.str []), (.int .i64 0), .nsl])])
            (.seq (.reg [o 132 (.load (some 5) (.t 131))])
            (.seq (.reg [o 140 (.call 25 [(.t 132), (.t 139)])])
            (.seq (.reg [o 128 (.mv (.t 140))])
            (.seq (.reg [o 141 (.extract (.t 128) 0)])
            (.seq (.reg [o 142 (.extract (.t 128) 1)])
            (.seq (.reg [st (.store 5 (.t 13) (.t 141))])
            (.seq (.reg [o 14 (.mv (.t 142))])
            (.skip)))))))))))
          (.seq (.reg [o 13 (.new 5 [(.int .i64 0), (.int .i64 0), (.str []), (.int .i64 0), .nsl])])
           (.alt (.seq (.reg [o 132 (.load (some 5) (.t 131))])
            (.seq (.reg [o 139 (.call 26 [(.t 138)])])
            (.seq (.reg [o 140 (.call 25 [(.t 132), (.t 139)])])
            (.seq (.reg [o 128 (.mv (.t 140))])
            (.seq (.reg [o 141 (.extract (.t 128) 0)])
            (.seq (.reg [o 142 (.extract (.t 128) 1)])
            (.seq (.reg [st (.store 5 (.t 13) (.t 141))])
            (.seq (.reg [o 14 (.mv (.t 142))])
            (.skip)))))))))
           (.seq (.reg [o 139 (.call 26 [(.t 138)])])
            (.seq (.reg [o 132 (.load (some 5) (.t 131))])
            (.seq (.reg [o 140 (.call 25 [(.t 132), (.t 139)])])
            (.seq (.reg [o 128 (.mv (.t 140))])
            (.seq (.reg [o 141 (.extract (.t 128) 0)])
            (.seq (.reg [o 142 (.extract (.t 128) 1)])
            (.seq (.reg [st (.store 5 (.t 13) (.t 141))])
            (.seq (.reg [o 14 (.mv (.t 142))])
            (.skip))))))))))))))
        (.seq (.reg [o 13 (.new 5 [(.int .i64 0), (.int .i64 0), (.str []), (.int .i64 0), .nsl])])
         (.alt (.seq (.reg [o 132 (.load (some 5) (.t 131))])
          (.seq (.reg [o 138 (.load none (.t 137))])
          (.seq (.reg [o 139 (.call 26 [(.t 138)])])
          (.seq (.reg [o 140 (.call 25 [(.t 132), (.t 139)])])
          (.seq (.reg [o 128 (.mv (.t 140))])
          (.seq (.reg [o 141 (.extract (.t 128) 0)])
          (.seq (.reg [o 142 (.extract (.t 128) 1)])
          (.seq (.reg [st (.store 5 (.t 13) (.t 141))])
          (.seq (.reg [o 14 (.mv (.t 142))])
          (.skip))))))))))
         (.seq (.reg [o 138 (.load none (.t 137))])
          (.alt (.seq (.reg [o 132 (.load (some 5) (.t 131))])
           (.seq (.reg [o 139 (.call 26 [(.t 138)])])
           (.seq (.reg [o 140 (.call 25 [(.t 132), (.t 139)])])
           (.seq (.reg [o 128 (.mv (.t 140))])
           (.seq (.reg [o 141 (.extract (.t 128) 0)])
           (.seq (.reg [o 142 (.extract (.t 128) 1)])
           (.seq (.reg [st (.store 5 (.t 13) (.t 141))])
           (.seq (.reg [o 14 (.mv (.t 142))])
           (.skip)))))))))
          (.seq (.reg [o 139 (.call 26 [(.t 138)])])
           (.seq (.reg [o 132 (.load (some 5) (.t 131))])
           (.seq (.reg [o 140 (.call 25 [(.t 132), (.t 139)])])
           (.seq (.reg [o 128 (.mv (.t 140))])
           (.seq (.reg [o 141 (.extract (.t 128) 0)])
           (.seq (.reg [o 142 (.extract (.t 128) 1)])
           (.seq (.reg [st (.store 5 (.t 13) (.t 141))])
           (.seq (.reg [o 14 (.mv (.t 142))])
           (.skip))))))))))))))))))
      (.seq (.reg [o 13 (.new 5 [(.int .i64 0), (.int .i64 0), (.str []), (.int .i64 0), .nsl])])
       (.alt (.seq (.reg [o 132 (.load (some 5) (.t 131))])
        (.seq (.reg [o 134 (.load none (.t 133))])
        (.seq (.reg [o 136 (.iaddr 2 (.t 134) (.t 135))])
        (.seq (.reg [o 137 (.faddr 0 (.t 136))])
        (.seq (.reg [o 138 (.load none (.t 137))])
        (.seq (.reg [o 139 (.call 26 [(.t 138)])])
        (.seq (.reg [o 140 (.call 25 [(.t 132), (.t 139)])])
        (.seq (.reg [o 128 (.mv (.t 140))])
        (.seq (.reg [o 141 (.extract (.t 128) 0)])
        (.seq (.reg [o 142 (.extract (.t 128) 1)])
        (.seq (.reg [st (.store 5 (.t 13) (.t 141))])
        (.seq (.reg [o 14 (.mv (.t 142))])
        (.skip)))))))))))))
       (.seq (.reg [o 134 (.load none (.t 133))])
        (.seq (.reg [o 136 (.iaddr 2 (.t 134) (.t 135))])
        (.seq (.reg [o 137 (.faddr 0 (.t 136))])
        (.alt (.seq (.reg [o 132 (.load (some 5) (.t 131))])
         (.seq (.reg [o 138 (.load none (.t 137))])
         (.seq (.reg [o 139 (.call 26 [(.t 138)])])
         (.seq (.reg [o 140 (.call 25 [(.t 132), (.t 139)])])
         (.seq (.reg [o 128 (.mv (.t 140))])
         (.seq (.reg [o 141 (.extract (.t 128) 0)])
         (.seq (.reg [o 142 (.extract (.t 128) 1)])
         (.seq (.reg [st (.store 5 (.t 13) (.t 141))])
         (.seq (.reg [o 14 (.mv (.t 142))])
         (.skip))))))))))
        (.seq (.reg [o 138 (.load none (.t 137))])
         (.alt (.seq (.reg [o 132 (.load (some 5) (.t 131))])
          (.seq (.reg [o 139 (.call 26 [(.t 138)])])
          (.seq (.reg [o 140 (.call 25 [(.t 132), (.t 139)])])
          (.seq (.reg [o 128 (.mv (.t 140))])
          (.seq (.reg [o 141 (.extract (.t 128) 0)])
          (.seq (.reg [o 142 (.extract (.t 128) 1)])
          (.seq (.reg [st (.store 5 (.t 13) (.t 141))])
          (.seq (.reg [o 14 (.mv (.t 142))])
          (.skip)))))))))
         (.seq (.reg [o 139 (.call 26 [(.t 138)])])
          (.seq (.reg [o 132 (.load (some 5) (.t 131))])
          (.seq (.reg [o 140 (.call 25 [(.t 132), (.t 139)])])
          (.seq (.reg [o 128 (.mv (.t 140))])
          (.seq (.reg [o 141 (.extract (.t 128) 0)])
          (.seq (.reg [o 142 (.extract (.t 128) 1)])
          (.seq (.reg [st (.store 5 (.t 13) (.t 141))])
          (.seq (.reg [o 14 (.mv (.t 142))])
          (.skip))))))))))))))))))))))))
     (.seq (.reg [o 143 (.faddr 1 (.t 3)), o 144 (.load none (.t 143)), o 145 (.mv (.t 12)), o 146 (.iaddr 2 (.t 144) (.t 145)), o 147 (.faddr 1 (.t 146)), o 148 (.load none (.t 147)), o 15 (.mv (.t 148))])
     (.seq (.seq (.reg [o 149 (.mv (.t 12)), o 16 (.mv (.t 149))])
     (.block 2 (.loop (.seq (.seq (.reg [o 150 (.mv (.t 16)), o 151 (.faddr 1 (.t 3)), o 152 (.load none (.t 151)), o 153 (.lenL (.t 152)), o 154 (.bin .lss (.t 150) (.t 153))])
       (.cond (.t 154) (.skip) (.exit 2)))
       (.seq (.block 3 (.seq (.draw [o 157 (.faddr 1 (.t 3)), o 158 (.load none (.t 157)), o 159 (.mv (.t 16)), o 160 (.iaddr 2 (.t 158) (.t 159)), o 161 (.faddr 0 (.t 160)), o 162 (.load none (.t 161)), o 163 (.callF 26 [(.t 162)]), o 164 (.faddr 1 (.t 3)), o 165 (.load none (.t 164)), o 166 (.mv (.t 12)), o 167 (.iaddr 2 (.t 165) (.t 166)), o 168 (.faddr 0 (.t 167)), o 169 (.load none (.t 168)), o 170 (.callF 26 [(.t 169)]), o 171 (.beq false [2, 0, 1] (.t 163) (.t 170))])
        (.cond (.t 171) (.reg [o 172 (.faddr 1 (.t 3)), o 173 (.load none (.t 172)), o 174 (.mv (.t 16)), o 175 (.iaddr 2 (.t 173) (.t 174)), o 176 (.faddr 1 (.t 175)), o 177 (.load none (.t 176)), o 15 (.mv (.t 177))]) (.skip))))
       (.reg [o 155 (.mv (.t 16)), o 156 (.bin .add (.t 155) (.c (.int .i64 1))), o 16 (.mv (.t 156))]))))))
     (.seq (.reg [o 178 (.mv (.t 14)), o 179 (.un .not (.t 178)), o 180 (.mv (.t 179)), og 181 (.faddr 2 (.t 13)) 180 false, og 182 (.load none (.t 181)) 180 false, og 183 (.mv (.t 15)) 180 false, og 184 (.bin .neq (.t 182) (.t 183)) 180 false, o 185 (.pick (.t 180) (.c (.bool true)) (.t 184))])
     (.cond (.t 185) (.seq (.reg [o 2 (.mv (.c (.bool false)))])
      (.ret)) (.skip)))))))
    (.reg [o 126 (.mv (.t 12)), o 127 (.bin .add (.t 126) (.c (.int .i64 1))), o 12 (.mv (.t 127))]))))))
  (.seq (.reg [o 2 (.mv (.c (.bool true)))])
  (.ret))))))))))))),
  [.tmp 2]⟩
/- loop.example/g03011/laws.szRequest -/
def F5 : Fun := ⟨25,
  .seq (.reg [o 2 (.box 3 (.t 0)), o 4 (.mv (.c (.int .i64 0)))])
  (.seq (.reg [o 5 (.mv (.t 1)), o 6 (.faddr 0 (.t 2)), o 7 (.load none (.t 6)), o 8 (.lenS (.t 7)), o 9 (.bin .sub (.t 5) (.t 8)), o 1 (.mv (.t 9))])
  (.seq (.seq (.reg [o 10 (.mv (.t 1)), o 11 (.bin .lss (.t 10) (.c (.int .i64 0)))])
  (.cond (.t 11) (.seq (.reg [o 4 (.mv (.c (.int .i64 (-1))))])
   (.ret)) (.skip)))
  (.seq (.reg [o 12 (.faddr 1 (.t 2)), o 13 (.load none (.t 12)), o 14 (.mv (.t 1)), o 15 (.call 27 [(.t 13), (.t 14)]), o 1 (.mv (.t 15))])
  (.seq (.seq (.reg [o 16 (.mv (.t 1)), o 17 (.bin .lss (.t 16) (.c (.int .i64 0)))])
  (.cond (.t 17) (.seq (.reg [o 4 (.mv (.c (.int .i64 (-1))))])
   (.ret)) (.skip)))
  (.seq (.reg [o 18 (.faddr 2 (.t 2)), o 19 (.load none (.t 18)), o 20 (.mv (.t 1)), o 21 (.call 27 [(.t 19), (.t 20)]), o 1 (.mv (.t 21))])
  (.seq (.seq (.reg [o 22 (.mv (.t 1)), o 23 (.bin .lss (.t 22) (.c (.int .i64 0)))])
  (.cond (.t 23) (.seq (.reg [o 4 (.mv (.c (.int .i64 (-1))))])
   (.ret)) (.skip)))
  (.seq (.reg [o 24 (.mv (.t 1)), o 4 (.mv (.t 24))])
  (.ret)))))))),
  [.tmp 4]⟩
/- loop.example/g03011/spec.RequestVars -/
def F6 : Fun := ⟨16,
  .seq (.reg [o 1 (.box 3 (.t 0)), o 2 (.mv (.c .nsl))])
  (.seq (.seq (.reg [o 3 (.load (some 3) (.t 1)), o 4 (.call 18 [(.t 3)]), o 5 (.un .not (.t 4))])
  (.cond (.t 5) (.seq (.reg [o 6 (.bslice 6 [(.str []), (.int .i64 0), (.int .i64 0), (.str []), (.int .i64 0), .nsl] 0 []), o 2 (.mv (.t 6))])
   (.ret)) (.skip)))
  (.seq (.seq (.reg [o 7 (.faddr 1 (.t 1))])
  (.seq (.reg [o 11 (.faddr 2 (.t 1))])
  (.alt (.seq (.reg [o 8 (.load none (.t 7))])
   (.alt (.seq (.reg [o 9 (.call 28 [(.t 8)])])
    (.seq (.reg [o 10 (.build [(.str []), (.int .i64 0), (.int .i64 0), (.str []), (.int .i64 0), .nsl] [(0, 1, (.c (.str [103, 101, 116]))), (1, 5, (.t 9))])])
    (.seq (.reg [o 12 (.load none (.t 11))])
    (.seq (.reg [o 13 (.call 28 [(.t 12)])])
    (.seq (.reg [o 14 (.build [(.str []), (.int .i64 0), (.int .i64 0), (.str []), (.int .i64 0), .nsl] [(0, 1, (.c (.str [99, 111, 111, 107, 105, 101]))), (1, 5, (.t 13))])])
    (.seq (.reg [o 15 (.bslice 6 [(.str []), (.int .i64 0), (.int .i64 0), (.str []), (.int .i64 0), .nsl] 2 [(0, (.t 10)), (1, (.t 14))])])
    (.seq (.reg [o 2 (.mv (.t 15))])
    (.skip))))))))
   (.seq (.reg [o 12 (.load none (.t 11))])
    (.seq (.reg [o 9 (.call 28 [(.t 8)])])
    (.seq (.reg [o 10 (.build [(.str []), (.int .i64 0), (.int .i64 0), (.str []), (.int .i64 0), .nsl] [(0, 1, (.c (.str [103, 101, 116]))), (1, 5, (.t 9))])])
    (.seq (.reg [o 13 (.call 28 [(.t 12)])])
    (.seq (.reg [o 14 (.build [(.str []), (.int .i64 0), (.int .i64 0), (.str []), (.int .i64 0), .nsl] [(0, 1, (.c (.str [99, 111, 111, 107, 105, 101]))), (1, 5, (.t 13))])])
    (.seq (.reg [o 15 (.bslice 6 [(.str []), (.int .i64 0), (.int .i64 0), (.str []), (.int .i64 0), .nsl] 2 [(0, (.t 10)), (1, (.t 14))])])
    (.seq (.reg [o 2 (.mv (.t 15))])
    (.skip))))))))))
  (.seq (.reg [o 12 (.load none (.t 11))])
   (.seq (.reg [o 8 (.load none (.t 7))])
   (.seq (.reg [o 9 (.call 28 [(.t 8)])])
   (.seq (.reg [o 10 (.build [(.str []), (.int .i64 0), (.int .i64 0), (.str []), (.int .i64 0), .nsl] [(0, 1, (.c (.str [103, 101, 116]))), (1, 5, (.t 9))])])
   (.seq (.reg [o 13 (.call 28 [(.t 12)])])
   (.seq (.reg [o 14 (.build [(.str []), (.int .i64 0), (.int .i64 0), (.str []), (.int .i64 0), .nsl] [(0, 1, (.c (.str [99, 111, 111, 107, 105, 101]))), (1, 5, (.t 13))])])
   (.seq (.reg [o 15 (.bslice 6 [(.str []), (.int .i64 0), (.int .i64 0), (.str []), (.int .i64 0), .nsl] 2 [(0, (.t 10)), (1, (.t 14))])])
   (.seq (.reg [o 2 (.mv (.t 15))])
   (.skip))))))))))))
  (.ret))),
  [.tmp 2]⟩
/- loop.example/g03011/laws.toRequest -/
def F7 : Fun := ⟨16,
  .seq (.reg [o 1 (.box 3 (.t 0)), o 2 (.new 3 [(.str []), .nsl, .nsl])])
  (.seq (.reg [o 3 (.new 3 [(.str []), .nsl, .nsl])])
  (.seq (.reg [o 4 (.faddr 0 (.t 1)), o 5 (.load none (.t 4)), o 6 (.faddr 0 (.t 3)), st (.store 1 (.t 6) (.t 5))])
  (.seq (.reg [o 7 (.faddr 1 (.t 1)), o 8 (.load none (.t 7)), o 9 (.call 29 [(.t 8)]), o 10 (.faddr 1 (.t 3)), st (.store 1 (.t 10) (.t 9))])
  (.seq (.reg [o 11 (.faddr 2 (.t 1)), o 12 (.load none (.t 11)), o 13 (.call 29 [(.t 12)]), o 14 (.faddr 2 (.t 3)), st (.store 1 (.t 14) (.t 13))])
  (.seq (.reg [o 15 (.load (some 3) (.t 3)), st (.store 3 (.t 2) (.t 15))])
  (.ret)))))),
  [.cell 2 (some 3)]⟩
/- loop.example/g03011/impl.RequestVars -/
def F8 : Fun := ⟨15,
  .seq (.reg [o 1 (.box 3 (.t 0)), o 2 (.mv (.c .nsl))])
  (.seq (.seq (.reg [o 3 (.load (some 3) (.t 1)), o 4 (.call 30 [(.t 3)]), o 5 (.un .not (.t 4))])
  (.cond (.t 5) (.seq (.reg [o 2 (.mv (.c .nsl))])
   (.ret)) (.skip)))
  (.seq (.seq (.reg [o 6 (.faddr 1 (.t 1))])
  (.seq (.reg [o 10 (.faddr 2 (.t 1))])
  (.alt (.seq (.reg [o 7 (.load none (.t 6))])
   (.alt (.seq (.reg [o 8 (.call 31 [(.t 7)])])
    (.seq (.reg [o 9 (.build [(.str []), (.int .i64 0), (.int .i64 0), (.str []), (.int .i64 0), .nsl] [(0, 1, (.c (.str [103, 101, 116]))), (1, 5, (.t 8))])])
    (.seq (.reg [o 11 (.load none (.t 10))])
    (.seq (.reg [o 12 (.call 31 [(.t 11)])])
    (.seq (.reg [o 13 (.build [(.str []), (.int .i64 0), (.int .i64 0), (.str []), (.int .i64 0), .nsl] [(0, 1, (.c (.str [99, 111, 111, 107, 105, 101]))), (1, 5, (.t 12))])])
    (.seq (.reg [o 14 (.bslice 6 [(.str []), (.int .i64 0), (.int .i64 0), (.str []), (.int .i64 0), .nsl] 2 [(0, (.t 9)), (1, (.t 13))])])
    (.seq (.reg [o 2 (.mv (.t 14))])
    (.skip))))))))
   (.seq (.reg [o 11 (.load none (.t 10))])
    (.seq (.reg [o 8 (.call 31 [(.t 7)])])
    (.seq (.reg [o 9 (.build [(.str []), (.int .i64 0), (.int .i64 0), (.str []), (.int .i64 0), .nsl] [(0, 1, (.c (.str [103, 101, 116]))), (1, 5, (.t 8))])])
    (.seq (.reg [o 12 (.call 31 [(.t 11)])])
    (.seq (.reg [o 13 (.build [(.str []), (.int .i64 0), (.int .i64 0), (.str []), (.int .i64 0), .nsl] [(0, 1, (.c (.str [99, 111, 111, 107, 105, 101]))), (1, 5, (.t 12))])])
    (.seq (.reg [o 14 (.bslice 6 [(.str []), (.int .i64 0), (.int .i64 0), (.str []), (.int .i64 0), .nsl] 2 [(0, (.t 9)), (1, (.t 13))])])
    (.seq (.reg [o 2 (.mv (.t 14))])
    (.skip))))))))))
  (.seq (.reg [o 11 (.load none (.t 10))])
   (.seq (.reg [o 7 (.load none (.t 6))])
   (.seq (.reg [o 8 (.call 31 [(.t 7)])])
   (.seq (.reg [o 9 (.build [(.str []), (.int .i64 0), (.int .i64 0), (.str []), (.int .i64 0), .nsl] [(0, 1, (.c (.str [103, 101, 116]))), (1, 5, (.t 8))])])
   (.seq (.reg [o 12 (.call 31 [(.t 11)])])
   (.seq (.reg [o 13 (.build [(.str []), (.int .i64 0), (.int .i64 0), (.str []), (.int .i64 0), .nsl] [(0, 1, (.c (.str [99, 111, 111, 107, 105, 101]))), (1, 5, (.t 12))])])
   (.seq (.reg [o 14 (.bslice 6 [(.str []), (.int .i64 0), (.int .i64 0), (.str []), (.int .i64 0), .nsl] 2 [(0, (.t 9)), (1, (.t 13))])])
   (.seq (.reg [o 2 (.mv (.t 14))])
   (.skip))))))))))))
  (.ret))),
  [.tmp 2]⟩
/- loop.example/g03011/laws.eqBindingS -/
def F9 : Fun := ⟨27,
  .seq (.reg [o 4 (.mv (.c (.bool false)))])
  (.seq (.seq (.reg [o 6 (.mv (.t 0)), o 7 (.lenL (.t 6)), o 8 (.mv (.t 1)), o 9 (.lenL (.t 8)), o 10 (.bin .neq (.t 7) (.t 9))])
  (.cond (.t 10) (.seq (.reg [o 4 (.mv (.c (.bool false)))])
   (.ret)) (.skip)))
  (.seq (.seq (.reg [o 5 (.mv (.c (.int .i64 0)))])
  (.block 0 (.loop (.seq (.seq (.reg [o 11 (.mv (.t 5)), o 12 (.mv (.t 0)), o 13 (.lenL (.t 12)), o 14 (.bin .lss (.t 11) (.t 13))])
    (.cond (.t 14) (.skip) (.exit 0)))
    (.seq (.block 1 (.seq (.reg [o 17 (.mv (.t 0)), o 18 (.mv (.t 5)), o 19 (.iaddr 6 (.t 17) (.t 18)), o 20 (.load (some 6) (.t 19)), o 21 (.mv (.t 1)), o 22 (.mv (.t 5)), o 23 (.iaddr 6 (.t 21) (.t 22)), o 24 (.load (some 6) (.t 23)), o 25 (.callF 32 [(.t 20), (.t 24)]), o 26 (.un .not (.t 25))])
     (.cond (.t 26) (.seq (.reg [o 4 (.mv (.c (.bool false)))])
      (.ret)) (.skip))))
    (.reg [o 15 (.mv (.t 5)), o 16 (.bin .add (.t 15) (.c (.int .i64 1))), o 5 (.mv (.t 16))]))))))
  (.seq (.reg [o 4 (.mv (.c (.bool true)))])
  (.ret)))),
  [.tmp 4]⟩
/- loop.example/g03011/laws.eqRequest -/
def F10 : Fun := ⟨22,
  .seq (.reg [o 2 (.box 3 (.t 0)), o 3 (.box 3 (.t 1)), o 4 (.mv (.c (.bool false)))])
  (.seq (.seq (.reg [o 5 (.faddr 0 (.t 2)), o 6 (.load none (.t 5)), o 7 (.faddr 0 (.t 3)), o 8 (.load none (.t 7)), o 9 (.bin .neq (.t 6) (.t 8))])
  (.cond (.t 9) (.seq (.reg [o 4 (.mv (.c (.bool false)))])
   (.ret)) (.skip)))
  (.seq (.seq (.reg [o 10 (.faddr 1 (.t 2)), o 11 (.load none (.t 10)), o 12 (.faddr 1 (.t 3)), o 13 (.load none (.t 12)), o 14 (.call 33 [(.t 11), (.t 13)]), o 15 (.un .not (.t 14))])
  (.cond (.t 15) (.seq (.reg [o 4 (.mv (.c (.bool false)))])
   (.ret)) (.skip)))
  (.seq (.seq (.reg [o 16 (.faddr 2 (.t 2)), o 17 (.load none (.t 16)), o 18 (.faddr 2 (.t 3)), o 19 (.load none (.t 18)), o 20 (.call 33 [(.t 17), (.t 19)]), o 21 (.un .not (.t 20))])
  (.cond (.t 21) (.seq (.reg [o 4 (.mv (.c (.bool false)))])
   (.ret)) (.skip)))
  (.seq (.reg [o 4 (.mv (.c (.bool true)))])
  (.ret))))),
  [.tmp 4]⟩
/- loop.example/g03011/laws.markRequest -/
def F11 : Fun := ⟨14,
  .seq (.reg [o 2 (.box 3 (.t 0)), o 4 (.mv (.c (.int .i64 0)))])
  (.seq (.reg [o 5 (.faddr 1 (.t 2)), o 6 (.load none (.t 5)), o 7 (.mv (.t 1)), o 8 (.call 34 [(.t 6), (.t 7)]), o 1 (.mv (.t 8))])
  (.seq (.reg [o 9 (.faddr 2 (.t 2)), o 10 (.load none (.t 9)), o 11 (.mv (.t 1)), o 12 (.call 34 [(.t 10), (.t 11)]), o 1 (.mv (.t 12))])
  (.seq (.reg [o 13 (.mv (.t 1)), o 4 (.mv (.t 13))])
  (.ret)))),
  [.tmp 4]⟩
/- loop.example/g03011/laws.markBindingS -/
def F12 : Fun := ⟨62,
  .seq (.reg [o 4 (.mv (.c (.int .i64 0)))])
  (.seq (.seq (.reg [o 5 (.mv (.c (.int .i64 0)))])
  (.block 0 (.loop (.seq (.seq (.reg [o 6 (.mv (.t 5)), o 7 (.mv (.t 0)), o 8 (.lenL (.t 7)), o 9 (.bin .lss (.t 6) (.t 8))])
    (.cond (.t 9) (.skip) (.exit 0)))
    (.seq (.block 1 (.seq (.reg [o 12 (.mv (.t 0)), o 13 (.mv (.t 5)), o 14 (.mv (.t 1)), o 15 (.call 35 [(.t 14)]), o 16 (.iaddr 6 (.t 12) (.t 13)), o 17 (.faddr 0 (.t 16)), st (.store 1 (.t 17) (.t 15))])
     (.seq (.reg [o 18 (.mv (.t 1)), o 19 (.bin .add (.t 18) (.c (.int .i64 1))), o 1 (.mv (.t 19))])
     (.seq (.reg [o 20 (.mv (.t 0)), o 21 (.mv (.t 5)), o 22 (.mv (.t 1)), o 23 (.iaddr 6 (.t 20) (.t 21)), o 24 (.faddr 1 (.t 23)), o 25 (.faddr 0 (.t 24)), st (.store 1 (.t 25) (.t 22))])
     (.seq (.reg [o 26 (.mv (.t 1)), o 27 (.bin .add (.t 26) (.c (.int .i64 1))), o 1 (.mv (.t 27))])
     (.seq (.reg [o 28 (.mv (.t 0)), o 29 (.mv (.t 5)), o 30 (.mv (.t 1)), o 31 (.iaddr 6 (.t 28) (.t 29)), o 32 (.faddr 1 (.t 31)), o 33 (.faddr 1 (.t 32)), st (.store 1 (.t 33) (.t 30))])
     (.seq (.reg [o 34 (.mv (.t 1)), o 35 (.bin .add (.t 34) (.c (.int .i64 1))), o 1 (.mv (.t 35))])
     (.seq (.reg [o 36 (.mv (.t 0)), o 37 (.mv (.t 5)), o 38 (.mv (.t 1)), o 39 (.call 35 [(.t 38)]), o 40 (.iaddr 6 (.t 36) (.t 37)), o 41 (.faddr 1 (.t 40)), o 42 (.faddr 2 (.t 41)), st (.store 1 (.t 42) (.t 39))])
     (.seq (.reg [o 43 (.mv (.t 1)), o 44 (.bin .add (.t 43) (.c (.int .i64 1))), o 1 (.mv (.t 44))])
     (.seq (.reg [o 45 (.mv (.t 0)), o 46 (.mv (.t 5)), o 47 (.mv (.t 1)), o 48 (.iaddr 6 (.t 45) (.t 46)), o 49 (.faddr 1 (.t 48)), o 50 (.faddr 3 (.t 49)), st (.store 1 (.t 50) (.t 47))])
     (.seq (.reg [o 51 (.mv (.t 1)), o 52 (.bin .add (.t 51) (.c (.int .i64 1))), o 1 (.mv (.t 52))])
     (.reg [o 53 (.mv (.t 0)), o 54 (.mv (.t 5)), o 55 (.iaddr 6 (.t 53) (.t 54)), o 56 (.faddr 1 (.t 55)), o 57 (.faddr 4 (.t 56)), o 58 (.load none (.t 57)), o 59 (.mv (.t 1)), o 60 (.call 36 [(.t 58), (.t 59)]), o 1 (.mv (.t 60))]))))))))))))
    (.reg [o 10 (.mv (.t 5)), o 11 (.bin .add (.t 10) (.c (.int .i64 1))), o 5 (.mv (.t 11))]))))))
  (.seq (.reg [o 61 (.mv (.t 1)), o 4 (.mv (.t 61))])
  (.ret))),
  [.tmp 4]⟩
/- loop.example/g03011/laws.heldBindingS -/
def F13 : Fun := ⟨74,
  .seq (.reg [o 4 (.mv (.c (.int .i64 0)))])
  (.seq (.seq (.reg [o 5 (.mv (.c (.int .i64 0)))])
  (.block 0 (.loop (.seq (.seq (.reg [o 6 (.mv (.t 5)), o 7 (.mv (.t 0)), o 8 (.lenL (.t 7)), o 9 (.bin .lss (.t 6) (.t 8))])
    (.cond (.t 9) (.skip) (.exit 0)))
    (.seq (.block 1 (.seq (.seq (.reg [o 12 (.mv (.t 0)), o 13 (.mv (.t 5)), o 14 (.iaddr 6 (.t 12) (.t 13)), o 15 (.faddr 0 (.t 14)), o 16 (.load none (.t 15)), o 17 (.mv (.t 1)), o 18 (.callF 35 [(.t 17)]), o 19 (.bin .neq (.t 16) (.t 18))])
     (.cond (.t 19) (.seq (.reg [o 4 (.mv (.c (.int .i64 (-1))))])
      (.ret)) (.skip)))
     (.seq (.reg [o 20 (.mv (.t 1)), o 21 (.bin .add (.t 20) (.c (.int .i64 1))), o 1 (.mv (.t 21))])
     (.seq (.seq (.reg [o 22 (.mv (.t 0)), o 23 (.mv (.t 5)), o 24 (.iaddr 6 (.t 22) (.t 23)), o 25 (.faddr 1 (.t 24)), o 26 (.faddr 0 (.t 25)), o 27 (.load none (.t 26)), o 28 (.mv (.t 1)), o 29 (.bin .neq (.t 27) (.t 28))])
     (.cond (.t 29) (.seq (.reg [o 4 (.mv (.c (.int .i64 (-1))))])
      (.ret)) (.skip)))
     (.seq (.reg [o 30 (.mv (.t 1)), o 31 (.bin .add (.t 30) (.c (.int .i64 1))), o 1 (.mv (.t 31))])
     (.seq (.seq (.reg [o 32 (.mv (.t 0)), o 33 (.mv (.t 5)), o 34 (.iaddr 6 (.t 32) (.t 33)), o 35 (.faddr 1 (.t 34)), o 36 (.faddr 1 (.t 35)), o 37 (.load none (.t 36)), o 38 (.mv (.t 1)), o 39 (.bin .neq (.t 37) (.t 38))])
     (.cond (.t 39) (.seq (.reg [o 4 (.mv (.c (.int .i64 (-1))))])
      (.ret)) (.skip)))
     (.seq (.reg [o 40 (.mv (.t 1)), o 41 (.bin .add (.t 40) (.c (.int .i64 1))), o 1 (.mv (.t 41))])
     (.seq (.seq (.reg [o 42 (.mv (.t 0)), o 43 (.mv (.t 5)), o 44 (.iaddr 6 (.t 42) (.t 43)), o 45 (.faddr 1 (.t 44)), o 46 (.faddr 2 (.t 45)), o 47 (.load none (.t 46)), o 48 (.mv (.t 1)), o 49 (.callF 35 [(.t 48)]), o 50 (.bin .neq (.t 47) (.t 49))])
     (.cond (.t 50) (.seq (.reg [o 4 (.mv (.c (.int .i64 (-1))))])
      (.ret)) (.skip)))
     (.seq (.reg [o 51 (.mv (.t 1)), o 52 (.bin .add (.t 51) (.c (.int .i64 1))), o 1 (.mv (.t 52))])
     (.seq (.seq (.reg [o 53 (.mv (.t 0)), o 54 (.mv (.t 5)), o 55 (.iaddr 6 (.t 53) (.t 54)), o 56 (.faddr 1 (.t 55)), o 57 (.faddr 3 (.t 56)), o 58 (.load none (.t 57)), o 59 (.mv (.t 1)), o 60 (.bin .neq (.t 58) (.t 59))])
     (.cond (.t 60) (.seq (.reg [o 4 (.mv (.c (.int .i64 (-1))))])
      (.ret)) (.skip)))
     (.seq (.reg [o 61 (.mv (.t 1)), o 62 (.bin .add (.t 61) (.c (.int .i64 1))), o 1 (.mv (.t 62))])
     (.seq (.reg [o 63 (.mv (.t 0)), o 64 (.mv (.t 5)), o 65 (.iaddr 6 (.t 63) (.t 64)), o 66 (.faddr 1 (.t 65)), o 67 (.faddr 4 (.t 66)), o 68 (.load none (.t 67)), o 69 (.mv (.t 1)), o 70 (.call 37 [(.t 68), (.t 69)]), o 1 (.mv (.t 70))])
     (.seq (.reg [o 71 (.mv (.t 1)), o 72 (.bin .lss (.t 71) (.c (.int .i64 0)))])
     (.cond (.t 72) (.seq (.reg [o 4 (.mv (.c (.int .i64 (-1))))])
      (.ret)) (.skip)))))))))))))))
    (.reg [o 10 (.mv (.t 5)), o 11 (.bin .add (.t 10) (.c (.int .i64 1))), o 5 (.mv (.t 11))]))))))
  (.seq (.reg [o 73 (.mv (.t 1)), o 4 (.mv (.t 73))])
  (.ret))),
  [.tmp 4]⟩
/- loop.example/g03011/laws.big -/
def F14 : Fun := ⟨6,
  .seq (.reg [o 2 (.mv (.c (.bool false)))])
  (.seq (.reg [o 3 (.mv (.t 0)), o 4 (.lenL (.t 3)), o 5 (.bin .gtr (.t 4) (.c (.int .i64 1048576))), o 2 (.mv (.t 5))])
  (.ret)),
  [.tmp 2]⟩
/- loop.example/g03011/spec.DrawFormatRequest -/
def F15 : Fun := ⟨8,
  .seq (.reg [o 2 (.new 3 [(.str []), .nsl, .nsl])])
  (.seq (.reg [o 4 (.mv (.t 0)), o 5 (.call 38 [(.t 4)]), o 3 (.mv (.t 5))])
  (.seq (.reg [o 6 (.mv (.t 3)), o 7 (.call 39 [(.t 6)]), st (.store 3 (.t 2) (.t 7))])
  (.ret))),
  [.cell 2 (some 3)]⟩
/- loop.example/g03011/impl.FormatRequest -/
def F16 : Fun := ⟨35,
  .seq (.reg [o 1 (.box 3 (.t 0)), o 2 (.mv (.c (.str [])))])
  (.seq (.seq (.reg [o 4 (.load (some 3) (.t 1)), o 5 (.call 30 [(.t 4)]), o 6 (.un .not (.t 5))])
  (.cond (.t 6) (.seq (.reg [o 2 (.mv (.c (.str [])))])
   (.ret)) (.skip)))
  (.seq (.reg [o 7 (.faddr 0 (.t 1)), o 8 (.load none (.t 7)), o 9 (.bin .add (.c (.str [71, 69, 84, 32, 47])) (.t 8)), o 3 (.mv (.t 9))])
  (.seq (.seq (.reg [o 10 (.faddr 1 (.t 1)), o 11 (.load none (.t 10)), o 12 (.lenL (.t 11)), o 13 (.bin .gtr (.t 12) (.c (.int .i64 0)))])
  (.cond (.t 13) (.reg [o 14 (.mv (.t 3)), o 15 (.bin .add (.t 14) (.c (.str [63]))), o 16 (.faddr 1 (.t 1)), o 17 (.load none (.t 16)), o 18 (.call 20 [(.t 17)]), o 19 (.bin .add (.t 15) (.t 18)), o 3 (.mv (.t 19))]) (.skip)))
  (.seq (.reg [o 20 (.mv (.t 3)), o 21 (.bin .add (.t 20) (.c (.str [32, 72, 84, 84, 80, 47, 49, 46, 49, 13, 10]))), o 3 (.mv (.t 21))])
  (.seq (.seq (.reg [o 22 (.faddr 2 (.t 1)), o 23 (.load none (.t 22)), o 24 (.lenL (.t 23)), o 25 (.bin .gtr (.t 24) (.c (.int .i64 0)))])
  (.cond (.t 25) (.reg [o 26 (.mv (.t 3)), o 27 (.bin .add (.t 26) (.c (.str [67, 111, 111, 107, 105, 101, 58, 32]))), o 28 (.faddr 2 (.t 1)), o 29 (.load none (.t 28)), o 30 (.call 22 [(.t 29)]), o 31 (.bin .add (.t 27) (.t 30)), o 32 (.bin .add (.t 31) (.c (.str [13, 10]))), o 3 (.mv (.t 32))]) (.skip)))
  (.seq (.reg [o 33 (.mv (.t 3)), o 34 (.bin .add (.t 33) (.c (.str [13, 10]))), o 2 (.mv (.t 34))])
  (.ret))))))),
  [.tmp 2]⟩
/- loop.example/g03011/impl.ParseRequest -/
def F17 : Fun := ⟨109,
  .seq (.reg [o 2 (.new 3 [(.str []), .nsl, .nsl]), o 3 (.mv (.c (.bool false)))])
  (.seq (.reg [o 20 (.mv (.t 0)), o 21 (.call 40 [(.t 20), (.c (.str [13, 10]))]), o 19 (.mv (.t 21)), o 22 (.extract (.t 19) 0), o 23 (.extract (.t 19) 1), o 24 (.extract (.t 19) 2), o 4 (.mv (.t 22)), o 5 (.mv (.t 23)), o 6 (.mv (.t 24))])
  (.seq (.reg [o 26 (.mv (.t 4)), o 27 (.call 41 [(.t 26), (.c (.str [71, 69, 84, 32, 47]))]), o 25 (.mv (.t 27)), o 28 (.extract (.t 25) 0), o 29 (.extract (.t 25) 1), o 7 (.mv (.t 28)), o 8 (.mv (.t 29))])
  (.seq (.reg [o 31 (.mv (.t 7)), o 32 (.call 42 [(.t 31), (.c (.str [32, 72, 84, 84, 80, 47, 49, 46, 49]))]), o 30 (.mv (.t 32)), o 33 (.extract (.t 30) 0), o 34 (.extract (.t 30) 1), o 7 (.mv (.t 33)), o 9 (.mv (.t 34))])
  (.seq (.seq (.reg [o 35 (.mv (.t 6)), o 36 (.un .not (.t 35)), o 37 (.mv (.t 36)), og 38 (.mv (.t 8)) 37 false, og 39 (.un .not (.t 38)) 37 false, o 40 (.pick (.t 37) (.c (.bool true)) (.t 39)), o 41 (.mv (.t 40)), og 42 (.mv (.t 9)) 41 false, og 43 (.un .not (.t 42)) 41 false, o 44 (.pick (.t 41) (.c (.bool true)) (.t 43))])
  (.cond (.t 44) (.seq (.reg [o 45 (.build [(.str []), .nsl, .nsl] []), st (.store 3 (.t 2) (.t 45)), o 3 (.mv (.c (.bool false)))])
   (.ret)) (.skip)))
  (.seq (.reg [o 10 (.mv (.c (.str [])))])
  (.seq (.seq (.reg [o 47 (.mv (.t 5)), o 48 (.call 41 [(.t 47), (.c (.str [67, 111, 111, 107, 105, 101, 58, 32]))]), o 46 (.mv (.t 48)), o 49 (.extract (.t 46) 0), o 50 (.extract (.t 46) 1), o 11 (.mv (.t 49)), o 12 (.mv (.t 50))])
  (.seq (.reg [o 51 (.mv (.t 12))])
  (.cond (.t 51) (.reg [o 53 (.mv (.t 11)), o 54 (.call 40 [(.t 53), (.c (.str [13, 10]))]), o 52 (.mv (.t 54)), o 55 (.extract (.t 52) 0), o 56 (.extract (.t 52) 1), o 57 (.extract (.t 52) 2), o 10 (.mv (.t 55)), o 5 (.mv (.t 56)), o 6 (.mv (.t 57))]) (.skip))))
  (.seq (.seq (.reg [o 58 (.mv (.t 6)), o 59 (.un .not (.t 58)), o 60 (.mv (.t 59)), og 61 (.mv (.t 5)) 60 false, og 62 (.bin .neq (.t 61) (.c (.str [13, 10]))) 60 false, o 63 (.pick (.t 60) (.c (.bool true)) (.t 62))])
  (.cond (.t 63) (.seq (.reg [o 64 (.build [(.str []), .nsl, .nsl] []), st (.store 3 (.t 2) (.t 64)), o 3 (.mv (.c (.bool false)))])
   (.ret)) (.skip)))
  (.seq (.reg [o 66 (.mv (.t 7)), o 67 (.call 40 [(.t 66), (.c (.str [63]))]), o 65 (.mv (.t 67)), o 68 (.extract (.t 65) 0), o 69 (.extract (.t 65) 1), o 70 (.extract (.t 65) 2), o 13 (.mv (.t 68)), o 14 (.mv (.t 69)), o 15 (.mv (.t 70))])
  (.seq (.reg [o 71 (.build [(.str []), .nsl, .nsl] []), o 16 (.new 3 [(.str []), .nsl, .nsl]), st (.store 3 (.t 16) (.t 71))])
  (.seq (.reg [o 73 (.mv (.t 13)), o 74 (.call 43 [(.t 73)]), o 72 (.mv (.t 74)), o 75 (.extract (.t 72) 0), o 76 (.extract (.t 72) 1), o 13 (.mv (.t 75)), o 8 (.mv (.t 76))])
  (.seq (.reg [o 77 (.mv (.t 13)), o 78 (.faddr 0 (.t 16)), st (.store 1 (.t 78) (.t 77))])
  (.seq (.reg [o 80 (.mv (.t 14)), o 81 (.call 19 [(.t 80)]), o 79 (.mv (.t 81)), o 82 (.extract (.t 79) 0), o 83 (.extract (.t 79) 1), o 84 (.faddr 1 (.t 16)), st (.store 1 (.t 84) (.t 82)), o 9 (.mv (.t 83))])
  (.seq (.reg [o 86 (.mv (.t 10)), o 87 (.call 21 [(.t 86)]), o 85 (.mv (.t 87)), o 88 (.extract (.t 85) 0), o 89 (.extract (.t 85) 1), o 17 (.mv (.t 88)), o 18 (.mv (.t 89))])
  (.seq (.reg [o 90 (.mv (.t 17)), o 91 (.faddr 2 (.t 16)), st (.store 1 (.t 91) (.t 90))])
  (.seq (.seq (.reg [o 92 (.mv (.t 8)), o 93 (.un .not (.t 92)), o 94 (.mv (.t 93)), og 95 (.mv (.t 9)) 94 false, og 96 (.un .not (.t 95)) 94 false, o 97 (.pick (.t 94) (.c (.bool true)) (.t 96)), o 98 (.mv (.t 97)), og 99 (.mv (.t 18)) 98 false, og 100 (.un .not (.t 99)) 98 false, o 101 (.pick (.t 98) (.c (.bool true)) (.t 100)), o 102 (.mv (.t 101)), og 103 (.load (some 3) (.t 16)) 102 false, og 104 (.call 30 [(.t 103)]) 102 false, og 105 (.un .not (.t 104)) 102 false, o 106 (.pick (.t 102) (.c (.bool true)) (.t 105))])
  (.cond (.t 106) (.seq (.reg [o 107 (.build [(.str []), .nsl, .nsl] []), st (.store 3 (.t 2) (.t 107)), o 3 (.mv (.c (.bool false)))])
   (.ret)) (.skip)))
  (.seq (.reg [o 108 (.load (some 3) (.t 16)), st (.store 3 (.t 2) (.t 108)), o 3 (.mv (.c (.bool true)))])
  (.ret))))))))))))))))),
  [.cell 2 (some 3), .tmp 3]⟩
/- loop.example/g03011/spec.IsRequest -/
def F18 : Fun := ⟨16,
  .seq (.reg [o 1 (.box 3 (.t 0)), o 2 (.mv (.c (.bool false)))])
  (.seq (.reg [o 3 (.faddr 0 (.t 1)), o 4 (.load none (.t 3)), o 5 (.call 44 [(.t 4)]), o 6 (.mv (.t 5)), og 7 (.faddr 1 (.t 1)) 6 true, og 8 (.load none (.t 7)) 6 true, og 9 (.call 45 [(.t 8)]) 6 true, o 10 (.pick (.t 6) (.t 9) (.c (.bool false))), o 11 (.mv (.t 10)), og 12 (.faddr 2 (.t 1)) 11 true, og 13 (.load none (.t 12)) 11 true, og 14 (.call 45 [(.t 13)]) 11 true, o 15 (.pick (.t 11) (.t 14) (.c (.bool false))), o 2 (.mv (.t 15))])
  (.ret)),
  [.tmp 2]⟩
/- loop.example/g03011/impl.ParseQuery -/
def F19 : Fun := ⟨8,
  .seq (.reg [o 2 (.mv (.c .nsl)), o 3 (.mv (.c (.bool false)))])
  (.seq (.reg [o 4 (.mv (.t 0)), o 5 (.call 46 [(.t 4), (.c (.str [38]))]), o 6 (.extract (.t 5) 0), o 7 (.extract (.t 5) 1), o 2 (.mv (.t 6)), o 3 (.mv (.t 7))])
  (.ret)),
  [.tmp 2, .tmp 3]⟩
/- loop.example/g03011/impl.FormatQuery -/
def F20 : Fun := ⟨5,
  .seq (.reg [o 2 (.mv (.c (.str [])))])
  (.seq (.reg [o 3 (.mv (.t 0)), o 4 (.call 47 [(.t 3), (.c (.str [38]))]), o 2 (.mv (.t 4))])
  (.ret)),
  [.tmp 2]⟩
/- loop.example/g03011/impl.ParseCookies -/
def F21 : Fun := ⟨8,
  .seq (.reg [o 2 (.mv (.c .nsl)), o 3 (.mv (.c (.bool false)))])
  (.seq (.reg [o 4 (.mv (.t 0)), o 5 (.call 46 [(.t 4), (.c (.str [59, 32]))]), o 6 (.extract (.t 5) 0), o 7 (.extract (.t 5) 1), o 2 (.mv (.t 6)), o 3 (.mv (.t 7))])
  (.ret)),
  [.tmp 2, .tmp 3]⟩
/- loop.example/g03011/impl.FormatCookies -/
def F22 : Fun := ⟨5,
  .seq (.reg [o 2 (.mv (.c (.str [])))])
  (.seq (.reg [o 3 (.mv (.t 0)), o 4 (.call 47 [(.t 3), (.c (.str [59, 32]))]), o 2 (.mv (.t 4))])
  (.ret)),
  [.tmp 2]⟩
/- loop.example/g03011/laws.samePairs -/
def F23 : Fun := ⟨26,
  .seq (.reg [o 4 (.mv (.c (.bool false)))])
  (.seq (.seq (.reg [o 6 (.mv (.t 0)), o 7 (.lenL (.t 6)), o 8 (.mv (.t 1)), o 9 (.lenL (.t 8)), o 10 (.bin .neq (.t 7) (.t 9))])
  (.cond (.t 10) (.seq (.reg [o 4 (.mv (.c (.bool false)))])
   (.ret)) (.skip)))
  (.seq (.seq (.reg [o 5 (.mv (.c (.int .i64 0)))])
  (.block 0 (.loop (.seq (.seq (.reg [o 11 (.mv (.t 5)), o 12 (.mv (.t 0)), o 13 (.lenL (.t 12)), o 14 (.bin .lss (.t 11) (.t 13))])
    (.cond (.t 14) (.skip) (.exit 0)))
    (.seq (.block 1 (.seq (.reg [o 17 (.mv (.t 0)), o 18 (.mv (.t 5)), o 19 (.iaddr 2 (.t 17) (.t 18)), o 20 (.load (some 2) (.t 19)), o 21 (.mv (.t 1)), o 22 (.mv (.t 5)), o 23 (.iaddr 2 (.t 21) (.t 22)), o 24 (.load (some 2) (.t 23)), o 25 (.beq true [1, 1] (.t 20) (.t 24))])
     (.cond (.t 25) (.seq (.reg [o 4 (.mv (.c (.bool false)))])
      (.ret)) (.skip))))
    (.reg [o 15 (.mv (.t 5)), o 16 (.bin .add (.t 15) (.c (.int .i64 1))), o 5 (.mv (.t 16))]))))))
  (.seq (.reg [o 4 (.mv (.c (.bool true)))])
  (.ret)))),
  [.tmp 4]⟩
/- loop.example/g03011/spec.AreVars -/
def F24 : Fun := ⟨60,
  .seq (.reg [o 2 (.mv (.c (.bool false)))])
  (.seq (.seq (.reg [o 3 (.mv (.c (.int .i64 0)))])
  (.block 0 (.loop (.seq (.seq (.reg [o 5 (.mv (.t 3)), o 6 (.mv (.t 0)), o 7 (.lenL (.t 6)), o 8 (.bin .lss (.t 5) (.t 7))])
    (.cond (.t 8) (.skip) (.exit 0)))
    (.seq (.block 1 (.seq (.seq (.reg [o 4 (.mv (.c (.int .i64 0)))])
     (.block 2 (.loop (.seq (.seq (.reg [o 11 (.mv (.t 4)), o 12 (.mv (.t 3)), o 13 (.bin .lss (.t 11) (.t 12))])
       (.cond (.t 13) (.skip) (.exit 2)))
       (.seq (.block 3 (.seq (.reg [o 16 (.mv (.t 0)), o 17 (.mv (.t 4)), o 18 (.iaddr 6 (.t 16) (.t 17)), o 19 (.faddr 0 (.t 18)), o 20 (.load none (.t 19)), o 21 (.mv (.t 0)), o 22 (.mv (.t 3)), o 23 (.iaddr 6 (.t 21) (.t 22)), o 24 (.faddr 0 (.t 23)), o 25 (.load none (.t 24)), o 26 (.bin .eql (.t 20) (.t 25))])
        (.cond (.t 26) (.seq (.reg [o 2 (.mv (.c (.bool false)))])
         (.ret)) (.skip))))
       (.reg [o 14 (.mv (.t 4)), o 15 (.bin .add (.t 14) (.c (.int .i64 1))), o 4 (.mv (.t 15))]))))))
     (.seq (.reg [o 27 (.mv (.t 0)), o 28 (.mv (.t 3)), o 29 (.iaddr 6 (.t 27) (.t 28)), o 30 (.faddr 0 (.t 29)), o 31 (.load none (.t 30)), o 32 (.call 48 [(.t 31)]), o 33 (.un .not (.t 32)), o 34 (.mv (.t 33)), og 35 (.mv (.t 0)) 34 false, og 36 (.mv (.t 3)) 34 false, og 37 (.iaddr 6 (.t 35) (.t 36)) 34 false, og 38 (.faddr 0 (.t 37)) 34 false, og 39 (.load none (.t 38)) 34 false, og 40 (.bin .eql (.t 39) (.c (.str [116, 104, 105, 115]))) 34 false, o 41 (.pick (.t 34) (.c (.bool true)) (.t 40)), o 42 (.mv (.t 41)), og 43 (.mv (.t 0)) 42 false, og 44 (.mv (.t 3)) 42 false, og 45 (.iaddr 6 (.t 43) (.t 44)) 42 false, og 46 (.faddr 1 (.t 45)) 42 false, og 47 (.load (some 5) (.t 46)) 42 false, og 48 (.call 49 [(.t 47)]) 42 false, og 49 (.un .not (.t 48)) 42 false, o 50 (.pick (.t 42) (.c (.bool true)) (.t 49)), o 51 (.mv (.t 50)), og 52 (.mv (.t 0)) 51 false, og 53 (.mv (.t 3)) 51 false, og 54 (.iaddr 6 (.t 52) (.t 53)) 51 false, og 55 (.faddr 1 (.t 54)) 51 false, og 56 (.load (some 5) (.t 55)) 51 false, og 57 (.call 50 [(.t 56)]) 51 false, og 58 (.un .not (.t 57)) 51 false, o 59 (.pick (.t 51) (.c (.bool true)) (.t 58))])
     (.cond (.t 59) (.seq (.reg [o 2 (.mv (.c (.bool false)))])
      (.ret)) (.skip)))))
    (.reg [o 9 (.mv (.t 3)), o 10 (.bin .add (.t 9) (.c (.int .i64 1))), o 3 (.mv (.t 10))]))))))
  (.seq (.reg [o 2 (.mv (.c (.bool true)))])
  (.ret))),
  [.tmp 2]⟩
/- loop.example/g03011/spec.GetKey -/
def F25 : Fun := ⟨17,
  .seq (.reg [o 2 (.box 5 (.t 0)), o 3 (.box 3 (.t 1)), o 4 (.new 5 [(.int .i64 0), (.int .i64 0), (.str []), (.int .i64 0), .nsl]), o 5 (.mv (.c (.bool false)))])
  (.seq (.reg [o 9 (.load (some 5) (.t 2)), o 10 (.load (some 3) (.t 3)), o 11 (.call 51 [(.t 9), (.t 10)]), o 8 (.mv (.t 11)), o 12 (.extract (.t 8) 0), o 13 (.extract (.t 8) 1), o 6 (.new 5 [(.int .i64 0), (.int .i64 0), (.str []), (.int .i64 0), .nsl]), st (.store 5 (.t 6) (.t 12)), o 7 (.mv (.t 13))])
  (.seq (.reg [o 14 (.load (some 5) (.t 6)), o 15 (.call 52 [(.t 14)]), o 16 (.mv (.t 7)), st (.store 5 (.t 4) (.t 15)), o 5 (.mv (.t 16))])
  (.ret))),
  [.cell 4 (some 5), .tmp 5]⟩
/- loop.example/g03011/spec.TextKey -/
def F26 : Fun := ⟨15,
  .seq (.reg [o 2 (.new 3 [(.bool false), (.int .i64 0), (.str [])])])
  (.seq (.reg [o 6 (.mv (.t 0)), o 7 (.call 53 [(.t 6)]), o 5 (.mv (.t 7)), o 8 (.extract (.t 5) 0), o 9 (.extract (.t 5) 1), o 3 (.mv (.t 8)), o 4 (.mv (.t 9))])
  (.seq (.seq (.reg [o 10 (.mv (.t 4))])
  (.cond (.t 10) (.seq (.reg [o 11 (.mv (.t 3)), o 12 (.build [(.bool false), (.int .i64 0), (.str [])] [(1, 1, (.t 11))]), st (.store 3 (.t 2) (.t 12))])
   (.ret)) (.skip)))
  (.seq (.reg [o 13 (.mv (.t 0)), o 14 (.build [(.bool false), (.int .i64 0), (.str [])] [(0, 1, (.c (.bool true))), (2, 1, (.t 13))]), st (.store 3 (.t 2) (.t 14))])
  (.ret)))),
  [.cell 2 (some 3)]⟩
/- loop.example/g03011/laws.szPairS -/
def F27 : Fun := ⟨27,
  .seq (.reg [o 4 (.mv (.c (.int .i64 0)))])
  (.seq (.reg [o 6 (.mv (.t 1)), o 7 (.mv (.t 0)), o 8 (.lenL (.t 7)), o 9 (.bin .sub (.t 6) (.t 8)), o 1 (.mv (.t 9))])
  (.seq (.seq (.reg [o 10 (.mv (.t 1)), o 11 (.bin .lss (.t 10) (.c (.int .i64 0)))])
  (.cond (.t 11) (.seq (.reg [o 4 (.mv (.c (.int .i64 (-1))))])
   (.ret)) (.skip)))
  (.seq (.seq (.reg [o 5 (.mv (.c (.int .i64 0)))])
  (.block 0 (.loop (.seq (.seq (.reg [o 12 (.mv (.t 5)), o 13 (.mv (.t 0)), o 14 (.lenL (.t 13)), o 15 (.bin .lss (.t 12) (.t 14))])
    (.cond (.t 15) (.skip) (.exit 0)))
    (.seq (.block 1 (.seq (.reg [o 18 (.mv (.t 0)), o 19 (.mv (.t 5)), o 20 (.iaddr 2 (.t 18) (.t 19)), o 21 (.load (some 2) (.t 20)), o 22 (.mv (.t 1)), o 23 (.call 54 [(.t 21), (.t 22)]), o 1 (.mv (.t 23))])
     (.seq (.reg [o 24 (.mv (.t 1)), o 25 (.bin .lss (.t 24) (.c (.int .i64 0)))])
     (.cond (.t 25) (.seq (.reg [o 4 (.mv (.c (.int .i64 (-1))))])
      (.ret)) (.skip)))))
    (.reg [o 16 (.mv (.t 5)), o 17 (.bin .add (.t 16) (.c (.int .i64 1))), o 5 (.mv (.t 17))]))))))
  (.seq (.reg [o 26 (.mv (.t 1)), o 4 (.mv (.t 26))])
  (.ret))))),
  [.tmp 4]⟩
/- loop.example/g03011/spec.l36Array -/
def F28 : Fun := ⟨27,
  .seq (.reg [o 2 (.new 5 [(.int .i64 0), (.int .i64 0), (.str []), (.int .i64 0), .nsl])])
  (.seq (.reg [o 5 (.call 55 []), o 3 (.new 5 [(.int .i64 0), (.int .i64 0), (.str []), (.int .i64 0), .nsl]), st (.store 5 (.t 3) (.t 5))])
  (.seq (.seq (.reg [o 4 (.mv (.c (.int .i64 0)))])
  (.block 0 (.loop (.seq (.seq (.reg [o 6 (.mv (.t 4)), o 7 (.mv (.t 0)), o 8 (.lenL (.t 7)), o 9 (.bin .lss (.t 6) (.t 8))])
    (.cond (.t 9) (.skip) (.exit 0)))
    (.seq (.block 1 (.reg [o 12 (.load (some 5) (.t 3)), o 13 (.mv (.t 0)), o 14 (.mv (.t 4)), o 15 (.iaddr 2 (.t 13) (.t 14)), o 16 (.faddr 0 (.t 15)), o 17 (.load none (.t 16)), o 19 (.mv (.t 0)), o 20 (.mv (.t 4)), o 21 (.iaddr 2 (.t 19) (.t 20)), o 22 (.faddr 1 (.t 21)), o 23 (.loadC none (.t 22)), o 18 (.call 26 [(.t 17)]), st (.chk (some 5) (.t 3) (.t 12)), o 24 (.call 57 [(.t 23)]), st (.chk (some 5) (.t 3) (.t 12)), o 25 (.call 56 [(.t 12), (.t 18), (.t 24)]), st (.store 5 (.t 3) (.t 25))]))
    (.reg [o 10 (.mv (.t 4)), o 11 (.bin .add (.t 10) (.c (.int .i64 1))), o 4 (.mv (.t 11))]))))))
  (.seq (.reg [o 26 (.load (some 5) (.t 3)), st (.store 5 (.t 2) (.t 26))])
  (.ret)))),
  [.cell 2 (some 5)]⟩
/- loop.example/g03011/laws.toPairS -/
def F29 : Fun := ⟨23,
  .seq (.reg [o 2 (.mv (.c .nsl))])
  (.seq (.reg [o 5 (.mv (.t 0)), o 6 (.lenL (.t 5)), o 7 (.mkslice 2 [(.str []), (.str [])] 32 (.t 6) (.t 6)), o 3 (.mv (.t 7))])
  (.seq (.seq (.reg [o 4 (.mv (.c (.int .i64 0)))])
  (.block 0 (.loop (.seq (.seq (.reg [o 8 (.mv (.t 4)), o 9 (.mv (.t 0)), o 10 (.lenL (.t 9)), o 11 (.bin .lss (.t 8) (.t 10))])
    (.cond (.t 11) (.skip) (.exit 0)))
    (.seq (.block 1 (.reg [o 14 (.mv (.t 3)), o 15 (.mv (.t 4)), o 16 (.mv (.t 0)), o 17 (.mv (.t 4)), o 18 (.iaddr 2 (.t 16) (.t 17)), o 19 (.load (some 2) (.t 18)), o 20 (.call 58 [(.t 19)]), o 21 (.iaddr 2 (.t 14) (.t 15)), st (.store 2 (.t 21) (.t 20))]))
    (.reg [o 12 (.mv (.t 4)), o 13 (.bin .add (.t 12) (.c (.int .i64 1))), o 4 (.mv (.t 13))]))))))
  (.seq (.reg [o 22 (.mv (.t 3)), o 2 (.mv (.t 22))])
  (.ret)))),
  [.tmp 2]⟩
/- loop.example/g03011/impl.IsRequest -/
def F30 : Fun := ⟨16,
  .seq (.reg [o 1 (.box 3 (.t 0)), o 2 (.mv (.c (.bool false)))])
  (.seq (.reg [o 3 (.faddr 0 (.t 1)), o 4 (.load none (.t 3)), o 5 (.call 59 [(.t 4)]), o 6 (.mv (.t 5)), og 7 (.faddr 1 (.t 1)) 6 true, og 8 (.load none (.t 7)) 6 true, og 9 (.call 60 [(.t 8)]) 6 true, o 10 (.pick (.t 6) (.t 9) (.c (.bool false))), o 11 (.mv (.t 10)), og 12 (.faddr 2 (.t 1)) 11 true, og 13 (.load none (.t 12)) 11 true, og 14 (.call 60 [(.t 13)]) 11 true, o 15 (.pick (.t 11) (.t 14) (.c (.bool false))), o 2 (.mv (.t 15))])
  (.ret)),
  [.tmp 2]⟩
/- loop.example/g03011/impl.pairArray -/
def F31 : Fun := ⟨22,
  .seq (.reg [o 2 (.new 5 [(.int .i64 0), (.int .i64 0), (.str []), (.int .i64 0), .nsl])])
  (.seq (.reg [o 6 (.call 61 []), o 3 (.new 5 [(.int .i64 0), (.int .i64 0), (.str []), (.int .i64 0), .nsl]), st (.store 5 (.t 3) (.t 6))])
  (.seq (.seq (.reg [o 7 (.mv (.t 0)), o 8 (.lenL (.t 7)), o 9 (.mv (.c (.int .i64 0)))])
  (.block 0 (.loop (.seq (.reg [o 10 (.bin .lss (.t 9) (.t 8))])
    (.seq (.cond (.t 10) (.skip) (.exit 0))
    (.seq (.block 1 (.seq (.reg [o 11 (.iaddr 2 (.t 7) (.t 9)), o 12 (.load (some 2) (.t 11)), o 5 (.new 2 [(.str []), (.str [])]), st (.store 2 (.t 5) (.t 12))])
     (.reg [o 13 (.faddr 0 (.t 5)), o 14 (.load none (.t 13)), o 16 (.faddr 1 (.t 5)), o 17 (.load none (.t 16)), o 15 (.call 63 [(.t 14)]), st (.chk none (.t 16) (.t 17)), o 18 (.call 64 [(.t 17)]), o 19 (.call 62 [(.t 3), (.t 15), (.t 18)])])))
    (.reg [o 20 (.bin .add (.t 9) (.c (.int .i64 1))), o 9 (.mv (.t 20))])))))))
  (.seq (.reg [o 21 (.load (some 5) (.t 3)), st (.store 5 (.t 2) (.t 21))])
  (.ret)))),
  [.cell 2 (some 5)]⟩
/- loop.example/g03011/laws.eqBinding -/
def F32 : Fun := ⟨16,
  .seq (.reg [o 2 (.box 6 (.t 0)), o 3 (.box 6 (.t 1)), o 4 (.mv (.c (.bool false)))])
  (.seq (.seq (.reg [o 5 (.faddr 0 (.t 2)), o 6 (.load none (.t 5)), o 7 (.faddr 0 (.t 3)), o 8 (.load none (.t 7)), o 9 (.bin .neq (.t 6) (.t 8))])
  (.cond (.t 9) (.seq (.reg [o 4 (.mv (.c (.bool false)))])
   (.ret)) (.skip)))
  (.seq (.seq (.reg [o 10 (.faddr 1 (.t 2)), o 11 (.load (some 5) (.t 10)), o 12 (.faddr 1 (.t 3)), o 13 (.load (some 5) (.t 12)), o 14 (.call 65 [(.t 11), (.t 13)]), o 15 (.un .not (.t 14))])
  (.cond (.t 15) (.seq (.reg [o 4 (.mv (.c (.bool false)))])
   (.ret)) (.skip)))
  (.seq (.reg [o 4 (.mv (.c (.bool true)))])
  (.ret)))),
  [.tmp 4]⟩
/- loop.example/g03011/laws.eqPairS -/
def F33 : Fun := ⟨27,
  .seq (.reg [o 4 (.mv (.c (.bool false)))])
  (.seq (.seq (.reg [o 6 (.mv (.t 0)), o 7 (.lenL (.t 6)), o 8 (.mv (.t 1)), o 9 (.lenL (.t 8)), o 10 (.bin .neq (.t 7) (.t 9))])
  (.cond (.t 10) (.seq (.reg [o 4 (.mv (.c (.bool false)))])
   (.ret)) (.skip)))
  (.seq (.seq (.reg [o 5 (.mv (.c (.int .i64 0)))])
  (.block 0 (.loop (.seq (.seq (.reg [o 11 (.mv (.t 5)), o 12 (.mv (.t 0)), o 13 (.lenL (.t 12)), o 14 (.bin .lss (.t 11) (.t 13))])
    (.cond (.t 14) (.skip) (.exit 0)))
    (.seq (.block 1 (.seq (.reg [o 17 (.mv (.t 0)), o 18 (.mv (.t 5)), o 19 (.iaddr 2 (.t 17) (.t 18)), o 20 (.load (some 2) (.t 19)), o 21 (.mv (.t 1)), o 22 (.mv (.t 5)), o 23 (.iaddr 2 (.t 21) (.t 22)), o 24 (.load (some 2) (.t 23)), o 25 (.callF 66 [(.t 20), (.t 24)]), o 26 (.un .not (.t 25))])
     (.cond (.t 26) (.seq (.reg [o 4 (.mv (.c (.bool false)))])
      (.ret)) (.skip))))
    (.reg [o 15 (.mv (.t 5)), o 16 (.bin .add (.t 15) (.c (.int .i64 1))), o 5 (.mv (.t 16))]))))))
  (.seq (.reg [o 4 (.mv (.c (.bool true)))])
  (.ret)))),
  [.tmp 4]⟩
/- loop.example/g03011/laws.markPairS -/
def F34 : Fun := ⟨29,
  .seq (.reg [o 4 (.mv (.c (.int .i64 0)))])
  (.seq (.seq (.reg [o 5 (.mv (.c (.int .i64 0)))])
  (.block 0 (.loop (.seq (.seq (.reg [o 6 (.mv (.t 5)), o 7 (.mv (.t 0)), o 8 (.lenL (.t 7)), o 9 (.bin .lss (.t 6) (.t 8))])
    (.cond (.t 9) (.skip) (.exit 0)))
    (.seq (.block 1 (.seq (.reg [o 12 (.mv (.t 0)), o 13 (.mv (.t 5)), o 14 (.mv (.t 1)), o 15 (.call 35 [(.t 14)]), o 16 (.iaddr 2 (.t 12) (.t 13)), o 17 (.faddr 0 (.t 16)), st (.store 1 (.t 17) (.t 15))])
     (.seq (.reg [o 18 (.mv (.t 1)), o 19 (.bin .add (.t 18) (.c (.int .i64 1))), o 1 (.mv (.t 19))])
     (.seq (.reg [o 20 (.mv (.t 0)), o 21 (.mv (.t 5)), o 22 (.mv (.t 1)), o 23 (.call 35 [(.t 22)]), o 24 (.iaddr 2 (.t 20) (.t 21)), o 25 (.faddr 1 (.t 24)), st (.store 1 (.t 25) (.t 23))])
     (.reg [o 26 (.mv (.t 1)), o 27 (.bin .add (.t 26) (.c (.int .i64 1))), o 1 (.mv (.t 27))])))))
    (.reg [o 10 (.mv (.t 5)), o 11 (.bin .add (.t 10) (.c (.int .i64 1))), o 5 (.mv (.t 11))]))))))
  (.seq (.reg [o 28 (.mv (.t 1)), o 4 (.mv (.t 28))])
  (.ret))),
  [.tmp 4]⟩
/- loop.example/g03011/laws.markText -/
def F35 : Fun := ⟨20,
  .seq (.reg [o 2 (.mv (.c (.str [])))])
  (.seq (.seq (.reg [o 4 (.mv (.t 0)), o 5 (.bin .leq (.t 4) (.c (.int .i64 0)))])
  (.cond (.t 5) (.seq (.reg [o 2 (.mv (.c (.str [109, 48])))])
   (.ret)) (.skip)))
  (.seq (.reg [o 3 (.mv (.c (.str [])))])
  (.seq (.block 0 (.loop (.seq (.seq (.reg [o 6 (.mv (.t 0)), o 7 (.bin .gtr (.t 6) (.c (.int .i64 0)))])
    (.cond (.t 7) (.skip) (.exit 0)))
    (.block 1 (.seq (.reg [o 8 (.mv (.t 0)), o 9 (.bin .rem (.t 8) (.c (.int .i64 10))), o 10 (.bin .add (.c (.int .i64 48)) (.t 9)), o 11 (.toInt .u8 (.t 10)), o 12 (.bslice 1 [(.int .u8 0)] 1 [(0, (.t 11))]), o 13 (.toStr (.t 12)), o 14 (.mv (.t 3)), o 15 (.bin .add (.t 13) (.t 14)), o 3 (.mv (.t 15))])
     (.reg [o 16 (.mv (.t 0)), o 17 (.bin .quo (.t 16) (.c (.int .i64 10))), o 0 (.mv (.t 17))]))))))
  (.seq (.reg [o 18 (.mv (.t 3)), o 19 (.bin .add (.c (.str [109])) (.t 18)), o 2 (.mv (.t 19))])
  (.ret))))),
  [.tmp 2]⟩
/- loop.example/g03011/laws.markEntryS -/
def F36 : Fun := ⟨81,
  .seq (.reg [o 4 (.mv (.c (.int .i64 0)))])
  (.seq (.seq (.reg [o 5 (.mv (.c (.int .i64 0)))])
  (.block 0 (.loop (.seq (.seq (.reg [o 6 (.mv (.t 5)), o 7 (.mv (.t 0)), o 8 (.lenL (.t 7)), o 9 (.bin .lss (.t 6) (.t 8))])
    (.cond (.t 9) (.skip) (.exit 0)))
    (.seq (.block 1 (.seq (.reg [o 12 (.mv (.t 0)), o 13 (.mv (.t 5)), o 14 (.mv (.t 1)), o 15 (.bin .rem (.t 14) (.c (.int .i64 3))), o 16 (.bin .eql (.t 15) (.c (.int .i64 0))), o 17 (.iaddr 8 (.t 12) (.t 13)), o 18 (.faddr 0 (.t 17)), o 19 (.faddr 0 (.t 18)), st (.store 1 (.t 19) (.t 16))])
     (.seq (.reg [o 20 (.mv (.t 1)), o 21 (.bin .add (.t 20) (.c (.int .i64 1))), o 1 (.mv (.t 21))])
     (.seq (.reg [o 22 (.mv (.t 0)), o 23 (.mv (.t 5)), o 24 (.mv (.t 1)), o 25 (.iaddr 8 (.t 22) (.t 23)), o 26 (.faddr 0 (.t 25)), o 27 (.faddr 1 (.t 26)), st (.store 1 (.t 27) (.t 24))])
     (.seq (.reg [o 28 (.mv (.t 1)), o 29 (.bin .add (.t 28) (.c (.int .i64 1))), o 1 (.mv (.t 29))])
     (.seq (.reg [o 30 (.mv (.t 0)), o 31 (.mv (.t 5)), o 32 (.mv (.t 1)), o 33 (.call 35 [(.t 32)]), o 34 (.iaddr 8 (.t 30) (.t 31)), o 35 (.faddr 0 (.t 34)), o 36 (.faddr 2 (.t 35)), st (.store 1 (.t 36) (.t 33))])
     (.seq (.reg [o 37 (.mv (.t 1)), o 38 (.bin .add (.t 37) (.c (.int .i64 1))), o 1 (.mv (.t 38))])
     (.seq (.reg [o 39 (.mv (.t 0)), o 40 (.mv (.t 5)), o 41 (.mv (.t 1)), o 42 (.iaddr 8 (.t 39) (.t 40)), o 43 (.faddr 3 (.t 42)), o 44 (.faddr 0 (.t 43)), st (.store 1 (.t 44) (.t 41))])
     (.seq (.reg [o 45 (.mv (.t 1)), o 46 (.bin .add (.t 45) (.c (.int .i64 1))), o 1 (.mv (.t 46))])
     (.seq (.reg [o 47 (.mv (.t 0)), o 48 (.mv (.t 5)), o 49 (.mv (.t 1)), o 50 (.iaddr 8 (.t 47) (.t 48)), o 51 (.faddr 3 (.t 50)), o 52 (.faddr 1 (.t 51)), st (.store 1 (.t 52) (.t 49))])
     (.seq (.reg [o 53 (.mv (.t 1)), o 54 (.bin .add (.t 53) (.c (.int .i64 1))), o 1 (.mv (.t 54))])
     (.seq (.reg [o 55 (.mv (.t 0)), o 56 (.mv (.t 5)), o 57 (.mv (.t 1)), o 58 (.call 35 [(.t 57)]), o 59 (.iaddr 8 (.t 55) (.t 56)), o 60 (.faddr 3 (.t 59)), o 61 (.faddr 2 (.t 60)), st (.store 1 (.t 61) (.t 58))])
     (.seq (.reg [o 62 (.mv (.t 1)), o 63 (.bin .add (.t 62) (.c (.int .i64 1))), o 1 (.mv (.t 63))])
     (.seq (.reg [o 64 (.mv (.t 0)), o 65 (.mv (.t 5)), o 66 (.mv (.t 1)), o 67 (.iaddr 8 (.t 64) (.t 65)), o 68 (.faddr 3 (.t 67)), o 69 (.faddr 3 (.t 68)), st (.store 1 (.t 69) (.t 66))])
     (.seq (.reg [o 70 (.mv (.t 1)), o 71 (.bin .add (.t 70) (.c (.int .i64 1))), o 1 (.mv (.t 71))])
     (.reg [o 72 (.mv (.t 0)), o 73 (.mv (.t 5)), o 74 (.iaddr 8 (.t 72) (.t 73)), o 75 (.faddr 3 (.t 74)), o 76 (.faddr 4 (.t 75)), o 77 (.load none (.t 76)), o 78 (.mv (.t 1)), o 79 (.call 36 [(.t 77), (.t 78)]), o 1 (.mv (.t 79))]))))))))))))))))
    (.reg [o 10 (.mv (.t 5)), o 11 (.bin .add (.t 10) (.c (.int .i64 1))), o 5 (.mv (.t 11))]))))))
  (.seq (.reg [o 80 (.mv (.t 1)), o 4 (.mv (.t 80))])
  (.ret))),
  [.tmp 4]⟩
/- loop.example/g03011/laws.heldEntryS -/
def F37 : Fun := ⟨97,
  .seq (.reg [o 4 (.mv (.c (.int .i64 0)))])
  (.seq (.seq (.reg [o 5 (.mv (.c (.int .i64 0)))])
  (.block 0 (.loop (.seq (.seq (.reg [o 6 (.mv (.t 5)), o 7 (.mv (.t 0)), o 8 (.lenL (.t 7)), o 9 (.bin .lss (.t 6) (.t 8))])
    (.cond (.t 9) (.skip) (.exit 0)))
    (.seq (.block 1 (.seq (.seq (.reg [o 12 (.mv (.t 0)), o 13 (.mv (.t 5)), o 14 (.iaddr 8 (.t 12) (.t 13)), o 15 (.faddr 0 (.t 14)), o 16 (.faddr 0 (.t 15)), o 17 (.load none (.t 16)), o 18 (.mv (.t 1)), o 19 (.bin .rem (.t 18) (.c (.int .i64 3))), o 20 (.bin .eql (.t 19) (.c (.int .i64 0))), o 21 (.binb .neq (.t 17) (.t 20))])
     (.cond (.t 21) (.seq (.reg [o 4 (.mv (.c (.int .i64 (-1))))])
      (.ret)) (.skip)))
     (.seq (.reg [o 22 (.mv (.t 1)), o 23 (.bin .add (.t 22) (.c (.int .i64 1))), o 1 (.mv (.t 23))])
     (.seq (.seq (.reg [o 24 (.mv (.t 0)), o 25 (.mv (.t 5)), o 26 (.iaddr 8 (.t 24) (.t 25)), o 27 (.faddr 0 (.t 26)), o 28 (.faddr 1 (.t 27)), o 29 (.load none (.t 28)), o 30 (.mv (.t 1)), o 31 (.bin .neq (.t 29) (.t 30))])
     (.cond (.t 31) (.seq (.reg [o 4 (.mv (.c (.int .i64 (-1))))])
      (.ret)) (.skip)))
     (.seq (.reg [o 32 (.mv (.t 1)), o 33 (.bin .add (.t 32) (.c (.int .i64 1))), o 1 (.mv (.t 33))])
     (.seq (.seq (.reg [o 34 (.mv (.t 0)), o 35 (.mv (.t 5)), o 36 (.iaddr 8 (.t 34) (.t 35)), o 37 (.faddr 0 (.t 36)), o 38 (.faddr 2 (.t 37)), o 39 (.load none (.t 38)), o 40 (.mv (.t 1)), o 41 (.callF 35 [(.t 40)]), o 42 (.bin .neq (.t 39) (.t 41))])
     (.cond (.t 42) (.seq (.reg [o 4 (.mv (.c (.int .i64 (-1))))])
      (.ret)) (.skip)))
     (.seq (.reg [o 43 (.mv (.t 1)), o 44 (.bin .add (.t 43) (.c (.int .i64 1))), o 1 (.mv (.t 44))])
     (.seq (.seq (.reg [o 45 (.mv (.t 0)), o 46 (.mv (.t 5)), o 47 (.iaddr 8 (.t 45) (.t 46)), o 48 (.faddr 3 (.t 47)), o 49 (.faddr 0 (.t 48)), o 50 (.load none (.t 49)), o 51 (.mv (.t 1)), o 52 (.bin .neq (.t 50) (.t 51))])
     (.cond (.t 52) (.seq (.reg [o 4 (.mv (.c (.int .i64 (-1))))])
      (.ret)) (.skip)))
     (.seq (.reg [o 53 (.mv (.t 1)), o 54 (.bin .add (.t 53) (.c (.int .i64 1))), o 1 (.mv (.t 54))])
     (.seq (.seq (.reg [o 55 (.mv (.t 0)), o 56 (.mv (.t 5)), o 57 (.iaddr 8 (.t 55) (.t 56)), o 58 (.faddr 3 (.t 57)), o 59 (.faddr 1 (.t 58)), o 60 (.load none (.t 59)), o 61 (.mv (.t 1)), o 62 (.bin .neq (.t 60) (.t 61))])
     (.cond (.t 62) (.seq (.reg [o 4 (.mv (.c (.int .i64 (-1))))])
      (.ret)) (.skip)))
     (.seq (.reg [o 63 (.mv (.t 1)), o 64 (.bin .add (.t 63) (.c (.int .i64 1))), o 1 (.mv (.t 64))])
     (.seq (.seq (.reg [o 65 (.mv (.t 0)), o 66 (.mv (.t 5)), o 67 (.iaddr 8 (.t 65) (.t 66)), o 68 (.faddr 3 (.t 67)), o 69 (.faddr 2 (.t 68)), o 70 (.load none (.t 69)), o 71 (.mv (.t 1)), o 72 (.callF 35 [(.t 71)]), o 73 (.bin .neq (.t 70) (.t 72))])
     (.cond (.t 73) (.seq (.reg [o 4 (.mv (.c (.int .i64 (-1))))])
      (.ret)) (.skip)))
     (.seq (.reg [o 74 (.mv (.t 1)), o 75 (.bin .add (.t 74) (.c (.int .i64 1))), o 1 (.mv (.t 75))])
     (.seq (.seq (.reg [o 76 (.mv (.t 0)), o 77 (.mv (.t 5)), o 78 (.iaddr 8 (.t 76) (.t 77)), o 79 (.faddr 3 (.t 78)), o 80 (.faddr 3 (.t 79)), o 81 (.load none (.t 80)), o 82 (.mv (.t 1)), o 83 (.bin .neq (.t 81) (.t 82))])
     (.cond (.t 83) (.seq (.reg [o 4 (.mv (.c (.int .i64 (-1))))])
      (.ret)) (.skip)))
     (.seq (.reg [o 84 (.mv (.t 1)), o 85 (.bin .add (.t 84) (.c (.int .i64 1))), o 1 (.mv (.t 85))])
     (.seq (.reg [o 86 (.mv (.t 0)), o 87 (.mv (.t 5)), o 88 (.iaddr 8 (.t 86) (.t 87)), o 89 (.faddr 3 (.t 88)), o 90 (.faddr 4 (.t 89)), o 91 (.load none (.t 90)), o 92 (.mv (.t 1)), o 93 (.call 37 [(.t 91), (.t 92)]), o 1 (.mv (.t 93))])
     (.seq (.reg [o 94 (.mv (.t 1)), o 95 (.bin .lss (.t 94) (.c (.int .i64 0)))])
     (.cond (.t 95) (.seq (.reg [o 4 (.mv (.c (.int .i64 (-1))))])
      (.ret)) (.skip)))))))))))))))))))
    (.reg [o 10 (.mv (.t 5)), o 11 (.bin .add (.t 10) (.c (.int .i64 1))), o 5 (.mv (.t 11))]))))))
  (.seq (.reg [o 96 (.mv (.t 1)), o 4 (.mv (.t 96))])
  (.ret))),
  [.tmp 4]⟩
/- loop.example/g03011/spec.l1New -/
def F38 : Fun := ⟨32,
  .seq (.reg [o 2 (.mv (.c .nptr))])
  (.seq (.reg [o 5 (.mv (.t 0)), o 6 (.lenL (.t 5)), o 7 (.bin .add (.c (.int .i64 193017)) (.t 6)), o 3 (.mv (.t 7))])
  (.seq (.seq (.reg [o 4 (.mv (.c (.int .i64 0)))])
  (.block 0 (.loop (.seq (.seq (.reg [o 8 (.mv (.t 4)), o 9 (.mv (.t 0)), o 10 (.lenL (.t 9)), o 11 (.bin .lss (.t 8) (.t 10)), o 12 (.mv (.t 11)), og 13 (.mv (.t 4)) 12 true, og 14 (.bin .lss (.t 13) (.c (.int .i64 4000))) 12 true, o 15 (.pick (.t 12) (.t 14) (.c (.bool false)))])
    (.cond (.t 15) (.skip) (.exit 0)))
    (.seq (.block 1 (.reg [o 18 (.mv (.t 3)), o 19 (.bin .mul (.t 18) (.c (.int .i64 137))), o 20 (.mv (.t 0)), o 21 (.mv (.t 4)), o 22 (.iaddr 1 (.t 20) (.t 21)), o 23 (.load none (.t 22)), o 24 (.toInt .i64 (.t 23)), o 25 (.bin .add (.t 19) (.t 24)), o 26 (.bin .add (.t 25) (.c (.int .i64 11))), o 27 (.bin .and (.t 26) (.c (.int .i64 1073741823))), o 3 (.mv (.t 27))]))
    (.reg [o 16 (.mv (.t 4)), o 17 (.bin .add (.t 16) (.c (.int .i64 1))), o 4 (.mv (.t 17))]))))))
  (.seq (.reg [o 28 (.mv (.t 0)), o 29 (.mv (.t 3)), o 30 (.build [.nsl, (.int .i64 0), (.int .i64 0)] [(0, 1, (.t 28)), (2, 1, (.t 29))]), o 31 (.box 3 (.t 30)), o 2 (.mv (.t 31))])
  (.ret)))),
  [.tmp 2]⟩
/- loop.example/g03011/spec.l36Request -/
def F39 : Fun := ⟨28,
  .seq (.reg [o 2 (.new 3 [(.str []), .nsl, .nsl])])
  (.seq (.reg [o 4 (.mv (.t 0)), o 5 (.bslice 1 [(.str [])] 4 [(0, (.c (.str [109, 97, 105, 110]))), (1, (.c (.str [118, 105, 101, 119]))), (2, (.c (.str [108, 105, 98, 47, 97]))), (3, (.c (.str [110, 111, 110, 101])))]), o 6 (.call 67 [(.t 4), (.t 5)]), o 7 (.mv (.t 0)), o 8 (.call 68 [(.t 7)]), o 9 (.mv (.t 0)), o 10 (.call 68 [(.t 9)]), o 11 (.build [(.str []), .nsl, .nsl] [(0, 1, (.t 6)), (1, 1, (.t 8)), (2, 1, (.t 10))]), o 3 (.new 3 [(.str []), .nsl, .nsl]), st (.store 3 (.t 3) (.t 11))])
  (.seq (.seq (.reg [o 12 (.mv (.t 0)), o 13 (.call 69 [(.t 12), (.c (.int .i64 16))])])
  (.block 0 (.seq (.reg [o 15 (.bin .eql (.t 13) (.c (.int .i64 0))), o 14 (.mv (.t 15))])
   (.cond (.t 14) (.reg [o 16 (.mv (.t 0)), o 17 (.call 70 [(.t 16)]), o 18 (.faddr 0 (.t 3)), st (.store 1 (.t 18) (.t 17))]) (.seq (.reg [o 20 (.bin .eql (.t 13) (.c (.int .i64 1))), o 19 (.mv (.t 20))])
    (.cond (.t 19) (.reg [o 21 (.faddr 1 (.t 3)), o 22 (.load none (.t 21)), o 23 (.build [(.str []), (.str [])] [(0, 1, (.c (.str [48, 49, 50, 51, 52, 53, 54, 55, 56, 57, 48, 49, 50, 51, 52, 53, 54, 55, 56, 57, 48, 49, 50, 51, 52, 53, 54, 55, 56, 57, 48, 49, 50, 51, 52, 53, 54, 55, 56, 57, 48, 49, 50, 51, 52, 53, 54, 55, 56, 57, 48, 49, 50, 51, 52, 53, 54, 55, 56, 57, 48])))]), o 24 (.bslice 2 [(.str []), (.str [])] 1 [(0, (.t 23))]), o 25 (.append 2 32 (.t 22) (.t 24)), o 26 (.faddr 1 (.t 3)), st (.store 1 (.t 26) (.t 25))]) (.skip)))))))
  (.seq (.reg [o 27 (.load (some 3) (.t 3)), st (.store 3 (.t 2) (.t 27))])
  (.ret)))),
  [.cell 2 (some 3)]⟩
/- strings.Cut -/
def F40 : Fun := ⟨13,
  .seq (.reg [o 4 (.mv (.c (.str []))), o 5 (.mv (.c (.str []))), o 6 (.mv (.c (.bool false)))])
  (.seq (.reg [o 7 (.mv (.t 0)), o 8 (.mv (.t 1)), o 9 (.call 71 [(.t 7), (.t 8)]), o 10 (.extract (.t 9) 0), o 11 (.extract (.t 9) 1), o 12 (.extract (.t 9) 2), o 4 (.mv (.t 10)), o 5 (.mv (.t 11)), o 6 (.mv (.t 12))])
  (.ret)),
  [.tmp 4, .tmp 5, .tmp 6]⟩
/- strings.CutPrefix -/
def F41 : Fun := ⟨11,
  .seq (.reg [o 4 (.mv (.c (.str []))), o 5 (.mv (.c (.bool false)))])
  (.seq (.reg [o 6 (.mv (.t 0)), o 7 (.mv (.t 1)), o 8 (.call 72 [(.t 6), (.t 7)]), o 9 (.extract (.t 8) 0), o 10 (.extract (.t 8) 1), o 4 (.mv (.t 9)), o 5 (.mv (.t 10))])
  (.ret)),
  [.tmp 4, .tmp 5]⟩
/- strings.CutSuffix -/
def F42 : Fun := ⟨11,
  .seq (.reg [o 4 (.mv (.c (.str []))), o 5 (.mv (.c (.bool false)))])
  (.seq (.reg [o 6 (.mv (.t 0)), o 7 (.mv (.t 1)), o 8 (.call 73 [(.t 6), (.t 7)]), o 9 (.extract (.t 8) 0), o 10 (.extract (.t 8) 1), o 4 (.mv (.t 9)), o 5 (.mv (.t 10))])
  (.ret)),
  [.tmp 4, .tmp 5]⟩
/- loop.example/g03011/impl.NormalPath -/
def F43 : Fun := ⟨26,
  .seq (.reg [o 2 (.mv (.c (.str []))), o 3 (.mv (.c (.bool false)))])
  (.seq (.seq (.reg [o 7 (.mv (.t 0)), o 8 (.lenS (.t 7)), o 9 (.bin .gtr (.t 8) (.c (.int .i64 400)))])
  (.cond (.t 9) (.seq (.reg [o 2 (.mv (.c (.str []))), o 3 (.mv (.c (.bool false)))])
   (.ret)) (.skip)))
  (.seq (.reg [o 11 (.mv (.t 0)), o 12 (.call 74 [(.t 11)]), o 10 (.mv (.t 12)), o 13 (.extract (.t 10) 0), o 14 (.extract (.t 10) 1), o 4 (.mv (.t 13)), o 5 (.mv (.t 14))])
  (.seq (.reg [o 15 (.mv (.t 4)), o 16 (.call 75 [(.t 15), (.c (.str [47]))]), o 6 (.mv (.t 16))])
  (.seq (.seq (.reg [o 17 (.mv (.t 5)), o 18 (.un .not (.t 17)), o 19 (.mv (.t 18)), og 20 (.mv (.t 6)) 19 false, og 21 (.lenS (.t 20)) 19 false, og 22 (.call 76 [(.t 21), (.c (.int .i64 1)), (.c (.int .i64 60))]) 19 false, og 23 (.un .not (.t 22)) 19 false, o 24 (.pick (.t 19) (.c (.bool true)) (.t 23))])
  (.cond (.t 24) (.seq (.reg [o 2 (.mv (.c (.str []))), o 3 (.mv (.c (.bool false)))])
   (.ret)) (.skip)))
  (.seq (.reg [o 25 (.mv (.t 6)), o 2 (.mv (.t 25)), o 3 (.mv (.c (.bool true)))])
  (.ret)))))),
  [.tmp 2, .tmp 3]⟩
/- loop.example/g03011/spec.IsNormal -/
def F44 : Fun := ⟨16,
  .seq (.reg [o 2 (.mv (.c (.bool false)))])
  (.seq (.reg [o 6 (.mv (.t 0)), o 7 (.call 77 [(.t 6)]), o 5 (.mv (.t 7)), o 8 (.extract (.t 5) 0), o 9 (.extract (.t 5) 1), o 3 (.mv (.t 8)), o 4 (.mv (.t 9))])
  (.seq (.reg [o 10 (.mv (.t 4)), o 11 (.mv (.t 10)), og 12 (.mv (.t 3)) 11 true, og 13 (.mv (.t 0)) 11 true, og 14 (.bin .eql (.t 12) (.t 13)) 11 true, o 15 (.pick (.t 11) (.t 14) (.c (.bool false))), o 2 (.mv (.t 15))])
  (.ret))),
  [.tmp 2]⟩
/- loop.example/g03011/spec.l36Pairs -/
def F45 : Fun := ⟨29,
  .seq (.reg [o 2 (.mv (.c (.bool false)))])
  (.seq (.seq (.reg [o 3 (.mv (.c (.int .i64 0)))])
  (.block 0 (.loop (.seq (.seq (.reg [o 4 (.mv (.t 3)), o 5 (.mv (.t 0)), o 6 (.lenL (.t 5)), o 7 (.bin .lss (.t 4) (.t 6))])
    (.cond (.t 7) (.skip) (.exit 0)))
    (.seq (.block 1 (.seq (.reg [o 10 (.mv (.t 0)), o 11 (.mv (.t 3)), o 12 (.iaddr 2 (.t 10) (.t 11)), o 13 (.faddr 0 (.t 12)), o 14 (.load none (.t 13)), o 15 (.lenS (.t 14)), o 16 (.bin .gtr (.t 15) (.c (.int .i64 60))), o 17 (.mv (.t 16)), og 18 (.mv (.t 0)) 17 false, og 19 (.mv (.t 3)) 17 false, og 20 (.iaddr 2 (.t 18) (.t 19)) 17 false, og 21 (.faddr 1 (.t 20)) 17 false, og 22 (.load none (.t 21)) 17 false, og 23 (.lenS (.t 22)) 17 false, og 24 (.bin .gtr (.t 23) (.c (.int .i64 60))) 17 false, o 25 (.pick (.t 17) (.c (.bool true)) (.t 24))])
     (.cond (.t 25) (.seq (.reg [o 2 (.mv (.c (.bool false)))])
      (.ret)) (.skip))))
    (.reg [o 8 (.mv (.t 3)), o 9 (.bin .add (.t 8) (.c (.int .i64 1))), o 3 (.mv (.t 9))]))))))
  (.seq (.reg [o 26 (.mv (.t 0)), o 27 (.lenL (.t 26)), o 28 (.bin .leq (.t 27) (.c (.int .i64 12))), o 2 (.mv (.t 28))])
  (.ret))),
  [.tmp 2]⟩
/- loop.example/g03011/impl.parsePairs -/
def F46 : Fun := ⟨61,
  .seq (.reg [o 4 (.mv (.c .nsl)), o 5 (.mv (.c (.bool false)))])
  (.seq (.reg [o 16 (.bslice 2 [(.str []), (.str [])] 0 []), o 6 (.mv (.t 16))])
  (.seq (.seq (.reg [o 17 (.mv (.t 0)), o 18 (.bin .eql (.t 17) (.c (.str [])))])
  (.cond (.t 18) (.seq (.reg [o 19 (.mv (.t 6)), o 4 (.mv (.t 19)), o 5 (.mv (.c (.bool true)))])
   (.ret)) (.skip)))
  (.seq (.seq (.reg [o 20 (.mv (.t 0)), o 21 (.mv (.t 1)), o 22 (.call 78 [(.t 20), (.t 21)]), o 23 (.lenL (.t 22)), o 24 (.mv (.c (.int .i64 0)))])
  (.block 0 (.loop (.seq (.reg [o 25 (.bin .lss (.t 24) (.t 23))])
    (.seq (.cond (.t 25) (.skip) (.exit 0))
    (.seq (.block 1 (.seq (.reg [o 26 (.iaddr 1 (.t 22) (.t 24)), o 27 (.load none (.t 26)), o 8 (.mv (.t 27))])
     (.seq (.reg [o 29 (.mv (.t 8)), o 30 (.call 40 [(.t 29), (.c (.str [61]))]), o 28 (.mv (.t 30)), o 31 (.extract (.t 28) 0), o 32 (.extract (.t 28) 1), o 33 (.extract (.t 28) 2), o 9 (.mv (.t 31)), o 10 (.mv (.t 32)), o 11 (.mv (.t 33))])
     (.seq (.reg [o 35 (.mv (.t 9)), o 36 (.call 79 [(.t 35)]), o 34 (.mv (.t 36)), o 37 (.extract (.t 34) 0), o 38 (.extract (.t 34) 1), o 12 (.mv (.t 37)), o 13 (.mv (.t 38))])
     (.seq (.reg [o 40 (.mv (.t 10)), o 41 (.call 79 [(.t 40)]), o 39 (.mv (.t 41)), o 42 (.extract (.t 39) 0), o 43 (.extract (.t 39) 1), o 14 (.mv (.t 42)), o 15 (.mv (.t 43))])
     (.seq (.seq (.reg [o 44 (.mv (.t 13)), o 45 (.un .not (.t 44)), o 46 (.mv (.t 45)), og 47 (.mv (.t 15)) 46 false, og 48 (.un .not (.t 47)) 46 false, o 49 (.pick (.t 46) (.c (.bool true)) (.t 48))])
     (.cond (.t 49) (.seq (.reg [o 4 (.mv (.c .nsl)), o 5 (.mv (.c (.bool false)))])
      (.ret)) (.skip)))
     (.reg [o 50 (.mv (.t 6)), o 51 (.mv (.t 12)), o 52 (.mv (.t 14)), o 53 (.build [(.str []), (.str [])] [(0, 1, (.t 51)), (1, 1, (.t 52))]), o 54 (.bslice 2 [(.str []), (.str [])] 1 [(0, (.t 53))]), o 55 (.append 2 32 (.t 50) (.t 54)), o 6 (.mv (.t 55))])))))))
    (.reg [o 56 (.bin .add (.t 24) (.c (.int .i64 1))), o 24 (.mv (.t 56))])))))))
  (.seq (.seq (.reg [o 57 (.mv (.t 6)), o 58 (.call 60 [(.t 57)]), o 59 (.un .not (.t 58))])
  (.cond (.t 59) (.seq (.reg [o 4 (.mv (.c .nsl)), o 5 (.mv (.c (.bool false)))])
   (.ret)) (.skip)))
  (.seq (.reg [o 60 (.mv (.t 6)), o 4 (.mv (.t 60)), o 5 (.mv (.c (.bool true)))])
  (.ret)))))),
  [.tmp 4, .tmp 5]⟩
/- loop.example/g03011/impl.formatPairs -/
def F47 : Fun := ⟨30,
  .seq (.reg [o 4 (.mv (.c (.str [])))])
  (.seq (.reg [o 8 (.bslice 1 [(.str [])] 0 []), o 5 (.mv (.t 8))])
  (.seq (.seq (.reg [o 9 (.mv (.t 0)), o 10 (.lenL (.t 9)), o 11 (.mv (.c (.int .i64 0)))])
  (.block 0 (.loop (.seq (.reg [o 12 (.bin .lss (.t 11) (.t 10))])
    (.seq (.cond (.t 12) (.skip) (.exit 0))
    (.seq (.block 1 (.seq (.reg [o 13 (.iaddr 2 (.t 9) (.t 11)), o 14 (.load (some 2) (.t 13)), o 7 (.new 2 [(.str []), (.str [])]), st (.store 2 (.t 7) (.t 14))])
     (.reg [o 15 (.mv (.t 5)), o 16 (.faddr 0 (.t 7)), o 17 (.load none (.t 16)), o 18 (.callF 80 [(.t 17)]), o 19 (.bin .add (.t 18) (.c (.str [61]))), o 20 (.faddr 1 (.t 7)), o 21 (.load none (.t 20)), o 22 (.callF 80 [(.t 21)]), o 23 (.bin .add (.t 19) (.t 22)), o 24 (.bslice 1 [(.str [])] 1 [(0, (.t 23))]), o 25 (.append 1 16 (.t 15) (.t 24)), o 5 (.mv (.t 25))])))
    (.reg [o 26 (.bin .add (.t 11) (.c (.int .i64 1))), o 11 (.mv (.t 26))])))))))
  (.seq (.reg [o 27 (.mv (.t 5)), o 28 (.mv (.t 1)), o 29 (.call 75 [(.t 27), (.t 28)]), o 4 (.mv (.t 29))])
  (.ret)))),
  [.tmp 4]⟩
/- loop.example/g03011/spec.l15Name -/
def F48 : Fun := ⟨10,
  .seq (.reg [o 2 (.mv (.c (.bool false)))])
  (.seq (.reg [o 3 (.mv (.t 0)), o 4 (.call 81 [(.t 3)]), o 5 (.mv (.t 4)), og 6 (.mv (.t 0)) 5 true, og 7 (.call 82 [(.t 6)]) 5 true, og 8 (.un .not (.t 7)) 5 true, o 9 (.pick (.t 5) (.t 8) (.c (.bool false))), o 2 (.mv (.t 9))])
  (.ret)),
  [.tmp 2]⟩
/- loop.example/g03011/spec.IsValue -/
def F49 : Fun := ⟨10,
  .seq (.reg [o 1 (.box 5 (.t 0)), o 2 (.mv (.c (.bool false)))])
  (.seq (.reg [o 3 (.load (some 5) (.t 1)), o 4 (.call 83 [(.t 3), (.c (.int .i64 200))]), o 5 (.bin .leq (.t 4) (.c (.int .i64 200))), o 6 (.mv (.t 5)), og 7 (.load (some 5) (.t 1)) 6 true, og 8 (.call 84 [(.t 7)]) 6 true, o 9 (.pick (.t 6) (.t 8) (.c (.bool false))), o 2 (.mv (.t 9))])
  (.ret)),
  [.tmp 2]⟩
/- loop.example/g03011/spec.IsPlain -/
def F50 : Fun := ⟨25,
  .seq (.reg [o 1 (.box 5 (.t 0)), o 2 (.mv (.c (.bool false)))])
  (.seq (.seq (.reg [o 4 (.faddr 0 (.t 1)), o 5 (.load none (.t 4)), o 6 (.bin .neq (.t 5) (.c (.int .i64 4)))])
  (.cond (.t 6) (.seq (.reg [o 7 (.faddr 0 (.t 1)), o 8 (.load none (.t 7)), o 9 (.call 85 [(.t 8), (.c (.int .i64 0)), (.c (.int .i64 3))]), o 2 (.mv (.t 9))])
   (.ret)) (.skip)))
  (.seq (.seq (.reg [o 3 (.mv (.c (.int .i64 0)))])
  (.block 0 (.loop (.seq (.seq (.reg [o 10 (.mv (.t 3)), o 11 (.faddr 4 (.t 1)), o 12 (.load none (.t 11)), o 13 (.lenL (.t 12)), o 14 (.bin .lss (.t 10) (.t 13))])
    (.cond (.t 14) (.skip) (.exit 0)))
    (.seq (.block 1 (.seq (.reg [o 17 (.faddr 4 (.t 1)), o 18 (.load none (.t 17)), o 19 (.mv (.t 3)), o 20 (.iaddr 8 (.t 18) (.t 19)), o 21 (.faddr 3 (.t 20)), o 22 (.load (some 5) (.t 21)), o 23 (.call 50 [(.t 22)]), o 24 (.un .not (.t 23))])
     (.cond (.t 24) (.seq (.reg [o 2 (.mv (.c (.bool false)))])
      (.ret)) (.skip))))
    (.reg [o 15 (.mv (.t 3)), o 16 (.bin .add (.t 15) (.c (.int .i64 1))), o 3 (.mv (.t 16))]))))))
  (.seq (.reg [o 2 (.mv (.c (.bool true)))])
  (.ret)))),
  [.tmp 2]⟩
/- loop.example/g03011/spec.l6Get -/
def F51 : Fun := ⟨19,
  .seq (.reg [o 2 (.box 5 (.t 0)), o 3 (.box 3 (.t 1)), o 4 (.new 5 [(.int .i64 0), (.int .i64 0), (.str []), (.int .i64 0), .nsl]), o 5 (.mv (.c (.bool false)))])
  (.seq (.reg [o 7 (.load (some 5) (.t 2)), o 8 (.load (some 3) (.t 3)), o 9 (.call 86 [(.t 7), (.t 8)]), o 6 (.mv (.t 9))])
  (.seq (.seq (.reg [o 10 (.mv (.t 6)), o 11 (.bin .lss (.t 10) (.c (.int .i64 0)))])
  (.cond (.t 11) (.seq (.reg [o 12 (.build [(.int .i64 0), (.int .i64 0), (.str []), (.int .i64 0), .nsl] []), st (.store 5 (.t 4) (.t 12)), o 5 (.mv (.c (.bool false)))])
   (.ret)) (.skip)))
  (.seq (.reg [o 13 (.faddr 4 (.t 2)), o 14 (.load none (.t 13)), o 15 (.mv (.t 6)), o 16 (.iaddr 8 (.t 14) (.t 15)), o 17 (.faddr 3 (.t 16)), o 18 (.load (some 5) (.t 17)), st (.store 5 (.t 4) (.t 18)), o 5 (.mv (.c (.bool true)))])
  (.ret)))),
  [.cell 4 (some 5), .tmp 5]⟩
/- loop.example/g03011/spec.l5Copy -/
def F52 : Fun := ⟨34,
  .seq (.reg [o 1 (.box 5 (.t 0)), o 2 (.new 5 [(.int .i64 0), (.int .i64 0), (.str []), (.int .i64 0), .nsl])])
  (.seq (.reg [o 5 (.load (some 5) (.t 1)), o 3 (.new 5 [(.int .i64 0), (.int .i64 0), (.str []), (.int .i64 0), .nsl]), st (.store 5 (.t 3) (.t 5))])
  (.seq (.reg [o 6 (.faddr 4 (.t 3)), st (.store 1 (.t 6) (.c .nsl))])
  (.seq (.seq (.reg [o 4 (.mv (.c (.int .i64 0)))])
  (.block 0 (.loop (.seq (.seq (.reg [o 7 (.mv (.t 4)), o 8 (.faddr 4 (.t 1)), o 9 (.load none (.t 8)), o 10 (.lenL (.t 9)), o 11 (.bin .lss (.t 7) (.t 10))])
    (.cond (.t 11) (.skip) (.exit 0)))
    (.seq (.block 1 (.reg [o 14 (.faddr 4 (.t 3)), o 15 (.load none (.t 14)), o 16 (.faddr 4 (.t 1)), o 17 (.load none (.t 16)), o 18 (.mv (.t 4)), o 19 (.iaddr 8 (.t 17) (.t 18)), o 20 (.faddr 0 (.t 19)), o 21 (.loadC (some 3) (.t 20)), o 22 (.faddr 4 (.t 1)), o 23 (.load none (.t 22)), o 24 (.mv (.t 4)), o 25 (.iaddr 8 (.t 23) (.t 24)), o 26 (.faddr 3 (.t 25)), o 27 (.load (some 5) (.t 26)), o 28 (.call 52 [(.t 27)]), st (.chk none (.t 14) (.t 15)), st (.chk none (.t 16) (.t 17)), o 29 (.build [(.bool false), (.int .i64 0), (.str []), (.int .i64 0), (.int .i64 0), (.str []), (.int .i64 0), .nsl] [(0, 3, (.t 21)), (3, 5, (.t 28))]), st (.chk none (.t 14) (.t 15)), o 30 (.bslice 8 [(.bool false), (.int .i64 0), (.str []), (.int .i64 0), (.int .i64 0), (.str []), (.int .i64 0), .nsl] 1 [(0, (.t 29))]), st (.chk none (.t 14) (.t 15)), o 31 (.append 8 96 (.t 15) (.t 30)), o 32 (.faddr 4 (.t 3)), st (.store 1 (.t 32) (.t 31))]))
    (.reg [o 12 (.mv (.t 4)), o 13 (.bin .add (.t 12) (.c (.int .i64 1))), o 4 (.mv (.t 13))]))))))
  (.seq (.reg [o 33 (.load (some 5) (.t 3)), st (.store 5 (.t 2) (.t 33))])
  (.ret))))),
  [.cell 2 (some 5)]⟩
/- loop.example/g03011/spec.ParseSigned -/
def F53 : Fun := ⟨40,
  .seq (.reg [o 2 (.mv (.c (.int .i64 0))), o 3 (.mv (.c (.bool false)))])
  (.seq (.reg [o 7 (.mv (.t 0)), o 8 (.lenS (.t 7)), o 9 (.bin .gtr (.t 8) (.c (.int .i64 0))), o 10 (.mv (.t 9)), og 11 (.mv (.t 0)) 10 true, og 12 (.index (.t 11) (.c (.int .i64 0))) 10 true, og 13 (.bin .eql (.t 12) (.c (.int .u8 45))) 10 true, o 14 (.pick (.t 10) (.t 13) (.c (.bool false))), o 4 (.mv (.t 14))])
  (.seq (.seq (.reg [o 15 (.mv (.t 4))])
  (.cond (.t 15) (.reg [o 16 (.mv (.t 0)), o 17 (.sliceS (.t 16) (some (.c (.int .i64 1))) none), o 0 (.mv (.t 17))]) (.skip)))
  (.seq (.reg [o 19 (.mv (.t 0)), o 20 (.call 87 [(.t 19)]), o 18 (.mv (.t 20)), o 21 (.extract (.t 18) 0), o 22 (.extract (.t 18) 1), o 5 (.mv (.t 21)), o 6 (.mv (.t 22))])
  (.seq (.seq (.reg [o 23 (.mv (.t 6)), o 24 (.un .not (.t 23)), o 25 (.mv (.t 24)), og 26 (.mv (.t 5)) 25 false, og 27 (.bin .gtr (.t 26) (.c (.int .i64 1000000000))) 25 false, o 28 (.pick (.t 25) (.c (.bool true)) (.t 27)), o 29 (.mv (.t 28)), og 30 (.mv (.t 4)) 29 false, og 31 (.mv (.t 30)) 29 false, og 32 (.mv (.t 5)) 31 true, og 33 (.bin .eql (.t 32) (.c (.int .i64 0))) 31 true, og 34 (.pick (.t 31) (.t 33) (.c (.bool false))) 29 false, o 35 (.pick (.t 29) (.c (.bool true)) (.t 34))])
  (.cond (.t 35) (.seq (.reg [o 2 (.mv (.c (.int .i64 0))), o 3 (.mv (.c (.bool false)))])
   (.ret)) (.skip)))
  (.seq (.seq (.reg [o 36 (.mv (.t 4))])
  (.cond (.t 36) (.seq (.reg [o 37 (.mv (.t 5)), o 38 (.un .neg (.t 37)), o 2 (.mv (.t 38)), o 3 (.mv (.c (.bool true)))])
   (.ret)) (.skip)))
  (.seq (.reg [o 39 (.mv (.t 5)), o 2 (.mv (.t 39)), o 3 (.mv (.c (.bool true)))])
  (.ret))))))),
  [.tmp 2, .tmp 3]⟩
/- loop.example/g03011/laws.szPair -/
def F54 : Fun := ⟨20,
  .seq (.reg [o 2 (.box 2 (.t 0)), o 4 (.mv (.c (.int .i64 0)))])
  (.seq (.reg [o 5 (.mv (.t 1)), o 6 (.faddr 0 (.t 2)), o 7 (.load none (.t 6)), o 8 (.lenS (.t 7)), o 9 (.bin .sub (.t 5) (.t 8)), o 1 (.mv (.t 9))])
  (.seq (.seq (.reg [o 10 (.mv (.t 1)), o 11 (.bin .lss (.t 10) (.c (.int .i64 0)))])
  (.cond (.t 11) (.seq (.reg [o 4 (.mv (.c (.int .i64 (-1))))])
   (.ret)) (.skip)))
  (.seq (.reg [o 12 (.mv (.t 1)), o 13 (.faddr 1 (.t 2)), o 14 (.load none (.t 13)), o 15 (.lenS (.t 14)), o 16 (.bin .sub (.t 12) (.t 15)), o 1 (.mv (.t 16))])
  (.seq (.seq (.reg [o 17 (.mv (.t 1)), o 18 (.bin .lss (.t 17) (.c (.int .i64 0)))])
  (.cond (.t 18) (.seq (.reg [o 4 (.mv (.c (.int .i64 (-1))))])
   (.ret)) (.skip)))
  (.seq (.reg [o 19 (.mv (.t 1)), o 4 (.mv (.t 19))])
  (.ret)))))),
  [.tmp 4]⟩
/- loop.example/g03011/spec.ArrayValue -/
def F55 : Fun := ⟨2,
  .seq (.reg [o 0 (.new 5 [(.int .i64 0), (.int .i64 0), (.str []), (.int .i64 0), .nsl])])
  (.seq (.reg [o 1 (.build [(.int .i64 0), (.int .i64 0), (.str []), (.int .i64 0), .nsl] [(0, 1, (.c (.int .i64 4)))]), st (.store 5 (.t 0) (.t 1))])
  (.ret)),
  [.cell 0 (some 5)]⟩
/- loop.example/g03011/spec.l6Set -/
def F56 : Fun := ⟨46,
  .seq (.reg [o 3 (.box 5 (.t 0)), o 4 (.box 3 (.t 1)), o 5 (.box 5 (.t 2)), o 6 (.new 5 [(.int .i64 0), (.int .i64 0), (.str []), (.int .i64 0), .nsl])])
  (.seq (.reg [o 9 (.load (some 5) (.t 3)), o 7 (.new 5 [(.int .i64 0), (.int .i64 0), (.str []), (.int .i64 0), .nsl]), st (.store 5 (.t 7) (.t 9))])
  (.seq (.reg [o 10 (.bslice 8 [(.bool false), (.int .i64 0), (.str []), (.int .i64 0), (.int .i64 0), (.str []), (.int .i64 0), .nsl] 0 []), o 11 (.faddr 4 (.t 3)), o 12 (.load none (.t 11)), o 13 (.append 8 96 (.t 10) (.t 12)), o 14 (.faddr 4 (.t 7)), st (.store 1 (.t 14) (.t 13))])
  (.seq (.reg [o 15 (.load (some 5) (.t 3)), o 16 (.load (some 3) (.t 4)), o 17 (.call 86 [(.t 15), (.t 16)]), o 8 (.mv (.t 17))])
  (.seq (.seq (.reg [o 18 (.mv (.t 8)), o 19 (.bin .geq (.t 18) (.c (.int .i64 0)))])
  (.cond (.t 19) (.seq (.reg [o 20 (.faddr 4 (.t 7)), o 21 (.load none (.t 20)), o 22 (.mv (.t 8)), o 23 (.load (some 5) (.t 5)), o 24 (.iaddr 8 (.t 21) (.t 22)), o 25 (.faddr 3 (.t 24)), st (.store 5 (.t 25) (.t 23))])
   (.seq (.reg [o 26 (.load (some 5) (.t 7)), st (.store 5 (.t 6) (.t 26))])
   (.ret))) (.skip)))
  (.seq (.reg [o 27 (.faddr 4 (.t 7)), o 28 (.load none (.t 27)), o 29 (.load (some 3) (.t 4)), o 30 (.load (some 5) (.t 5)), o 31 (.build [(.bool false), (.int .i64 0), (.str []), (.int .i64 0), (.int .i64 0), (.str []), (.int .i64 0), .nsl] [(0, 3, (.t 29)), (3, 5, (.t 30))]), o 32 (.bslice 8 [(.bool false), (.int .i64 0), (.str []), (.int .i64 0), (.int .i64 0), (.str []), (.int .i64 0), .nsl] 1 [(0, (.t 31))]), o 33 (.append 8 96 (.t 28) (.t 32)), o 34 (.faddr 4 (.t 7)), st (.store 1 (.t 34) (.t 33))])
  (.seq (.seq (.reg [o 35 (.faddr 0 (.t 4)), o 36 (.load none (.t 35)), o 37 (.un .not (.t 36))])
  (.cond (.t 37) (.reg [o 38 (.faddr 3 (.t 7)), o 39 (.load none (.t 38)), o 40 (.faddr 1 (.t 4)), o 41 (.load none (.t 40)), o 42 (.bin .add (.t 41) (.c (.int .i64 1))), o 43 (.call 88 [(.t 39), (.t 42)]), o 44 (.faddr 3 (.t 7)), st (.store 1 (.t 44) (.t 43))]) (.skip)))
  (.seq (.reg [o 45 (.load (some 5) (.t 7)), st (.store 5 (.t 6) (.t 45))])
  (.ret)))))))),
  [.cell 6 (some 5)]⟩
/- loop.example/g03011/spec.TextValue -/
def F57 : Fun := ⟨5,
  .seq (.reg [o 2 (.new 5 [(.int .i64 0), (.int .i64 0), (.str []), (.int .i64 0), .nsl])])
  (.seq (.reg [o 3 (.mv (.t 0)), o 4 (.build [(.int .i64 0), (.int .i64 0), (.str []), (.int .i64 0), .nsl] [(0, 1, (.c (.int .i64 3))), (2, 1, (.t 3))]), st (.store 5 (.t 2) (.t 4))])
  (.ret)),
  [.cell 2 (some 5)]⟩
/- loop.example/g03011/laws.toPair -/
def F58 : Fun := ⟨11,
  .seq (.reg [o 1 (.box 2 (.t 0)), o 2 (.new 2 [(.str []), (.str [])])])
  (.seq (.reg [o 3 (.new 2 [(.str []), (.str [])])])
  (.seq (.reg [o 4 (.faddr 0 (.t 1)), o 5 (.load none (.t 4)), o 6 (.faddr 0 (.t 3)), st (.store 1 (.t 6) (.t 5))])
  (.seq (.reg [o 7 (.faddr 1 (.t 1)), o 8 (.load none (.t 7)), o 9 (.faddr 1 (.t 3)), st (.store 1 (.t 9) (.t 8))])
  (.seq (.reg [o 10 (.load (some 2) (.t 3)), st (.store 2 (.t 2) (.t 10))])
  (.ret))))),
  [.cell 2 (some 2)]⟩
/- loop.example/g03011/impl.IsNormal -/
def F59 : Fun := ⟨16,
  .seq (.reg [o 2 (.mv (.c (.bool false)))])
  (.seq (.reg [o 6 (.mv (.t 0)), o 7 (.call 43 [(.t 6)]), o 5 (.mv (.t 7)), o 8 (.extract (.t 5) 0), o 9 (.extract (.t 5) 1), o 3 (.mv (.t 8)), o 4 (.mv (.t 9))])
  (.seq (.reg [o 10 (.mv (.t 4)), o 11 (.mv (.t 10)), og 12 (.mv (.t 3)) 11 true, og 13 (.mv (.t 0)) 11 true, og 14 (.bin .eql (.t 12) (.t 13)) 11 true, o 15 (.pick (.t 11) (.t 14) (.c (.bool false))), o 2 (.mv (.t 15))])
  (.ret))),
  [.tmp 2]⟩
/- loop.example/g03011/impl.pairsOK -/
def F60 : Fun := ⟨25,
  .seq (.reg [o 2 (.mv (.c (.bool false)))])
  (.seq (.seq (.reg [o 5 (.mv (.t 0)), o 6 (.lenL (.t 5)), o 7 (.mv (.c (.int .i64 0)))])
  (.block 0 (.loop (.seq (.reg [o 8 (.bin .lss (.t 7) (.t 6))])
    (.seq (.cond (.t 8) (.skip) (.exit 0))
    (.seq (.block 1 (.seq (.reg [o 9 (.iaddr 2 (.t 5) (.t 7)), o 10 (.load (some 2) (.t 9)), o 4 (.new 2 [(.str []), (.str [])]), st (.store 2 (.t 4) (.t 10))])
     (.seq (.reg [o 11 (.faddr 0 (.t 4)), o 12 (.load none (.t 11)), o 13 (.lenS (.t 12)), o 14 (.bin .gtr (.t 13) (.c (.int .i64 60))), o 15 (.mv (.t 14)), og 16 (.faddr 1 (.t 4)) 15 false, og 17 (.load none (.t 16)) 15 false, og 18 (.lenS (.t 17)) 15 false, og 19 (.bin .gtr (.t 18) (.c (.int .i64 60))) 15 false, o 20 (.pick (.t 15) (.c (.bool true)) (.t 19))])
     (.cond (.t 20) (.seq (.reg [o 2 (.mv (.c (.bool false)))])
      (.ret)) (.skip)))))
    (.reg [o 21 (.bin .add (.t 7) (.c (.int .i64 1))), o 7 (.mv (.t 21))])))))))
  (.seq (.reg [o 22 (.mv (.t 0)), o 23 (.lenL (.t 22)), o 24 (.bin .leq (.t 23) (.c (.int .i64 12))), o 2 (.mv (.t 24))])
  (.ret))),
  [.tmp 2]⟩
/- loop.example/g03011/impl.ArrayValue -/
def F61 : Fun := ⟨2,
  .seq (.reg [o 0 (.new 5 [(.int .i64 0), (.int .i64 0), (.str []), (.int .i64 0), .nsl])])
  (.seq (.reg [o 1 (.build [(.int .i64 0), (.int .i64 0), (.str []), (.int .i64 0), .nsl] [(0, 1, (.c (.int .i64 4)))]), st (.store 5 (.t 0) (.t 1))])
  (.ret)),
  [.cell 0 (some 5)]⟩
/- loop.example/g03011/impl.putKey -/
def F62 : Fun := ⟨49,
  .seq (.reg [o 4 (.box 3 (.t 1)), o 5 (.box 5 (.t 2))])
  (.seq (.reg [o 7 (.mv (.t 0)), o 8 (.nilck (.t 7)), o 9 (.load (some 5) (.t 8)), o 10 (.load (some 3) (.t 4)), o 11 (.callF 89 [(.t 9), (.t 10)]), o 6 (.mv (.t 11))])
  (.seq (.seq (.reg [o 12 (.mv (.t 6)), o 13 (.bin .geq (.t 12) (.c (.int .i64 0)))])
  (.cond (.t 13) (.seq (.reg [o 14 (.mv (.t 0)), o 15 (.nilck (.t 14)), o 16 (.faddr 4 (.t 15)), o 17 (.load none (.t 16)), o 18 (.mv (.t 6)), o 19 (.load (some 5) (.t 5)), o 20 (.iaddr 8 (.t 17) (.t 18)), o 21 (.faddr 3 (.t 20)), st (.store 5 (.t 21) (.t 19))])
   (.ret)) (.skip)))
  (.seq (.seq (.reg [o 22 (.mv (.t 0))])
  (.seq (.reg [o 23 (.nilck (.t 22))])
  (.seq (.reg [o 24 (.faddr 4 (.t 23))])
  (.alt (.seq (.reg [o 25 (.load none (.t 24))])
   (.seq (.reg [o 29 (.lenL (.t 25))])
   (.alt (.seq (.reg [o 26 (.load (some 3) (.t 4))])
    (.alt (.seq (.reg [o 27 (.load (some 5) (.t 5))])
     (.seq (.reg [o 28 (.build [(.bool false), (.int .i64 0), (.str []), (.int .i64 0), (.int .i64 0), (.str []), (.int .i64 0), .nsl] [(0, 3, (.t 26)), (3, 5, (.t 27))])])
     (.seq (.reg [o 30 (.bslice 8 [(.bool false), (.int .i64 0), (.str []), (.int .i64 0), (.int .i64 0), (.str []), (.int .i64 0), .nsl] 1 [(0, (.c (.agg [(.bool false), (.int .i64 0), (.str []), (.int .i64 0), (.int .i64 0), (.str []), (.int .i64 0), .nsl])))])])
     (.seq (.reg [o 31 (.append 8 96 (.t 25) (.t 30))])
     (.seq (.reg [o 32 (.iaddr 8 (.t 31) (.t 29))])
     (.seq (.reg [o 33 (.nilck (.t 22))])
     (.seq (.reg [o 34 (.faddr 4 (.t 33))])
     (.alt (.seq (.reg [st (.store 8 (.t 32) (.t 28))])
      (.seq (.reg [st (.store 1 (.t 34) (.t 31))])
      (.skip)))
     (.seq (.reg [st (.store 1 (.t 34) (.t 31))])
      (.seq (.reg [st (.store 8 (.t 32) (.t 28))])
      (.skip)))))))))))
    (.seq (.reg [o 30 (.bslice 8 [(.bool false), (.int .i64 0), (.str []), (.int .i64 0), (.int .i64 0), (.str []), (.int .i64 0), .nsl] 1 [(0, (.c (.agg [(.bool false), (.int .i64 0), (.str []), (.int .i64 0), (.int .i64 0), (.str []), (.int .i64 0), .nsl])))])])
     (.seq (.reg [o 27 (.load (some 5) (.t 5))])
     (.seq (.reg [o 28 (.build [(.bool false), (.int .i64 0), (.str []), (.int .i64 0), (.int .i64 0), (.str []), (.int .i64 0), .nsl] [(0, 3, (.t 26)), (3, 5, (.t 27))])])
     (.seq (.reg [o 31 (.append 8 96 (.t 25) (.t 30))])
     (.seq (.reg [o 32 (.iaddr 8 (.t 31) (.t 29))])
     (.seq (.reg [o 33 (.nilck (.t 22))])
     (.seq (.reg [o 34 (.faddr 4 (.t 33))])
     (.alt (.seq (.reg [st (.store 8 (.t 32) (.t 28))])
      (.seq (.reg [st (.store 1 (.t 34) (.t 31))])
      (.skip)))
     (.seq (.reg [st (.store 1 (.t 34) (.t 31))])
      (.seq (.reg [st (.store 8 (.t 32) (.t 28))])
      (.skip)))))))))))))
   (.alt (.seq (.reg [o 27 (.load (some 5) (.t 5))])
     (.alt (.seq (.reg [o 26 (.load (some 3) (.t 4))])
      (.seq (.reg [o 28 (.build [(.bool false), (.int .i64 0), (.str []), (.int .i64 0), (.int .i64 0), (.str []), (.int .i64 0), .nsl] [(0, 3, (.t 26)), (3, 5, (.t 27))])])
      (.seq (.reg [o 30 (.bslice 8 [(.bool false), (.int .i64 0), (.str []), (.int .i64 0), (.int .i64 0), (.str []), (.int .i64 0), .nsl] 1 [(0, (.c (.agg [(.bool false), (.int .i64 0), (.str []), (.int .i64 0), (.int .i64 0), (.str []), (.int .i64 0), .nsl])))])])
      (.seq (.reg [o 31 (.append 8 96 (.t 25) (.t 30))])
      (.seq (.reg [o 32 (.iaddr 8 (.t 31) (.t 29))])
      (.seq (.reg [o 33 (.nilck (.t 22))])
      (.seq (.reg [o 34 (.faddr 4 (.t 33))])
      (.alt (.seq (.reg [st (.store 8 (.t 32) (.t 28))])
       (.seq (.reg [st (.store 1 (.t 34) (.t 31))])
       (.skip)))
      (.seq (.reg [st (.store 1 (.t 34) (.t 31))])
       (.seq (.reg [st (.store 8 (.t 32) (.t 28))])
       (.skip)))))))))))
     (.seq (.reg [o 30 (.bslice 8 [(.bool false), (.int .i64 0), (.str []), (.int .i64 0), (.int .i64 0), (.str []), (.int .i64 0), .nsl] 1 [(0, (.c (.agg [(.bool false), (.int .i64 0), (.str []), (.int .i64 0), (.int .i64 0), (.str []), (.int .i64 0), .nsl])))])])
      (.seq (.reg [o 26 (.load (some 3) (.t 4))])
      (.seq (.reg [o 28 (.build [(.bool false), (.int .i64 0), (.str []), (.int .i64 0), (.int .i64 0), (.str []), (.int .i64 0), .nsl] [(0, 3, (.t 26)), (3, 5, (.t 27))])])
      (.seq (.reg [o 31 (.append 8 96 (.t 25) (.t 30))])
      (.seq (.reg [o 32 (.iaddr 8 (.t 31) (.t 29))])
      (.seq (.reg [o 33 (.nilck (.t 22))])
      (.seq (.reg [o 34 (.faddr 4 (.t 33))])
      (.alt (.seq (.reg [st (.store 8 (.t 32) (.t 28))])
       (.seq (.reg [st (.store 1 (.t 34) (.t 31))])
       (.skip)))
      (.seq (.reg [st (.store 1 (.t 34) (.t 31))])
       (.seq (.reg [st (.store 8 (.t 32) (.t 28))])
       (.skip)))))))))))))
    (.seq (.reg [o 30 (.bslice 8 [(.bool false), (.int .i64 0), (.str []), (.int .i64 0), (.int .i64 0), (.str []), (.int .i64 0), .nsl] 1 [(0, (.c (.agg [(.bool false), (.int .i64 0), (.str []), (.int .i64 0), (.int .i64 0), (.str []), (.int .i64 0), .nsl])))])])
     (.alt (.seq (.reg [o 26 (.load (some 3) (.t 4))])
      (.seq (.reg [o 27 (.load (some 5) (.t 5))])
      (.seq (.reg [o 28 (.build [(.bool false), (.int .i64 0), (.str []), (.int .i64 0), (.int .i64 0), (.str []), (.int .i64 0), .nsl] [(0, 3, (.t 26)), (3, 5, (.t 27))])])
      (.seq (.reg [o 31 (.append 8 96 (.t 25) (.t 30))])
      (.seq (.reg [o 32 (.iaddr 8 (.t 31) (.t 29))])
      (.seq (.reg [o 33 (.nilck (.t 22))])
      (.seq (.reg [o 34 (.faddr 4 (.t 33))])
      (.alt (.seq (.reg [st (.store 8 (.t 32) (.t 28))])
       (.seq (.reg [st (.store 1 (.t 34) (.t 31))])
       (.skip)))
      (.seq (.reg [st (.store 1 (.t 34) (.t 31))])
       (.seq (.reg [st (.store 8 (.t 32) (.t 28))])
       (.skip)))))))))))
     (.seq (.reg [o 27 (.load (some 5) (.t 5))])
      (.seq (.reg [o 26 (.load (some 3) (.t 4))])
      (.seq (.reg [o 28 (.build [(.bool false), (.int .i64 0), (.str []), (.int .i64 0), (.int .i64 0), (.str []), (.int .i64 0), .nsl] [(0, 3, (.t 26)), (3, 5, (.t 27))])])
      (.seq (.reg [o 31 (.append 8 96 (.t 25) (.t 30))])
      (.seq (.reg [o 32 (.iaddr 8 (.t 31) (.t 29))])
      (.seq (.reg [o 33 (.nilck (.t 22))])
      (.seq (.reg [o 34 (.faddr 4 (.t 33))])
      (.alt (.seq (.reg [st (.store 8 (.t 32) (.t 28))])
       (.seq (.reg [st (.store 1 (.t 34) (.t 31))])
       (.skip)))
      (.seq (.reg [st (.store 1 (.t 34) (.t 31))])
       (.seq (.reg [st (.store 8 (.t 32) (.t 28))])
       (.skip)))))))))))))))))
  (.alt (.seq (.reg [o 26 (.load (some 3) (.t 4))])
    (.alt (.seq (.reg [o 25 (.load none (.t 24))])
     (.seq (.reg [o 29 (.lenL (.t 25))])
     (.alt (.seq (.reg [o 27 (.load (some 5) (.t 5))])
      (.seq (.reg [o 28 (.build [(.bool false), (.int .i64 0), (.str []), (.int .i64 0), (.int .i64 0), (.str []), (.int .i64 0), .nsl] [(0, 3, (.t 26)), (3, 5, (.t 27))])])
      (.seq (.reg [o 30 (.bslice 8 [(.bool false), (.int .i64 0), (.str []), (.int .i64 0), (.int .i64 0), (.str []), (.int .i64 0), .nsl] 1 [(0, (.c (.agg [(.bool false), (.int .i64 0), (.str []), (.int .i64 0), (.int .i64 0), (.str []), (.int .i64 0), .nsl])))])])
      (.seq (.reg [o 31 (.append 8 96 (.t 25) (.t 30))])
      (.seq (.reg [o 32 (.iaddr 8 (.t 31) (.t 29))])
      (.seq (.reg [o 33 (.nilck (.t 22))])
      (.seq (.reg [o 34 (.faddr 4 (.t 33))])
      (.alt (.seq (.reg [st (.store 8 (.t 32) (.t 28))])
       (.seq (.reg [st (.store 1 (.t 34) (.t 31))])
       (.skip)))
      (.seq (.reg [st (.store 1 (.t 34) (.t 31))])
       (.seq (.reg [st (.store 8 (.t 32) (.t 28))])
       (.skip)))))))))))
     (.seq (.reg [o 30 (.bslice 8 [(.bool false), (.int .i64 0), (.str []), (.int .i64 0), (.int .i64 0), (.str []), (.int .i64 0), .nsl] 1 [(0, (.c (.agg [(.bool false), (.int .i64 0), (.str []), (.int .i64 0), (.int .i64 0), (.str []), (.int .i64 0), .nsl])))])])
      (.seq (.reg [o 27 (.load (some 5) (.t 5))])
      (.seq (.reg [o 28 (.build [(.bool false), (.int .i64 0), (.str []), (.int .i64 0), (.int .i64 0), (.str []), (.int .i64 0), .nsl] [(0, 3, (.t 26)), (3, 5, (.t 27))])])
      (.seq (.reg [o 31 (.append 8 96 (.t 25) (.t 30))])
      (.seq (.reg [o 32 (.iaddr 8 (.t 31) (.t 29))])
      (.seq (.reg [o 33 (.nilck (.t 22))])
      (.seq (.reg [o 34 (.faddr 4 (.t 33))])
      (.alt (.seq (.reg [st (.store 8 (.t 32) (.t 28))])
       (.seq (.reg [st (.store 1 (.t 34) (.t 31))])
       (.skip)))
      (.seq (.reg [st (.store 1 (.t 34) (.t 31))])
       (.seq (.reg [st (.store 8 (.t 32) (.t 28))])
       (.skip))))))))))))))
    (.alt (.seq (.reg [o 27 (.load (some 5) (.t 5))])
      (.seq (.reg [o 28 (.build [(.bool false), (.int .i64 0), (.str []), (.int .i64 0), (.int .i64 0), (.str []), (.int .i64 0), .nsl] [(0, 3, (.t 26)), (3, 5, (.t 27))])])
      (.alt (.seq (.reg [o 25 (.load none (.t 24))])
       (.seq (.reg [o 29 (.lenL (.t 25))])
       (.seq (.reg [o 30 (.bslice 8 [(.bool false), (.int .i64 0), (.str []), (.int .i64 0), (.int .i64 0), (.str []), (.int .i64 0), .nsl] 1 [(0, (.c (.agg [(.bool false), (.int .i64 0), (.str []), (.int .i64 0), (.int .i64 0), (.str []), (.int .i64 0), .nsl])))])])
       (.seq (.reg [o 31 (.append 8 96 (.t 25) (.t 30))])
       (.seq (.reg [o 32 (.iaddr 8 (.t 31) (.t 29))])
       (.seq (.reg [o 33 (.nilck (.t 22))])
       (.seq (.reg [o 34 (.faddr 4 (.t 33))])
       (.alt (.seq (.reg [st (.store 8 (.t 32) (.t 28))])
        (.seq (.reg [st (.store 1 (.t 34) (.t 31))])
        (.skip)))
       (.seq (.reg [st (.store 1 (.t 34) (.t 31))])
        (.seq (.reg [st (.store 8 (.t 32) (.t 28))])
        (.skip)))))))))))
      (.seq (.reg [o 30 (.bslice 8 [(.bool false), (.int .i64 0), (.str []), (.int .i64 0), (.int .i64 0), (.str []), (.int .i64 0), .nsl] 1 [(0, (.c (.agg [(.bool false), (.int .i64 0), (.str []), (.int .i64 0), (.int .i64 0), (.str []), (.int .i64 0), .nsl])))])])
       (.seq (.reg [o 25 (.load none (.t 24))])
       (.seq (.reg [o 29 (.lenL (.t 25))])
       (.seq (.reg [o 31 (.append 8 96 (.t 25) (.t 30))])
       (.seq (.reg [o 32 (.iaddr 8 (.t 31) (.t 29))])
       (.seq (.reg [o 33 (.nilck (.t 22))])
       (.seq (.reg [o 34 (.faddr 4 (.t 33))])
       (.alt (.seq (.reg [st (.store 8 (.t 32) (.t 28))])
        (.seq (.reg [st (.store 1 (.t 34) (.t 31))])
        (.skip)))
       (.seq (.reg [st (.store 1 (.t 34) (.t 31))])
        (.seq (.reg [st (.store 8 (.t 32) (.t 28))])
        (.skip))))))))))))))
     (.seq (.reg [o 30 (.bslice 8 [(.bool false), (.int .i64 0), (.str []), (.int .i64 0), (.int .i64 0), (.str []), (.int .i64 0), .nsl] 1 [(0, (.c (.agg [(.bool false), (.int .i64 0), (.str []), (.int .i64 0), (.int .i64 0), (.str []), (.int .i64 0), .nsl])))])])
      (.alt (.seq (.reg [o 25 (.load none (.t 24))])
       (.seq (.reg [o 29 (.lenL (.t 25))])
       (.seq (.reg [o 27 (.load (some 5) (.t 5))])
       (.seq (.reg [o 28 (.build [(.bool false), (.int .i64 0), (.str []), (.int .i64 0), (.int .i64 0), (.str []), (.int .i64 0), .nsl] [(0, 3, (.t 26)), (3, 5, (.t 27))])])
       (.seq (.reg [o 31 (.append 8 96 (.t 25) (.t 30))])
       (.seq (.reg [o 32 (.iaddr 8 (.t 31) (.t 29))])
       (.seq (.reg [o 33 (.nilck (.t 22))])
       (.seq (.reg [o 34 (.faddr 4 (.t 33))])
       (.alt (.seq (.reg [st (.store 8 (.t 32) (.t 28))])
        (.seq (.reg [st (.store 1 (.t 34) (.t 31))])
        (.skip)))
       (.seq (.reg [st (.store 1 (.t 34) (.t 31))])
        (.seq (.reg [st (.store 8 (.t 32) (.t 28))])
        (.skip))))))))))))
      (.seq (.reg [o 27 (.load (some 5) (.t 5))])
       (.seq (.reg [o 28 (.build [(.bool false), (.int .i64 0), (.str []), (.int .i64 0), (.int .i64 0), (.str []), (.int .i64 0), .nsl] [(0, 3, (.t 26)), (3, 5, (.t 27))])])
       (.seq (.reg [o 25 (.load none (.t 24))])
       (.seq (.reg [o 29 (.lenL (.t 25))])
       (.seq (.reg [o 31 (.append 8 96 (.t 25) (.t 30))])
       (.seq (.reg [o 32 (.iaddr 8 (.t 31) (.t 29))])
       (.seq (.reg [o 33 (.nilck (.t 22))])
       (.seq (.reg [o 34 (.faddr 4 (.t 33))])
       (.alt (.seq (.reg [st (.store 8 (.t 32) (.t 28))])
        (.seq (.reg [st (.store 1 (.t 34) (.t 31))])
        (.skip)))
       (.seq (.reg [st (.store 1 (.t 34) (.t 31))])
        (.seq (.reg [st (.store 8 (.t 32) (.t 28))])
        (.skip)))))))))))))))))
   (.alt (.seq (.reg [o 27 (.load (some 5) (.t 5))])
     (.alt (.seq (.reg [o 25 (.load none (.t 24))])
      (.seq (.reg [o 29 (.lenL (.t 25))])
      (.alt (.seq (.reg [o 26 (.load (some 3) (.t 4))])
       (.seq (.reg [o 28 (.build [(.bool false), (.int .i64 0), (.str []), (.int .i64 0), (.int .i64 0), (.str []), (.int .i64 0), .nsl] [(0, 3, (.t 26)), (3, 5, (.t 27))])])
       (.seq (.reg [o 30 (.bslice 8 [(.bool false), (.int .i64 0), (.str []), (.int .i64 0), (.int .i64 0), (.str []), (.int .i64 0), .nsl] 1 [(0, (.c (.agg [(.bool false), (.int .i64 0), (.str []), (.int .i64 0), (.int .i64 0), (.str []), (.int .i64 0), .nsl])))])])
       (.seq (.reg [o 31 (.append 8 96 (.t 25) (.t 30))])
       (.seq (.reg [o 32 (.iaddr 8 (.t 31) (.t 29))])
       (.seq (.reg [o 33 (.nilck (.t 22))])
       (.seq (.reg [o 34 (.faddr 4 (.t 33))])
       (.alt (.seq (.reg [st (.store 8 (.t 32) (.t 28))])
        (.seq (.reg [st (.store 1 (.t 34) (.t 31))])
        (.skip)))
       (.seq (.reg [st (.store 1 (.t 34) (.t 31))])
        (.seq (.reg [st (.store 8 (.t 32) (.t 28))])
        (.skip)))))))))))
      (.seq (.reg [o 30 (.bslice 8 [(.bool false), (.int .i64 0), (.str []), (.int .i64 0), (.int .i64 0), (.str []), (.int .i64 0), .nsl] 1 [(0, (.c (.agg [(.bool false), (.int .i64 0), (.str []), (.int .i64 0), (.int .i64 0), (.str []), (.int .i64 0), .nsl])))])])
       (.seq (.reg [o 26 (.load (some 3) (.t 4))])
       (.seq (.reg [o 28 (.build [(.bool false), (.int .i64 0), (.str []), (.int .i64 0), (.int .i64 0), (.str []), (.int .i64 0), .nsl] [(0, 3, (.t 26)), (3, 5, (.t 27))])])
       (.seq (.reg [o 31 (.append 8 96 (.t 25) (.t 30))])
       (.seq (.reg [o 32 (.iaddr 8 (.t 31) (.t 29))])
       (.seq (.reg [o 33 (.nilck (.t 22))])
       (.seq (.reg [o 34 (.faddr 4 (.t 33))])
       (.alt (.seq (.reg [st (.store 8 (.t 32) (.t 28))])
        (.seq (.reg [st (.store 1 (.t 34) (.t 31))])
        (.skip)))
       (.seq (.reg [st (.store 1 (.t 34) (.t 31))])
        (.seq (.reg [st (.store 8 (.t 32) (.t 28))])
        (.skip))))))))))))))
     (.alt (.seq (.reg [o 26 (.load (some 3) (.t 4))])
       (.seq (.reg [o 28 (.build [(.bool false), (.int .i64 0), (.str []), (.int .i64 0), (.int .i64 0), (.str []), (.int .i64 0), .nsl] [(0, 3, (.t 26)), (3, 5, (.t 27))])])
       (.alt (.seq (.reg [o 25 (.load none (.t 24))])
        (.seq (.reg [o 29 (.lenL (.t 25))])
        (.seq (.reg [o 30 (.bslice 8 [(.bool false), (.int .i64 0), (.str []), (.int .i64 0), (.int .i64 0), (.str []), (.int .i64 0), .nsl] 1 [(0, (.c (.agg [(.bool false), (.int .i64 0), (.str []), (.int .i64 0), (.int .i64 0), (.str []), (.int .i64 0), .nsl])))])])
        (.seq (.reg [o 31 (.append 8 96 (.t 25) (.t 30))])
        (.seq (.reg [o 32 (.iaddr 8 (.t 31) (.t 29))])
        (.seq (.reg [o 33 (.nilck (.t 22))])
        (.seq (.reg [o 34 (.faddr 4 (.t 33))])
        (.alt (.seq (.reg [st (.store 8 (.t 32) (.t 28))])
         (.seq (.reg [st (.store 1 (.t 34) (.t 31))])
         (.skip)))
        (.seq (.reg [st (.store 1 (.t 34) (.t 31))])
         (.seq (.reg [st (.store 8 (.t 32) (.t 28))])
         (.skip)))))))))))
       (.seq (.reg [o 30 (.bslice 8 [(.bool false), (.int .i64 0), (.str []), (.int .i64 0), (.int .i64 0), (.str []), (.int .i64 0), .nsl] 1 [(0, (.c (.agg [(.bool false), (.int .i64 0), (.str []), (.int .i64 0), (.int .i64 0), (.str []), (.int .i64 0), .nsl])))])])
        (.seq (.reg [o 25 (.load none (.t 24))])
        (.seq (.reg [o 29 (.lenL (.t 25))])
        (.seq (.reg [o 31 (.append 8 96 (.t 25) (.t 30))])
        (.seq (.reg [o 32 (.iaddr 8 (.t 31) (.t 29))])
        (.seq (.reg [o 33 (.nilck (.t 22))])
        (.seq (.reg [o 34 (.faddr 4 (.t 33))])
        (.alt (.seq (.reg [st (.store 8 (.t 32) (.t 28))])
         (.seq (.reg [st (.store 1 (.t 34) (.t 31))])
         (.skip)))
        (.seq (.reg [st (.store 1 (.t 34) (.t 31))])
         (.seq (.reg [st (.store 8 (.t 32) (.t 28))])
         (.skip))))))))))))))
      (.seq (.reg [o 30 (.bslice 8 [(.bool false), (.int .i64 0), (.str []), (.int .i64 0), (.int .i64 0), (.str []), (.int .i64 0), .nsl] 1 [(0, (.c (.agg [(.bool false), (.int .i64 0), (.str []), (.int .i64 0), (.int .i64 0), (.str []), (.int .i64 0), .nsl])))])])
       (.alt (.seq (.reg [o 25 (.load none (.t 24))])
        (.seq (.reg [o 29 (.lenL (.t 25))])
        (.seq (.reg [o 26 (.load (some 3) (.t 4))])
        (.seq (.reg [o 28 (.build [(.bool false), (.int .i64 0), (.str []), (.int .i64 0), (.int .i64 0), (.str []), (.int .i64 0), .nsl] [(0, 3, (.t 26)), (3, 5, (.t 27))])])
        (.seq (.reg [o 31 (.append 8 96 (.t 25) (.t 30))])
        (.seq (.reg [o 32 (.iaddr 8 (.t 31) (.t 29))])
        (.seq (.reg [o 33 (.nilck (.t 22))])
        (.seq (.reg [o 34 (.faddr 4 (.t 33))])
        (.alt (.seq (.reg [st (.store 8 (.t 32) (.t 28))])
         (.seq (.reg [st (.store 1 (.t 34) (.t 31))])
         (.skip)))
        (.seq (.reg [st (.store 1 (.t 34) (.t 31))])
         (.seq (.reg [st (.store 8 (.t 32) (.t 28))])
         (.skip))))))))))))
       (.seq (.reg [o 26 (.load (some 3) (.t 4))])
        (.seq (.reg [o 28 (.build [(.bool false), (.int .i64 0), (.str []), (.int .i64 0), (.int .i64 0), (.str []), (.int .i64 0), .nsl] [(0, 3, (.t 26)), (3, 5, (.t 27))])])
        (.seq (.reg [o 25 (.load none (.t 24))])
        (.seq (.reg [o 29 (.lenL (.t 25))])
        (.seq (.reg [o 31 (.append 8 96 (.t 25) (.t 30))])
        (.seq (.reg [o 32 (.iaddr 8 (.t 31) (.t 29))])
        (.seq (.reg [o 33 (.nilck (.t 22))])
        (.seq (.reg [o 34 (.faddr 4 (.t 33))])
        (.alt (.seq (.reg [st (.store 8 (.t 32) (.t 28))])
         (.seq (.reg [st (.store 1 (.t 34) (.t 31))])
         (.skip)))
        (.seq (.reg [st (.store 1 (.t 34) (.t 31))])
         (.seq (.reg [st (.store 8 (.t 32) (.t 28))])
         (.skip)))))))))))))))))
    (.seq (.reg [o 30 (.bslice 8 [(.bool false), (.int .i64 0), (.str []), (.int .i64 0), (.int .i64 0), (.str []), (.int .i64 0), .nsl] 1 [(0, (.c (.agg [(.bool false), (.int .i64 0), (.str []), (.int .i64 0), (.int .i64 0), (.str []), (.int .i64 0), .nsl])))])])
     (.alt (.seq (.reg [o 25 (.load none (.t 24))])
      (.seq (.reg [o 29 (.lenL (.t 25))])
      (.alt (.seq (.reg [o 26 (.load (some 3) (.t 4))])
       (.seq (.reg [o 27 (.load (some 5) (.t 5))])
       (.seq (.reg [o 28 (.build [(.bool false), (.int .i64 0), (.str []), (.int .i64 0), (.int .i64 0), (.str []), (.int .i64 0), .nsl] [(0, 3, (.t 26)), (3, 5, (.t 27))])])
       (.seq (.reg [o 31 (.append 8 96 (.t 25) (.t 30))])
       (.seq (.reg [o 32 (.iaddr 8 (.t 31) (.t 29))])
       (.seq (.reg [o 33 (.nilck (.t 22))])
       (.seq (.reg [o 34 (.faddr 4 (.t 33))])
       (.alt (.seq (.reg [st (.store 8 (.t 32) (.t 28))])
        (.seq (.reg [st (.store 1 (.t 34) (.t 31))])
        (.skip)))
       (.seq (.reg [st (.store 1 (.t 34) (.t 31))])
        (.seq (.reg [st (.store 8 (.t 32) (.t 28))])
        (.skip)))))))))))
      (.seq (.reg [o 27 (.load (some 5) (.t 5))])
       (.seq (.reg [o 26 (.load (some 3) (.t 4))])
       (.seq (.reg [o 28 (.build [(.bool false), (.int .i64 0), (.str []), (.int .i64 0), (.int .i64 0), (.str []), (.int .i64 0), .nsl] [(0, 3, (.t 26)), (3, 5, (.t 27))])])
       (.seq (.reg [o 31 (.append 8 96 (.t 25) (.t 30))])
       (.seq (.reg [o 32 (.iaddr 8 (.t 31) (.t 29))])
       (.seq (.reg [o 33 (.nilck (.t 22))])
       (.seq (.reg [o 34 (.faddr 4 (.t 33))])
       (.alt (.seq (.reg [st (.store 8 (.t 32) (.t 28))])
        (.seq (.reg [st (.store 1 (.t 34) (.t 31))])
        (.skip)))
       (.seq (.reg [st (.store 1 (.t 34) (.t 31))])
        (.seq (.reg [st (.store 8 (.t 32) (.t 28))])
        (.skip))))))))))))))
     (.alt (.seq (.reg [o 26 (.load (some 3) (.t 4))])
       (.alt (.seq (.reg [o 25 (.load none (.t 24))])
        (.seq (.reg [o 29 (.lenL (.t 25))])
        (.seq (.reg [o 27 (.load (some 5) (.t 5))])
        (.seq (.reg [o 28 (.build [(.bool false), (.int .i64 0), (.str []), (.int .i64 0), (.int .i64 0), (.str []), (.int .i64 0), .nsl] [(0, 3, (.t 26)), (3, 5, (.t 27))])])
        (.seq (.reg [o 31 (.append 8 96 (.t 25) (.t 30))])
        (.seq (.reg [o 32 (.iaddr 8 (.t 31) (.t 29))])
        (.seq (.reg [o 33 (.nilck (.t 22))])
        (.seq (.reg [o 34 (.faddr 4 (.t 33))])
        (.alt (.seq (.reg [st (.store 8 (.t 32) (.t 28))])
         (.seq (.reg [st (.store 1 (.t 34) (.t 31))])
         (.skip)))
        (.seq (.reg [st (.store 1 (.t 34) (.t 31))])
         (.seq (.reg [st (.store 8 (.t 32) (.t 28))])
         (.skip))))))))))))
       (.seq (.reg [o 27 (.load (some 5) (.t 5))])
        (.seq (.reg [o 28 (.build [(.bool false), (.int .i64 0), (.str []), (.int .i64 0), (.int .i64 0), (.str []), (.int .i64 0), .nsl] [(0, 3, (.t 26)), (3, 5, (.t 27))])])
        (.seq (.reg [o 25 (.load none (.t 24))])
        (.seq (.reg [o 29 (.lenL (.t 25))])
        (.seq (.reg [o 31 (.append 8 96 (.t 25) (.t 30))])
        (.seq (.reg [o 32 (.iaddr 8 (.t 31) (.t 29))])
        (.seq (.reg [o 33 (.nilck (.t 22))])
        (.seq (.reg [o 34 (.faddr 4 (.t 33))])
        (.alt (.seq (.reg [st (.store 8 (.t 32) (.t 28))])
         (.seq (.reg [st (.store 1 (.t 34) (.t 31))])
         (.skip)))
        (.seq (.reg [st (.store 1 (.t 34) (.t 31))])
         (.seq (.reg [st (.store 8 (.t 32) (.t 28))])
         (.skip))))))))))))))
      (.seq (.reg [o 27 (.load (some 5) (.t 5))])
       (.alt (.seq (.reg [o 25 (.load none (.t 24))])
        (.seq (.reg [o 29 (.lenL (.t 25))])
        (.seq (.reg [o 26 (.load (some 3) (.t 4))])
        (.seq (.reg [o 28 (.build [(.bool false), (.int .i64 0), (.str []), (.int .i64 0), (.int .i64 0), (.str []), (.int .i64 0), .nsl] [(0, 3, (.t 26)), (3, 5, (.t 27))])])
        (.seq (.reg [o 31 (.append 8 96 (.t 25) (.t 30))])
        (.seq (.reg [o 32 (.iaddr 8 (.t 31) (.t 29))])
        (.seq (.reg [o 33 (.nilck (.t 22))])
        (.seq (.reg [o 34 (.faddr 4 (.t 33))])
        (.alt (.seq (.reg [st (.store 8 (.t 32) (.t 28))])
         (.seq (.reg [st (.store 1 (.t 34) (.t 31))])
         (.skip)))
        (.seq (.reg [st (.store 1 (.t 34) (.t 31))])
         (.seq (.reg [st (.store 8 (.t 32) (.t 28))])
         (.skip))))))))))))
       (.seq (.reg [o 26 (.load (some 3) (.t 4))])
        (.seq (.reg [o 28 (.build [(.bool false), (.int .i64 0), (.str []), (.int .i64 0), (.int .i64 0), (.str []), (.int .i64 0), .nsl] [(0, 3, (.t 26)), (3, 5, (.t 27))])])
        (.seq (.reg [o 25 (.load none (.t 24))])
        (.seq (.reg [o 29 (.lenL (.t 25))])
        (.seq (.reg [o 31 (.append 8 96 (.t 25) (.t 30))])
        (.seq (.reg [o 32 (.iaddr 8 (.t 31) (.t 29))])
        (.seq (.reg [o 33 (.nilck (.t 22))])
        (.seq (.reg [o 34 (.faddr 4 (.t 33))])
        (.alt (.seq (.reg [st (.store 8 (.t 32) (.t 28))])
         (.seq (.reg [st (.store 1 (.t 34) (.t 31))])
         (.skip)))
        (.seq (.reg [st (.store 1 (.t 34) (.t 31))])
         (.seq (.reg [st (.store 8 (.t 32) (.t 28))])
         (.skip)))))))))))))))))))))))
  (.seq (.reg [o 35 (.faddr 0 (.t 4)), o 36 (.load none (.t 35)), o 37 (.un .not (.t 36))])
  (.cond (.t 37) (.reg [o 38 (.mv (.t 0)), o 39 (.mv (.t 0)), o 40 (.nilck (.t 39)), o 41 (.faddr 3 (.t 40)), o 42 (.load none (.t 41)), o 43 (.faddr 1 (.t 4)), o 44 (.load none (.t 43)), o 45 (.bin .add (.t 44) (.c (.int .i64 1))), o 46 (.callF 90 [(.t 42), (.t 45)]), o 47 (.nilck (.t 38)), o 48 (.faddr 3 (.t 47)), st (.store 1 (.t 48) (.t 46))]) (.skip)))))),
  []⟩
/- loop.example/g03011/impl.TextKey -/
def F63 : Fun := ⟨15,
  .seq (.reg [o 2 (.new 3 [(.bool false), (.int .i64 0), (.str [])])])
  (.seq (.reg [o 6 (.mv (.t 0)), o 7 (.call 91 [(.t 6)]), o 5 (.mv (.t 7)), o 8 (.extract (.t 5) 0), o 9 (.extract (.t 5) 1), o 3 (.mv (.t 8)), o 4 (.mv (.t 9))])
  (.seq (.seq (.reg [o 10 (.mv (.t 4))])
  (.cond (.t 10) (.seq (.reg [o 11 (.mv (.t 3)), o 12 (.call 92 [(.t 11)]), st (.store 3 (.t 2) (.t 12))])
   (.ret)) (.skip)))
  (.seq (.reg [o 13 (.mv (.t 0)), o 14 (.build [(.bool false), (.int .i64 0), (.str [])] [(0, 1, (.c (.bool true))), (2, 1, (.t 13))]), st (.store 3 (.t 2) (.t 14))])
  (.ret)))),
  [.cell 2 (some 3)]⟩
/- loop.example/g03011/impl.TextValue -/
def F64 : Fun := ⟨5,
  .seq (.reg [o 2 (.new 5 [(.int .i64 0), (.int .i64 0), (.str []), (.int .i64 0), .nsl])])
  (.seq (.reg [o 3 (.mv (.t 0)), o 4 (.build [(.int .i64 0), (.int .i64 0), (.str []), (.int .i64 0), .nsl] [(0, 1, (.c (.int .i64 3))), (2, 1, (.t 3))]), st (.store 5 (.t 2) (.t 4))])
  (.ret)),
  [.cell 2 (some 5)]⟩
/- loop.example/g03011/laws.eqValue -/
def F65 : Fun := ⟨31,
  .seq (.reg [o 2 (.box 5 (.t 0)), o 3 (.box 5 (.t 1)), o 4 (.mv (.c (.bool false)))])
  (.seq (.seq (.reg [o 5 (.faddr 0 (.t 2)), o 6 (.load none (.t 5)), o 7 (.faddr 0 (.t 3)), o 8 (.load none (.t 7)), o 9 (.bin .neq (.t 6) (.t 8))])
  (.cond (.t 9) (.seq (.reg [o 4 (.mv (.c (.bool false)))])
   (.ret)) (.skip)))
  (.seq (.seq (.reg [o 10 (.faddr 1 (.t 2)), o 11 (.load none (.t 10)), o 12 (.faddr 1 (.t 3)), o 13 (.load none (.t 12)), o 14 (.bin .neq (.t 11) (.t 13))])
  (.cond (.t 14) (.seq (.reg [o 4 (.mv (.c (.bool false)))])
   (.ret)) (.skip)))
  (.seq (.seq (.reg [o 15 (.faddr 2 (.t 2)), o 16 (.load none (.t 15)), o 17 (.faddr 2 (.t 3)), o 18 (.load none (.t 17)), o 19 (.bin .neq (.t 16) (.t 18))])
  (.cond (.t 19) (.seq (.reg [o 4 (.mv (.c (.bool false)))])
   (.ret)) (.skip)))
  (.seq (.seq (.reg [o 20 (.faddr 3 (.t 2)), o 21 (.load none (.t 20)), o 22 (.faddr 3 (.t 3)), o 23 (.load none (.t 22)), o 24 (.bin .neq (.t 21) (.t 23))])
  (.cond (.t 24) (.seq (.reg [o 4 (.mv (.c (.bool false)))])
   (.ret)) (.skip)))
  (.seq (.seq (.reg [o 25 (.faddr 4 (.t 2)), o 26 (.load none (.t 25)), o 27 (.faddr 4 (.t 3)), o 28 (.load none (.t 27)), o 29 (.call 93 [(.t 26), (.t 28)]), o 30 (.un .not (.t 29))])
  (.cond (.t 30) (.seq (.reg [o 4 (.mv (.c (.bool false)))])
   (.ret)) (.skip)))
  (.seq (.reg [o 4 (.mv (.c (.bool true)))])
  (.ret))))))),
  [.tmp 4]⟩
/- loop.example/g03011/laws.eqPair -/
def F66 : Fun := ⟨15,
  .seq (.reg [o 2 (.box 2 (.t 0)), o 3 (.box 2 (.t 1)), o 4 (.mv (.c (.bool false)))])
  (.seq (.seq (.reg [o 5 (.faddr 0 (.t 2)), o 6 (.load none (.t 5)), o 7 (.faddr 0 (.t 3)), o 8 (.load none (.t 7)), o 9 (.bin .neq (.t 6) (.t 8))])
  (.cond (.t 9) (.seq (.reg [o 4 (.mv (.c (.bool false)))])
   (.ret)) (.skip)))
  (.seq (.seq (.reg [o 10 (.faddr 1 (.t 2)), o 11 (.load none (.t 10)), o 12 (.faddr 1 (.t 3)), o 13 (.load none (.t 12)), o 14 (.bin .neq (.t 11) (.t 13))])
  (.cond (.t 14) (.seq (.reg [o 4 (.mv (.c (.bool false)))])
   (.ret)) (.skip)))
  (.seq (.reg [o 4 (.mv (.c (.bool true)))])
  (.ret)))),
  [.tmp 4]⟩
/- loop.example/g03011/spec.l1Str -/
def F67 : Fun := ⟨12,
  .seq (.reg [o 4 (.mv (.c (.str [])))])
  (.seq (.reg [o 5 (.mv (.t 1)), o 6 (.mv (.t 0)), o 7 (.mv (.t 1)), o 8 (.lenL (.t 7)), o 9 (.call 69 [(.t 6), (.t 8)]), o 10 (.iaddr 1 (.t 5) (.t 9)), o 11 (.load none (.t 10)), o 4 (.mv (.t 11))])
  (.ret)),
  [.tmp 4]⟩
/- loop.example/g03011/spec.l36Draw -/
def F68 : Fun := ⟨22,
  .seq (.reg [o 2 (.mv (.c .nsl))])
  (.seq (.reg [o 5 (.bslice 2 [(.str []), (.str [])] 0 []), o 3 (.mv (.t 5))])
  (.seq (.seq (.reg [o 6 (.mv (.t 0)), o 7 (.call 69 [(.t 6), (.c (.int .i64 4))]), o 4 (.mv (.t 7))])
  (.block 0 (.loop (.seq (.seq (.reg [o 8 (.mv (.t 4)), o 9 (.bin .gtr (.t 8) (.c (.int .i64 0)))])
    (.cond (.t 9) (.skip) (.exit 0)))
    (.seq (.block 1 (.reg [o 12 (.mv (.t 3)), o 13 (.mv (.t 0)), o 14 (.bslice 1 [(.str [])] 6 [(0, (.c (.str [113]))), (1, (.c (.str [97, 32, 98]))), (2, (.c (.str []))), (3, (.c (.str [53]))), (4, (.c (.str [120, 38, 121]))), (5, (.c (.str [105, 100])))]), o 15 (.call 67 [(.t 13), (.t 14)]), o 16 (.mv (.t 0)), o 17 (.call 94 [(.t 16)]), o 18 (.build [(.str []), (.str [])] [(0, 1, (.t 15)), (1, 1, (.t 17))]), o 19 (.bslice 2 [(.str []), (.str [])] 1 [(0, (.t 18))]), o 20 (.append 2 32 (.t 12) (.t 19)), o 3 (.mv (.t 20))]))
    (.reg [o 10 (.mv (.t 4)), o 11 (.bin .sub (.t 10) (.c (.int .i64 1))), o 4 (.mv (.t 11))]))))))
  (.seq (.reg [o 21 (.mv (.t 3)), o 2 (.mv (.t 21))])
  (.ret)))),
  [.tmp 2]⟩
/- loop.example/g03011/spec.l1Below -/
def F69 : Fun := ⟨31,
  .seq (.reg [o 4 (.mv (.c (.int .i64 0)))])
  (.seq (.seq (.reg [o 8 (.mv (.t 1)), o 9 (.bin .leq (.t 8) (.c (.int .i64 0)))])
  (.cond (.t 9) (.seq (.reg [o 4 (.mv (.c (.int .i64 0)))])
   (.ret)) (.skip)))
  (.seq (.seq (.reg [o 10 (.mv (.t 1)), o 11 (.bin .leq (.t 10) (.c (.int .i64 256)))])
  (.cond (.t 11) (.seq (.reg [o 12 (.mv (.t 0)), o 13 (.call 95 [(.t 12)]), o 14 (.mv (.t 1)), o 15 (.bin .rem (.t 13) (.t 14)), o 4 (.mv (.t 15))])
   (.ret)) (.skip)))
  (.seq (.reg [o 16 (.mv (.t 0)), o 17 (.call 95 [(.t 16)]), o 5 (.mv (.t 17))])
  (.seq (.reg [o 18 (.mv (.t 0)), o 19 (.call 95 [(.t 18)]), o 6 (.mv (.t 19))])
  (.seq (.reg [o 20 (.mv (.t 0)), o 21 (.call 95 [(.t 20)]), o 7 (.mv (.t 21))])
  (.seq (.reg [o 22 (.mv (.t 5)), o 23 (.bin .mul (.t 22) (.c (.int .i64 65536))), o 24 (.mv (.t 6)), o 25 (.bin .mul (.t 24) (.c (.int .i64 256))), o 26 (.bin .add (.t 23) (.t 25)), o 27 (.mv (.t 7)), o 28 (.bin .add (.t 26) (.t 27)), o 29 (.mv (.t 1)), o 30 (.bin .rem (.t 28) (.t 29)), o 4 (.mv (.t 30))])
  (.ret))))))),
  [.tmp 4]⟩
/- loop.example/g03011/spec.l22Path -/
def F70 : Fun := ⟨6,
  .seq (.reg [o 2 (.mv (.c (.str [])))])
  (.seq (.reg [o 3 (.mv (.t 0)), o 4 (.bslice 1 [(.str [])] 16 [(0, (.c (.str [109, 97, 105, 110]))), (1, (.c (.str [108, 105, 98, 47, 97]))), (2, (.c (.str [46, 47, 109, 97, 105, 110]))), (3, (.c (.str [108, 105, 98, 47, 46, 46, 47, 109, 97, 105, 110]))), (4, (.c (.str [46, 46, 47, 109, 97, 105, 110]))), (5, (.c (.str [47, 109, 97, 105, 110]))), (6, (.c (.str [108, 105, 98, 47, 47, 98]))), (7, (.c (.str [97, 32, 98]))), (8, (.c (.str []))), (9, (.c (.str [46]))), (10, (.c (.str [46, 46]))), (11, (.c (.str [108, 105, 98, 47, 97, 47]))), (12, (.c (.str [120]))), (13, (.c (.str [97, 47, 46, 46, 47, 46, 46, 47, 98]))), (14, (.c (.str [97, 98, 99, 100, 101, 102, 103, 104, 105, 106, 107, 108, 109, 110, 111, 112, 113, 114, 115, 116, 117]))), (15, (.c (.str [97, 45, 98, 46, 99, 95, 100])))]), o 5 (.call 67 [(.t 3), (.t 4)]), o 2 (.mv (.t 5))])
  (.ret)),
  [.tmp 2]⟩
/- internal/stringslite.Cut -/
def F71 : Fun := ⟨23,
  .seq (.reg [o 4 (.mv (.c (.str []))), o 5 (.mv (.c (.str []))), o 6 (.mv (.c (.bool false)))])
  (.seq (.seq (.reg [o 8 (.mv (.t 0)), o 9 (.mv (.t 1)), o 10 (.call 96 [(.t 8), (.t 9)]), o 7 (.mv (.t 10))])
  (.seq (.reg [o 11 (.mv (.t 7)), o 12 (.bin .geq (.t 11) (.c (.int .i64 0)))])
  (.cond (.t 12) (.seq (.reg [o 13 (.mv (.t 0)), o 14 (.mv (.t 7)), o 15 (.sliceS (.t 13) none (some (.t 14))), o 16 (.mv (.t 0)), o 17 (.mv (.t 7)), o 18 (.mv (.t 1)), o 19 (.lenS (.t 18)), o 20 (.bin .add (.t 17) (.t 19)), o 21 (.sliceS (.t 16) (some (.t 20)) none), o 4 (.mv (.t 15)), o 5 (.mv (.t 21)), o 6 (.mv (.c (.bool true)))])
   (.ret)) (.skip))))
  (.seq (.reg [o 22 (.mv (.t 0)), o 4 (.mv (.t 22)), o 5 (.mv (.c (.str []))), o 6 (.mv (.c (.bool false)))])
  (.ret))),
  [.tmp 4, .tmp 5, .tmp 6]⟩
/- internal/stringslite.CutPrefix -/
def F72 : Fun := ⟨15,
  .seq (.reg [o 4 (.mv (.c (.str []))), o 5 (.mv (.c (.bool false)))])
  (.seq (.seq (.reg [o 6 (.mv (.t 0)), o 7 (.mv (.t 1)), o 8 (.call 97 [(.t 6), (.t 7)]), o 9 (.un .not (.t 8))])
  (.cond (.t 9) (.seq (.reg [o 10 (.mv (.t 0)), o 4 (.mv (.t 10)), o 5 (.mv (.c (.bool false)))])
   (.ret)) (.skip)))
  (.seq (.reg [o 11 (.mv (.t 0)), o 12 (.mv (.t 1)), o 13 (.lenS (.t 12)), o 14 (.sliceS (.t 11) (some (.t 13)) none), o 4 (.mv (.t 14)), o 5 (.mv (.c (.bool true)))])
  (.ret))),
  [.tmp 4, .tmp 5]⟩
/- internal/stringslite.CutSuffix -/
def F73 : Fun := ⟨18,
  .seq (.reg [o 4 (.mv (.c (.str []))), o 5 (.mv (.c (.bool false)))])
  (.seq (.seq (.reg [o 6 (.mv (.t 0)), o 7 (.mv (.t 1)), o 8 (.call 98 [(.t 6), (.t 7)]), o 9 (.un .not (.t 8))])
  (.cond (.t 9) (.seq (.reg [o 10 (.mv (.t 0)), o 4 (.mv (.t 10)), o 5 (.mv (.c (.bool false)))])
   (.ret)) (.skip)))
  (.seq (.reg [o 11 (.mv (.t 0)), o 12 (.mv (.t 0)), o 13 (.lenS (.t 12)), o 14 (.mv (.t 1)), o 15 (.lenS (.t 14)), o 16 (.bin .sub (.t 13) (.t 15)), o 17 (.sliceS (.t 11) none (some (.t 16))), o 4 (.mv (.t 17)), o 5 (.mv (.c (.bool true)))])
  (.ret))),
  [.tmp 4, .tmp 5]⟩
/- loop.example/g03011/impl.SplitPath -/
def F74 : Fun := ⟨43,
  .seq (.reg [o 2 (.mv (.c .nsl)), o 3 (.mv (.c (.bool false)))])
  (.seq (.reg [o 7 (.bslice 1 [(.str [])] 0 []), o 4 (.mv (.t 7))])
  (.seq (.seq (.reg [o 8 (.mv (.t 0)), o 9 (.call 78 [(.t 8), (.c (.str [47]))]), o 10 (.lenL (.t 9)), o 11 (.mv (.c (.int .i64 0)))])
  (.block 0 (.loop (.seq (.reg [o 12 (.bin .lss (.t 11) (.t 10))])
    (.seq (.cond (.t 12) (.skip) (.exit 0))
    (.seq (.block 1 (.seq (.reg [o 13 (.iaddr 1 (.t 9) (.t 11)), o 14 (.load none (.t 13)), o 6 (.mv (.t 14))])
     (.block 2 (.seq (.reg [o 20 (.mv (.t 6)), o 21 (.bin .eql (.t 20) (.c (.str []))), o 22 (.mv (.t 21)), og 23 (.mv (.t 6)) 22 false, og 24 (.bin .eql (.t 23) (.c (.str [46]))) 22 false, o 25 (.pick (.t 22) (.c (.bool true)) (.t 24)), o 19 (.mv (.t 25))])
      (.cond (.t 19) (.skip) (.seq (.reg [o 27 (.mv (.t 6)), o 28 (.bin .eql (.t 27) (.c (.str [46, 46]))), o 26 (.mv (.t 28))])
       (.cond (.t 26) (.seq (.seq (.reg [o 29 (.mv (.t 4)), o 30 (.lenL (.t 29)), o 31 (.bin .eql (.t 30) (.c (.int .i64 0)))])
        (.cond (.t 31) (.seq (.reg [o 2 (.mv (.c .nsl)), o 3 (.mv (.c (.bool false)))])
         (.ret)) (.skip)))
        (.reg [o 32 (.mv (.t 4)), o 33 (.mv (.t 4)), o 34 (.lenL (.t 33)), o 35 (.bin .sub (.t 34) (.c (.int .i64 1))), o 36 (.slice 1 (.t 32) none (some (.t 35))), o 4 (.mv (.t 36))])) (.seq (.reg [o 38 (.mv (.t 6)), o 39 (.call 99 [(.t 38)]), o 40 (.un .not (.t 39)), o 37 (.mv (.t 40))])
        (.cond (.t 37) (.seq (.reg [o 2 (.mv (.c .nsl)), o 3 (.mv (.c (.bool false)))])
         (.ret)) (.reg [o 15 (.mv (.t 4)), o 16 (.mv (.t 6)), o 17 (.bslice 1 [(.str [])] 1 [(0, (.t 16))]), o 18 (.append 1 16 (.t 15) (.t 17)), o 4 (.mv (.t 18))]))))))))))
    (.reg [o 41 (.bin .add (.t 11) (.c (.int .i64 1))), o 11 (.mv (.t 41))])))))))
  (.seq (.reg [o 42 (.mv (.t 4)), o 2 (.mv (.t 42)), o 3 (.mv (.c (.bool true)))])
  (.ret)))),
  [.tmp 2, .tmp 3]⟩
/- loop.example/g03011/impl.InRange -/
def F76 : Fun := ⟨15,
  .seq (.reg [o 6 (.mv (.c (.bool false)))])
  (.seq (.reg [o 7 (.mv (.t 1)), o 8 (.mv (.t 0)), o 9 (.bin .leq (.t 7) (.t 8)), o 10 (.mv (.t 9)), og 11 (.mv (.t 0)) 10 true, og 12 (.mv (.t 2)) 10 true, og 13 (.bin .leq (.t 11) (.t 12)) 10 true, o 14 (.pick (.t 10) (.t 13) (.c (.bool false))), o 6 (.mv (.t 14))])
  (.ret)),
  [.tmp 6]⟩
/- loop.example/g03011/spec.NormalPath -/
def F77 : Fun := ⟨41,
  .seq (.reg [o 2 (.mv (.c (.str []))), o 3 (.mv (.c (.bool false)))])
  (.seq (.seq (.reg [o 8 (.mv (.t 0)), o 9 (.lenS (.t 8)), o 10 (.bin .gtr (.t 9) (.c (.int .i64 400)))])
  (.cond (.t 10) (.seq (.reg [o 2 (.mv (.c (.str []))), o 3 (.mv (.c (.bool false)))])
   (.ret)) (.skip)))
  (.seq (.reg [o 12 (.mv (.t 0)), o 13 (.call 103 [(.t 12)]), o 11 (.mv (.t 13)), o 14 (.extract (.t 11) 0), o 15 (.extract (.t 11) 1), o 4 (.mv (.t 14)), o 5 (.mv (.t 15))])
  (.seq (.reg [o 6 (.mv (.c (.str [])))])
  (.seq (.seq (.reg [o 7 (.mv (.c (.int .i64 0)))])
  (.block 0 (.loop (.seq (.seq (.reg [o 16 (.mv (.t 7)), o 17 (.mv (.t 4)), o 18 (.lenL (.t 17)), o 19 (.bin .lss (.t 16) (.t 18))])
    (.cond (.t 19) (.skip) (.exit 0)))
    (.seq (.block 1 (.seq (.seq (.reg [o 22 (.mv (.t 7)), o 23 (.bin .gtr (.t 22) (.c (.int .i64 0)))])
     (.cond (.t 23) (.reg [o 24 (.mv (.t 6)), o 25 (.bin .add (.t 24) (.c (.str [47]))), o 6 (.mv (.t 25))]) (.skip)))
     (.reg [o 26 (.mv (.t 6)), o 27 (.mv (.t 4)), o 28 (.mv (.t 7)), o 29 (.iaddr 1 (.t 27) (.t 28)), o 30 (.load none (.t 29)), o 31 (.bin .add (.t 26) (.t 30)), o 6 (.mv (.t 31))])))
    (.reg [o 20 (.mv (.t 7)), o 21 (.bin .add (.t 20) (.c (.int .i64 1))), o 7 (.mv (.t 21))]))))))
  (.seq (.seq (.reg [o 32 (.mv (.t 5)), o 33 (.un .not (.t 32)), o 34 (.mv (.t 33)), og 35 (.mv (.t 6)) 34 false, og 36 (.lenS (.t 35)) 34 false, og 37 (.call 85 [(.t 36), (.c (.int .i64 1)), (.c (.int .i64 60))]) 34 false, og 38 (.un .not (.t 37)) 34 false, o 39 (.pick (.t 34) (.c (.bool true)) (.t 38))])
  (.cond (.t 39) (.seq (.reg [o 2 (.mv (.c (.str []))), o 3 (.mv (.c (.bool false)))])
   (.ret)) (.skip)))
  (.seq (.reg [o 40 (.mv (.t 6)), o 2 (.mv (.t 40)), o 3 (.mv (.c (.bool true)))])
  (.ret))))))),
  [.tmp 2, .tmp 3]⟩
/- strings.Split -/
def F78 : Fun := ⟨8,
  .seq (.reg [o 4 (.mv (.c .nsl))])
  (.seq (.reg [o 5 (.mv (.t 0)), o 6 (.mv (.t 1)), o 7 (.call 104 [(.t 5), (.t 6), (.c (.int .i64 0)), (.c (.int .i64 (-1)))]), o 4 (.mv (.t 7))])
  (.ret)),
  [.tmp 4]⟩
/- loop.example/g03011/impl.UnescapeURL -/
def F79 : Fun := ⟨48,
  .seq (.reg [o 2 (.mv (.c (.str []))), o 3 (.mv (.c (.bool false)))])
  (.seq (.reg [o 8 (.bslice 1 [(.int .u8 0)] 0 []), o 4 (.mv (.t 8))])
  (.seq (.seq (.reg [o 5 (.mv (.c (.int .i64 0)))])
  (.block 0 (.loop (.seq (.seq (.reg [o 9 (.mv (.t 5)), o 10 (.mv (.t 0)), o 11 (.lenS (.t 10)), o 12 (.bin .lss (.t 9) (.t 11))])
    (.cond (.t 12) (.skip) (.exit 0)))
    (.seq (.block 1 (.seq (.reg [o 15 (.mv (.t 0)), o 16 (.mv (.t 5)), o 17 (.index (.t 15) (.t 16))])
     (.block 2 (.seq (.reg [o 25 (.bin .eql (.t 17) (.c (.int .u8 43))), o 24 (.mv (.t 25))])
      (.cond (.t 24) (.reg [o 26 (.mv (.t 4)), o 27 (.bslice 1 [(.int .u8 0)] 1 [(0, (.c (.int .u8 32)))]), o 28 (.append 1 1 (.t 26) (.t 27)), o 4 (.mv (.t 28))]) (.seq (.reg [o 30 (.bin .eql (.t 17) (.c (.int .u8 37))), o 29 (.mv (.t 30))])
       (.cond (.t 29) (.seq (.reg [o 32 (.mv (.t 0)), o 33 (.mv (.t 5)), o 34 (.bin .add (.t 33) (.c (.int .i64 1))), o 35 (.call 105 [(.t 32), (.t 34), (.c (.bool true))]), o 31 (.mv (.t 35)), o 36 (.extract (.t 31) 0), o 37 (.extract (.t 31) 1), o 6 (.mv (.t 36)), o 7 (.mv (.t 37))])
        (.seq (.seq (.reg [o 38 (.mv (.t 7)), o 39 (.un .not (.t 38))])
        (.cond (.t 39) (.seq (.reg [o 2 (.mv (.c (.str []))), o 3 (.mv (.c (.bool false)))])
         (.ret)) (.skip)))
        (.seq (.reg [o 40 (.mv (.t 4)), o 41 (.mv (.t 6)), o 42 (.bslice 1 [(.int .u8 0)] 1 [(0, (.t 41))]), o 43 (.append 1 1 (.t 40) (.t 42)), o 4 (.mv (.t 43))])
        (.reg [o 44 (.mv (.t 5)), o 45 (.bin .add (.t 44) (.c (.int .i64 2))), o 5 (.mv (.t 45))])))) (.reg [o 18 (.mv (.t 4)), o 19 (.mv (.t 0)), o 20 (.mv (.t 5)), o 21 (.index (.t 19) (.t 20)), o 22 (.bslice 1 [(.int .u8 0)] 1 [(0, (.t 21))]), o 23 (.append 1 1 (.t 18) (.t 22)), o 4 (.mv (.t 23))]))))))))
    (.reg [o 13 (.mv (.t 5)), o 14 (.bin .add (.t 13) (.c (.int .i64 1))), o 5 (.mv (.t 14))]))))))
  (.seq (.reg [o 46 (.mv (.t 4)), o 47 (.toStr (.t 46)), o 2 (.mv (.t 47)), o 3 (.mv (.c (.bool true)))])
  (.ret)))),
  [.tmp 2, .tmp 3]⟩
/- loop.example/g03011/impl.EscapeURL -/
def F80 : Fun := ⟨53,
  .seq (.reg [o 2 (.mv (.c (.str [])))])
  (.seq (.reg [o 6 (.bslice 1 [(.int .u8 0)] 0 []), o 3 (.mv (.t 6))])
  (.seq (.seq (.reg [o 4 (.mv (.c (.int .i64 0)))])
  (.block 0 (.loop (.seq (.seq (.reg [o 7 (.mv (.t 4)), o 8 (.mv (.t 0)), o 9 (.lenS (.t 8)), o 10 (.bin .lss (.t 7) (.t 9))])
    (.cond (.t 10) (.skip) (.exit 0)))
    (.seq (.block 1 (.seq (.reg [o 13 (.mv (.t 0)), o 14 (.mv (.t 4)), o 15 (.index (.t 13) (.t 14)), o 5 (.mv (.t 15))])
     (.seq (.reg [o 16 (.mv (.t 5)), o 17 (.call 106 [(.t 16)]), o 18 (.mv (.t 17)), og 19 (.mv (.t 5)) 18 false, og 20 (.call 107 [(.t 19)]) 18 false, o 21 (.pick (.t 18) (.c (.bool true)) (.t 20)), o 22 (.mv (.t 21)), og 23 (.mv (.t 5)) 22 false, og 24 (.bin .eql (.t 23) (.c (.int .u8 45))) 22 false, o 25 (.pick (.t 22) (.c (.bool true)) (.t 24)), o 26 (.mv (.t 25)), og 27 (.mv (.t 5)) 26 false, og 28 (.bin .eql (.t 27) (.c (.int .u8 95))) 26 false, o 29 (.pick (.t 26) (.c (.bool true)) (.t 28)), o 30 (.mv (.t 29)), og 31 (.mv (.t 5)) 30 false, og 32 (.bin .eql (.t 31) (.c (.int .u8 46))) 30 false, o 33 (.pick (.t 30) (.c (.bool true)) (.t 32)), o 34 (.mv (.t 33)), og 35 (.mv (.t 5)) 34 false, og 36 (.bin .eql (.t 35) (.c (.int .u8 126))) 34 false, o 37 (.pick (.t 34) (.c (.bool true)) (.t 36))])
     (.cond (.t 37) (.reg [o 38 (.mv (.t 3)), o 39 (.mv (.t 5)), o 40 (.bslice 1 [(.int .u8 0)] 1 [(0, (.t 39))]), o 41 (.append 1 1 (.t 38) (.t 40)), o 3 (.mv (.t 41))]) (.reg [o 42 (.mv (.t 3)), o 43 (.mv (.t 5)), o 44 (.bin .quo (.t 43) (.c (.int .u8 16))), o 45 (.call 108 [(.t 44)]), o 46 (.mv (.t 5)), o 47 (.bin .rem (.t 46) (.c (.int .u8 16))), o 48 (.call 108 [(.t 47)]), o 49 (.bslice 1 [(.int .u8 0)] 3 [(0, (.c (.int .u8 37))), (1, (.t 45)), (2, (.t 48))]), o 50 (.append 1 1 (.t 42) (.t 49)), o 3 (.mv (.t 50))])))))
    (.reg [o 11 (.mv (.t 4)), o 12 (.bin .add (.t 11) (.c (.int .i64 1))), o 4 (.mv (.t 12))]))))))
  (.seq (.reg [o 51 (.mv (.t 3)), o 52 (.toStr (.t 51)), o 2 (.mv (.t 52))])
  (.ret)))),
  [.tmp 2]⟩
/- loop.example/g03011/spec.IsName -/
def F81 : Fun := ⟨18,
  .seq (.reg [o 2 (.mv (.c (.bool false)))])
  (.seq (.reg [o 3 (.mv (.t 0)), o 4 (.lenS (.t 3)), o 5 (.bin .geq (.t 4) (.c (.int .i64 1))), o 6 (.mv (.t 5)), og 7 (.mv (.t 0)) 6 true, og 8 (.lenS (.t 7)) 6 true, og 9 (.bin .leq (.t 8) (.c (.int .i64 20))) 6 true, o 10 (.pick (.t 6) (.t 9) (.c (.bool false))), o 11 (.mv (.t 10)), og 12 (.mv (.t 0)) 11 true, og 13 (.call 109 [(.t 12), (.c (.int .i64 0))]) 11 true, og 14 (.mv (.t 0)) 11 true, og 15 (.lenS (.t 14)) 11 true, og 16 (.bin .eql (.t 13) (.t 15)) 11 true, o 17 (.pick (.t 11) (.t 16) (.c (.bool false))), o 2 (.mv (.t 17))])
  (.ret)),
  [.tmp 2]⟩
/- loop.example/g03011/spec.IsReserved -/
def F82 : Fun := ⟨18,
  .seq (.reg [o 2 (.mv (.c (.bool false)))])
  (.seq (.reg [o 5 (.bslice 1 [(.str [])] 28 [(0, (.c (.str [101, 99, 104, 111]))), (1, (.c (.str [105, 102]))), (2, (.c (.str [101, 108, 115, 101]))), (3, (.c (.str [119, 104, 105, 108, 101]))), (4, (.c (.str [102, 111, 114, 101, 97, 99, 104]))), (5, (.c (.str [97, 115]))), (6, (.c (.str [98, 114, 101, 97, 107]))), (7, (.c (.str [99, 111, 110, 116, 105, 110, 117, 101]))), (8, (.c (.str [114, 101, 116, 117, 114, 110]))), (9, (.c (.str [103, 108, 111, 98, 97, 108]))), (10, (.c (.str [117, 110, 115, 101, 116]))), (11, (.c (.str [116, 104, 114, 111, 119]))), (12, (.c (.str [116, 114, 121]))), (13, (.c (.str [99, 97, 116, 99, 104]))), (14, (.c (.str [102, 105, 110, 97, 108, 108, 121]))), (15, (.c (.str [121, 105, 101, 108, 100]))), (16, (.c (.str [105, 110, 99, 108, 117, 100, 101]))), (17, (.c (.str [102, 117, 110, 99, 116, 105, 111, 110]))), (18, (.c (.str [99, 108, 97, 115, 115]))), (19, (.c (.str [116, 114, 97, 105, 116]))), (20, (.c (.str [101, 120, 116, 101, 110, 100, 115]))), (21, (.c (.str [117, 115, 101]))), (22, (.c (.str [112, 114, 105, 118, 97, 116, 101]))), (23, (.c (.str [115, 116, 97, 116, 105, 99]))), (24, (.c (.str [110, 101, 119]))), (25, (.c (.str [116, 114, 117, 101]))), (26, (.c (.str [102, 97, 108, 115, 101]))), (27, (.c (.str [110, 117, 108, 108])))]), o 3 (.mv (.t 5))])
  (.seq (.seq (.reg [o 4 (.mv (.c (.int .i64 0)))])
  (.block 0 (.loop (.seq (.seq (.reg [o 6 (.mv (.t 4)), o 7 (.mv (.t 3)), o 8 (.lenL (.t 7)), o 9 (.bin .lss (.t 6) (.t 8))])
    (.cond (.t 9) (.skip) (.exit 0)))
    (.seq (.block 1 (.seq (.reg [o 12 (.mv (.t 3)), o 13 (.mv (.t 4)), o 14 (.iaddr 1 (.t 12) (.t 13)), o 15 (.load none (.t 14)), o 16 (.mv (.t 0)), o 17 (.bin .eql (.t 15) (.t 16))])
     (.cond (.t 17) (.seq (.reg [o 2 (.mv (.c (.bool true)))])
      (.ret)) (.skip))))
    (.reg [o 10 (.mv (.t 4)), o 11 (.bin .add (.t 10) (.c (.int .i64 1))), o 4 (.mv (.t 11))]))))))
  (.seq (.reg [o 2 (.mv (.c (.bool false)))])
  (.ret)))),
  [.tmp 2]⟩
/- loop.example/g03011/spec.l5Weigh -/
def F83 : Fun := ⟨37,
  .seq (.reg [o 2 (.box 5 (.t 0)), o 4 (.mv (.c (.int .i64 0)))])
  (.seq (.reg [o 5 (.mv (.c (.int .i64 1)))])
  (.seq (.seq (.reg [o 6 (.mv (.c (.int .i64 0)))])
  (.block 0 (.loop (.seq (.seq (.reg [o 7 (.faddr 0 (.t 2)), o 8 (.load none (.t 7)), o 9 (.bin .eql (.t 8) (.c (.int .i64 4))), o 10 (.mv (.t 9)), og 11 (.mv (.t 6)) 10 true, og 12 (.faddr 4 (.t 2)) 10 true, og 13 (.load none (.t 12)) 10 true, og 14 (.lenL (.t 13)) 10 true, og 15 (.bin .lss (.t 11) (.t 14)) 10 true, o 16 (.pick (.t 10) (.t 15) (.c (.bool false))), o 17 (.mv (.t 16)), og 18 (.mv (.t 5)) 17 true, og 19 (.mv (.t 1)) 17 true, og 20 (.bin .leq (.t 18) (.t 19)) 17 true, o 21 (.pick (.t 17) (.t 20) (.c (.bool false)))])
    (.cond (.t 21) (.skip) (.exit 0)))
    (.seq (.block 1 (.reg [o 24 (.mv (.t 5)), o 25 (.faddr 4 (.t 2)), o 26 (.load none (.t 25)), o 27 (.mv (.t 6)), o 28 (.iaddr 8 (.t 26) (.t 27)), o 29 (.faddr 3 (.t 28)), o 30 (.load (some 5) (.t 29)), o 31 (.mv (.t 1)), o 32 (.mv (.t 5)), o 33 (.bin .sub (.t 31) (.t 32)), o 34 (.call 83 [(.t 30), (.t 33)]), o 35 (.bin .add (.t 24) (.t 34)), o 5 (.mv (.t 35))]))
    (.reg [o 22 (.mv (.t 6)), o 23 (.bin .add (.t 22) (.c (.int .i64 1))), o 6 (.mv (.t 23))]))))))
  (.seq (.reg [o 36 (.mv (.t 5)), o 4 (.mv (.t 36))])
  (.ret)))),
  [.tmp 4]⟩
/- loop.example/g03011/spec.l5Valid -/
def F84 : Fun := ⟨120,
  .seq (.reg [o 1 (.box 5 (.t 0)), o 2 (.mv (.c (.bool false)))])
  (.seq (.seq (.reg [o 5 (.faddr 0 (.t 1)), o 6 (.load none (.t 5)), o 7 (.bin .neq (.t 6) (.c (.int .i64 3))), o 8 (.mv (.t 7)), og 9 (.faddr 2 (.t 1)) 8 true, og 10 (.load none (.t 9)) 8 true, og 11 (.bin .neq (.t 10) (.c (.str []))) 8 true, o 12 (.pick (.t 8) (.t 11) (.c (.bool false))), o 13 (.mv (.t 12)), og 14 (.faddr 0 (.t 1)) 13 false, og 15 (.load none (.t 14)) 13 false, og 16 (.bin .neq (.t 15) (.c (.int .i64 4))) 13 false, og 17 (.mv (.t 16)) 13 false, og 18 (.faddr 3 (.t 1)) 17 true, og 19 (.load none (.t 18)) 17 true, og 20 (.bin .neq (.t 19) (.c (.int .i64 0))) 17 true, og 21 (.mv (.t 20)) 17 true, og 22 (.faddr 4 (.t 1)) 21 false, og 23 (.load none (.t 22)) 21 false, og 24 (.lenL (.t 23)) 21 false, og 25 (.bin .gtr (.t 24) (.c (.int .i64 0))) 21 false, og 26 (.pick (.t 21) (.c (.bool true)) (.t 25)) 17 true, og 27 (.pick (.t 17) (.t 26) (.c (.bool false))) 13 false, o 28 (.pick (.t 13) (.c (.bool true)) (.t 27))])
  (.cond (.t 28) (.seq (.reg [o 2 (.mv (.c (.bool false)))])
   (.ret)) (.skip)))
  (.seq (.seq (.reg [o 29 (.faddr 0 (.t 1)), o 30 (.load none (.t 29))])
  (.block 0 (.seq (.reg [o 32 (.bin .eql (.t 30) (.c (.int .i64 0))), o 31 (.mv (.t 32))])
   (.cond (.t 31) (.seq (.reg [o 33 (.faddr 1 (.t 1)), o 34 (.load none (.t 33)), o 35 (.bin .eql (.t 34) (.c (.int .i64 0))), o 2 (.mv (.t 35))])
    (.ret)) (.seq (.reg [o 37 (.bin .eql (.t 30) (.c (.int .i64 1))), o 36 (.mv (.t 37))])
    (.cond (.t 36) (.seq (.reg [o 38 (.faddr 1 (.t 1)), o 39 (.load none (.t 38)), o 40 (.call 85 [(.t 39), (.c (.int .i64 0)), (.c (.int .i64 1))]), o 2 (.mv (.t 40))])
     (.ret)) (.seq (.reg [o 42 (.bin .eql (.t 30) (.c (.int .i64 2))), o 41 (.mv (.t 42))])
     (.cond (.t 41) (.seq (.reg [o 43 (.faddr 1 (.t 1)), o 44 (.load none (.t 43)), o 45 (.call 85 [(.t 44), (.c (.int .i64 (-1000000000))), (.c (.int .i64 1000000000))]), o 2 (.mv (.t 45))])
      (.ret)) (.seq (.reg [o 47 (.bin .eql (.t 30) (.c (.int .i64 3))), o 46 (.mv (.t 47))])
      (.cond (.t 46) (.seq (.reg [o 48 (.faddr 1 (.t 1)), o 49 (.load none (.t 48)), o 50 (.bin .eql (.t 49) (.c (.int .i64 0))), o 51 (.mv (.t 50)), og 52 (.faddr 2 (.t 1)) 51 true, og 53 (.load none (.t 52)) 51 true, og 54 (.lenS (.t 53)) 51 true, og 55 (.bin .leq (.t 54) (.c (.int .i64 400))) 51 true, o 56 (.pick (.t 51) (.t 55) (.c (.bool false))), o 2 (.mv (.t 56))])
       (.ret)) (.seq (.seq (.reg [o 58 (.bin .eql (.t 30) (.c (.int .i64 6))), o 57 (.mv (.t 58))])
       (.cond (.t 57) (.skip) (.seq (.reg [o 59 (.bin .eql (.t 30) (.c (.int .i64 7))), o 57 (.mv (.t 59))])
        (.cond (.t 57) (.skip) (.reg [o 60 (.bin .eql (.t 30) (.c (.int .i64 8))), o 57 (.mv (.t 60))])))))
       (.cond (.t 57) (.seq (.reg [o 61 (.faddr 1 (.t 1)), o 62 (.load none (.t 61)), o 63 (.call 85 [(.t 62), (.c (.int .i64 0)), (.c (.int .i64 255))]), o 2 (.mv (.t 63))])
        (.ret)) (.seq (.reg [o 65 (.bin .eql (.t 30) (.c (.int .i64 4))), o 64 (.mv (.t 65))])
        (.cond (.t 64) (.seq (.seq (.reg [o 66 (.faddr 1 (.t 1)), o 67 (.load none (.t 66)), o 68 (.bin .neq (.t 67) (.c (.int .i64 0))), o 69 (.mv (.t 68)), og 70 (.faddr 3 (.t 1)) 69 false, og 71 (.load none (.t 70)) 69 false, og 72 (.call 85 [(.t 71), (.c (.int .i64 0)), (.c (.int .i64 1000000001))]) 69 false, og 73 (.un .not (.t 72)) 69 false, o 74 (.pick (.t 69) (.c (.bool true)) (.t 73))])
         (.cond (.t 74) (.seq (.reg [o 2 (.mv (.c (.bool false)))])
          (.ret)) (.skip)))
         (.seq (.seq (.reg [o 3 (.mv (.c (.int .i64 0)))])
         (.block 1 (.loop (.seq (.seq (.reg [o 75 (.mv (.t 3)), o 76 (.faddr 4 (.t 1)), o 77 (.load none (.t 76)), o 78 (.lenL (.t 77)), o 79 (.bin .lss (.t 75) (.t 78))])
           (.cond (.t 79) (.skip) (.exit 1)))
           (.seq (.block 2 (.seq (.reg [o 82 (.faddr 4 (.t 1)), o 83 (.load none (.t 82)), o 84 (.mv (.t 3)), o 85 (.iaddr 8 (.t 83) (.t 84)), o 86 (.faddr 0 (.t 85)), o 87 (.load (some 3) (.t 86)), o 4 (.new 3 [(.bool false), (.int .i64 0), (.str [])]), st (.store 3 (.t 4) (.t 87))])
            (.seq (.reg [o 88 (.load (some 3) (.t 4)), o 89 (.call 110 [(.t 88)]), o 90 (.un .not (.t 89)), o 91 (.mv (.t 90)), og 92 (.faddr 0 (.t 4)) 91 false, og 93 (.load none (.t 92)) 91 false, og 94 (.un .not (.t 93)) 91 false, og 95 (.mv (.t 94)) 91 false, og 96 (.faddr 1 (.t 4)) 95 true, og 97 (.load none (.t 96)) 95 true, og 98 (.faddr 3 (.t 1)) 95 true, og 99 (.load none (.t 98)) 95 true, og 100 (.bin .geq (.t 97) (.t 99)) 95 true, og 101 (.pick (.t 95) (.t 100) (.c (.bool false))) 91 false, o 102 (.pick (.t 91) (.c (.bool true)) (.t 101)), o 103 (.mv (.t 102)), og 104 (.load (some 5) (.t 1)) 103 false, og 105 (.load (some 3) (.t 4)) 103 false, og 106 (.call 86 [(.t 104), (.t 105)]) 103 false, og 107 (.mv (.t 3)) 103 false, og 108 (.bin .neq (.t 106) (.t 107)) 103 false, o 109 (.pick (.t 103) (.c (.bool true)) (.t 108)), o 110 (.mv (.t 109)), og 111 (.faddr 4 (.t 1)) 110 false, og 112 (.load none (.t 111)) 110 false, og 113 (.mv (.t 3)) 110 false, og 114 (.iaddr 8 (.t 112) (.t 113)) 110 false, og 115 (.faddr 3 (.t 114)) 110 false, og 116 (.load (some 5) (.t 115)) 110 false, og 117 (.call 84 [(.t 116)]) 110 false, og 118 (.un .not (.t 117)) 110 false, o 119 (.pick (.t 110) (.c (.bool true)) (.t 118))])
            (.cond (.t 119) (.seq (.reg [o 2 (.mv (.c (.bool false)))])
             (.ret)) (.skip)))))
           (.reg [o 80 (.mv (.t 3)), o 81 (.bin .add (.t 80) (.c (.int .i64 1))), o 3 (.mv (.t 81))]))))))
         (.seq (.reg [o 2 (.mv (.c (.bool true)))])
         (.ret)))) (.skip)))))))))))))))
  (.seq (.reg [o 2 (.mv (.c (.bool false)))])
  (.ret)))),
  [.tmp 2]⟩
/- loop.example/g03011/spec.l1In -/
def F85 : Fun := ⟨15,
  .seq (.reg [o 6 (.mv (.c (.bool false)))])
  (.seq (.reg [o 7 (.mv (.t 0)), o 8 (.mv (.t 1)), o 9 (.bin .geq (.t 7) (.t 8)), o 10 (.mv (.t 9)), og 11 (.mv (.t 0)) 10 true, og 12 (.mv (.t 2)) 10 true, og 13 (.bin .leq (.t 11) (.t 12)) 10 true, o 14 (.pick (.t 10) (.t 13) (.c (.bool false))), o 6 (.mv (.t 14))])
  (.ret)),
  [.tmp 6]⟩
/- loop.example/g03011/spec.l5Find -/
def F86 : Fun := ⟨27,
  .seq (.reg [o 2 (.box 5 (.t 0)), o 3 (.box 3 (.t 1)), o 4 (.mv (.c (.int .i64 0)))])
  (.seq (.seq (.reg [o 5 (.mv (.c (.int .i64 0)))])
  (.block 0 (.loop (.seq (.seq (.reg [o 6 (.faddr 0 (.t 2)), o 7 (.load none (.t 6)), o 8 (.bin .eql (.t 7) (.c (.int .i64 4))), o 9 (.mv (.t 8)), og 10 (.mv (.t 5)) 9 true, og 11 (.faddr 4 (.t 2)) 9 true, og 12 (.load none (.t 11)) 9 true, og 13 (.lenL (.t 12)) 9 true, og 14 (.bin .lss (.t 10) (.t 13)) 9 true, o 15 (.pick (.t 9) (.t 14) (.c (.bool false)))])
    (.cond (.t 15) (.skip) (.exit 0)))
    (.seq (.block 1 (.seq (.reg [o 18 (.faddr 4 (.t 2)), o 19 (.load none (.t 18)), o 20 (.mv (.t 5)), o 21 (.iaddr 8 (.t 19) (.t 20)), o 22 (.faddr 0 (.t 21)), o 23 (.load (some 3) (.t 22)), o 24 (.load (some 3) (.t 3)), o 25 (.beq false [2, 0, 1] (.t 23) (.t 24))])
     (.cond (.t 25) (.seq (.reg [o 26 (.mv (.t 5)), o 4 (.mv (.t 26))])
      (.ret)) (.skip))))
    (.reg [o 16 (.mv (.t 5)), o 17 (.bin .add (.t 16) (.c (.int .i64 1))), o 5 (.mv (.t 17))]))))))
  (.seq (.reg [o 4 (.mv (.c (.int .i64 (-1))))])
  (.ret))),
  [.tmp 4]⟩
/- loop.example/g03011/spec.ParseInt -/
def F87 : Fun := ⟨39,
  .seq (.reg [o 2 (.mv (.c (.int .i64 0))), o 3 (.mv (.c (.bool false)))])
  (.seq (.seq (.reg [o 6 (.mv (.t 0)), o 7 (.lenS (.t 6)), o 8 (.call 85 [(.t 7), (.c (.int .i64 1)), (.c (.int .i64 13))]), o 9 (.un .not (.t 8))])
  (.cond (.t 9) (.seq (.reg [o 2 (.mv (.c (.int .i64 0))), o 3 (.mv (.c (.bool false)))])
   (.ret)) (.skip)))
  (.seq (.reg [o 4 (.mv (.c (.int .i64 0)))])
  (.seq (.seq (.reg [o 5 (.mv (.c (.int .i64 0)))])
  (.block 0 (.loop (.seq (.seq (.reg [o 10 (.mv (.t 5)), o 11 (.mv (.t 0)), o 12 (.lenS (.t 11)), o 13 (.bin .lss (.t 10) (.t 12))])
    (.cond (.t 13) (.skip) (.exit 0)))
    (.seq (.block 1 (.seq (.seq (.reg [o 16 (.mv (.t 0)), o 17 (.mv (.t 5)), o 18 (.index (.t 16) (.t 17)), o 19 (.toInt .i64 (.t 18)), o 20 (.call 85 [(.t 19), (.c (.int .i64 48)), (.c (.int .i64 57))]), o 21 (.un .not (.t 20))])
     (.cond (.t 21) (.seq (.reg [o 2 (.mv (.c (.int .i64 0))), o 3 (.mv (.c (.bool false)))])
      (.ret)) (.skip)))
     (.reg [o 22 (.mv (.t 4)), o 23 (.bin .mul (.c (.int .i64 10)) (.t 22)), o 24 (.mv (.t 0)), o 25 (.mv (.t 5)), o 26 (.index (.t 24) (.t 25)), o 27 (.bin .sub (.t 26) (.c (.int .u8 48))), o 28 (.toInt .i64 (.t 27)), o 29 (.bin .add (.t 23) (.t 28)), o 4 (.mv (.t 29))])))
    (.reg [o 14 (.mv (.t 5)), o 15 (.bin .add (.t 14) (.c (.int .i64 1))), o 5 (.mv (.t 15))]))))))
  (.seq (.seq (.reg [o 30 (.mv (.t 4)), o 31 (.bin .gtr (.t 30) (.c (.int .i64 1000000000000))), o 32 (.mv (.t 31)), og 33 (.mv (.t 4)) 32 false, og 34 (.call 111 [(.t 33)]) 32 false, og 35 (.mv (.t 0)) 32 false, og 36 (.bin .neq (.t 34) (.t 35)) 32 false, o 37 (.pick (.t 32) (.c (.bool true)) (.t 36))])
  (.cond (.t 37) (.seq (.reg [o 2 (.mv (.c (.int .i64 0))), o 3 (.mv (.c (.bool false)))])
   (.ret)) (.skip)))
  (.seq (.reg [o 38 (.mv (.t 4)), o 2 (.mv (.t 38)), o 3 (.mv (.c (.bool true)))])
  (.ret)))))),
  [.tmp 2, .tmp 3]⟩
/- loop.example/g03011/spec.Max -/
def F88 : Fun := ⟨10,
  .seq (.reg [o 4 (.mv (.c (.int .i64 0)))])
  (.seq (.seq (.reg [o 5 (.mv (.t 1)), o 6 (.mv (.t 0)), o 7 (.bin .gtr (.t 5) (.t 6))])
  (.cond (.t 7) (.seq (.reg [o 8 (.mv (.t 1)), o 4 (.mv (.t 8))])
   (.ret)) (.skip)))
  (.seq (.reg [o 9 (.mv (.t 0)), o 4 (.mv (.t 9))])
  (.ret))),
  [.tmp 4]⟩
/- loop.example/g03011/impl.FindKey -/
def F89 : Fun := ⟨24,
  .seq (.reg [o 2 (.box 5 (.t 0)), o 3 (.box 3 (.t 1)), o 4 (.mv (.c (.int .i64 0)))])
  (.seq (.seq (.reg [o 7 (.faddr 0 (.t 2)), o 8 (.load none (.t 7)), o 9 (.bin .neq (.t 8) (.c (.int .i64 4)))])
  (.cond (.t 9) (.seq (.reg [o 4 (.mv (.c (.int .i64 (-1))))])
   (.ret)) (.skip)))
  (.seq (.seq (.reg [o 10 (.faddr 4 (.t 2)), o 11 (.load none (.t 10)), o 12 (.lenL (.t 11)), o 13 (.mv (.c (.int .i64 0)))])
  (.block 0 (.loop (.seq (.reg [o 14 (.bin .lss (.t 13) (.t 12))])
    (.seq (.cond (.t 14) (.skip) (.exit 0))
    (.seq (.block 1 (.seq (.reg [o 15 (.mv (.t 13)), o 16 (.iaddr 8 (.t 11) (.t 13)), o 17 (.load (some 8) (.t 16)), o 6 (.new 8 [(.bool false), (.int .i64 0), (.str []), (.int .i64 0), (.int .i64 0), (.str []), (.int .i64 0), .nsl]), o 5 (.mv (.t 15)), st (.store 8 (.t 6) (.t 17))])
     (.seq (.reg [o 18 (.faddr 0 (.t 6)), o 19 (.load (some 3) (.t 18)), o 20 (.load (some 3) (.t 3)), o 21 (.beq false [2, 0, 1] (.t 19) (.t 20))])
     (.cond (.t 21) (.seq (.reg [o 22 (.mv (.t 5)), o 4 (.mv (.t 22))])
      (.ret)) (.skip)))))
    (.reg [o 23 (.bin .add (.t 13) (.c (.int .i64 1))), o 13 (.mv (.t 23))])))))))
  (.seq (.reg [o 4 (.mv (.c (.int .i64 (-1))))])
  (.ret)))),
  [.tmp 4]⟩
/- loop.example/g03011/impl.Max -/
def F90 : Fun := ⟨10,
  .seq (.reg [o 4 (.mv (.c (.int .i64 0)))])
  (.seq (.seq (.reg [o 5 (.mv (.t 1)), o 6 (.mv (.t 0)), o 7 (.bin .gtr (.t 5) (.t 6))])
  (.cond (.t 7) (.seq (.reg [o 8 (.mv (.t 1)), o 4 (.mv (.t 8))])
   (.ret)) (.skip)))
  (.seq (.reg [o 9 (.mv (.t 0)), o 4 (.mv (.t 9))])
  (.ret))),
  [.tmp 4]⟩
/- loop.example/g03011/impl.ParseSigned -/
def F91 : Fun := ⟨8,
  .seq (.reg [o 2 (.mv (.c (.int .i64 0))), o 3 (.mv (.c (.bool false)))])
  (.seq (.reg [o 4 (.mv (.t 0)), o 5 (.call 112 [(.t 4), (.c (.int .i64 (-1000000000))), (.c (.int .i64 1000000000))]), o 6 (.extract (.t 5) 0), o 7 (.extract (.t 5) 1), o 2 (.mv (.t 6)), o 3 (.mv (.t 7))])
  (.ret)),
  [.tmp 2, .tmp 3]⟩
/- loop.example/g03011/impl.intKey -/
def F92 : Fun := ⟨5,
  .seq (.reg [o 2 (.new 3 [(.bool false), (.int .i64 0), (.str [])])])
  (.seq (.reg [o 3 (.mv (.t 0)), o 4 (.build [(.bool false), (.int .i64 0), (.str [])] [(1, 1, (.t 3))]), st (.store 3 (.t 2) (.t 4))])
  (.ret)),
  [.cell 2 (some 3)]⟩
/- loop.example/g03011/laws.eqEntryS -/
def F93 : Fun := ⟨27,
  .seq (.reg [o 4 (.mv (.c (.bool false)))])
  (.seq (.seq (.reg [o 6 (.mv (.t 0)), o 7 (.lenL (.t 6)), o 8 (.mv (.t 1)), o 9 (.lenL (.t 8)), o 10 (.bin .neq (.t 7) (.t 9))])
  (.cond (.t 10) (.seq (.reg [o 4 (.mv (.c (.bool false)))])
   (.ret)) (.skip)))
  (.seq (.seq (.reg [o 5 (.mv (.c (.int .i64 0)))])
  (.block 0 (.loop (.seq (.seq (.reg [o 11 (.mv (.t 5)), o 12 (.mv (.t 0)), o 13 (.lenL (.t 12)), o 14 (.bin .lss (.t 11) (.t 13))])
    (.cond (.t 14) (.skip) (.exit 0)))
    (.seq (.block 1 (.seq (.reg [o 17 (.mv (.t 0)), o 18 (.mv (.t 5)), o 19 (.iaddr 8 (.t 17) (.t 18)), o 20 (.load (some 8) (.t 19)), o 21 (.mv (.t 1)), o 22 (.mv (.t 5)), o 23 (.iaddr 8 (.t 21) (.t 22)), o 24 (.load (some 8) (.t 23)), o 25 (.callF 113 [(.t 20), (.t 24)]), o 26 (.un .not (.t 25))])
     (.cond (.t 26) (.seq (.reg [o 4 (.mv (.c (.bool false)))])
      (.ret)) (.skip))))
    (.reg [o 15 (.mv (.t 5)), o 16 (.bin .add (.t 15) (.c (.int .i64 1))), o 5 (.mv (.t 16))]))))))
  (.seq (.reg [o 4 (.mv (.c (.bool true)))])
  (.ret)))),
  [.tmp 4]⟩
/- loop.example/g03011/spec.l4Text -/
def F94 : Fun := ⟨17,
  .seq (.reg [o 2 (.mv (.c (.str [])))])
  (.seq (.reg [o 3 (.mv (.c (.str [])))])
  (.seq (.seq (.reg [o 5 (.mv (.t 0)), o 6 (.call 69 [(.t 5), (.c (.int .i64 5))]), o 4 (.mv (.t 6))])
  (.block 0 (.loop (.seq (.seq (.reg [o 7 (.mv (.t 4)), o 8 (.bin .gtr (.t 7) (.c (.int .i64 0)))])
    (.cond (.t 8) (.skip) (.exit 0)))
    (.seq (.block 1 (.reg [o 11 (.mv (.t 3)), o 12 (.mv (.t 0)), o 13 (.bslice 1 [(.str [])] 20 [(0, (.c (.str [97]))), (1, (.c (.str [60, 98, 62]))), (2, (.c (.str [38]))), (3, (.c (.str [34]))), (4, (.c (.str [39]))), (5, (.c (.str [92]))), (6, (.c (.str [10]))), (7, (.c (.str [32]))), (8, (.c (.str [37]))), (9, (.c (.str [43]))), (10, (.c (.str [38, 97, 109, 112, 59]))), (11, (.c (.str [38, 35, 51, 57, 59]))), (12, (.c (.str [37, 52, 49]))), (13, (.c (.str [37, 52]))), (14, (.c (.str [92, 120, 51, 67]))), (15, (.c (.str [92, 120]))), (16, (.c (.str [126, 122]))), (17, (.c (.str [255]))), (18, (.c (.str [81, 57]))), (19, (.c (.str [38, 108, 116])))]), o 14 (.call 67 [(.t 12), (.t 13)]), o 15 (.bin .add (.t 11) (.t 14)), o 3 (.mv (.t 15))]))
    (.reg [o 9 (.mv (.t 4)), o 10 (.bin .sub (.t 9) (.c (.int .i64 1))), o 4 (.mv (.t 10))]))))))
  (.seq (.reg [o 16 (.mv (.t 3)), o 2 (.mv (.t 16))])
  (.ret)))),
  [.tmp 2]⟩
/- loop.example/g03011/spec.l1Byte -/
def F95 : Fun := ⟨58,
  .seq (.reg [o 2 (.mv (.c (.int .i64 0)))])
  (.seq (.reg [o 4 (.mv (.t 0)), o 5 (.mv (.t 0)), o 6 (.nilck (.t 5)), o 7 (.faddr 2 (.t 6)), o 8 (.load none (.t 7)), o 9 (.bin .mul (.t 8) (.c (.int .i64 6364136223846793005))), o 10 (.bin .add (.t 9) (.c (.int .i64 1442695040888963407))), o 11 (.nilck (.t 4)), o 12 (.faddr 2 (.t 11)), st (.store 1 (.t 12) (.t 10))])
  (.seq (.reg [o 13 (.mv (.t 0)), o 14 (.nilck (.t 13)), o 15 (.faddr 2 (.t 14)), o 16 (.load none (.t 15)), o 17 (.bin .shr (.t 16) (.c (.int .u64 33))), o 18 (.mv (.t 0)), o 19 (.nilck (.t 18)), o 20 (.faddr 2 (.t 19)), o 21 (.load none (.t 20)), o 22 (.bin .shr (.t 21) (.c (.int .u64 47))), o 23 (.bin .xor (.t 17) (.t 22)), o 24 (.bin .and (.t 23) (.c (.int .i64 255))), o 3 (.mv (.t 24))])
  (.seq (.seq (.reg [o 25 (.mv (.t 0)), o 26 (.nilck (.t 25)), o 27 (.faddr 1 (.t 26)), o 28 (.load none (.t 27)), o 29 (.mv (.t 0)), o 30 (.nilck (.t 29)), o 31 (.faddr 0 (.t 30)), o 32 (.load none (.t 31)), o 33 (.lenL (.t 32)), o 34 (.bin .lss (.t 28) (.t 33))])
  (.cond (.t 34) (.seq (.reg [o 35 (.mv (.t 3)), o 36 (.mv (.t 0)), o 37 (.nilck (.t 36)), o 38 (.faddr 0 (.t 37)), o 39 (.load none (.t 38)), o 40 (.mv (.t 0)), o 41 (.nilck (.t 40)), o 42 (.faddr 1 (.t 41)), o 43 (.load none (.t 42)), o 44 (.iaddr 1 (.t 39) (.t 43)), o 45 (.load none (.t 44)), o 46 (.toInt .i64 (.t 45)), o 47 (.bin .add (.t 35) (.t 46)), o 48 (.bin .and (.t 47) (.c (.int .i64 255))), o 3 (.mv (.t 48))])
   (.reg [o 49 (.mv (.t 0)), o 50 (.mv (.t 0)), o 51 (.nilck (.t 50)), o 52 (.faddr 1 (.t 51)), o 53 (.load none (.t 52)), o 54 (.bin .add (.t 53) (.c (.int .i64 1))), o 55 (.nilck (.t 49)), o 56 (.faddr 1 (.t 55)), st (.store 1 (.t 56) (.t 54))])) (.skip)))
  (.seq (.reg [o 57 (.mv (.t 3)), o 2 (.mv (.t 57))])
  (.ret))))),
  [.tmp 2]⟩
/- internal/stringslite.HasPrefix -/
def F97 : Fun := ⟨18,
  .seq (.reg [o 4 (.mv (.c (.bool false)))])
  (.seq (.reg [o 5 (.mv (.t 0)), o 6 (.lenS (.t 5)), o 7 (.mv (.t 1)), o 8 (.lenS (.t 7)), o 9 (.bin .geq (.t 6) (.t 8)), o 10 (.mv (.t 9)), og 11 (.mv (.t 0)) 10 true, og 12 (.mv (.t 1)) 10 true, og 13 (.lenS (.t 12)) 10 true, og 14 (.sliceS (.t 11) none (some (.t 13))) 10 true, og 15 (.mv (.t 1)) 10 true, og 16 (.bin .eql (.t 14) (.t 15)) 10 true, o 17 (.pick (.t 10) (.t 16) (.c (.bool false))), o 4 (.mv (.t 17))])
  (.ret)),
  [.tmp 4]⟩
/- internal/stringslite.HasSuffix -/
def F98 : Fun := ⟨21,
  .seq (.reg [o 4 (.mv (.c (.bool false)))])
  (.seq (.reg [o 5 (.mv (.t 0)), o 6 (.lenS (.t 5)), o 7 (.mv (.t 1)), o 8 (.lenS (.t 7)), o 9 (.bin .geq (.t 6) (.t 8)), o 10 (.mv (.t 9)), og 11 (.mv (.t 0)) 10 true, og 12 (.mv (.t 0)) 10 true, og 13 (.lenS (.t 12)) 10 true, og 14 (.mv (.t 1)) 10 true, og 15 (.lenS (.t 14)) 10 true, og 16 (.bin .sub (.t 13) (.t 15)) 10 true, og 17 (.sliceS (.t 11) (some (.t 16)) none) 10 true, og 18 (.mv (.t 1)) 10 true, og 19 (.bin .eql (.t 17) (.t 18)) 10 true, o 20 (.pick (.t 10) (.t 19) (.c (.bool false))), o 4 (.mv (.t 20))])
  (.ret)),
  [.tmp 4]⟩
/- loop.example/g03011/impl.pathPart -/
def F99 : Fun := ⟨37,
  .seq (.reg [o 2 (.mv (.c (.bool false)))])
  (.seq (.seq (.reg [o 3 (.mv (.c (.int .i64 0)))])
  (.block 0 (.loop (.seq (.seq (.reg [o 5 (.mv (.t 3)), o 6 (.mv (.t 0)), o 7 (.lenS (.t 6)), o 8 (.bin .lss (.t 5) (.t 7))])
    (.cond (.t 8) (.skip) (.exit 0)))
    (.seq (.block 1 (.seq (.reg [o 11 (.mv (.t 0)), o 12 (.mv (.t 3)), o 13 (.index (.t 11) (.t 12)), o 4 (.mv (.t 13))])
     (.seq (.reg [o 14 (.mv (.t 4)), o 15 (.call 106 [(.t 14)]), o 16 (.un .not (.t 15)), o 17 (.mv (.t 16)), og 18 (.mv (.t 4)) 17 true, og 19 (.call 107 [(.t 18)]) 17 true, og 20 (.un .not (.t 19)) 17 true, o 21 (.pick (.t 17) (.t 20) (.c (.bool false))), o 22 (.mv (.t 21)), og 23 (.mv (.t 4)) 22 true, og 24 (.bin .neq (.t 23) (.c (.int .u8 95))) 22 true, o 25 (.pick (.t 22) (.t 24) (.c (.bool false))), o 26 (.mv (.t 25)), og 27 (.mv (.t 4)) 26 true, og 28 (.bin .neq (.t 27) (.c (.int .u8 45))) 26 true, o 29 (.pick (.t 26) (.t 28) (.c (.bool false))), o 30 (.mv (.t 29)), og 31 (.mv (.t 4)) 30 true, og 32 (.bin .neq (.t 31) (.c (.int .u8 46))) 30 true, o 33 (.pick (.t 30) (.t 32) (.c (.bool false)))])
     (.cond (.t 33) (.seq (.reg [o 2 (.mv (.c (.bool false)))])
      (.ret)) (.skip)))))
    (.reg [o 9 (.mv (.t 3)), o 10 (.bin .add (.t 9) (.c (.int .i64 1))), o 3 (.mv (.t 10))]))))))
  (.seq (.reg [o 34 (.mv (.t 0)), o 35 (.lenS (.t 34)), o 36 (.bin .leq (.t 35) (.c (.int .i64 20))), o 2 (.mv (.t 36))])
  (.ret))),
  [.tmp 2]⟩
/- (*strings.Builder).WriteString -/
def F101 : Fun := ⟨19,
  .seq (.reg [o 4 (.mv (.c (.int .i64 0))), o 5 (.mv (.c (.ifc true)))])
  (.seq (.reg [o 6 (.mv (.t 0)), o 7 (.call 118 [(.t 6)])])
  (.seq (.reg [o 8 (.mv (.t 0)), o 9 (.mv (.t 0)), o 10 (.nilck (.t 9)), o 11 (.faddr 1 (.t 10)), o 12 (.load none (.t 11)), o 13 (.mv (.t 1)), o 14 (.append 1 1 (.t 12) (.t 13)), o 15 (.nilck (.t 8)), o 16 (.faddr 1 (.t 15)), st (.store 1 (.t 16) (.t 14))])
  (.seq (.reg [o 17 (.mv (.t 1)), o 18 (.lenS (.t 17)), o 4 (.mv (.t 18)), o 5 (.mv (.c (.ifc true)))])
  (.ret)))),
  [.tmp 4, .tmp 5]⟩
/- loop.example/g03011/spec.SplitPath -/
def F103 : Fun := ⟨60,
  .seq (.reg [o 2 (.mv (.c .nsl)), o 3 (.mv (.c (.bool false)))])
  (.seq (.reg [o 8 (.bslice 1 [(.str [])] 0 []), o 4 (.mv (.t 8))])
  (.seq (.reg [o 5 (.mv (.c (.int .i64 0)))])
  (.seq (.seq (.reg [o 6 (.mv (.c (.int .i64 0)))])
  (.block 0 (.loop (.seq (.seq (.reg [o 9 (.mv (.t 6)), o 10 (.mv (.t 0)), o 11 (.lenS (.t 10)), o 12 (.bin .leq (.t 9) (.t 11))])
    (.cond (.t 12) (.skip) (.exit 0)))
    (.seq (.block 1 (.seq (.seq (.reg [o 15 (.mv (.t 6)), o 16 (.mv (.t 0)), o 17 (.lenS (.t 16)), o 18 (.bin .lss (.t 15) (.t 17)), o 19 (.mv (.t 18)), og 20 (.mv (.t 0)) 19 true, og 21 (.mv (.t 6)) 19 true, og 22 (.index (.t 20) (.t 21)) 19 true, og 23 (.bin .neq (.t 22) (.c (.int .u8 47))) 19 true, o 24 (.pick (.t 19) (.t 23) (.c (.bool false)))])
     (.cond (.t 24) (.exit 1) (.skip)))
     (.seq (.reg [o 25 (.mv (.t 0)), o 26 (.mv (.t 5)), o 27 (.mv (.t 6)), o 28 (.sliceS (.t 25) (some (.t 26)) (some (.t 27))), o 7 (.mv (.t 28))])
     (.seq (.reg [o 29 (.mv (.t 6)), o 30 (.bin .add (.t 29) (.c (.int .i64 1))), o 5 (.mv (.t 30))])
     (.block 2 (.seq (.reg [o 36 (.mv (.t 7)), o 37 (.bin .eql (.t 36) (.c (.str []))), o 38 (.mv (.t 37)), og 39 (.mv (.t 7)) 38 false, og 40 (.bin .eql (.t 39) (.c (.str [46]))) 38 false, o 41 (.pick (.t 38) (.c (.bool true)) (.t 40)), o 35 (.mv (.t 41))])
      (.cond (.t 35) (.skip) (.seq (.reg [o 43 (.mv (.t 7)), o 44 (.bin .eql (.t 43) (.c (.str [46, 46]))), o 42 (.mv (.t 44))])
       (.cond (.t 42) (.seq (.seq (.reg [o 45 (.mv (.t 4)), o 46 (.lenL (.t 45)), o 47 (.bin .eql (.t 46) (.c (.int .i64 0)))])
        (.cond (.t 47) (.seq (.reg [o 48 (.bslice 1 [(.str [])] 0 []), o 2 (.mv (.t 48)), o 3 (.mv (.c (.bool false)))])
         (.ret)) (.skip)))
        (.reg [o 49 (.mv (.t 4)), o 50 (.mv (.t 4)), o 51 (.lenL (.t 50)), o 52 (.bin .sub (.t 51) (.c (.int .i64 1))), o 53 (.slice 1 (.t 49) none (some (.t 52))), o 4 (.mv (.t 53))])) (.seq (.reg [o 55 (.mv (.t 7)), o 56 (.call 120 [(.t 55)]), o 57 (.un .not (.t 56)), o 54 (.mv (.t 57))])
        (.cond (.t 54) (.seq (.reg [o 58 (.bslice 1 [(.str [])] 0 []), o 2 (.mv (.t 58)), o 3 (.mv (.c (.bool false)))])
         (.ret)) (.reg [o 31 (.mv (.t 4)), o 32 (.mv (.t 7)), o 33 (.bslice 1 [(.str [])] 1 [(0, (.t 32))]), o 34 (.append 1 16 (.t 31) (.t 33)), o 4 (.mv (.t 34))]))))))))))))
    (.reg [o 13 (.mv (.t 6)), o 14 (.bin .add (.t 13) (.c (.int .i64 1))), o 6 (.mv (.t 14))]))))))
  (.seq (.reg [o 59 (.mv (.t 4)), o 2 (.mv (.t 59)), o 3 (.mv (.c (.bool true)))])
  (.ret))))),
  [.tmp 2, .tmp 3]⟩
/- loop.example/g03011/impl.hexPair -/
def F105 : Fun := ⟨42,
  .seq (.reg [o 6 (.mv (.c (.int .u8 0))), o 7 (.mv (.c (.bool false)))])
  (.seq (.seq (.reg [o 12 (.mv (.t 1)), o 13 (.bin .add (.t 12) (.c (.int .i64 2))), o 14 (.mv (.t 0)), o 15 (.lenS (.t 14)), o 16 (.bin .gtr (.t 13) (.t 15))])
  (.cond (.t 16) (.seq (.reg [o 6 (.mv (.c (.int .u8 0))), o 7 (.mv (.c (.bool false)))])
   (.ret)) (.skip)))
  (.seq (.reg [o 18 (.mv (.t 0)), o 19 (.mv (.t 1)), o 20 (.index (.t 18) (.t 19)), o 21 (.mv (.t 2)), o 22 (.call 124 [(.t 20), (.t 21)]), o 17 (.mv (.t 22)), o 23 (.extract (.t 17) 0), o 24 (.extract (.t 17) 1), o 8 (.mv (.t 23)), o 9 (.mv (.t 24))])
  (.seq (.reg [o 26 (.mv (.t 0)), o 27 (.mv (.t 1)), o 28 (.bin .add (.t 27) (.c (.int .i64 1))), o 29 (.index (.t 26) (.t 28)), o 30 (.mv (.t 2)), o 31 (.call 124 [(.t 29), (.t 30)]), o 25 (.mv (.t 31)), o 32 (.extract (.t 25) 0), o 33 (.extract (.t 25) 1), o 10 (.mv (.t 32)), o 11 (.mv (.t 33))])
  (.seq (.reg [o 34 (.mv (.t 8)), o 35 (.bin .mul (.t 34) (.c (.int .u8 16))), o 36 (.mv (.t 10)), o 37 (.bin .add (.t 35) (.t 36)), o 38 (.mv (.t 9)), o 39 (.mv (.t 38)), og 40 (.mv (.t 11)) 39 true, o 41 (.pick (.t 39) (.t 40) (.c (.bool false))), o 6 (.mv (.t 37)), o 7 (.mv (.t 41))])
  (.ret))))),
  [.tmp 6, .tmp 7]⟩
/- loop.example/g03011/impl.isLetter -/
def F106 : Fun := ⟨17,
  .seq (.reg [o 2 (.mv (.c (.bool false)))])
  (.seq (.reg [o 3 (.mv (.t 0)), o 4 (.bin .geq (.t 3) (.c (.int .u8 65))), o 5 (.mv (.t 4)), og 6 (.mv (.t 0)) 5 true, og 7 (.bin .leq (.t 6) (.c (.int .u8 90))) 5 true, o 8 (.pick (.t 5) (.t 7) (.c (.bool false))), o 9 (.mv (.t 8)), og 10 (.mv (.t 0)) 9 false, og 11 (.bin .geq (.t 10) (.c (.int .u8 97))) 9 false, og 12 (.mv (.t 11)) 9 false, og 13 (.mv (.t 0)) 12 true, og 14 (.bin .leq (.t 13) (.c (.int .u8 122))) 12 true, og 15 (.pick (.t 12) (.t 14) (.c (.bool false))) 9 false, o 16 (.pick (.t 9) (.c (.bool true)) (.t 15)), o 2 (.mv (.t 16))])
  (.ret)),
  [.tmp 2]⟩
/- loop.example/g03011/impl.isDigit -/
def F107 : Fun := ⟨9,
  .seq (.reg [o 2 (.mv (.c (.bool false)))])
  (.seq (.reg [o 3 (.mv (.t 0)), o 4 (.bin .geq (.t 3) (.c (.int .u8 48))), o 5 (.mv (.t 4)), og 6 (.mv (.t 0)) 5 true, og 7 (.bin .leq (.t 6) (.c (.int .u8 57))) 5 true, o 8 (.pick (.t 5) (.t 7) (.c (.bool false))), o 2 (.mv (.t 8))])
  (.ret)),
  [.tmp 2]⟩
/- loop.example/g03011/impl.hexUpper -/
def F108 : Fun := ⟨5,
  .seq (.reg [o 2 (.mv (.c (.int .u8 0)))])
  (.seq (.reg [o 3 (.mv (.t 0)), o 4 (.index (.c (.str [48, 49, 50, 51, 52, 53, 54, 55, 56, 57, 65, 66, 67, 68, 69, 70])) (.t 3)), o 2 (.mv (.t 4))])
  (.ret)),
  [.tmp 2]⟩
/- loop.example/g03011/spec.l14Name -/
def F109 : Fun := ⟨31,
  .seq (.reg [o 4 (.mv (.c (.int .i64 0)))])
  (.seq (.reg [o 6 (.mv (.t 1)), o 5 (.mv (.t 6))])
  (.seq (.block 0 (.loop (.seq (.seq (.reg [o 7 (.mv (.t 5)), o 8 (.mv (.t 0)), o 9 (.lenS (.t 8)), o 10 (.bin .lss (.t 7) (.t 9)), o 11 (.mv (.t 10)), og 12 (.mv (.t 0)) 11 true, og 13 (.mv (.t 5)) 11 true, og 14 (.index (.t 12) (.t 13)) 11 true, og 15 (.call 125 [(.t 14)]) 11 true, og 16 (.mv (.t 15)) 11 true, og 17 (.mv (.t 5)) 16 false, og 18 (.mv (.t 1)) 16 false, og 19 (.bin .gtr (.t 17) (.t 18)) 16 false, og 20 (.mv (.t 19)) 16 false, og 21 (.mv (.t 0)) 20 true, og 22 (.mv (.t 5)) 20 true, og 23 (.index (.t 21) (.t 22)) 20 true, og 24 (.call 126 [(.t 23)]) 20 true, og 25 (.pick (.t 20) (.t 24) (.c (.bool false))) 16 false, og 26 (.pick (.t 16) (.c (.bool true)) (.t 25)) 11 true, o 27 (.pick (.t 11) (.t 26) (.c (.bool false)))])
    (.cond (.t 27) (.skip) (.exit 0)))
    (.block 1 (.reg [o 28 (.mv (.t 5)), o 29 (.bin .add (.t 28) (.c (.int .i64 1))), o 5 (.mv (.t 29))])))))
  (.seq (.reg [o 30 (.mv (.t 5)), o 4 (.mv (.t 30))])
  (.ret)))),
  [.tmp 4]⟩
/- loop.example/g03011/spec.IsKey -/
def F110 : Fun := ⟨35,
  .seq (.reg [o 1 (.box 3 (.t 0)), o 2 (.mv (.c (.bool false)))])
  (.seq (.seq (.reg [o 5 (.faddr 0 (.t 1)), o 6 (.load none (.t 5)), o 7 (.un .not (.t 6))])
  (.cond (.t 7) (.seq (.reg [o 8 (.faddr 1 (.t 1)), o 9 (.load none (.t 8)), o 10 (.call 85 [(.t 9), (.c (.int .i64 (-1000000000))), (.c (.int .i64 1000000000))]), o 11 (.mv (.t 10)), og 12 (.faddr 2 (.t 1)) 11 true, og 13 (.load none (.t 12)) 11 true, og 14 (.bin .eql (.t 13) (.c (.str []))) 11 true, o 15 (.pick (.t 11) (.t 14) (.c (.bool false))), o 2 (.mv (.t 15))])
   (.ret)) (.skip)))
  (.seq (.reg [o 17 (.faddr 2 (.t 1)), o 18 (.load none (.t 17)), o 19 (.call 53 [(.t 18)]), o 16 (.mv (.t 19)), o 20 (.extract (.t 16) 0), o 21 (.extract (.t 16) 1), o 3 (.mv (.t 20)), o 4 (.mv (.t 21))])
  (.seq (.reg [o 22 (.faddr 1 (.t 1)), o 23 (.load none (.t 22)), o 24 (.bin .eql (.t 23) (.c (.int .i64 0))), o 25 (.mv (.t 24)), og 26 (.faddr 2 (.t 1)) 25 true, og 27 (.load none (.t 26)) 25 true, og 28 (.lenS (.t 27)) 25 true, og 29 (.bin .leq (.t 28) (.c (.int .i64 400))) 25 true, o 30 (.pick (.t 25) (.t 29) (.c (.bool false))), o 31 (.mv (.t 30)), og 32 (.mv (.t 4)) 31 true, og 33 (.un .not (.t 32)) 31 true, o 34 (.pick (.t 31) (.t 33) (.c (.bool false))), o 2 (.mv (.t 34))])
  (.ret)))),
  [.tmp 2]⟩
/- loop.example/g03011/spec.FormatInt -/
def F111 : Fun := ⟨31,
  .seq (.reg [o 2 (.mv (.c (.str [])))])
  (.seq (.seq (.reg [o 6 (.mv (.t 0)), o 7 (.bin .eql (.t 6) (.c (.int .i64 0)))])
  (.cond (.t 7) (.seq (.reg [o 2 (.mv (.c (.str [48])))])
   (.ret)) (.skip)))
  (.seq (.reg [o 3 (.mv (.c (.str [])))])
  (.seq (.seq (.reg [o 8 (.mv (.t 0)), o 4 (.mv (.t 8))])
  (.block 0 (.loop (.seq (.seq (.reg [o 9 (.mv (.t 4)), o 10 (.bin .neq (.t 9) (.c (.int .i64 0)))])
    (.cond (.t 10) (.skip) (.exit 0)))
    (.seq (.block 1 (.seq (.reg [o 13 (.mv (.t 4)), o 14 (.bin .rem (.t 13) (.c (.int .i64 10))), o 5 (.mv (.t 14))])
     (.seq (.seq (.reg [o 15 (.mv (.t 5)), o 16 (.bin .lss (.t 15) (.c (.int .i64 0)))])
     (.cond (.t 16) (.reg [o 17 (.mv (.t 5)), o 18 (.un .neg (.t 17)), o 5 (.mv (.t 18))]) (.skip)))
     (.reg [o 19 (.mv (.t 5)), o 20 (.bin .add (.c (.int .i64 48)) (.t 19)), o 21 (.toInt .u8 (.t 20)), o 22 (.bslice 1 [(.int .u8 0)] 1 [(0, (.t 21))]), o 23 (.toStr (.t 22)), o 24 (.mv (.t 3)), o 25 (.bin .add (.t 23) (.t 24)), o 3 (.mv (.t 25))]))))
    (.reg [o 11 (.mv (.t 4)), o 12 (.bin .quo (.t 11) (.c (.int .i64 10))), o 4 (.mv (.t 12))]))))))
  (.seq (.seq (.reg [o 26 (.mv (.t 0)), o 27 (.bin .lss (.t 26) (.c (.int .i64 0)))])
  (.cond (.t 27) (.seq (.reg [o 28 (.mv (.t 3)), o 29 (.bin .add (.c (.str [45])) (.t 28)), o 2 (.mv (.t 29))])
   (.ret)) (.skip)))
  (.seq (.reg [o 30 (.mv (.t 3)), o 2 (.mv (.t 30))])
  (.ret)))))),
  [.tmp 2]⟩
/- loop.example/g03011/impl.parseWithin -/
def F112 : Fun := ⟨37,
  .seq (.reg [o 6 (.mv (.c (.int .i64 0))), o 7 (.mv (.c (.bool false)))])
  (.seq (.seq (.reg [o 10 (.mv (.t 0)), o 11 (.lenS (.t 10)), o 12 (.bin .gtr (.t 11) (.c (.int .i64 20)))])
  (.cond (.t 12) (.seq (.reg [o 6 (.mv (.c (.int .i64 0))), o 7 (.mv (.c (.bool false)))])
   (.ret)) (.skip)))
  (.seq (.reg [o 14 (.mv (.t 0)), o 15 (.call 127 [(.t 14)]), o 13 (.mv (.t 15)), o 16 (.extract (.t 13) 0), o 17 (.extract (.t 13) 1), o 8 (.mv (.t 16)), o 9 (.mv (.t 17))])
  (.seq (.seq (.reg [o 18 (.mv (.t 9)), o 19 (.isni true (.t 18)), o 20 (.mv (.t 19)), og 21 (.mv (.t 8)) 20 false, og 22 (.call 128 [(.t 21)]) 20 false, og 23 (.mv (.t 0)) 20 false, og 24 (.bin .neq (.t 22) (.t 23)) 20 false, o 25 (.pick (.t 20) (.c (.bool true)) (.t 24)), o 26 (.mv (.t 25)), og 27 (.mv (.t 8)) 26 false, og 28 (.mv (.t 1)) 26 false, og 29 (.bin .lss (.t 27) (.t 28)) 26 false, o 30 (.pick (.t 26) (.c (.bool true)) (.t 29)), o 31 (.mv (.t 30)), og 32 (.mv (.t 8)) 31 false, og 33 (.mv (.t 2)) 31 false, og 34 (.bin .gtr (.t 32) (.t 33)) 31 false, o 35 (.pick (.t 31) (.c (.bool true)) (.t 34))])
  (.cond (.t 35) (.seq (.reg [o 6 (.mv (.c (.int .i64 0))), o 7 (.mv (.c (.bool false)))])
   (.ret)) (.skip)))
  (.seq (.reg [o 36 (.mv (.t 8)), o 6 (.mv (.t 36)), o 7 (.mv (.c (.bool true)))])
  (.ret))))),
  [.tmp 6, .tmp 7]⟩
/- loop.example/g03011/laws.eqEntry -/
def F113 : Fun := ⟨17,
  .seq (.reg [o 2 (.box 8 (.t 0)), o 3 (.box 8 (.t 1)), o 4 (.mv (.c (.bool false)))])
  (.seq (.seq (.reg [o 5 (.faddr 0 (.t 2)), o 6 (.load (some 3) (.t 5)), o 7 (.faddr 0 (.t 3)), o 8 (.load (some 3) (.t 7)), o 9 (.call 129 [(.t 6), (.t 8)]), o 10 (.un .not (.t 9))])
  (.cond (.t 10) (.seq (.reg [o 4 (.mv (.c (.bool false)))])
   (.ret)) (.skip)))
  (.seq (.seq (.reg [o 11 (.faddr 3 (.t 2)), o 12 (.load (some 5) (.t 11)), o 13 (.faddr 3 (.t 3)), o 14 (.load (some 5) (.t 13)), o 15 (.call 65 [(.t 12), (.t 14)]), o 16 (.un .not (.t 15))])
  (.cond (.t 16) (.seq (.reg [o 4 (.mv (.c (.bool false)))])
   (.ret)) (.skip)))
  (.seq (.reg [o 4 (.mv (.c (.bool true)))])
  (.ret)))),
  [.tmp 4]⟩
/- internal/bytealg.Cutover -/
def F116 : Fun := ⟨6,
  .seq (.reg [o 2 (.mv (.c (.int .i64 0)))])
  (.seq (.reg [o 3 (.mv (.t 0)), o 4 (.bin .add (.t 3) (.c (.int .i64 16))), o 5 (.bin .quo (.t 4) (.c (.int .i64 8))), o 2 (.mv (.t 5))])
  (.ret)),
  [.tmp 2]⟩
/- internal/bytealg.IndexRabinKarp[string] -/
def F117 : Fun := ⟨81,
  .seq (.reg [o 4 (.mv (.c (.int .i64 0)))])
  (.seq (.reg [o 12 (.mv (.t 1)), o 13 (.call 131 [(.t 12)]), o 11 (.mv (.t 13)), o 14 (.extract (.t 11) 0), o 15 (.extract (.t 11) 1), o 5 (.mv (.t 14)), o 6 (.mv (.t 15))])
  (.seq (.reg [o 16 (.mv (.t 1)), o 17 (.lenS (.t 16)), o 7 (.mv (.t 17))])
  (.seq (.reg [o 8 (.mv (.c (.int .u32 0)))])
  (.seq (.seq (.reg [o 9 (.mv (.c (.int .i64 0)))])
  (.block 0 (.loop (.seq (.seq (.reg [o 18 (.mv (.t 9)), o 19 (.mv (.t 7)), o 20 (.bin .lss (.t 18) (.t 19))])
    (.cond (.t 20) (.skip) (.exit 0)))
    (.seq (.block 1 (.reg [o 23 (.mv (.t 8)), o 24 (.bin .mul (.t 23) (.c (.int .u32 16777619))), o 25 (.mv (.t 0)), o 26 (.mv (.t 9)), o 27 (.index (.t 25) (.t 26)), o 28 (.toInt .u32 (.t 27)), o 29 (.bin .add (.t 24) (.t 28)), o 8 (.mv (.t 29))]))
    (.reg [o 21 (.mv (.t 9)), o 22 (.bin .add (.t 21) (.c (.int .i64 1))), o 9 (.mv (.t 22))]))))))
  (.seq (.seq (.reg [o 30 (.mv (.t 8)), o 31 (.mv (.t 5)), o 32 (.bin .eql (.t 30) (.t 31)), o 33 (.mv (.t 32)), og 34 (.mv (.t 0)) 33 true, og 35 (.mv (.t 7)) 33 true, og 36 (.sliceS (.t 34) none (some (.t 35))) 33 true, og 37 (.mv (.t 1)) 33 true, og 38 (.bin .eql (.t 36) (.t 37)) 33 true, o 39 (.pick (.t 33) (.t 38) (.c (.bool false)))])
  (.cond (.t 39) (.seq (.reg [o 4 (.mv (.c (.int .i64 0)))])
   (.ret)) (.skip)))
  (.seq (.seq (.reg [o 40 (.mv (.t 7)), o 10 (.mv (.t 40))])
  (.block 2 (.loop (.seq (.seq (.reg [o 41 (.mv (.t 10)), o 42 (.mv (.t 0)), o 43 (.lenS (.t 42)), o 44 (.bin .lss (.t 41) (.t 43))])
    (.cond (.t 44) (.skip) (.exit 2)))
    (.block 3 (.seq (.reg [o 45 (.mv (.t 8)), o 46 (.bin .mul (.t 45) (.c (.int .u32 16777619))), o 8 (.mv (.t 46))])
     (.seq (.reg [o 47 (.mv (.t 8)), o 48 (.mv (.t 0)), o 49 (.mv (.t 10)), o 50 (.index (.t 48) (.t 49)), o 51 (.toInt .u32 (.t 50)), o 52 (.bin .add (.t 47) (.t 51)), o 8 (.mv (.t 52))])
     (.seq (.reg [o 53 (.mv (.t 8)), o 54 (.mv (.t 6)), o 55 (.mv (.t 0)), o 56 (.mv (.t 10)), o 57 (.mv (.t 7)), o 58 (.bin .sub (.t 56) (.t 57)), o 59 (.index (.t 55) (.t 58)), o 60 (.toInt .u32 (.t 59)), o 61 (.bin .mul (.t 54) (.t 60)), o 62 (.bin .sub (.t 53) (.t 61)), o 8 (.mv (.t 62))])
     (.seq (.reg [o 63 (.mv (.t 10)), o 64 (.bin .add (.t 63) (.c (.int .i64 1))), o 10 (.mv (.t 64))])
     (.seq (.reg [o 65 (.mv (.t 8)), o 66 (.mv (.t 5)), o 67 (.bin .eql (.t 65) (.t 66)), o 68 (.mv (.t 67)), og 69 (.mv (.t 0)) 68 true, og 70 (.mv (.t 10)) 68 true, og 71 (.mv (.t 7)) 68 true, og 72 (.bin .sub (.t 70) (.t 71)) 68 true, og 73 (.mv (.t 10)) 68 true, og 74 (.sliceS (.t 69) (some (.t 72)) (some (.t 73))) 68 true, og 75 (.mv (.t 1)) 68 true, og 76 (.bin .eql (.t 74) (.t 75)) 68 true, o 77 (.pick (.t 68) (.t 76) (.c (.bool false)))])
     (.cond (.t 77) (.seq (.reg [o 78 (.mv (.t 10)), o 79 (.mv (.t 7)), o 80 (.bin .sub (.t 78) (.t 79)), o 4 (.mv (.t 80))])
      (.ret)) (.skip))))))))))))
  (.seq (.reg [o 4 (.mv (.c (.int .i64 (-1))))])
  (.ret)))))))),
  [.tmp 4]⟩
/- loop.example/g03011/spec.l22Part -/
def F120 : Fun := ⟨37,
  .seq (.reg [o 2 (.mv (.c (.bool false)))])
  (.seq (.seq (.reg [o 3 (.mv (.c (.int .i64 0)))])
  (.block 0 (.loop (.seq (.seq (.reg [o 4 (.mv (.t 3)), o 5 (.mv (.t 0)), o 6 (.lenS (.t 5)), o 7 (.bin .lss (.t 4) (.t 6))])
    (.cond (.t 7) (.skip) (.exit 0)))
    (.seq (.block 1 (.seq (.reg [o 10 (.mv (.t 0)), o 11 (.mv (.t 3)), o 12 (.index (.t 10) (.t 11)), o 13 (.call 125 [(.t 12)]), o 14 (.un .not (.t 13)), o 15 (.mv (.t 14)), og 16 (.mv (.t 0)) 15 true, og 17 (.mv (.t 3)) 15 true, og 18 (.index (.t 16) (.t 17)) 15 true, og 19 (.call 126 [(.t 18)]) 15 true, og 20 (.un .not (.t 19)) 15 true, o 21 (.pick (.t 15) (.t 20) (.c (.bool false))), o 22 (.mv (.t 21)), og 23 (.mv (.t 0)) 22 true, og 24 (.mv (.t 3)) 22 true, og 25 (.index (.t 23) (.t 24)) 22 true, og 26 (.bin .neq (.t 25) (.c (.int .u8 45))) 22 true, o 27 (.pick (.t 22) (.t 26) (.c (.bool false))), o 28 (.mv (.t 27)), og 29 (.mv (.t 0)) 28 true, og 30 (.mv (.t 3)) 28 true, og 31 (.index (.t 29) (.t 30)) 28 true, og 32 (.bin .neq (.t 31) (.c (.int .u8 46))) 28 true, o 33 (.pick (.t 28) (.t 32) (.c (.bool false)))])
     (.cond (.t 33) (.seq (.reg [o 2 (.mv (.c (.bool false)))])
      (.ret)) (.skip))))
    (.reg [o 8 (.mv (.t 3)), o 9 (.bin .add (.t 8) (.c (.int .i64 1))), o 3 (.mv (.t 9))]))))))
  (.seq (.reg [o 34 (.mv (.t 0)), o 35 (.lenS (.t 34)), o 36 (.call 85 [(.t 35), (.c (.int .i64 1)), (.c (.int .i64 20))]), o 2 (.mv (.t 36))])
  (.ret))),
  [.tmp 2]⟩
/- strings.explode -/
def F121 : Fun := ⟨50,
  .seq (.reg [o 4 (.mv (.c .nsl))])
  (.seq (.reg [o 10 (.mv (.t 0)), o 11 (.call 134 [(.t 10)]), o 5 (.mv (.t 11))])
  (.seq (.seq (.reg [o 12 (.mv (.t 1)), o 13 (.bin .lss (.t 12) (.c (.int .i64 0))), o 14 (.mv (.t 13)), og 15 (.mv (.t 1)) 14 false, og 16 (.mv (.t 5)) 14 false, og 17 (.bin .gtr (.t 15) (.t 16)) 14 false, o 18 (.pick (.t 14) (.c (.bool true)) (.t 17))])
  (.cond (.t 18) (.reg [o 19 (.mv (.t 5)), o 1 (.mv (.t 19))]) (.skip)))
  (.seq (.reg [o 20 (.mv (.t 1)), o 21 (.mkslice 1 [(.str [])] 16 (.t 20) (.t 20)), o 6 (.mv (.t 21))])
  (.seq (.seq (.reg [o 7 (.mv (.c (.int .i64 0)))])
  (.block 0 (.loop (.seq (.seq (.reg [o 22 (.mv (.t 7)), o 23 (.mv (.t 1)), o 24 (.bin .sub (.t 23) (.c (.int .i64 1))), o 25 (.bin .lss (.t 22) (.t 24))])
    (.cond (.t 25) (.skip) (.exit 0)))
    (.seq (.block 1 (.seq (.reg [o 29 (.mv (.t 0)), o 30 (.call 135 [(.t 29)]), o 28 (.mv (.t 30)), o 31 (.extract (.t 28) 0), o 32 (.extract (.t 28) 1), o 8 (.mv (.t 31)), o 9 (.mv (.t 32))])
     (.seq (.reg [o 33 (.mv (.t 6)), o 34 (.mv (.t 7)), o 35 (.mv (.t 0)), o 36 (.mv (.t 9)), o 37 (.sliceS (.t 35) none (some (.t 36))), o 38 (.iaddr 1 (.t 33) (.t 34)), st (.store 1 (.t 38) (.t 37))])
     (.reg [o 39 (.mv (.t 0)), o 40 (.mv (.t 9)), o 41 (.sliceS (.t 39) (some (.t 40)) none), o 0 (.mv (.t 41))]))))
    (.reg [o 26 (.mv (.t 7)), o 27 (.bin .add (.t 26) (.c (.int .i64 1))), o 7 (.mv (.t 27))]))))))
  (.seq (.seq (.reg [o 42 (.mv (.t 1)), o 43 (.bin .gtr (.t 42) (.c (.int .i64 0)))])
  (.cond (.t 43) (.reg [o 44 (.mv (.t 6)), o 45 (.mv (.t 1)), o 46 (.bin .sub (.t 45) (.c (.int .i64 1))), o 47 (.mv (.t 0)), o 48 (.iaddr 1 (.t 44) (.t 46)), st (.store 1 (.t 48) (.t 47))]) (.skip)))
  (.seq (.reg [o 49 (.mv (.t 6)), o 4 (.mv (.t 49))])
  (.ret))))))),
  [.tmp 4]⟩
/- strings.Index -/
def F123 : Fun := ⟨8,
  .seq (.reg [o 4 (.mv (.c (.int .i64 0)))])
  (.seq (.reg [o 5 (.mv (.t 0)), o 6 (.mv (.t 1)), o 7 (.call 96 [(.t 5), (.t 6)]), o 4 (.mv (.t 7))])
  (.ret)),
  [.tmp 4]⟩
/- loop.example/g03011/impl.hexValue -/
def F124 : Fun := ⟨34,
  .seq (.reg [o 4 (.mv (.c (.int .u8 0))), o 5 (.mv (.c (.bool false)))])
  (.seq (.block 0 (.seq (.reg [o 7 (.mv (.t 0)), o 8 (.call 107 [(.t 7)]), o 6 (.mv (.t 8))])
   (.cond (.t 6) (.seq (.reg [o 9 (.mv (.t 0)), o 10 (.bin .sub (.t 9) (.c (.int .u8 48))), o 4 (.mv (.t 10)), o 5 (.mv (.c (.bool true)))])
    (.ret)) (.seq (.reg [o 12 (.mv (.t 0)), o 13 (.bin .geq (.t 12) (.c (.int .u8 65))), o 14 (.mv (.t 13)), og 15 (.mv (.t 0)) 14 true, og 16 (.bin .leq (.t 15) (.c (.int .u8 70))) 14 true, o 17 (.pick (.t 14) (.t 16) (.c (.bool false))), o 11 (.mv (.t 17))])
    (.cond (.t 11) (.seq (.reg [o 18 (.mv (.t 0)), o 19 (.bin .sub (.t 18) (.c (.int .u8 65))), o 20 (.bin .add (.t 19) (.c (.int .u8 10))), o 4 (.mv (.t 20)), o 5 (.mv (.c (.bool true)))])
     (.ret)) (.seq (.reg [o 22 (.mv (.t 1)), o 23 (.mv (.t 22)), og 24 (.mv (.t 0)) 23 true, og 25 (.bin .geq (.t 24) (.c (.int .u8 97))) 23 true, o 26 (.pick (.t 23) (.t 25) (.c (.bool false))), o 27 (.mv (.t 26)), og 28 (.mv (.t 0)) 27 true, og 29 (.bin .leq (.t 28) (.c (.int .u8 102))) 27 true, o 30 (.pick (.t 27) (.t 29) (.c (.bool false))), o 21 (.mv (.t 30))])
     (.cond (.t 21) (.seq (.reg [o 31 (.mv (.t 0)), o 32 (.bin .sub (.t 31) (.c (.int .u8 97))), o 33 (.bin .add (.t 32) (.c (.int .u8 10))), o 4 (.mv (.t 33)), o 5 (.mv (.c (.bool true)))])
      (.ret)) (.skip))))))))
  (.seq (.reg [o 4 (.mv (.c (.int .u8 0))), o 5 (.mv (.c (.bool false)))])
  (.ret))),
  [.tmp 4, .tmp 5]⟩
/- loop.example/g03011/spec.l14Letter -/
def F125 : Fun := ⟨15,
  .seq (.reg [o 2 (.mv (.c (.bool false)))])
  (.seq (.reg [o 3 (.mv (.t 0)), o 4 (.toInt .i64 (.t 3)), o 5 (.call 85 [(.t 4), (.c (.int .i64 97)), (.c (.int .i64 122))]), o 6 (.mv (.t 5)), og 7 (.mv (.t 0)) 6 false, og 8 (.toInt .i64 (.t 7)) 6 false, og 9 (.call 85 [(.t 8), (.c (.int .i64 65)), (.c (.int .i64 90))]) 6 false, o 10 (.pick (.t 6) (.c (.bool true)) (.t 9)), o 11 (.mv (.t 10)), og 12 (.mv (.t 0)) 11 false, og 13 (.bin .eql (.t 12) (.c (.int .u8 95))) 11 false, o 14 (.pick (.t 11) (.c (.bool true)) (.t 13)), o 2 (.mv (.t 14))])
  (.ret)),
  [.tmp 2]⟩
/- loop.example/g03011/spec.l14Digit -/
def F126 : Fun := ⟨6,
  .seq (.reg [o 2 (.mv (.c (.bool false)))])
  (.seq (.reg [o 3 (.mv (.t 0)), o 4 (.toInt .i64 (.t 3)), o 5 (.call 85 [(.t 4), (.c (.int .i64 48)), (.c (.int .i64 57))]), o 2 (.mv (.t 5))])
  (.ret)),
  [.tmp 2]⟩
/- strconv.Atoi -/
def F127 : Fun := ⟨18,
  .seq (.reg [o 2 (.mv (.c (.int .i64 0))), o 3 (.mv (.c (.ifc true)))])
  (.seq (.reg [o 7 (.mv (.t 0)), o 8 (.call 137 [(.t 7)]), o 6 (.mv (.t 8)), o 9 (.extract (.t 6) 0), o 10 (.extract (.t 6) 1), o 4 (.mv (.t 9)), o 5 (.mv (.t 10))])
  (.seq (.seq (.reg [o 11 (.mv (.t 5)), o 12 (.isni true (.t 11))])
  (.cond (.t 12) (.seq (.reg [o 13 (.mv (.t 4)), o 14 (.mv (.t 0)), o 15 (.mv (.t 5)), o 16 (.call 138 [(.c (.str [65, 116, 111, 105])), (.t 14), (.c (.int .i64 0)), (.c (.int .i64 0)), (.t 15)]), o 2 (.mv (.t 13)), o 3 (.mv (.t 16))])
   (.ret)) (.skip)))
  (.seq (.reg [o 17 (.mv (.t 4)), o 2 (.mv (.t 17)), o 3 (.mv (.c (.ifc true)))])
  (.ret)))),
  [.tmp 2, .tmp 3]⟩
/- strconv.Itoa -/
def F128 : Fun := ⟨5,
  .seq (.reg [o 2 (.mv (.c (.str [])))])
  (.seq (.reg [o 3 (.mv (.t 0)), o 4 (.call 139 [(.t 3)]), o 2 (.mv (.t 4))])
  (.ret)),
  [.tmp 2]⟩
/- loop.example/g03011/laws.eqKey -/
def F129 : Fun := ⟨20,
  .seq (.reg [o 2 (.box 3 (.t 0)), o 3 (.box 3 (.t 1)), o 4 (.mv (.c (.bool false)))])
  (.seq (.seq (.reg [o 5 (.faddr 0 (.t 2)), o 6 (.load none (.t 5)), o 7 (.faddr 0 (.t 3)), o 8 (.load none (.t 7)), o 9 (.binb .neq (.t 6) (.t 8))])
  (.cond (.t 9) (.seq (.reg [o 4 (.mv (.c (.bool false)))])
   (.ret)) (.skip)))
  (.seq (.seq (.reg [o 10 (.faddr 1 (.t 2)), o 11 (.load none (.t 10)), o 12 (.faddr 1 (.t 3)), o 13 (.load none (.t 12)), o 14 (.bin .neq (.t 11) (.t 13))])
  (.cond (.t 14) (.seq (.reg [o 4 (.mv (.c (.bool false)))])
   (.ret)) (.skip)))
  (.seq (.seq (.reg [o 15 (.faddr 2 (.t 2)), o 16 (.load none (.t 15)), o 17 (.faddr 2 (.t 3)), o 18 (.load none (.t 17)), o 19 (.bin .neq (.t 16) (.t 18))])
  (.cond (.t 19) (.seq (.reg [o 4 (.mv (.c (.bool false)))])
   (.ret)) (.skip)))
  (.seq (.reg [o 4 (.mv (.c (.bool true)))])
  (.ret))))),
  [.tmp 4]⟩
/- internal/bytealg.hashStr[string] -/
def F131 : Fun := ⟨39,
  .seq (.reg [o 2 (.mv (.c (.int .u32 0))), o 3 (.mv (.c (.int .u32 0)))])
  (.seq (.reg [o 4 (.mv (.c (.int .u32 0)))])
  (.seq (.seq (.reg [o 5 (.mv (.c (.int .i64 0)))])
  (.block 0 (.loop (.seq (.seq (.reg [o 9 (.mv (.t 5)), o 10 (.mv (.t 0)), o 11 (.lenS (.t 10)), o 12 (.bin .lss (.t 9) (.t 11))])
    (.cond (.t 12) (.skip) (.exit 0)))
    (.seq (.block 1 (.reg [o 15 (.mv (.t 4)), o 16 (.bin .mul (.t 15) (.c (.int .u32 16777619))), o 17 (.mv (.t 0)), o 18 (.mv (.t 5)), o 19 (.index (.t 17) (.t 18)), o 20 (.toInt .u32 (.t 19)), o 21 (.bin .add (.t 16) (.t 20)), o 4 (.mv (.t 21))]))
    (.reg [o 13 (.mv (.t 5)), o 14 (.bin .add (.t 13) (.c (.int .i64 1))), o 5 (.mv (.t 14))]))))))
  (.seq (.reg [o 6 (.mv (.c (.int .u32 1))), o 7 (.mv (.c (.int .u32 16777619)))])
  (.seq (.seq (.reg [o 22 (.mv (.t 0)), o 23 (.lenS (.t 22)), o 8 (.mv (.t 23))])
  (.block 2 (.loop (.seq (.seq (.reg [o 24 (.mv (.t 8)), o 25 (.bin .gtr (.t 24) (.c (.int .i64 0)))])
    (.cond (.t 25) (.skip) (.exit 2)))
    (.seq (.block 3 (.seq (.seq (.reg [o 28 (.mv (.t 8)), o 29 (.bin .and (.t 28) (.c (.int .i64 1))), o 30 (.bin .neq (.t 29) (.c (.int .i64 0)))])
     (.cond (.t 30) (.reg [o 31 (.mv (.t 6)), o 32 (.mv (.t 7)), o 33 (.bin .mul (.t 31) (.t 32)), o 6 (.mv (.t 33))]) (.skip)))
     (.reg [o 34 (.mv (.t 7)), o 35 (.mv (.t 7)), o 36 (.bin .mul (.t 34) (.t 35)), o 7 (.mv (.t 36))])))
    (.reg [o 26 (.mv (.t 8)), o 27 (.bin .shr (.t 26) (.c (.int .u64 1))), o 8 (.mv (.t 27))]))))))
  (.seq (.reg [o 37 (.mv (.t 4)), o 38 (.mv (.t 6)), o 2 (.mv (.t 37)), o 3 (.mv (.t 38))])
  (.ret)))))),
  [.tmp 2, .tmp 3]⟩
/- unicode/utf8.DecodeRuneInString -/
def F135 : Fun := ⟨19,
  .seq (.reg [o 2 (.mv (.c (.int .i32 0))), o 3 (.mv (.c (.int .i64 0)))])
  (.seq (.seq (.reg [o 4 (.mv (.t 0)), o 5 (.bin .neq (.t 4) (.c (.str []))), o 6 (.mv (.t 5)), og 7 (.mv (.t 0)) 6 true, og 8 (.index (.t 7) (.c (.int .i64 0))) 6 true, og 9 (.bin .lss (.t 8) (.c (.int .u8 128))) 6 true, o 10 (.pick (.t 6) (.t 9) (.c (.bool false)))])
  (.cond (.t 10) (.seq (.reg [o 11 (.mv (.t 0)), o 12 (.index (.t 11) (.c (.int .i64 0))), o 13 (.toInt .i32 (.t 12)), o 2 (.mv (.t 13)), o 3 (.mv (.c (.int .i64 1)))])
   (.ret)) (.reg [o 15 (.mv (.t 0)), o 16 (.call 140 [(.t 15)]), o 14 (.mv (.t 16)), o 17 (.extract (.t 14) 0), o 18 (.extract (.t 14) 1), o 2 (.mv (.t 17)), o 3 (.mv (.t 18))])))
  (.ret)),
  [.tmp 2, .tmp 3]⟩
/- internal/strconv.Itoa -/
def F139 : Fun := ⟨5,
  .seq (.reg [o 2 (.mv (.c (.str [])))])
  (.seq (.reg [o 3 (.mv (.t 0)), o 4 (.call 146 [(.t 3), (.c (.int .i64 10))]), o 2 (.mv (.t 4))])
  (.ret)),
  [.tmp 2]⟩
/- strconv.baseError -/
def F144 : Fun := ⟨16,
  .seq (.reg [o 6 (.mv (.c .nptr))])
  (.seq (.reg [o 7 (.mv (.t 0)), o 8 (.mv (.t 1)), o 9 (.call 148 [(.t 8)]), o 10 (.mv (.t 2)), o 11 (.call 128 [(.t 10)]), o 12 (.bin .add (.c (.str [105, 110, 118, 97, 108, 105, 100, 32, 98, 97, 115, 101, 32])) (.t 11)), o 13 (.call 149 [(.t 12)]), o 14 (.build [(.str []), (.str []), (.ifc true)] [(0, 1, (.t 7)), (1, 1, (.t 9)), (2, 1, (.t 13))]), o 15 (.box 3 (.t 14)), o 6 (.mv (.t 15))])
  (.ret)),
  [.tmp 6]⟩
/- strconv.bitSizeError -/
def F145 : Fun := ⟨16,
  .seq (.reg [o 6 (.mv (.c .nptr))])
  (.seq (.reg [o 7 (.mv (.t 0)), o 8 (.mv (.t 1)), o 9 (.call 148 [(.t 8)]), o 10 (.mv (.t 2)), o 11 (.call 128 [(.t 10)]), o 12 (.bin .add (.c (.str [105, 110, 118, 97, 108, 105, 100, 32, 98, 105, 116, 32, 115, 105, 122, 101, 32])) (.t 11)), o 13 (.call 149 [(.t 12)]), o 14 (.build [(.str []), (.str []), (.ifc true)] [(0, 1, (.t 7)), (1, 1, (.t 9)), (2, 1, (.t 13))]), o 15 (.box 3 (.t 14)), o 6 (.mv (.t 15))])
  (.ret)),
  [.tmp 6]⟩
/- internal/strconv.small -/
def F150 : Fun := ⟨15,
  .seq (.reg [o 2 (.mv (.c (.str [])))])
  (.seq (.seq (.reg [o 3 (.mv (.t 0)), o 4 (.bin .lss (.t 3) (.c (.int .i64 10)))])
  (.cond (.t 4) (.seq (.reg [o 5 (.mv (.t 0)), o 6 (.mv (.t 0)), o 7 (.bin .add (.t 6) (.c (.int .i64 1))), o 8 (.sliceS (.c (.str [48, 49, 50, 51, 52, 53, 54, 55, 56, 57, 97, 98, 99, 100, 101, 102, 103, 104, 105, 106, 107, 108, 109, 110, 111, 112, 113, 114, 115, 116, 117, 118, 119, 120, 121, 122])) (some (.t 5)) (some (.t 7))), o 2 (.mv (.t 8))])
   (.ret)) (.skip)))
  (.seq (.reg [o 9 (.mv (.t 0)), o 10 (.bin .mul (.t 9) (.c (.int .i64 2))), o 11 (.mv (.t 0)), o 12 (.bin .mul (.t 11) (.c (.int .i64 2))), o 13 (.bin .add (.t 12) (.c (.int .i64 2))), o 14 (.sliceS (.c (.str [48, 48, 48, 49, 48, 50, 48, 51, 48, 52, 48, 53, 48, 54, 48, 55, 48, 56, 48, 57, 49, 48, 49, 49, 49, 50, 49, 51, 49, 52, 49, 53, 49, 54, 49, 55, 49, 56, 49, 57, 50, 48, 50, 49, 50, 50, 50, 51, 50, 52, 50, 53, 50, 54, 50, 55, 50, 56, 50, 57, 51, 48, 51, 49, 51, 50, 51, 51, 51, 52, 51, 53, 51, 54, 51, 55, 51, 56, 51, 57, 52, 48, 52, 49, 52, 50, 52, 51, 52, 52, 52, 53, 52, 54, 52, 55, 52, 56, 52, 57, 53, 48, 53, 49, 53, 50, 53, 51, 53, 52, 53, 53, 53, 54, 53, 55, 53, 56, 53, 57, 54, 48, 54, 49, 54, 50, 54, 51, 54, 52, 54, 53, 54, 54, 54, 55, 54, 56, 54, 57, 55, 48, 55, 49, 55, 50, 55, 51, 55, 52, 55, 53, 55, 54, 55, 55, 55, 56, 55, 57, 56, 48, 56, 49, 56, 50, 56, 51, 56, 52, 56, 53, 56, 54, 56, 55, 56, 56, 56, 57, 57, 48, 57, 49, 57, 50, 57, 51, 57, 52, 57, 53, 57, 54, 57, 55, 57, 56, 57, 57])) (some (.t 10)) (some (.t 13))), o 2 (.mv (.t 14))])
  (.ret))),
  [.tmp 2]⟩
/- internal/strconv.formatBase10 -/
def F152 : Fun := ⟨167,
  .seq (.reg [o 17 (.mv (.t 0)), o 18 (.lenL (.t 17)), o 4 (.mv (.t 18))])
  (.seq (.block 0 (.loop (.seq (.seq (.reg [o 19 (.mv (.t 4)), o 20 (.bin .geq (.t 19) (.c (.int .i64 8)))])
    (.cond (.t 20) (.skip) (.exit 0)))
    (.block 1 (.seq (.reg [o 21 (.mv (.t 1)), o 22 (.bin .rem (.t 21) (.c (.int .u64 100000000))), o 23 (.toInt .u32 (.t 22)), o 5 (.mv (.t 23))])
     (.seq (.reg [o 24 (.mv (.t 1)), o 25 (.bin .quo (.t 24) (.c (.int .u64 100000000))), o 1 (.mv (.t 25))])
     (.seq (.reg [o 26 (.mv (.t 5)), o 27 (.bin .quo (.t 26) (.c (.int .u32 10000))), o 28 (.mv (.t 5)), o 29 (.bin .rem (.t 28) (.c (.int .u32 10000))), o 6 (.mv (.t 27)), o 7 (.mv (.t 29))])
     (.seq (.reg [o 30 (.mv (.t 7)), o 31 (.bin .quo (.t 30) (.c (.int .u32 100))), o 32 (.bin .mul (.t 31) (.c (.int .u32 2))), o 33 (.mv (.t 7)), o 34 (.bin .rem (.t 33) (.c (.int .u32 100))), o 35 (.bin .mul (.t 34) (.c (.int .u32 2))), o 8 (.mv (.t 32)), o 9 (.mv (.t 35))])
     (.seq (.reg [o 36 (.mv (.t 6)), o 37 (.bin .quo (.t 36) (.c (.int .u32 100))), o 38 (.bin .mul (.t 37) (.c (.int .u32 2))), o 39 (.mv (.t 6)), o 40 (.bin .rem (.t 39) (.c (.int .u32 100))), o 41 (.bin .mul (.t 40) (.c (.int .u32 2))), o 10 (.mv (.t 38)), o 11 (.mv (.t 41))])
     (.seq (.reg [o 42 (.mv (.t 0)), o 43 (.mv (.t 4)), o 44 (.bin .sub (.t 43) (.c (.int .i64 1))), o 45 (.mv (.t 0)), o 46 (.mv (.t 4)), o 47 (.bin .sub (.t 46) (.c (.int .i64 2))), o 48 (.mv (.t 9)), o 49 (.bin .add (.t 48) (.c (.int .u32 1))), o 50 (.index (.c (.str [48, 48, 48, 49, 48, 50, 48, 51, 48, 52, 48, 53, 48, 54, 48, 55, 48, 56, 48, 57, 49, 48, 49, 49, 49, 50, 49, 51, 49, 52, 49, 53, 49, 54, 49, 55, 49, 56, 49, 57, 50, 48, 50, 49, 50, 50, 50, 51, 50, 52, 50, 53, 50, 54, 50, 55, 50, 56, 50, 57, 51, 48, 51, 49, 51, 50, 51, 51, 51, 52, 51, 53, 51, 54, 51, 55, 51, 56, 51, 57, 52, 48, 52, 49, 52, 50, 52, 51, 52, 52, 52, 53, 52, 54, 52, 55, 52, 56, 52, 57, 53, 48, 53, 49, 53, 50, 53, 51, 53, 52, 53, 53, 53, 54, 53, 55, 53, 56, 53, 57, 54, 48, 54, 49, 54, 50, 54, 51, 54, 52, 54, 53, 54, 54, 54, 55, 54, 56, 54, 57, 55, 48, 55, 49, 55, 50, 55, 51, 55, 52, 55, 53, 55, 54, 55, 55, 55, 56, 55, 57, 56, 48, 56, 49, 56, 50, 56, 51, 56, 52, 56, 53, 56, 54, 56, 55, 56, 56, 56, 57, 57, 48, 57, 49, 57, 50, 57, 51, 57, 52, 57, 53, 57, 54, 57, 55, 57, 56, 57, 57])) (.t 49)), o 51 (.mv (.t 9)), o 52 (.index (.c (.str [48, 48, 48, 49, 48, 50, 48, 51, 48, 52, 48, 53, 48, 54, 48, 55, 48, 56, 48, 57, 49, 48, 49, 49, 49, 50, 49, 51, 49, 52, 49, 53, 49, 54, 49, 55, 49, 56, 49, 57, 50, 48, 50, 49, 50, 50, 50, 51, 50, 52, 50, 53, 50, 54, 50, 55, 50, 56, 50, 57, 51, 48, 51, 49, 51, 50, 51, 51, 51, 52, 51, 53, 51, 54, 51, 55, 51, 56, 51, 57, 52, 48, 52, 49, 52, 50, 52, 51, 52, 52, 52, 53, 52, 54, 52, 55, 52, 56, 52, 57, 53, 48, 53, 49, 53, 50, 53, 51, 53, 52, 53, 53, 53, 54, 53, 55, 53, 56, 53, 57, 54, 48, 54, 49, 54, 50, 54, 51, 54, 52, 54, 53, 54, 54, 54, 55, 54, 56, 54, 57, 55, 48, 55, 49, 55, 50, 55, 51, 55, 52, 55, 53, 55, 54, 55, 55, 55, 56, 55, 57, 56, 48, 56, 49, 56, 50, 56, 51, 56, 52, 56, 53, 56, 54, 56, 55, 56, 56, 56, 57, 57, 48, 57, 49, 57, 50, 57, 51, 57, 52, 57, 53, 57, 54, 57, 55, 57, 56, 57, 57])) (.t 51)), o 53 (.iaddr 1 (.t 42) (.t 44)), st (.store 1 (.t 53) (.t 50)), o 54 (.iaddr 1 (.t 45) (.t 47)), st (.store 1 (.t 54) (.t 52))])
     (.seq (.reg [o 55 (.mv (.t 0)), o 56 (.mv (.t 4)), o 57 (.bin .sub (.t 56) (.c (.int .i64 3))), o 58 (.mv (.t 0)), o 59 (.mv (.t 4)), o 60 (.bin .sub (.t 59) (.c (.int .i64 4))), o 61 (.mv (.t 8)), o 62 (.bin .add (.t 61) (.c (.int .u32 1))), o 63 (.index (.c (.str [48, 48, 48, 49, 48, 50, 48, 51, 48, 52, 48, 53, 48, 54, 48, 55, 48, 56, 48, 57, 49, 48, 49, 49, 49, 50, 49, 51, 49, 52, 49, 53, 49, 54, 49, 55, 49, 56, 49, 57, 50, 48, 50, 49, 50, 50, 50, 51, 50, 52, 50, 53, 50, 54, 50, 55, 50, 56, 50, 57, 51, 48, 51, 49, 51, 50, 51, 51, 51, 52, 51, 53, 51, 54, 51, 55, 51, 56, 51, 57, 52, 48, 52, 49, 52, 50, 52, 51, 52, 52, 52, 53, 52, 54, 52, 55, 52, 56, 52, 57, 53, 48, 53, 49, 53, 50, 53, 51, 53, 52, 53, 53, 53, 54, 53, 55, 53, 56, 53, 57, 54, 48, 54, 49, 54, 50, 54, 51, 54, 52, 54, 53, 54, 54, 54, 55, 54, 56, 54, 57, 55, 48, 55, 49, 55, 50, 55, 51, 55, 52, 55, 53, 55, 54, 55, 55, 55, 56, 55, 57, 56, 48, 56, 49, 56, 50, 56, 51, 56, 52, 56, 53, 56, 54, 56, 55, 56, 56, 56, 57, 57, 48, 57, 49, 57, 50, 57, 51, 57, 52, 57, 53, 57, 54, 57, 55, 57, 56, 57, 57])) (.t 62)), o 64 (.mv (.t 8)), o 65 (.index (.c (.str [48, 48, 48, 49, 48, 50, 48, 51, 48, 52, 48, 53, 48, 54, 48, 55, 48, 56, 48, 57, 49, 48, 49, 49, 49, 50, 49, 51, 49, 52, 49, 53, 49, 54, 49, 55, 49, 56, 49, 57, 50, 48, 50, 49, 50, 50, 50, 51, 50, 52, 50, 53, 50, 54, 50, 55, 50, 56, 50, 57, 51, 48, 51, 49, 51, 50, 51, 51, 51, 52, 51, 53, 51, 54, 51, 55, 51, 56, 51, 57, 52, 48, 52, 49, 52, 50, 52, 51, 52, 52, 52, 53, 52, 54, 52, 55, 52, 56, 52, 57, 53, 48, 53, 49, 53, 50, 53, 51, 53, 52, 53, 53, 53, 54, 53, 55, 53, 56, 53, 57, 54, 48, 54, 49, 54, 50, 54, 51, 54, 52, 54, 53, 54, 54, 54, 55, 54, 56, 54, 57, 55, 48, 55, 49, 55, 50, 55, 51, 55, 52, 55, 53, 55, 54, 55, 55, 55, 56, 55, 57, 56, 48, 56, 49, 56, 50, 56, 51, 56, 52, 56, 53, 56, 54, 56, 55, 56, 56, 56, 57, 57, 48, 57, 49, 57, 50, 57, 51, 57, 52, 57, 53, 57, 54, 57, 55, 57, 56, 57, 57])) (.t 64)), o 66 (.iaddr 1 (.t 55) (.t 57)), st (.store 1 (.t 66) (.t 63)), o 67 (.iaddr 1 (.t 58) (.t 60)), st (.store 1 (.t 67) (.t 65))])
     (.seq (.reg [o 68 (.mv (.t 0)), o 69 (.mv (.t 4)), o 70 (.bin .sub (.t 69) (.c (.int .i64 5))), o 71 (.mv (.t 0)), o 72 (.mv (.t 4)), o 73 (.bin .sub (.t 72) (.c (.int .i64 6))), o 74 (.mv (.t 11)), o 75 (.bin .add (.t 74) (.c (.int .u32 1))), o 76 (.index (.c (.str [48, 48, 48, 49, 48, 50, 48, 51, 48, 52, 48, 53, 48, 54, 48, 55, 48, 56, 48, 57, 49, 48, 49, 49, 49, 50, 49, 51, 49, 52, 49, 53, 49, 54, 49, 55, 49, 56, 49, 57, 50, 48, 50, 49, 50, 50, 50, 51, 50, 52, 50, 53, 50, 54, 50, 55, 50, 56, 50, 57, 51, 48, 51, 49, 51, 50, 51, 51, 51, 52, 51, 53, 51, 54, 51, 55, 51, 56, 51, 57, 52, 48, 52, 49, 52, 50, 52, 51, 52, 52, 52, 53, 52, 54, 52, 55, 52, 56, 52, 57, 53, 48, 53, 49, 53, 50, 53, 51, 53, 52, 53, 53, 53, 54, 53, 55, 53, 56, 53, 57, 54, 48, 54, 49, 54, 50, 54, 51, 54, 52, 54, 53, 54, 54, 54, 55, 54, 56, 54, 57, 55, 48, 55, 49, 55, 50, 55, 51, 55, 52, 55, 53, 55, 54, 55, 55, 55, 56, 55, 57, 56, 48, 56, 49, 56, 50, 56, 51, 56, 52, 56, 53, 56, 54, 56, 55, 56, 56, 56, 57, 57, 48, 57, 49, 57, 50, 57, 51, 57, 52, 57, 53, 57, 54, 57, 55, 57, 56, 57, 57])) (.t 75)), o 77 (.mv (.t 11)), o 78 (.index (.c (.str [48, 48, 48, 49, 48, 50, 48, 51, 48, 52, 48, 53, 48, 54, 48, 55, 48, 56, 48, 57, 49, 48, 49, 49, 49, 50, 49, 51, 49, 52, 49, 53, 49, 54, 49, 55, 49, 56, 49, 57, 50, 48, 50, 49, 50, 50, 50, 51, 50, 52, 50, 53, 50, 54, 50, 55, 50, 56, 50, 57, 51, 48, 51, 49, 51, 50, 51, 51, 51, 52, 51, 53, 51, 54, 51, 55, 51, 56, 51, 57, 52, 48, 52, 49, 52, 50, 52, 51, 52, 52, 52, 53, 52, 54, 52, 55, 52, 56, 52, 57, 53, 48, 53, 49, 53, 50, 53, 51, 53, 52, 53, 53, 53, 54, 53, 55, 53, 56, 53, 57, 54, 48, 54, 49, 54, 50, 54, 51, 54, 52, 54, 53, 54, 54, 54, 55, 54, 56, 54, 57, 55, 48, 55, 49, 55, 50, 55, 51, 55, 52, 55, 53, 55, 54, 55, 55, 55, 56, 55, 57, 56, 48, 56, 49, 56, 50, 56, 51, 56, 52, 56, 53, 56, 54, 56, 55, 56, 56, 56, 57, 57, 48, 57, 49, 57, 50, 57, 51, 57, 52, 57, 53, 57, 54, 57, 55, 57, 56, 57, 57])) (.t 77)), o 79 (.iaddr 1 (.t 68) (.t 70)), st (.store 1 (.t 79) (.t 76)), o 80 (.iaddr 1 (.t 71) (.t 73)), st (.store 1 (.t 80) (.t 78))])
     (.seq (.reg [o 81 (.mv (.t 0)), o 82 (.mv (.t 4)), o 83 (.bin .sub (.t 82) (.c (.int .i64 7))), o 84 (.mv (.t 0)), o 85 (.mv (.t 4)), o 86 (.bin .sub (.t 85) (.c (.int .i64 8))), o 87 (.mv (.t 10)), o 88 (.bin .add (.t 87) (.c (.int .u32 1))), o 89 (.index (.c (.str [48, 48, 48, 49, 48, 50, 48, 51, 48, 52, 48, 53, 48, 54, 48, 55, 48, 56, 48, 57, 49, 48, 49, 49, 49, 50, 49, 51, 49, 52, 49, 53, 49, 54, 49, 55, 49, 56, 49, 57, 50, 48, 50, 49, 50, 50, 50, 51, 50, 52, 50, 53, 50, 54, 50, 55, 50, 56, 50, 57, 51, 48, 51, 49, 51, 50, 51, 51, 51, 52, 51, 53, 51, 54, 51, 55, 51, 56, 51, 57, 52, 48, 52, 49, 52, 50, 52, 51, 52, 52, 52, 53, 52, 54, 52, 55, 52, 56, 52, 57, 53, 48, 53, 49, 53, 50, 53, 51, 53, 52, 53, 53, 53, 54, 53, 55, 53, 56, 53, 57, 54, 48, 54, 49, 54, 50, 54, 51, 54, 52, 54, 53, 54, 54, 54, 55, 54, 56, 54, 57, 55, 48, 55, 49, 55, 50, 55, 51, 55, 52, 55, 53, 55, 54, 55, 55, 55, 56, 55, 57, 56, 48, 56, 49, 56, 50, 56, 51, 56, 52, 56, 53, 56, 54, 56, 55, 56, 56, 56, 57, 57, 48, 57, 49, 57, 50, 57, 51, 57, 52, 57, 53, 57, 54, 57, 55, 57, 56, 57, 57])) (.t 88)), o 90 (.mv (.t 10)), o 91 (.index (.c (.str [48, 48, 48, 49, 48, 50, 48, 51, 48, 52, 48, 53, 48, 54, 48, 55, 48, 56, 48, 57, 49, 48, 49, 49, 49, 50, 49, 51, 49, 52, 49, 53, 49, 54, 49, 55, 49, 56, 49, 57, 50, 48, 50, 49, 50, 50, 50, 51, 50, 52, 50, 53, 50, 54, 50, 55, 50, 56, 50, 57, 51, 48, 51, 49, 51, 50, 51, 51, 51, 52, 51, 53, 51, 54, 51, 55, 51, 56, 51, 57, 52, 48, 52, 49, 52, 50, 52, 51, 52, 52, 52, 53, 52, 54, 52, 55, 52, 56, 52, 57, 53, 48, 53, 49, 53, 50, 53, 51, 53, 52, 53, 53, 53, 54, 53, 55, 53, 56, 53, 57, 54, 48, 54, 49, 54, 50, 54, 51, 54, 52, 54, 53, 54, 54, 54, 55, 54, 56, 54, 57, 55, 48, 55, 49, 55, 50, 55, 51, 55, 52, 55, 53, 55, 54, 55, 55, 55, 56, 55, 57, 56, 48, 56, 49, 56, 50, 56, 51, 56, 52, 56, 53, 56, 54, 56, 55, 56, 56, 56, 57, 57, 48, 57, 49, 57, 50, 57, 51, 57, 52, 57, 53, 57, 54, 57, 55, 57, 56, 57, 57])) (.t 90)), o 92 (.iaddr 1 (.t 81) (.t 83)), st (.store 1 (.t 92) (.t 89)), o 93 (.iaddr 1 (.t 84) (.t 86)), st (.store 1 (.t 93) (.t 91))])
     (.reg [o 94 (.mv (.t 4)), o 95 (.bin .sub (.t 94) (.c (.int .i64 8))), o 4 (.mv (.t 95))]))))))))))))))
  (.seq (.reg [o 96 (.mv (.t 1)), o 97 (.toInt .u32 (.t 96)), o 12 (.mv (.t 97))])
  (.seq (.seq (.reg [o 98 (.mv (.t 4)), o 99 (.bin .geq (.t 98) (.c (.int .i64 4)))])
  (.cond (.t 99) (.seq (.reg [o 100 (.mv (.t 12)), o 101 (.bin .rem (.t 100) (.c (.int .u32 10000))), o 13 (.mv (.t 101))])
   (.seq (.reg [o 102 (.mv (.t 12)), o 103 (.bin .quo (.t 102) (.c (.int .u32 10000))), o 12 (.mv (.t 103))])
   (.seq (.reg [o 104 (.mv (.t 13)), o 105 (.bin .quo (.t 104) (.c (.int .u32 100))), o 106 (.bin .mul (.t 105) (.c (.int .u32 2))), o 107 (.mv (.t 13)), o 108 (.bin .rem (.t 107) (.c (.int .u32 100))), o 109 (.bin .mul (.t 108) (.c (.int .u32 2))), o 14 (.mv (.t 106)), o 15 (.mv (.t 109))])
   (.seq (.reg [o 110 (.mv (.t 0)), o 111 (.mv (.t 4)), o 112 (.bin .sub (.t 111) (.c (.int .i64 1))), o 113 (.mv (.t 0)), o 114 (.mv (.t 4)), o 115 (.bin .sub (.t 114) (.c (.int .i64 2))), o 116 (.mv (.t 15)), o 117 (.bin .add (.t 116) (.c (.int .u32 1))), o 118 (.index (.c (.str [48, 48, 48, 49, 48, 50, 48, 51, 48, 52, 48, 53, 48, 54, 48, 55, 48, 56, 48, 57, 49, 48, 49, 49, 49, 50, 49, 51, 49, 52, 49, 53, 49, 54, 49, 55, 49, 56, 49, 57, 50, 48, 50, 49, 50, 50, 50, 51, 50, 52, 50, 53, 50, 54, 50, 55, 50, 56, 50, 57, 51, 48, 51, 49, 51, 50, 51, 51, 51, 52, 51, 53, 51, 54, 51, 55, 51, 56, 51, 57, 52, 48, 52, 49, 52, 50, 52, 51, 52, 52, 52, 53, 52, 54, 52, 55, 52, 56, 52, 57, 53, 48, 53, 49, 53, 50, 53, 51, 53, 52, 53, 53, 53, 54, 53, 55, 53, 56, 53, 57, 54, 48, 54, 49, 54, 50, 54, 51, 54, 52, 54, 53, 54, 54, 54, 55, 54, 56, 54, 57, 55, 48, 55, 49, 55, 50, 55, 51, 55, 52, 55, 53, 55, 54, 55, 55, 55, 56, 55, 57, 56, 48, 56, 49, 56, 50, 56, 51, 56, 52, 56, 53, 56, 54, 56, 55, 56, 56, 56, 57, 57, 48, 57, 49, 57, 50, 57, 51, 57, 52, 57, 53, 57, 54, 57, 55, 57, 56, 57, 57])) (.t 117)), o 119 (.mv (.t 15)), o 120 (.index (.c (.str [48, 48, 48, 49, 48, 50, 48, 51, 48, 52, 48, 53, 48, 54, 48, 55, 48, 56, 48, 57, 49, 48, 49, 49, 49, 50, 49, 51, 49, 52, 49, 53, 49, 54, 49, 55, 49, 56, 49, 57, 50, 48, 50, 49, 50, 50, 50, 51, 50, 52, 50, 53, 50, 54, 50, 55, 50, 56, 50, 57, 51, 48, 51, 49, 51, 50, 51, 51, 51, 52, 51, 53, 51, 54, 51, 55, 51, 56, 51, 57, 52, 48, 52, 49, 52, 50, 52, 51, 52, 52, 52, 53, 52, 54, 52, 55, 52, 56, 52, 57, 53, 48, 53, 49, 53, 50, 53, 51, 53, 52, 53, 53, 53, 54, 53, 55, 53, 56, 53, 57, 54, 48, 54, 49, 54, 50, 54, 51, 54, 52, 54, 53, 54, 54, 54, 55, 54, 56, 54, 57, 55, 48, 55, 49, 55, 50, 55, 51, 55, 52, 55, 53, 55, 54, 55, 55, 55, 56, 55, 57, 56, 48, 56, 49, 56, 50, 56, 51, 56, 52, 56, 53, 56, 54, 56, 55, 56, 56, 56, 57, 57, 48, 57, 49, 57, 50, 57, 51, 57, 52, 57, 53, 57, 54, 57, 55, 57, 56, 57, 57])) (.t 119)), o 121 (.iaddr 1 (.t 110) (.t 112)), st (.store 1 (.t 121) (.t 118)), o 122 (.iaddr 1 (.t 113) (.t 115)), st (.store 1 (.t 122) (.t 120))])
   (.seq (.reg [o 123 (.mv (.t 0)), o 124 (.mv (.t 4)), o 125 (.bin .sub (.t 124) (.c (.int .i64 3))), o 126 (.mv (.t 0)), o 127 (.mv (.t 4)), o 128 (.bin .sub (.t 127) (.c (.int .i64 4))), o 129 (.mv (.t 14)), o 130 (.bin .add (.t 129) (.c (.int .u32 1))), o 131 (.index (.c (.str [48, 48, 48, 49, 48, 50, 48, 51, 48, 52, 48, 53, 48, 54, 48, 55, 48, 56, 48, 57, 49, 48, 49, 49, 49, 50, 49, 51, 49, 52, 49, 53, 49, 54, 49, 55, 49, 56, 49, 57, 50, 48, 50, 49, 50, 50, 50, 51, 50, 52, 50, 53, 50, 54, 50, 55, 50, 56, 50, 57, 51, 48, 51, 49, 51, 50, 51, 51, 51, 52, 51, 53, 51, 54, 51, 55, 51, 56, 51, 57, 52, 48, 52, 49, 52, 50, 52, 51, 52, 52, 52, 53, 52, 54, 52, 55, 52, 56, 52, 57, 53, 48, 53, 49, 53, 50, 53, 51, 53, 52, 53, 53, 53, 54, 53, 55, 53, 56, 53, 57, 54, 48, 54, 49, 54, 50, 54, 51, 54, 52, 54, 53, 54, 54, 54, 55, 54, 56, 54, 57, 55, 48, 55, 49, 55, 50, 55, 51, 55, 52, 55, 53, 55, 54, 55, 55, 55, 56, 55, 57, 56, 48, 56, 49, 56, 50, 56, 51, 56, 52, 56, 53, 56, 54, 56, 55, 56, 56, 56, 57, 57, 48, 57, 49, 57, 50, 57, 51, 57, 52, 57, 53, 57, 54, 57, 55, 57, 56, 57, 57])) (.t 130)), o 132 (.mv (.t 14)), o 133 (.index (.c (.str [48, 48, 48, 49, 48, 50, 48, 51, 48, 52, 48, 53, 48, 54, 48, 55, 48, 56, 48, 57, 49, 48, 49, 49, 49, 50, 49, 51, 49, 52, 49, 53, 49, 54, 49, 55, 49, 56, 49, 57, 50, 48, 50, 49, 50, 50, 50, 51, 50, 52, 50, 53, 50, 54, 50, 55, 50, 56, 50, 57, 51, 48, 51, 49, 51, 50, 51, 51, 51, 52, 51, 53, 51, 54, 51, 55, 51, 56, 51, 57, 52, 48, 52, 49, 52, 50, 52, 51, 52, 52, 52, 53, 52, 54, 52, 55, 52, 56, 52, 57, 53, 48, 53, 49, 53, 50, 53, 51, 53, 52, 53, 53, 53, 54, 53, 55, 53, 56, 53, 57, 54, 48, 54, 49, 54, 50, 54, 51, 54, 52, 54, 53, 54, 54, 54, 55, 54, 56, 54, 57, 55, 48, 55, 49, 55, 50, 55, 51, 55, 52, 55, 53, 55, 54, 55, 55, 55, 56, 55, 57, 56, 48, 56, 49, 56, 50, 56, 51, 56, 52, 56, 53, 56, 54, 56, 55, 56, 56, 56, 57, 57, 48, 57, 49, 57, 50, 57, 51, 57, 52, 57, 53, 57, 54, 57, 55, 57, 56, 57, 57])) (.t 132)), o 134 (.iaddr 1 (.t 123) (.t 125)), st (.store 1 (.t 134) (.t 131)), o 135 (.iaddr 1 (.t 126) (.t 128)), st (.store 1 (.t 135) (.t 133))])
   (.reg [o 136 (.mv (.t 4)), o 137 (.bin .sub (.t 136) (.c (.int .i64 4))), o 4 (.mv (.t 137))])))))) (.skip)))
  (.seq (.seq (.reg [o 138 (.mv (.t 4)), o 139 (.bin .geq (.t 138) (.c (.int .i64 2)))])
  (.cond (.t 139) (.seq (.reg [o 140 (.mv (.t 12)), o 141 (.bin .rem (.t 140) (.c (.int .u32 100))), o 142 (.bin .mul (.t 141) (.c (.int .u32 2))), o 16 (.mv (.t 142))])
   (.seq (.reg [o 143 (.mv (.t 12)), o 144 (.bin .quo (.t 143) (.c (.int .u32 100))), o 12 (.mv (.t 144))])
   (.seq (.reg [o 145 (.mv (.t 0)), o 146 (.mv (.t 4)), o 147 (.bin .sub (.t 146) (.c (.int .i64 1))), o 148 (.mv (.t 0)), o 149 (.mv (.t 4)), o 150 (.bin .sub (.t 149) (.c (.int .i64 2))), o 151 (.mv (.t 16)), o 152 (.bin .add (.t 151) (.c (.int .u32 1))), o 153 (.index (.c (.str [48, 48, 48, 49, 48, 50, 48, 51, 48, 52, 48, 53, 48, 54, 48, 55, 48, 56, 48, 57, 49, 48, 49, 49, 49, 50, 49, 51, 49, 52, 49, 53, 49, 54, 49, 55, 49, 56, 49, 57, 50, 48, 50, 49, 50, 50, 50, 51, 50, 52, 50, 53, 50, 54, 50, 55, 50, 56, 50, 57, 51, 48, 51, 49, 51, 50, 51, 51, 51, 52, 51, 53, 51, 54, 51, 55, 51, 56, 51, 57, 52, 48, 52, 49, 52, 50, 52, 51, 52, 52, 52, 53, 52, 54, 52, 55, 52, 56, 52, 57, 53, 48, 53, 49, 53, 50, 53, 51, 53, 52, 53, 53, 53, 54, 53, 55, 53, 56, 53, 57, 54, 48, 54, 49, 54, 50, 54, 51, 54, 52, 54, 53, 54, 54, 54, 55, 54, 56, 54, 57, 55, 48, 55, 49, 55, 50, 55, 51, 55, 52, 55, 53, 55, 54, 55, 55, 55, 56, 55, 57, 56, 48, 56, 49, 56, 50, 56, 51, 56, 52, 56, 53, 56, 54, 56, 55, 56, 56, 56, 57, 57, 48, 57, 49, 57, 50, 57, 51, 57, 52, 57, 53, 57, 54, 57, 55, 57, 56, 57, 57])) (.t 152)), o 154 (.mv (.t 16)), o 155 (.index (.c (.str [48, 48, 48, 49, 48, 50, 48, 51, 48, 52, 48, 53, 48, 54, 48, 55, 48, 56, 48, 57, 49, 48, 49, 49, 49, 50, 49, 51, 49, 52, 49, 53, 49, 54, 49, 55, 49, 56, 49, 57, 50, 48, 50, 49, 50, 50, 50, 51, 50, 52, 50, 53, 50, 54, 50, 55, 50, 56, 50, 57, 51, 48, 51, 49, 51, 50, 51, 51, 51, 52, 51, 53, 51, 54, 51, 55, 51, 56, 51, 57, 52, 48, 52, 49, 52, 50, 52, 51, 52, 52, 52, 53, 52, 54, 52, 55, 52, 56, 52, 57, 53, 48, 53, 49, 53, 50, 53, 51, 53, 52, 53, 53, 53, 54, 53, 55, 53, 56, 53, 57, 54, 48, 54, 49, 54, 50, 54, 51, 54, 52, 54, 53, 54, 54, 54, 55, 54, 56, 54, 57, 55, 48, 55, 49, 55, 50, 55, 51, 55, 52, 55, 53, 55, 54, 55, 55, 55, 56, 55, 57, 56, 48, 56, 49, 56, 50, 56, 51, 56, 52, 56, 53, 56, 54, 56, 55, 56, 56, 56, 57, 57, 48, 57, 49, 57, 50, 57, 51, 57, 52, 57, 53, 57, 54, 57, 55, 57, 56, 57, 57])) (.t 154)), o 156 (.iaddr 1 (.t 145) (.t 147)), st (.store 1 (.t 156) (.t 153)), o 157 (.iaddr 1 (.t 148) (.t 150)), st (.store 1 (.t 157) (.t 155))])
   (.reg [o 158 (.mv (.t 4)), o 159 (.bin .sub (.t 158) (.c (.int .i64 2))), o 4 (.mv (.t 159))])))) (.skip)))
  (.seq (.reg [o 160 (.mv (.t 4)), o 161 (.bin .gtr (.t 160) (.c (.int .i64 0)))])
  (.cond (.t 161) (.reg [o 162 (.mv (.t 0)), o 163 (.mv (.t 12)), o 164 (.bin .add (.c (.int .u32 48)) (.t 163)), o 165 (.toInt .u8 (.t 164)), o 166 (.iaddr 1 (.t 162) (.c (.int .i64 0))), st (.store 1 (.t 166) (.t 165))]) (.skip))))))),
  []⟩
/- internal/strconv.lower -/
def F154 : Fun := ⟨5,
  .seq (.reg [o 2 (.mv (.c (.int .u8 0)))])
  (.seq (.reg [o 3 (.mv (.t 0)), o 4 (.bin .or (.t 3) (.c (.int .u8 32))), o 2 (.mv (.t 4))])
  (.ret)),
  [.tmp 2]⟩
/- internal/strconv.underscoreOK -/
def F155 : Fun := ⟨94,
  .seq (.reg [o 2 (.mv (.c (.bool false)))])
  (.seq (.reg [o 3 (.mv (.c (.int .i32 94)))])
  (.seq (.reg [o 4 (.mv (.c (.int .i64 0)))])
  (.seq (.seq (.reg [o 6 (.mv (.t 0)), o 7 (.lenS (.t 6)), o 8 (.bin .geq (.t 7) (.c (.int .i64 1))), o 9 (.mv (.t 8)), og 10 (.mv (.t 0)) 9 true, og 11 (.index (.t 10) (.c (.int .i64 0))) 9 true, og 12 (.bin .eql (.t 11) (.c (.int .u8 45))) 9 true, og 13 (.mv (.t 12)) 9 true, og 14 (.mv (.t 0)) 13 false, og 15 (.index (.t 14) (.c (.int .i64 0))) 13 false, og 16 (.bin .eql (.t 15) (.c (.int .u8 43))) 13 false, og 17 (.pick (.t 13) (.c (.bool true)) (.t 16)) 9 true, o 18 (.pick (.t 9) (.t 17) (.c (.bool false)))])
  (.cond (.t 18) (.reg [o 19 (.mv (.t 0)), o 20 (.sliceS (.t 19) (some (.c (.int .i64 1))) none), o 0 (.mv (.t 20))]) (.skip)))
  (.seq (.reg [o 5 (.mv (.c (.bool false)))])
  (.seq (.seq (.reg [o 21 (.mv (.t 0)), o 22 (.lenS (.t 21)), o 23 (.bin .geq (.t 22) (.c (.int .i64 2))), o 24 (.mv (.t 23)), og 25 (.mv (.t 0)) 24 true, og 26 (.index (.t 25) (.c (.int .i64 0))) 24 true, og 27 (.bin .eql (.t 26) (.c (.int .u8 48))) 24 true, o 28 (.pick (.t 24) (.t 27) (.c (.bool false))), o 29 (.mv (.t 28)), og 30 (.mv (.t 0)) 29 true, og 31 (.index (.t 30) (.c (.int .i64 1))) 29 true, og 32 (.call 154 [(.t 31)]) 29 true, og 33 (.bin .eql (.t 32) (.c (.int .u8 98))) 29 true, og 34 (.mv (.t 33)) 29 true, og 35 (.mv (.t 0)) 34 false, og 36 (.index (.t 35) (.c (.int .i64 1))) 34 false, og 37 (.call 154 [(.t 36)]) 34 false, og 38 (.bin .eql (.t 37) (.c (.int .u8 111))) 34 false, og 39 (.pick (.t 34) (.c (.bool true)) (.t 38)) 29 true, og 40 (.mv (.t 39)) 29 true, og 41 (.mv (.t 0)) 40 false, og 42 (.index (.t 41) (.c (.int .i64 1))) 40 false, og 43 (.call 154 [(.t 42)]) 40 false, og 44 (.bin .eql (.t 43) (.c (.int .u8 120))) 40 false, og 45 (.pick (.t 40) (.c (.bool true)) (.t 44)) 29 true, o 46 (.pick (.t 29) (.t 45) (.c (.bool false)))])
  (.cond (.t 46) (.seq (.reg [o 4 (.mv (.c (.int .i64 2)))])
   (.seq (.reg [o 3 (.mv (.c (.int .i32 48)))])
   (.reg [o 47 (.mv (.t 0)), o 48 (.index (.t 47) (.c (.int .i64 1))), o 49 (.call 154 [(.t 48)]), o 50 (.bin .eql (.t 49) (.c (.int .u8 120))), o 5 (.mv (.t 50))]))) (.skip)))
  (.seq (.block 0 (.loop (.seq (.seq (.reg [o 51 (.mv (.t 4)), o 52 (.mv (.t 0)), o 53 (.lenS (.t 52)), o 54 (.bin .lss (.t 51) (.t 53))])
    (.cond (.t 54) (.skip) (.exit 0)))
    (.seq (.block 1 (.seq (.seq (.reg [o 57 (.mv (.t 0)), o 58 (.mv (.t 4)), o 59 (.index (.t 57) (.t 58)), o 60 (.bin .leq (.c (.int .u8 48)) (.t 59)), o 61 (.mv (.t 60)), og 62 (.mv (.t 0)) 61 true, og 63 (.mv (.t 4)) 61 true, og 64 (.index (.t 62) (.t 63)) 61 true, og 65 (.bin .leq (.t 64) (.c (.int .u8 57))) 61 true, o 66 (.pick (.t 61) (.t 65) (.c (.bool false))), o 67 (.mv (.t 66)), og 68 (.mv (.t 5)) 67 false, og 69 (.mv (.t 68)) 67 false, og 70 (.mv (.t 0)) 69 true, og 71 (.mv (.t 4)) 69 true, og 72 (.index (.t 70) (.t 71)) 69 true, og 73 (.call 154 [(.t 72)]) 69 true, og 74 (.bin .leq (.c (.int .u8 97)) (.t 73)) 69 true, og 75 (.pick (.t 69) (.t 74) (.c (.bool false))) 67 false, og 76 (.mv (.t 75)) 67 false, og 77 (.mv (.t 0)) 76 true, og 78 (.mv (.t 4)) 76 true, og 79 (.index (.t 77) (.t 78)) 76 true, og 80 (.call 154 [(.t 79)]) 76 true, og 81 (.bin .leq (.t 80) (.c (.int .u8 102))) 76 true, og 82 (.pick (.t 76) (.t 81) (.c (.bool false))) 67 false, o 83 (.pick (.t 67) (.c (.bool true)) (.t 82))])
     (.cond (.t 83) (.seq (.reg [o 3 (.mv (.c (.int .i32 48)))])
      (.exit 1)) (.skip)))
     (.seq (.seq (.reg [o 84 (.mv (.t 0)), o 85 (.mv (.t 4)), o 86 (.index (.t 84) (.t 85)), o 87 (.bin .eql (.t 86) (.c (.int .u8 95)))])
     (.cond (.t 87) (.seq (.seq (.reg [o 88 (.mv (.t 3)), o 89 (.bin .neq (.t 88) (.c (.int .i32 48)))])
      (.cond (.t 89) (.seq (.reg [o 2 (.mv (.c (.bool false)))])
       (.ret)) (.skip)))
      (.seq (.reg [o 3 (.mv (.c (.int .i32 95)))])
      (.exit 1))) (.skip)))
     (.seq (.seq (.reg [o 90 (.mv (.t 3)), o 91 (.bin .eql (.t 90) (.c (.int .i32 95)))])
     (.cond (.t 91) (.seq (.reg [o 2 (.mv (.c (.bool false)))])
      (.ret)) (.skip)))
     (.reg [o 3 (.mv (.c (.int .i32 33)))])))))
    (.reg [o 55 (.mv (.t 4)), o 56 (.bin .add (.t 55) (.c (.int .i64 1))), o 4 (.mv (.t 56))])))))
  (.seq (.reg [o 92 (.mv (.t 3)), o 93 (.bin .neq (.t 92) (.c (.int .i32 95))), o 2 (.mv (.t 93))])
  (.ret)))))))),
  [.tmp 2]⟩
/- internal/strconv.log10Pow2 -/
def F156 : Fun := ⟨6,
  .seq (.reg [o 2 (.mv (.c (.int .i64 0)))])
  (.seq (.reg [o 3 (.mv (.t 0)), o 4 (.bin .mul (.t 3) (.c (.int .i64 78913))), o 5 (.bin .shr (.t 4) (.c (.int .u64 18))), o 2 (.mv (.t 5))])
  (.ret)),
  [.tmp 2]⟩
/- math/bits.Len64 -/
def F157 : Fun := ⟨25,
  .seq (.reg [o 2 (.mv (.c (.int .i64 0)))])
  (.seq (.seq (.reg [o 3 (.mv (.t 0)), o 4 (.bin .geq (.t 3) (.c (.int .u64 4294967296)))])
  (.cond (.t 4) (.seq (.reg [o 5 (.mv (.t 0)), o 6 (.bin .shr (.t 5) (.c (.int .u64 32))), o 0 (.mv (.t 6))])
   (.reg [o 2 (.mv (.c (.int .i64 32)))])) (.skip)))
  (.seq (.seq (.reg [o 7 (.mv (.t 0)), o 8 (.bin .geq (.t 7) (.c (.int .u64 65536)))])
  (.cond (.t 8) (.seq (.reg [o 9 (.mv (.t 0)), o 10 (.bin .shr (.t 9) (.c (.int .u64 16))), o 0 (.mv (.t 10))])
   (.reg [o 11 (.mv (.t 2)), o 12 (.bin .add (.t 11) (.c (.int .i64 16))), o 2 (.mv (.t 12))])) (.skip)))
  (.seq (.seq (.reg [o 13 (.mv (.t 0)), o 14 (.bin .geq (.t 13) (.c (.int .u64 256)))])
  (.cond (.t 14) (.seq (.reg [o 15 (.mv (.t 0)), o 16 (.bin .shr (.t 15) (.c (.int .u64 8))), o 0 (.mv (.t 16))])
   (.reg [o 17 (.mv (.t 2)), o 18 (.bin .add (.t 17) (.c (.int .i64 8))), o 2 (.mv (.t 18))])) (.skip)))
  (.seq (.reg [o 19 (.mv (.t 2)), o 20 (.mv (.t 0)), o 21 (.toInt .u8 (.t 20)), o 22 (.index (.c (.str [0, 1, 2, 2, 3, 3, 3, 3, 4, 4, 4, 4, 4, 4, 4, 4, 5, 5, 5, 5, 5, 5, 5, 5, 5, 5, 5, 5, 5, 5, 5, 5, 6, 6, 6, 6, 6, 6, 6, 6, 6, 6, 6, 6, 6, 6, 6, 6, 6, 6, 6, 6, 6, 6, 6, 6, 6, 6, 6, 6, 6, 6, 6, 6, 7, 7, 7, 7, 7, 7, 7, 7, 7, 7, 7, 7, 7, 7, 7, 7, 7, 7, 7, 7, 7, 7, 7, 7, 7, 7, 7, 7, 7, 7, 7, 7, 7, 7, 7, 7, 7, 7, 7, 7, 7, 7, 7, 7, 7, 7, 7, 7, 7, 7, 7, 7, 7, 7, 7, 7, 7, 7, 7, 7, 7, 7, 7, 7, 8, 8, 8, 8, 8, 8, 8, 8, 8, 8, 8, 8, 8, 8, 8, 8, 8, 8, 8, 8, 8, 8, 8, 8, 8, 8, 8, 8, 8, 8, 8, 8, 8, 8, 8, 8, 8, 8, 8, 8, 8, 8, 8, 8, 8, 8, 8, 8, 8, 8, 8, 8, 8, 8, 8, 8, 8, 8, 8, 8, 8, 8, 8, 8, 8, 8, 8, 8, 8, 8, 8, 8, 8, 8, 8, 8, 8, 8, 8, 8, 8, 8, 8, 8, 8, 8, 8, 8, 8, 8, 8, 8, 8, 8, 8, 8, 8, 8, 8, 8, 8, 8, 8, 8, 8, 8, 8, 8, 8, 8, 8, 8, 8, 8, 8, 8, 8, 8, 8, 8, 8, 8, 8, 8, 8, 8, 8, 8])) (.t 21)), o 23 (.toInt .i64 (.t 22)), o 24 (.bin .add (.t 19) (.t 23)), o 2 (.mv (.t 24))])
  (.ret))))),
  [.tmp 2]⟩
/- internal/strconv.bool2[int] -/
def F158 : Fun := ⟨4,
  .seq (.reg [o 2 (.mv (.c (.int .i64 0)))])
  (.seq (.seq (.reg [o 3 (.mv (.t 0))])
  (.cond (.t 3) (.seq (.reg [o 2 (.mv (.c (.int .i64 1)))])
   (.ret)) (.skip)))
  (.seq (.reg [o 2 (.mv (.c (.int .i64 0)))])
  (.ret))),
  [.tmp 2]⟩
/- internal/strconv.isPowerOfTwo -/
def F159 : Fun := ⟨8,
  .seq (.reg [o 2 (.mv (.c (.bool false)))])
  (.seq (.reg [o 3 (.mv (.t 0)), o 4 (.mv (.t 0)), o 5 (.bin .sub (.t 4) (.c (.int .i64 1))), o 6 (.bin .and (.t 3) (.t 5)), o 7 (.bin .eql (.t 6) (.c (.int .i64 0))), o 2 (.mv (.t 7))])
  (.ret)),
  [.tmp 2]⟩
/- math/bits.TrailingZeros -/
def F160 : Fun := ⟨8,
  .seq (.reg [o 2 (.mv (.c (.int .i64 0)))])
  (.seq (.cond (.c (.bool false)) (.seq (.reg [o 3 (.mv (.t 0)), o 4 (.toInt .u32 (.t 3)), o 5 (.call 161 [(.t 4)]), o 2 (.mv (.t 5))])
   (.ret)) (.skip))
  (.seq (.reg [o 6 (.mv (.t 0)), o 7 (.call 162 [(.t 6)]), o 2 (.mv (.t 7))])
  (.ret))),
  [.tmp 2]⟩

theorem c3 : compF Tryz.prog 3 = some F3 := by kernel_rfl
theorem c4 : compF Tryz.prog 4 = some F4 := by kernel_rfl
theorem c5 : compF Tryz.prog 5 = some F5 := by kernel_rfl
theorem c6 : compF Tryz.prog 6 = some F6 := by kernel_rfl
theorem c7 : compF Tryz.prog 7 = some F7 := by kernel_rfl
theorem c8 : compF Tryz.prog 8 = some F8 := by kernel_rfl
theorem c9 : compF Tryz.prog 9 = some F9 := by kernel_rfl
theorem c10 : compF Tryz.prog 10 = some F10 := by kernel_rfl
theorem c11 : compF Tryz.prog 11 = some F11 := by kernel_rfl
theorem c12 : compF Tryz.prog 12 = some F12 := by kernel_rfl
theorem c13 : compF Tryz.prog 13 = some F13 := by kernel_rfl
theorem c14 : compF Tryz.prog 14 = some F14 := by kernel_rfl
theorem c15 : compF Tryz.prog 15 = some F15 := by kernel_rfl
theorem c16 : compF Tryz.prog 16 = some F16 := by kernel_rfl
theorem c17 : compF Tryz.prog 17 = some F17 := by kernel_rfl
theorem c18 : compF Tryz.prog 18 = some F18 := by kernel_rfl
theorem c19 : compF Tryz.prog 19 = some F19 := by kernel_rfl
theorem c20 : compF Tryz.prog 20 = some F20 := by kernel_rfl
theorem c21 : compF Tryz.prog 21 = some F21 := by kernel_rfl
theorem c22 : compF Tryz.prog 22 = some F22 := by kernel_rfl
theorem c23 : compF Tryz.prog 23 = some F23 := by kernel_rfl
theorem c24 : compF Tryz.prog 24 = some F24 := by kernel_rfl
theorem c25 : compF Tryz.prog 25 = some F25 := by kernel_rfl
theorem c26 : compF Tryz.prog 26 = some F26 := by kernel_rfl
theorem c27 : compF Tryz.prog 27 = some F27 := by kernel_rfl
theorem c28 : compF Tryz.prog 28 = some F28 := by kernel_rfl
theorem c29 : compF Tryz.prog 29 = some F29 := by kernel_rfl
theorem c30 : compF Tryz.prog 30 = some F30 := by kernel_rfl
theorem c31 : compF Tryz.prog 31 = some F31 := by kernel_rfl
theorem c32 : compF Tryz.prog 32 = some F32 := by kernel_rfl
theorem c33 : compF Tryz.prog 33 = some F33 := by kernel_rfl
theorem c34 : compF Tryz.prog 34 = some F34 := by kernel_rfl
theorem c35 : compF Tryz.prog 35 = some F35 := by kernel_rfl
theorem c36 : compF Tryz.prog 36 = some F36 := by kernel_rfl
theorem c37 : compF Tryz.prog 37 = some F37 := by kernel_rfl
theorem c38 : compF Tryz.prog 38 = some F38 := by kernel_rfl
theorem c39 : compF Tryz.prog 39 = some F39 := by kernel_rfl
theorem c40 : compF Tryz.prog 40 = some F40 := by kernel_rfl
theorem c41 : compF Tryz.prog 41 = some F41 := by kernel_rfl
theorem c42 : compF Tryz.prog 42 = some F42 := by kernel_rfl
theorem c43 : compF Tryz.prog 43 = some F43 := by kernel_rfl
theorem c44 : compF Tryz.prog 44 = some F44 := by kernel_rfl
theorem c45 : compF Tryz.prog 45 = some F45 := by kernel_rfl
theorem c46 : compF Tryz.prog 46 = some F46 := by kernel_rfl
theorem c47 : compF Tryz.prog 47 = some F47 := by kernel_rfl
theorem c48 : compF Tryz.prog 48 = some F48 := by kernel_rfl
theorem c49 : compF Tryz.prog 49 = some F49 := by kernel_rfl
theorem c50 : compF Tryz.prog 50 = some F50 := by kernel_rfl
theorem c51 : compF Tryz.prog 51 = some F51 := by kernel_rfl
theorem c52 : compF Tryz.prog 52 = some F52 := by kernel_rfl
theorem c53 : compF Tryz.prog 53 = some F53 := by kernel_rfl
theorem c54 : compF Tryz.prog 54 = some F54 := by kernel_rfl
theorem c55 : compF Tryz.prog 55 = some F55 := by kernel_rfl
theorem c56 : compF Tryz.prog 56 = some F56 := by kernel_rfl
theorem c57 : compF Tryz.prog 57 = some F57 := by kernel_rfl
theorem c58 : compF Tryz.prog 58 = some F58 := by kernel_rfl
theorem c59 : compF Tryz.prog 59 = some F59 := by kernel_rfl
theorem c60 : compF Tryz.prog 60 = some F60 := by kernel_rfl
theorem c61 : compF Tryz.prog 61 = some F61 := by kernel_rfl
theorem c62 : compF Tryz.prog 62 = some F62 := by kernel_rfl
theorem c63 : compF Tryz.prog 63 = some F63 := by kernel_rfl
theorem c64 : compF Tryz.prog 64 = some F64 := by kernel_rfl
theorem c65 : compF Tryz.prog 65 = some F65 := by kernel_rfl
theorem c66 : compF Tryz.prog 66 = some F66 := by kernel_rfl
theorem c67 : compF Tryz.prog 67 = some F67 := by kernel_rfl
theorem c68 : compF Tryz.prog 68 = some F68 := by kernel_rfl
theorem c69 : compF Tryz.prog 69 = some F69 := by kernel_rfl
theorem c70 : compF Tryz.prog 70 = some F70 := by kernel_rfl
theorem c71 : compF Tryz.prog 71 = some F71 := by kernel_rfl
theorem c72 : compF Tryz.prog 72 = some F72 := by kernel_rfl
theorem c73 : compF Tryz.prog 73 = some F73 := by kernel_rfl
theorem c74 : compF Tryz.prog 74 = some F74 := by kernel_rfl
theorem c76 : compF Tryz.prog 76 = some F76 := by kernel_rfl
theorem c77 : compF Tryz.prog 77 = some F77 := by kernel_rfl
theorem c78 : compF Tryz.prog 78 = some F78 := by kernel_rfl
theorem c79 : compF Tryz.prog 79 = some F79 := by kernel_rfl
theorem c80 : compF Tryz.prog 80 = some F80 := by kernel_rfl
theorem c81 : compF Tryz.prog 81 = some F81 := by kernel_rfl
theorem c82 : compF Tryz.prog 82 = some F82 := by kernel_rfl
theorem c83 : compF Tryz.prog 83 = some F83 := by kernel_rfl
theorem c84 : compF Tryz.prog 84 = some F84 := by kernel_rfl
theorem c85 : compF Tryz.prog 85 = some F85 := by kernel_rfl
theorem c86 : compF Tryz.prog 86 = some F86 := by kernel_rfl
theorem c87 : compF Tryz.prog 87 = some F87 := by kernel_rfl
theorem c88 : compF Tryz.prog 88 = some F88 := by kernel_rfl
theorem c89 : compF Tryz.prog 89 = some F89 := by kernel_rfl
theorem c90 : compF Tryz.prog 90 = some F90 := by kernel_rfl
theorem c91 : compF Tryz.prog 91 = some F91 := by kernel_rfl
theorem c92 : compF Tryz.prog 92 = some F92 := by kernel_rfl
theorem c93 : compF Tryz.prog 93 = some F93 := by kernel_rfl
theorem c94 : compF Tryz.prog 94 = some F94 := by kernel_rfl
theorem c95 : compF Tryz.prog 95 = some F95 := by kernel_rfl
theorem c97 : compF Tryz.prog 97 = some F97 := by kernel_rfl
theorem c98 : compF Tryz.prog 98 = some F98 := by kernel_rfl
theorem c99 : compF Tryz.prog 99 = some F99 := by kernel_rfl
theorem c101 : compF Tryz.prog 101 = some F101 := by kernel_rfl
theorem c103 : compF Tryz.prog 103 = some F103 := by kernel_rfl
theorem c105 : compF Tryz.prog 105 = some F105 := by kernel_rfl
theorem c106 : compF Tryz.prog 106 = some F106 := by kernel_rfl
theorem c107 : compF Tryz.prog 107 = some F107 := by kernel_rfl
theorem c108 : compF Tryz.prog 108 = some F108 := by kernel_rfl
theorem c109 : compF Tryz.prog 109 = some F109 := by kernel_rfl
theorem c110 : compF Tryz.prog 110 = some F110 := by kernel_rfl
theorem c111 : compF Tryz.prog 111 = some F111 := by kernel_rfl
theorem c112 : compF Tryz.prog 112 = some F112 := by kernel_rfl
theorem c113 : compF Tryz.prog 113 = some F113 := by kernel_rfl
theorem c116 : compF Tryz.prog 116 = some F116 := by kernel_rfl
theorem c117 : compF Tryz.prog 117 = some F117 := by kernel_rfl
theorem c120 : compF Tryz.prog 120 = some F120 := by kernel_rfl
theorem c121 : compF Tryz.prog 121 = some F121 := by kernel_rfl
theorem c123 : compF Tryz.prog 123 = some F123 := by kernel_rfl
theorem c124 : compF Tryz.prog 124 = some F124 := by kernel_rfl
theorem c125 : compF Tryz.prog 125 = some F125 := by kernel_rfl
theorem c126 : compF Tryz.prog 126 = some F126 := by kernel_rfl
theorem c127 : compF Tryz.prog 127 = some F127 := by kernel_rfl
theorem c128 : compF Tryz.prog 128 = some F128 := by kernel_rfl
theorem c129 : compF Tryz.prog 129 = some F129 := by kernel_rfl
theorem c131 : compF Tryz.prog 131 = some F131 := by kernel_rfl
theorem c135 : compF Tryz.prog 135 = some F135 := by kernel_rfl
theorem c139 : compF Tryz.prog 139 = some F139 := by kernel_rfl
theorem c144 : compF Tryz.prog 144 = some F144 := by kernel_rfl
theorem c145 : compF Tryz.prog 145 = some F145 := by kernel_rfl
theorem c150 : compF Tryz.prog 150 = some F150 := by kernel_rfl
theorem c152 : compF Tryz.prog 152 = some F152 := by kernel_rfl
theorem c154 : compF Tryz.prog 154 = some F154 := by kernel_rfl
theorem c155 : compF Tryz.prog 155 = some F155 := by kernel_rfl
theorem c156 : compF Tryz.prog 156 = some F156 := by kernel_rfl
theorem c157 : compF Tryz.prog 157 = some F157 := by kernel_rfl
theorem c158 : compF Tryz.prog 158 = some F158 := by kernel_rfl
theorem c159 : compF Tryz.prog 159 = some F159 := by kernel_rfl
theorem c160 : compF Tryz.prog 160 = some F160 := by kernel_rfl
end A
end Go.Proofs.YtmhmaokbicgmbaaGreatDoor
