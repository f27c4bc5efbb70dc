import Derived.Test.YtfcimcoanlgldaaDoorRows
import Derived.Test.YtfcimcoanlgldaaDoorB05

/-
  The functions of the seat in the small language: printed by a program (wip/tools/irdump.lean), each held against the model's code. No condition.
-/


namespace Go.Proofs.YtfcimcoanlgldaaDoor
namespace A
set_option linter.unusedVariables false
/- loop.example/g03011/laws.FnExactParseCookies -/
def F3 : Fun := ⟨66,
  .seq (.reg [o 2 (.mv (.c (.bool false)))])
  (.seq (.seq (.reg [o 11 (.mv (.t 0)), o 12 (.lenS (.t 11)), o 13 (.bin .gtr (.t 12) (.c (.int .i64 1048576)))])
  (.cond (.t 13) (.seq (.reg [o 2 (.mv (.c (.bool true)))])
   (.ret)) (.skip)))
  (.seq (.reg [o 15 (.mv (.t 0)), o 16 (.call 12 [(.t 15)]), o 14 (.mv (.t 16)), o 17 (.extract (.t 14) 0), o 18 (.extract (.t 14) 1), o 3 (.mv (.t 17)), o 4 (.mv (.t 18))])
  (.seq (.reg [o 20 (.mv (.t 0)), o 21 (.call 13 [(.t 20)]), o 19 (.mv (.t 21)), o 22 (.extract (.t 19) 0), o 23 (.extract (.t 19) 1), o 5 (.mv (.t 22)), o 6 (.mv (.t 23))])
  (.seq (.seq (.reg [o 24 (.mv (.t 5)), o 25 (.mv (.t 3)), o 26 (.call 14 [(.t 24), (.t 25)]), o 27 (.un .not (.t 26)), o 28 (.mv (.t 27)), og 29 (.mv (.t 6)) 28 false, og 30 (.mv (.t 4)) 28 false, og 31 (.binb .neq (.t 29) (.t 30)) 28 false, o 32 (.pick (.t 28) (.c (.bool true)) (.t 31))])
  (.cond (.t 32) (.seq (.reg [o 2 (.mv (.c (.bool false)))])
   (.ret)) (.skip)))
  (.seq (.reg [o 7 (.mv (.c (.int .i64 1)))])
  (.seq (.reg [o 33 (.mv (.t 5)), o 34 (.mv (.t 7)), o 35 (.call 15 [(.t 33), (.t 34)]), o 7 (.mv (.t 35))])
  (.seq (.reg [o 8 (.mv (.c (.int .i64 1)))])
  (.seq (.reg [o 36 (.mv (.t 5)), o 37 (.mv (.t 8)), o 38 (.call 16 [(.t 36), (.t 37)]), o 8 (.mv (.t 38))])
  (.seq (.seq (.reg [o 39 (.mv (.t 8)), o 40 (.bin .lss (.t 39) (.c (.int .i64 0)))])
  (.cond (.t 40) (.seq (.reg [o 2 (.mv (.c (.bool false)))])
   (.ret)) (.skip)))
  (.seq (.seq (.reg [o 41 (.mv (.t 8)), o 42 (.mv (.t 7)), o 43 (.bin .neq (.t 41) (.t 42))])
  (.cond (.t 43) (.seq (.reg [o 2 (.mv (.c (.bool false)))])
   (.ret)) (.skip)))
  (.seq (.reg [o 45 (.mv (.t 0)), o 46 (.call 13 [(.t 45)]), o 44 (.mv (.t 46)), o 47 (.extract (.t 44) 0), o 48 (.extract (.t 44) 1), o 9 (.mv (.t 47)), o 10 (.mv (.t 48))])
  (.seq (.seq (.reg [o 49 (.mv (.t 9)), o 50 (.mv (.t 3)), o 51 (.call 14 [(.t 49), (.t 50)]), o 52 (.un .not (.t 51)), o 53 (.mv (.t 52)), og 54 (.mv (.t 10)) 53 false, og 55 (.mv (.t 4)) 53 false, og 56 (.binb .neq (.t 54) (.t 55)) 53 false, o 57 (.pick (.t 53) (.c (.bool true)) (.t 56))])
  (.cond (.t 57) (.seq (.reg [o 2 (.mv (.c (.bool false)))])
   (.ret)) (.skip)))
  (.seq (.reg [o 8 (.mv (.c (.int .i64 1)))])
  (.seq (.reg [o 58 (.mv (.t 5)), o 59 (.mv (.t 8)), o 60 (.call 16 [(.t 58), (.t 59)]), o 8 (.mv (.t 60))])
  (.seq (.seq (.reg [o 61 (.mv (.t 8)), o 62 (.bin .lss (.t 61) (.c (.int .i64 0)))])
  (.cond (.t 62) (.seq (.reg [o 2 (.mv (.c (.bool false)))])
   (.ret)) (.skip)))
  (.seq (.seq (.reg [o 63 (.mv (.t 8)), o 64 (.mv (.t 7)), o 65 (.bin .neq (.t 63) (.t 64))])
  (.cond (.t 65) (.seq (.reg [o 2 (.mv (.c (.bool false)))])
   (.ret)) (.skip)))
  (.seq (.reg [o 2 (.mv (.c (.bool true)))])
  (.ret)))))))))))))))))),
  [.tmp 2]⟩
/- loop.example/g03011/laws.FnExactParseQuery -/
def F4 : Fun := ⟨66,
  .seq (.reg [o 2 (.mv (.c (.bool false)))])
  (.seq (.seq (.reg [o 11 (.mv (.t 0)), o 12 (.lenS (.t 11)), o 13 (.bin .gtr (.t 12) (.c (.int .i64 1048576)))])
  (.cond (.t 13) (.seq (.reg [o 2 (.mv (.c (.bool true)))])
   (.ret)) (.skip)))
  (.seq (.reg [o 15 (.mv (.t 0)), o 16 (.call 17 [(.t 15)]), o 14 (.mv (.t 16)), o 17 (.extract (.t 14) 0), o 18 (.extract (.t 14) 1), o 3 (.mv (.t 17)), o 4 (.mv (.t 18))])
  (.seq (.reg [o 20 (.mv (.t 0)), o 21 (.call 18 [(.t 20)]), o 19 (.mv (.t 21)), o 22 (.extract (.t 19) 0), o 23 (.extract (.t 19) 1), o 5 (.mv (.t 22)), o 6 (.mv (.t 23))])
  (.seq (.seq (.reg [o 24 (.mv (.t 5)), o 25 (.mv (.t 3)), o 26 (.call 14 [(.t 24), (.t 25)]), o 27 (.un .not (.t 26)), o 28 (.mv (.t 27)), og 29 (.mv (.t 6)) 28 false, og 30 (.mv (.t 4)) 28 false, og 31 (.binb .neq (.t 29) (.t 30)) 28 false, o 32 (.pick (.t 28) (.c (.bool true)) (.t 31))])
  (.cond (.t 32) (.seq (.reg [o 2 (.mv (.c (.bool false)))])
   (.ret)) (.skip)))
  (.seq (.reg [o 7 (.mv (.c (.int .i64 1)))])
  (.seq (.reg [o 33 (.mv (.t 5)), o 34 (.mv (.t 7)), o 35 (.call 15 [(.t 33), (.t 34)]), o 7 (.mv (.t 35))])
  (.seq (.reg [o 8 (.mv (.c (.int .i64 1)))])
  (.seq (.reg [o 36 (.mv (.t 5)), o 37 (.mv (.t 8)), o 38 (.call 16 [(.t 36), (.t 37)]), o 8 (.mv (.t 38))])
  (.seq (.seq (.reg [o 39 (.mv (.t 8)), o 40 (.bin .lss (.t 39) (.c (.int .i64 0)))])
  (.cond (.t 40) (.seq (.reg [o 2 (.mv (.c (.bool false)))])
   (.ret)) (.skip)))
  (.seq (.seq (.reg [o 41 (.mv (.t 8)), o 42 (.mv (.t 7)), o 43 (.bin .neq (.t 41) (.t 42))])
  (.cond (.t 43) (.seq (.reg [o 2 (.mv (.c (.bool false)))])
   (.ret)) (.skip)))
  (.seq (.reg [o 45 (.mv (.t 0)), o 46 (.call 18 [(.t 45)]), o 44 (.mv (.t 46)), o 47 (.extract (.t 44) 0), o 48 (.extract (.t 44) 1), o 9 (.mv (.t 47)), o 10 (.mv (.t 48))])
  (.seq (.seq (.reg [o 49 (.mv (.t 9)), o 50 (.mv (.t 3)), o 51 (.call 14 [(.t 49), (.t 50)]), o 52 (.un .not (.t 51)), o 53 (.mv (.t 52)), og 54 (.mv (.t 10)) 53 false, og 55 (.mv (.t 4)) 53 false, og 56 (.binb .neq (.t 54) (.t 55)) 53 false, o 57 (.pick (.t 53) (.c (.bool true)) (.t 56))])
  (.cond (.t 57) (.seq (.reg [o 2 (.mv (.c (.bool false)))])
   (.ret)) (.skip)))
  (.seq (.reg [o 8 (.mv (.c (.int .i64 1)))])
  (.seq (.reg [o 58 (.mv (.t 5)), o 59 (.mv (.t 8)), o 60 (.call 16 [(.t 58), (.t 59)]), o 8 (.mv (.t 60))])
  (.seq (.seq (.reg [o 61 (.mv (.t 8)), o 62 (.bin .lss (.t 61) (.c (.int .i64 0)))])
  (.cond (.t 62) (.seq (.reg [o 2 (.mv (.c (.bool false)))])
   (.ret)) (.skip)))
  (.seq (.seq (.reg [o 63 (.mv (.t 8)), o 64 (.mv (.t 7)), o 65 (.bin .neq (.t 63) (.t 64))])
  (.cond (.t 65) (.seq (.reg [o 2 (.mv (.c (.bool false)))])
   (.ret)) (.skip)))
  (.seq (.reg [o 2 (.mv (.c (.bool true)))])
  (.ret)))))))))))))))))),
  [.tmp 2]⟩
/- loop.example/g03011/laws.FnExactFormatResponse -/
def F5 : Fun := ⟨27,
  .seq (.reg [o 1 (.box 3 (.t 0)), o 2 (.mv (.c (.bool false)))])
  (.seq (.reg [o 3 (.mv (.c (.int .i64 1048576)))])
  (.seq (.reg [o 7 (.load (some 3) (.t 1)), o 8 (.mv (.t 3)), o 9 (.call 19 [(.t 7), (.t 8)]), o 3 (.mv (.t 9))])
  (.seq (.seq (.reg [o 10 (.mv (.t 3)), o 11 (.bin .lss (.t 10) (.c (.int .i64 0)))])
  (.cond (.t 11) (.seq (.reg [o 2 (.mv (.c (.bool true)))])
   (.ret)) (.skip)))
  (.seq (.reg [o 12 (.load (some 3) (.t 1)), o 13 (.call 21 [(.t 12)]), o 14 (.call 20 [(.t 13)]), o 4 (.mv (.t 14))])
  (.seq (.reg [o 15 (.load (some 3) (.t 1)), o 16 (.call 21 [(.t 15)]), o 5 (.new 3 [(.int .i64 0), .nsl, (.str [])]), st (.store 3 (.t 5) (.t 16))])
  (.seq (.reg [o 17 (.load (some 3) (.t 5)), o 18 (.call 22 [(.t 17)]), o 6 (.mv (.t 18))])
  (.seq (.seq (.reg [o 19 (.mv (.t 6)), o 20 (.mv (.t 4)), o 21 (.bin .neq (.t 19) (.t 20))])
  (.cond (.t 21) (.seq (.reg [o 2 (.mv (.c (.bool false)))])
   (.ret)) (.skip)))
  (.seq (.seq (.draw [o 22 (.load (some 3) (.t 5)), o 23 (.load (some 3) (.t 1)), o 24 (.callF 21 [(.t 23)]), o 25 (.callF 23 [(.t 22), (.t 24)]), o 26 (.un .not (.t 25))])
  (.cond (.t 26) (.seq (.reg [o 2 (.mv (.c (.bool false)))])
   (.ret)) (.skip)))
  (.seq (.reg [o 2 (.mv (.c (.bool true)))])
  (.ret)))))))))),
  [.tmp 2]⟩
/- loop.example/g03011/laws.FnExactSiteStamp -/
def F6 : Fun := ⟨27,
  .seq (.reg [o 2 (.mv (.c (.bool false)))])
  (.seq (.reg [o 3 (.mv (.c (.int .i64 1048576)))])
  (.seq (.reg [o 7 (.mv (.t 0)), o 8 (.mv (.t 3)), o 9 (.call 24 [(.t 7), (.t 8)]), o 3 (.mv (.t 9))])
  (.seq (.seq (.reg [o 10 (.mv (.t 3)), o 11 (.bin .lss (.t 10) (.c (.int .i64 0)))])
  (.cond (.t 11) (.seq (.reg [o 2 (.mv (.c (.bool true)))])
   (.ret)) (.skip)))
  (.seq (.reg [o 12 (.mv (.t 0)), o 13 (.call 26 [(.t 12)]), o 14 (.call 25 [(.t 13)]), o 4 (.mv (.t 14))])
  (.seq (.reg [o 15 (.mv (.t 0)), o 16 (.call 26 [(.t 15)]), o 5 (.mv (.t 16))])
  (.seq (.reg [o 17 (.mv (.t 5)), o 18 (.call 27 [(.t 17)]), o 6 (.mv (.t 18))])
  (.seq (.seq (.reg [o 19 (.mv (.t 6)), o 20 (.mv (.t 4)), o 21 (.bin .neq (.t 19) (.t 20))])
  (.cond (.t 21) (.seq (.reg [o 2 (.mv (.c (.bool false)))])
   (.ret)) (.skip)))
  (.seq (.seq (.reg [o 22 (.mv (.t 5)), o 23 (.mv (.t 0)), o 24 (.call 26 [(.t 23)]), o 25 (.call 28 [(.t 22), (.t 24)]), o 26 (.un .not (.t 25))])
  (.cond (.t 26) (.seq (.reg [o 2 (.mv (.c (.bool false)))])
   (.ret)) (.skip)))
  (.seq (.reg [o 2 (.mv (.c (.bool true)))])
  (.ret)))))))))),
  [.tmp 2]⟩
/- loop.example/g03011/laws.FnExactIsRequest -/
def F7 : Fun := ⟨27,
  .seq (.reg [o 1 (.box 3 (.t 0)), o 2 (.mv (.c (.bool false)))])
  (.seq (.reg [o 3 (.mv (.c (.int .i64 1048576)))])
  (.seq (.reg [o 7 (.load (some 3) (.t 1)), o 8 (.mv (.t 3)), o 9 (.call 29 [(.t 7), (.t 8)]), o 3 (.mv (.t 9))])
  (.seq (.seq (.reg [o 10 (.mv (.t 3)), o 11 (.bin .lss (.t 10) (.c (.int .i64 0)))])
  (.cond (.t 11) (.seq (.reg [o 2 (.mv (.c (.bool true)))])
   (.ret)) (.skip)))
  (.seq (.reg [o 12 (.load (some 3) (.t 1)), o 13 (.call 31 [(.t 12)]), o 14 (.call 30 [(.t 13)]), o 4 (.mv (.t 14))])
  (.seq (.reg [o 15 (.load (some 3) (.t 1)), o 16 (.call 31 [(.t 15)]), o 5 (.new 3 [(.str []), .nsl, .nsl]), st (.store 3 (.t 5) (.t 16))])
  (.seq (.reg [o 17 (.load (some 3) (.t 5)), o 18 (.call 32 [(.t 17)]), o 6 (.mv (.t 18))])
  (.seq (.seq (.reg [o 19 (.mv (.t 6)), o 20 (.mv (.t 4)), o 21 (.binb .neq (.t 19) (.t 20))])
  (.cond (.t 21) (.seq (.reg [o 2 (.mv (.c (.bool false)))])
   (.ret)) (.skip)))
  (.seq (.seq (.draw [o 22 (.load (some 3) (.t 5)), o 23 (.load (some 3) (.t 1)), o 24 (.callF 31 [(.t 23)]), o 25 (.callF 33 [(.t 22), (.t 24)]), o 26 (.un .not (.t 25))])
  (.cond (.t 26) (.seq (.reg [o 2 (.mv (.c (.bool false)))])
   (.ret)) (.skip)))
  (.seq (.reg [o 2 (.mv (.c (.bool true)))])
  (.ret)))))))))),
  [.tmp 2]⟩
/- loop.example/g03011/laws.FnExactFormatRequest -/
def F8 : Fun := ⟨27,
  .seq (.reg [o 1 (.box 3 (.t 0)), o 2 (.mv (.c (.bool false)))])
  (.seq (.reg [o 3 (.mv (.c (.int .i64 1048576)))])
  (.seq (.reg [o 7 (.load (some 3) (.t 1)), o 8 (.mv (.t 3)), o 9 (.call 29 [(.t 7), (.t 8)]), o 3 (.mv (.t 9))])
  (.seq (.seq (.reg [o 10 (.mv (.t 3)), o 11 (.bin .lss (.t 10) (.c (.int .i64 0)))])
  (.cond (.t 11) (.seq (.reg [o 2 (.mv (.c (.bool true)))])
   (.ret)) (.skip)))
  (.seq (.reg [o 12 (.load (some 3) (.t 1)), o 13 (.call 31 [(.t 12)]), o 14 (.call 34 [(.t 13)]), o 4 (.mv (.t 14))])
  (.seq (.reg [o 15 (.load (some 3) (.t 1)), o 16 (.call 31 [(.t 15)]), o 5 (.new 3 [(.str []), .nsl, .nsl]), st (.store 3 (.t 5) (.t 16))])
  (.seq (.reg [o 17 (.load (some 3) (.t 5)), o 18 (.call 35 [(.t 17)]), o 6 (.mv (.t 18))])
  (.seq (.seq (.reg [o 19 (.mv (.t 6)), o 20 (.mv (.t 4)), o 21 (.bin .neq (.t 19) (.t 20))])
  (.cond (.t 21) (.seq (.reg [o 2 (.mv (.c (.bool false)))])
   (.ret)) (.skip)))
  (.seq (.seq (.draw [o 22 (.load (some 3) (.t 5)), o 23 (.load (some 3) (.t 1)), o 24 (.callF 31 [(.t 23)]), o 25 (.callF 33 [(.t 22), (.t 24)]), o 26 (.un .not (.t 25))])
  (.cond (.t 26) (.seq (.reg [o 2 (.mv (.c (.bool false)))])
   (.ret)) (.skip)))
  (.seq (.reg [o 2 (.mv (.c (.bool true)))])
  (.ret)))))))))),
  [.tmp 2]⟩
/- loop.example/g03011/laws.FnExactParseRequest -/
def F9 : Fun := ⟨66,
  .seq (.reg [o 2 (.mv (.c (.bool false)))])
  (.seq (.seq (.reg [o 11 (.mv (.t 0)), o 12 (.lenS (.t 11)), o 13 (.bin .gtr (.t 12) (.c (.int .i64 1048576)))])
  (.cond (.t 13) (.seq (.reg [o 2 (.mv (.c (.bool true)))])
   (.ret)) (.skip)))
  (.seq (.reg [o 15 (.mv (.t 0)), o 16 (.call 36 [(.t 15)]), o 14 (.mv (.t 16)), o 17 (.extract (.t 14) 0), o 18 (.extract (.t 14) 1), o 3 (.new 3 [(.str []), .nsl, .nsl]), st (.store 3 (.t 3) (.t 17)), o 4 (.mv (.t 18))])
  (.seq (.reg [o 20 (.mv (.t 0)), o 21 (.call 37 [(.t 20)]), o 19 (.mv (.t 21)), o 22 (.extract (.t 19) 0), o 23 (.extract (.t 19) 1), o 5 (.new 3 [(.str []), .nsl, .nsl]), st (.store 3 (.t 5) (.t 22)), o 6 (.mv (.t 23))])
  (.seq (.seq (.reg [o 24 (.load (some 3) (.t 5)), o 25 (.load (some 3) (.t 3)), o 26 (.call 33 [(.t 24), (.t 25)]), o 27 (.un .not (.t 26)), o 28 (.mv (.t 27)), og 29 (.mv (.t 6)) 28 false, og 30 (.mv (.t 4)) 28 false, og 31 (.binb .neq (.t 29) (.t 30)) 28 false, o 32 (.pick (.t 28) (.c (.bool true)) (.t 31))])
  (.cond (.t 32) (.seq (.reg [o 2 (.mv (.c (.bool false)))])
   (.ret)) (.skip)))
  (.seq (.reg [o 7 (.mv (.c (.int .i64 1)))])
  (.seq (.reg [o 33 (.load (some 3) (.t 5)), o 34 (.mv (.t 7)), o 35 (.call 38 [(.t 33), (.t 34)]), o 7 (.mv (.t 35))])
  (.seq (.reg [o 8 (.mv (.c (.int .i64 1)))])
  (.seq (.reg [o 36 (.load (some 3) (.t 5)), o 37 (.mv (.t 8)), o 38 (.call 39 [(.t 36), (.t 37)]), o 8 (.mv (.t 38))])
  (.seq (.seq (.reg [o 39 (.mv (.t 8)), o 40 (.bin .lss (.t 39) (.c (.int .i64 0)))])
  (.cond (.t 40) (.seq (.reg [o 2 (.mv (.c (.bool false)))])
   (.ret)) (.skip)))
  (.seq (.seq (.reg [o 41 (.mv (.t 8)), o 42 (.mv (.t 7)), o 43 (.bin .neq (.t 41) (.t 42))])
  (.cond (.t 43) (.seq (.reg [o 2 (.mv (.c (.bool false)))])
   (.ret)) (.skip)))
  (.seq (.reg [o 45 (.mv (.t 0)), o 46 (.call 37 [(.t 45)]), o 44 (.mv (.t 46)), o 47 (.extract (.t 44) 0), o 48 (.extract (.t 44) 1), o 9 (.new 3 [(.str []), .nsl, .nsl]), st (.store 3 (.t 9) (.t 47)), o 10 (.mv (.t 48))])
  (.seq (.seq (.reg [o 49 (.load (some 3) (.t 9)), o 50 (.load (some 3) (.t 3)), o 51 (.call 33 [(.t 49), (.t 50)]), o 52 (.un .not (.t 51)), o 53 (.mv (.t 52)), og 54 (.mv (.t 10)) 53 false, og 55 (.mv (.t 4)) 53 false, og 56 (.binb .neq (.t 54) (.t 55)) 53 false, o 57 (.pick (.t 53) (.c (.bool true)) (.t 56))])
  (.cond (.t 57) (.seq (.reg [o 2 (.mv (.c (.bool false)))])
   (.ret)) (.skip)))
  (.seq (.reg [o 8 (.mv (.c (.int .i64 1)))])
  (.seq (.reg [o 58 (.load (some 3) (.t 5)), o 59 (.mv (.t 8)), o 60 (.call 39 [(.t 58), (.t 59)]), o 8 (.mv (.t 60))])
  (.seq (.seq (.reg [o 61 (.mv (.t 8)), o 62 (.bin .lss (.t 61) (.c (.int .i64 0)))])
  (.cond (.t 62) (.seq (.reg [o 2 (.mv (.c (.bool false)))])
   (.ret)) (.skip)))
  (.seq (.seq (.reg [o 63 (.mv (.t 8)), o 64 (.mv (.t 7)), o 65 (.bin .neq (.t 63) (.t 64))])
  (.cond (.t 65) (.seq (.reg [o 2 (.mv (.c (.bool false)))])
   (.ret)) (.skip)))
  (.seq (.reg [o 2 (.mv (.c (.bool true)))])
  (.ret)))))))))))))))))),
  [.tmp 2]⟩
/- loop.example/g03011/laws.FnExactParseResponse -/
def F10 : Fun := ⟨66,
  .seq (.reg [o 2 (.mv (.c (.bool false)))])
  (.seq (.seq (.reg [o 11 (.mv (.t 0)), o 12 (.lenS (.t 11)), o 13 (.bin .gtr (.t 12) (.c (.int .i64 1048576)))])
  (.cond (.t 13) (.seq (.reg [o 2 (.mv (.c (.bool true)))])
   (.ret)) (.skip)))
  (.seq (.reg [o 15 (.mv (.t 0)), o 16 (.call 40 [(.t 15)]), o 14 (.mv (.t 16)), o 17 (.extract (.t 14) 0), o 18 (.extract (.t 14) 1), o 3 (.new 3 [(.int .i64 0), .nsl, (.str [])]), st (.store 3 (.t 3) (.t 17)), o 4 (.mv (.t 18))])
  (.seq (.reg [o 20 (.mv (.t 0)), o 21 (.call 41 [(.t 20)]), o 19 (.mv (.t 21)), o 22 (.extract (.t 19) 0), o 23 (.extract (.t 19) 1), o 5 (.new 3 [(.int .i64 0), .nsl, (.str [])]), st (.store 3 (.t 5) (.t 22)), o 6 (.mv (.t 23))])
  (.seq (.seq (.reg [o 24 (.load (some 3) (.t 5)), o 25 (.load (some 3) (.t 3)), o 26 (.call 23 [(.t 24), (.t 25)]), o 27 (.un .not (.t 26)), o 28 (.mv (.t 27)), og 29 (.mv (.t 6)) 28 false, og 30 (.mv (.t 4)) 28 false, og 31 (.binb .neq (.t 29) (.t 30)) 28 false, o 32 (.pick (.t 28) (.c (.bool true)) (.t 31))])
  (.cond (.t 32) (.seq (.reg [o 2 (.mv (.c (.bool false)))])
   (.ret)) (.skip)))
  (.seq (.reg [o 7 (.mv (.c (.int .i64 1)))])
  (.seq (.reg [o 33 (.load (some 3) (.t 5)), o 34 (.mv (.t 7)), o 35 (.call 42 [(.t 33), (.t 34)]), o 7 (.mv (.t 35))])
  (.seq (.reg [o 8 (.mv (.c (.int .i64 1)))])
  (.seq (.reg [o 36 (.load (some 3) (.t 5)), o 37 (.mv (.t 8)), o 38 (.call 43 [(.t 36), (.t 37)]), o 8 (.mv (.t 38))])
  (.seq (.seq (.reg [o 39 (.mv (.t 8)), o 40 (.bin .lss (.t 39) (.c (.int .i64 0)))])
  (.cond (.t 40) (.seq (.reg [o 2 (.mv (.c (.bool false)))])
   (.ret)) (.skip)))
  (.seq (.seq (.reg [o 41 (.mv (.t 8)), o 42 (.mv (.t 7)), o 43 (.bin .neq (.t 41) (.t 42))])
  (.cond (.t 43) (.seq (.reg [o 2 (.mv (.c (.bool false)))])
   (.ret)) (.skip)))
  (.seq (.reg [o 45 (.mv (.t 0)), o 46 (.call 41 [(.t 45)]), o 44 (.mv (.t 46)), o 47 (.extract (.t 44) 0), o 48 (.extract (.t 44) 1), o 9 (.new 3 [(.int .i64 0), .nsl, (.str [])]), st (.store 3 (.t 9) (.t 47)), o 10 (.mv (.t 48))])
  (.seq (.seq (.reg [o 49 (.load (some 3) (.t 9)), o 50 (.load (some 3) (.t 3)), o 51 (.call 23 [(.t 49), (.t 50)]), o 52 (.un .not (.t 51)), o 53 (.mv (.t 52)), og 54 (.mv (.t 10)) 53 false, og 55 (.mv (.t 4)) 53 false, og 56 (.binb .neq (.t 54) (.t 55)) 53 false, o 57 (.pick (.t 53) (.c (.bool true)) (.t 56))])
  (.cond (.t 57) (.seq (.reg [o 2 (.mv (.c (.bool false)))])
   (.ret)) (.skip)))
  (.seq (.reg [o 8 (.mv (.c (.int .i64 1)))])
  (.seq (.reg [o 58 (.load (some 3) (.t 5)), o 59 (.mv (.t 8)), o 60 (.call 43 [(.t 58), (.t 59)]), o 8 (.mv (.t 60))])
  (.seq (.seq (.reg [o 61 (.mv (.t 8)), o 62 (.bin .lss (.t 61) (.c (.int .i64 0)))])
  (.cond (.t 62) (.seq (.reg [o 2 (.mv (.c (.bool false)))])
   (.ret)) (.skip)))
  (.seq (.seq (.reg [o 63 (.mv (.t 8)), o 64 (.mv (.t 7)), o 65 (.bin .neq (.t 63) (.t 64))])
  (.cond (.t 65) (.seq (.reg [o 2 (.mv (.c (.bool false)))])
   (.ret)) (.skip)))
  (.seq (.reg [o 2 (.mv (.c (.bool true)))])
  (.ret)))))))))))))))))),
  [.tmp 2]⟩
/- loop.example/g03011/laws.FnExactNewServer -/
def F11 : Fun := ⟨101,
  .seq (.reg [o 4 (.mv (.c (.bool false)))])
  (.seq (.reg [o 5 (.mv (.c (.int .i64 1048576)))])
  (.seq (.reg [o 16 (.mv (.t 0)), o 17 (.mv (.t 5)), o 18 (.call 24 [(.t 16), (.t 17)]), o 5 (.mv (.t 18))])
  (.seq (.seq (.reg [o 19 (.mv (.t 5)), o 20 (.bin .lss (.t 19) (.c (.int .i64 0)))])
  (.cond (.t 20) (.seq (.reg [o 4 (.mv (.c (.bool true)))])
   (.ret)) (.skip)))
  (.seq (.reg [o 22 (.mv (.t 0)), o 23 (.call 26 [(.t 22)]), o 24 (.mv (.t 1)), o 25 (.call 44 [(.t 23), (.t 24)]), o 21 (.mv (.t 25)), o 26 (.extract (.t 21) 0), o 27 (.extract (.t 21) 1), o 6 (.new 8 [.nsl, .nsl, .nsl, .nsl, .nsl, .nsl, (.int .i64 0), (.int .i64 0)]), st (.store 8 (.t 6) (.t 26)), o 7 (.mv (.t 27))])
  (.seq (.reg [o 28 (.mv (.t 0)), o 29 (.call 26 [(.t 28)]), o 8 (.mv (.t 29))])
  (.seq (.reg [o 31 (.mv (.t 8)), o 32 (.mv (.t 1)), o 33 (.call 45 [(.t 31), (.t 32)]), o 30 (.mv (.t 33)), o 34 (.extract (.t 30) 0), o 35 (.extract (.t 30) 1), o 9 (.new 8 [.nsl, .nsl, .nsl, .nsl, .nsl, .nsl, (.int .i64 0), (.int .i64 0)]), st (.store 8 (.t 9) (.t 34)), o 10 (.mv (.t 35))])
  (.seq (.seq (.reg [o 36 (.load (some 8) (.t 9)), o 37 (.load (some 8) (.t 6)), o 38 (.call 46 [(.t 36), (.t 37)]), o 39 (.un .not (.t 38)), o 40 (.mv (.t 39)), og 41 (.mv (.t 10)) 40 false, og 42 (.mv (.t 7)) 40 false, og 43 (.binb .neq (.t 41) (.t 42)) 40 false, o 44 (.pick (.t 40) (.c (.bool true)) (.t 43))])
  (.cond (.t 44) (.seq (.reg [o 4 (.mv (.c (.bool false)))])
   (.ret)) (.skip)))
  (.seq (.seq (.reg [o 45 (.mv (.t 8)), o 46 (.mv (.t 0)), o 47 (.call 26 [(.t 46)]), o 48 (.call 28 [(.t 45), (.t 47)]), o 49 (.un .not (.t 48))])
  (.cond (.t 49) (.seq (.reg [o 4 (.mv (.c (.bool false)))])
   (.ret)) (.skip)))
  (.seq (.reg [o 11 (.mv (.c (.int .i64 1)))])
  (.seq (.reg [o 50 (.mv (.t 8)), o 51 (.mv (.t 11)), o 52 (.call 47 [(.t 50), (.t 51)]), o 11 (.mv (.t 52))])
  (.seq (.seq (.reg [o 53 (.mv (.t 11)), o 54 (.bin .lss (.t 53) (.c (.int .i64 0))), o 55 (.mv (.t 54)), og 56 (.load (some 8) (.t 9)) 55 false, og 57 (.load (some 8) (.t 6)) 55 false, og 58 (.call 46 [(.t 56), (.t 57)]) 55 false, og 59 (.un .not (.t 58)) 55 false, o 60 (.pick (.t 55) (.c (.bool true)) (.t 59)), o 61 (.mv (.t 60)), og 62 (.mv (.t 10)) 61 false, og 63 (.mv (.t 7)) 61 false, og 64 (.binb .neq (.t 62) (.t 63)) 61 false, o 65 (.pick (.t 61) (.c (.bool true)) (.t 64))])
  (.cond (.t 65) (.seq (.reg [o 4 (.mv (.c (.bool false)))])
   (.ret)) (.skip)))
  (.seq (.reg [o 12 (.mv (.c (.int .i64 1)))])
  (.seq (.reg [o 66 (.load (some 8) (.t 9)), o 67 (.mv (.t 12)), o 68 (.call 48 [(.t 66), (.t 67)]), o 12 (.mv (.t 68))])
  (.seq (.reg [o 13 (.mv (.c (.int .i64 1)))])
  (.seq (.reg [o 69 (.load (some 8) (.t 9)), o 70 (.mv (.t 13)), o 71 (.call 49 [(.t 69), (.t 70)]), o 13 (.mv (.t 71))])
  (.seq (.seq (.reg [o 72 (.mv (.t 13)), o 73 (.bin .lss (.t 72) (.c (.int .i64 0)))])
  (.cond (.t 73) (.seq (.reg [o 4 (.mv (.c (.bool false)))])
   (.ret)) (.skip)))
  (.seq (.seq (.reg [o 74 (.mv (.t 13)), o 75 (.mv (.t 12)), o 76 (.bin .neq (.t 74) (.t 75))])
  (.cond (.t 76) (.seq (.reg [o 4 (.mv (.c (.bool false)))])
   (.ret)) (.skip)))
  (.seq (.reg [o 78 (.mv (.t 0)), o 79 (.call 26 [(.t 78)]), o 80 (.mv (.t 1)), o 81 (.call 45 [(.t 79), (.t 80)]), o 77 (.mv (.t 81)), o 82 (.extract (.t 77) 0), o 83 (.extract (.t 77) 1), o 14 (.new 8 [.nsl, .nsl, .nsl, .nsl, .nsl, .nsl, (.int .i64 0), (.int .i64 0)]), st (.store 8 (.t 14) (.t 82)), o 15 (.mv (.t 83))])
  (.seq (.seq (.reg [o 84 (.load (some 8) (.t 14)), o 85 (.load (some 8) (.t 6)), o 86 (.call 46 [(.t 84), (.t 85)]), o 87 (.un .not (.t 86)), o 88 (.mv (.t 87)), og 89 (.mv (.t 15)) 88 false, og 90 (.mv (.t 7)) 88 false, og 91 (.binb .neq (.t 89) (.t 90)) 88 false, o 92 (.pick (.t 88) (.c (.bool true)) (.t 91))])
  (.cond (.t 92) (.seq (.reg [o 4 (.mv (.c (.bool false)))])
   (.ret)) (.skip)))
  (.seq (.reg [o 13 (.mv (.c (.int .i64 1)))])
  (.seq (.reg [o 93 (.load (some 8) (.t 9)), o 94 (.mv (.t 13)), o 95 (.call 49 [(.t 93), (.t 94)]), o 13 (.mv (.t 95))])
  (.seq (.seq (.reg [o 96 (.mv (.t 13)), o 97 (.bin .lss (.t 96) (.c (.int .i64 0)))])
  (.cond (.t 97) (.seq (.reg [o 4 (.mv (.c (.bool false)))])
   (.ret)) (.skip)))
  (.seq (.seq (.reg [o 98 (.mv (.t 13)), o 99 (.mv (.t 12)), o 100 (.bin .neq (.t 98) (.t 99))])
  (.cond (.t 100) (.seq (.reg [o 4 (.mv (.c (.bool false)))])
   (.ret)) (.skip)))
  (.seq (.reg [o 4 (.mv (.c (.bool true)))])
  (.ret))))))))))))))))))))))))),
  [.tmp 4]⟩
/- loop.example/g03011/spec.ParseCookies -/
def F12 : Fun := ⟨8,
  .seq (.reg [o 2 (.mv (.c .nsl)), o 3 (.mv (.c (.bool false)))])
  (.seq (.reg [o 4 (.mv (.t 0)), o 5 (.call 50 [(.t 4), (.c (.str [59, 32]))]), o 6 (.extract (.t 5) 0), o 7 (.extract (.t 5) 1), o 2 (.mv (.t 6)), o 3 (.mv (.t 7))])
  (.ret)),
  [.tmp 2, .tmp 3]⟩
/- loop.example/g03011/impl.ParseCookies -/
def F13 : Fun := ⟨8,
  .seq (.reg [o 2 (.mv (.c .nsl)), o 3 (.mv (.c (.bool false)))])
  (.seq (.reg [o 4 (.mv (.t 0)), o 5 (.call 51 [(.t 4), (.c (.str [59, 32]))]), o 6 (.extract (.t 5) 0), o 7 (.extract (.t 5) 1), o 2 (.mv (.t 6)), o 3 (.mv (.t 7))])
  (.ret)),
  [.tmp 2, .tmp 3]⟩
/- loop.example/g03011/laws.eqPairS -/
def F14 : Fun := ⟨27,
  .seq (.reg [o 4 (.mv (.c (.bool false)))])
  (.seq (.seq (.reg [o 6 (.mv (.t 0)), o 7 (.lenL (.t 6)), o 8 (.mv (.t 1)), o 9 (.lenL (.t 8)), o 10 (.bin .neq (.t 7) (.t 9))])
  (.cond (.t 10) (.seq (.reg [o 4 (.mv (.c (.bool false)))])
   (.ret)) (.skip)))
  (.seq (.seq (.reg [o 5 (.mv (.c (.int .i64 0)))])
  (.block 0 (.loop (.seq (.seq (.reg [o 11 (.mv (.t 5)), o 12 (.mv (.t 0)), o 13 (.lenL (.t 12)), o 14 (.bin .lss (.t 11) (.t 13))])
    (.cond (.t 14) (.skip) (.exit 0)))
    (.seq (.block 1 (.seq (.reg [o 17 (.mv (.t 0)), o 18 (.mv (.t 5)), o 19 (.iaddr 2 (.t 17) (.t 18)), o 20 (.load (some 2) (.t 19)), o 21 (.mv (.t 1)), o 22 (.mv (.t 5)), o 23 (.iaddr 2 (.t 21) (.t 22)), o 24 (.load (some 2) (.t 23)), o 25 (.callF 52 [(.t 20), (.t 24)]), o 26 (.un .not (.t 25))])
     (.cond (.t 26) (.seq (.reg [o 4 (.mv (.c (.bool false)))])
      (.ret)) (.skip))))
    (.reg [o 15 (.mv (.t 5)), o 16 (.bin .add (.t 15) (.c (.int .i64 1))), o 5 (.mv (.t 16))]))))))
  (.seq (.reg [o 4 (.mv (.c (.bool true)))])
  (.ret)))),
  [.tmp 4]⟩
/- loop.example/g03011/laws.markPairS -/
def F15 : Fun := ⟨29,
  .seq (.reg [o 4 (.mv (.c (.int .i64 0)))])
  (.seq (.seq (.reg [o 5 (.mv (.c (.int .i64 0)))])
  (.block 0 (.loop (.seq (.seq (.reg [o 6 (.mv (.t 5)), o 7 (.mv (.t 0)), o 8 (.lenL (.t 7)), o 9 (.bin .lss (.t 6) (.t 8))])
    (.cond (.t 9) (.skip) (.exit 0)))
    (.seq (.block 1 (.seq (.reg [o 12 (.mv (.t 0)), o 13 (.mv (.t 5)), o 14 (.mv (.t 1)), o 15 (.call 53 [(.t 14)]), o 16 (.iaddr 2 (.t 12) (.t 13)), o 17 (.faddr 0 (.t 16)), st (.store 1 (.t 17) (.t 15))])
     (.seq (.reg [o 18 (.mv (.t 1)), o 19 (.bin .add (.t 18) (.c (.int .i64 1))), o 1 (.mv (.t 19))])
     (.seq (.reg [o 20 (.mv (.t 0)), o 21 (.mv (.t 5)), o 22 (.mv (.t 1)), o 23 (.call 53 [(.t 22)]), o 24 (.iaddr 2 (.t 20) (.t 21)), o 25 (.faddr 1 (.t 24)), st (.store 1 (.t 25) (.t 23))])
     (.reg [o 26 (.mv (.t 1)), o 27 (.bin .add (.t 26) (.c (.int .i64 1))), o 1 (.mv (.t 27))])))))
    (.reg [o 10 (.mv (.t 5)), o 11 (.bin .add (.t 10) (.c (.int .i64 1))), o 5 (.mv (.t 11))]))))))
  (.seq (.reg [o 28 (.mv (.t 1)), o 4 (.mv (.t 28))])
  (.ret))),
  [.tmp 4]⟩
/- loop.example/g03011/laws.heldPairS -/
def F16 : Fun := ⟨33,
  .seq (.reg [o 4 (.mv (.c (.int .i64 0)))])
  (.seq (.seq (.reg [o 5 (.mv (.c (.int .i64 0)))])
  (.block 0 (.loop (.seq (.seq (.reg [o 6 (.mv (.t 5)), o 7 (.mv (.t 0)), o 8 (.lenL (.t 7)), o 9 (.bin .lss (.t 6) (.t 8))])
    (.cond (.t 9) (.skip) (.exit 0)))
    (.seq (.block 1 (.seq (.seq (.reg [o 12 (.mv (.t 0)), o 13 (.mv (.t 5)), o 14 (.iaddr 2 (.t 12) (.t 13)), o 15 (.faddr 0 (.t 14)), o 16 (.load none (.t 15)), o 17 (.mv (.t 1)), o 18 (.callF 53 [(.t 17)]), o 19 (.bin .neq (.t 16) (.t 18))])
     (.cond (.t 19) (.seq (.reg [o 4 (.mv (.c (.int .i64 (-1))))])
      (.ret)) (.skip)))
     (.seq (.reg [o 20 (.mv (.t 1)), o 21 (.bin .add (.t 20) (.c (.int .i64 1))), o 1 (.mv (.t 21))])
     (.seq (.seq (.reg [o 22 (.mv (.t 0)), o 23 (.mv (.t 5)), o 24 (.iaddr 2 (.t 22) (.t 23)), o 25 (.faddr 1 (.t 24)), o 26 (.load none (.t 25)), o 27 (.mv (.t 1)), o 28 (.callF 53 [(.t 27)]), o 29 (.bin .neq (.t 26) (.t 28))])
     (.cond (.t 29) (.seq (.reg [o 4 (.mv (.c (.int .i64 (-1))))])
      (.ret)) (.skip)))
     (.reg [o 30 (.mv (.t 1)), o 31 (.bin .add (.t 30) (.c (.int .i64 1))), o 1 (.mv (.t 31))])))))
    (.reg [o 10 (.mv (.t 5)), o 11 (.bin .add (.t 10) (.c (.int .i64 1))), o 5 (.mv (.t 11))]))))))
  (.seq (.reg [o 32 (.mv (.t 1)), o 4 (.mv (.t 32))])
  (.ret))),
  [.tmp 4]⟩
/- loop.example/g03011/spec.ParseQuery -/
def F17 : Fun := ⟨8,
  .seq (.reg [o 2 (.mv (.c .nsl)), o 3 (.mv (.c (.bool false)))])
  (.seq (.reg [o 4 (.mv (.t 0)), o 5 (.call 50 [(.t 4), (.c (.str [38]))]), o 6 (.extract (.t 5) 0), o 7 (.extract (.t 5) 1), o 2 (.mv (.t 6)), o 3 (.mv (.t 7))])
  (.ret)),
  [.tmp 2, .tmp 3]⟩
/- loop.example/g03011/impl.ParseQuery -/
def F18 : Fun := ⟨8,
  .seq (.reg [o 2 (.mv (.c .nsl)), o 3 (.mv (.c (.bool false)))])
  (.seq (.reg [o 4 (.mv (.t 0)), o 5 (.call 51 [(.t 4), (.c (.str [38]))]), o 6 (.extract (.t 5) 0), o 7 (.extract (.t 5) 1), o 2 (.mv (.t 6)), o 3 (.mv (.t 7))])
  (.ret)),
  [.tmp 2, .tmp 3]⟩
/- loop.example/g03011/laws.szResponse -/
def F19 : Fun := ⟨19,
  .seq (.reg [o 2 (.box 3 (.t 0)), o 4 (.mv (.c (.int .i64 0)))])
  (.seq (.reg [o 5 (.faddr 1 (.t 2)), o 6 (.load none (.t 5)), o 7 (.mv (.t 1)), o 8 (.call 54 [(.t 6), (.t 7)]), o 1 (.mv (.t 8))])
  (.seq (.seq (.reg [o 9 (.mv (.t 1)), o 10 (.bin .lss (.t 9) (.c (.int .i64 0)))])
  (.cond (.t 10) (.seq (.reg [o 4 (.mv (.c (.int .i64 (-1))))])
   (.ret)) (.skip)))
  (.seq (.reg [o 11 (.mv (.t 1)), o 12 (.faddr 2 (.t 2)), o 13 (.load none (.t 12)), o 14 (.lenS (.t 13)), o 15 (.bin .sub (.t 11) (.t 14)), o 1 (.mv (.t 15))])
  (.seq (.seq (.reg [o 16 (.mv (.t 1)), o 17 (.bin .lss (.t 16) (.c (.int .i64 0)))])
  (.cond (.t 17) (.seq (.reg [o 4 (.mv (.c (.int .i64 (-1))))])
   (.ret)) (.skip)))
  (.seq (.reg [o 18 (.mv (.t 1)), o 4 (.mv (.t 18))])
  (.ret)))))),
  [.tmp 4]⟩
/- loop.example/g03011/spec.FormatResponse -/
def F20 : Fun := ⟨8,
  .seq (.reg [o 1 (.box 3 (.t 0)), o 2 (.mv (.c (.str [])))])
  (.seq (.seq (.reg [o 3 (.load (some 3) (.t 1)), o 4 (.call 55 [(.t 3)]), o 5 (.un .not (.t 4))])
  (.cond (.t 5) (.seq (.reg [o 2 (.mv (.c (.str [])))])
   (.ret)) (.skip)))
  (.seq (.reg [o 6 (.load (some 3) (.t 1)), o 7 (.call 56 [(.t 6)]), o 2 (.mv (.t 7))])
  (.ret))),
  [.tmp 2]⟩
/- loop.example/g03011/laws.toResponse -/
def F21 : Fun := ⟨15,
  .seq (.reg [o 1 (.box 3 (.t 0)), o 2 (.new 3 [(.int .i64 0), .nsl, (.str [])])])
  (.seq (.reg [o 3 (.new 3 [(.int .i64 0), .nsl, (.str [])])])
  (.seq (.reg [o 4 (.faddr 0 (.t 1)), o 5 (.load none (.t 4)), o 6 (.faddr 0 (.t 3)), st (.store 1 (.t 6) (.t 5))])
  (.seq (.reg [o 7 (.faddr 1 (.t 1)), o 8 (.load none (.t 7)), o 9 (.call 57 [(.t 8)]), o 10 (.faddr 1 (.t 3)), st (.store 1 (.t 10) (.t 9))])
  (.seq (.reg [o 11 (.faddr 2 (.t 1)), o 12 (.load none (.t 11)), o 13 (.faddr 2 (.t 3)), st (.store 1 (.t 13) (.t 12))])
  (.seq (.reg [o 14 (.load (some 3) (.t 3)), st (.store 3 (.t 2) (.t 14))])
  (.ret)))))),
  [.cell 2 (some 3)]⟩
/- loop.example/g03011/impl.FormatResponse -/
def F22 : Fun := ⟨47,
  .seq (.reg [o 1 (.box 3 (.t 0)), o 2 (.mv (.c (.str [])))])
  (.seq (.seq (.reg [o 6 (.load (some 3) (.t 1)), o 7 (.call 58 [(.t 6)]), o 8 (.un .not (.t 7))])
  (.cond (.t 8) (.seq (.reg [o 2 (.mv (.c (.str [])))])
   (.ret)) (.skip)))
  (.seq (.reg [o 9 (.faddr 0 (.t 1)), o 10 (.load none (.t 9)), o 11 (.callF 59 [(.t 10)]), o 12 (.bin .add (.c (.str [72, 84, 84, 80, 47, 49, 46, 49, 32])) (.t 11)), o 13 (.bin .add (.t 12) (.c (.str [32]))), o 14 (.faddr 0 (.t 1)), o 15 (.load none (.t 14)), o 16 (.callF 60 [(.t 15)]), o 17 (.bin .add (.t 13) (.t 16)), o 18 (.bin .add (.t 17) (.c (.str [13, 10]))), o 3 (.mv (.t 18))])
  (.seq (.seq (.reg [o 19 (.faddr 1 (.t 1)), o 20 (.load none (.t 19)), o 21 (.lenL (.t 20)), o 22 (.mv (.c (.int .i64 0)))])
  (.block 0 (.loop (.seq (.reg [o 23 (.bin .lss (.t 22) (.t 21))])
    (.seq (.cond (.t 23) (.skip) (.exit 0))
    (.seq (.block 1 (.seq (.reg [o 24 (.iaddr 2 (.t 20) (.t 22)), o 25 (.load (some 2) (.t 24)), o 5 (.new 2 [(.str []), (.str [])]), st (.store 2 (.t 5) (.t 25))])
     (.reg [o 26 (.mv (.t 3)), o 27 (.faddr 0 (.t 5)), o 28 (.load none (.t 27)), o 29 (.bin .add (.t 26) (.t 28)), o 30 (.bin .add (.t 29) (.c (.str [58, 32]))), o 31 (.faddr 1 (.t 5)), o 32 (.load none (.t 31)), o 33 (.bin .add (.t 30) (.t 32)), o 34 (.bin .add (.t 33) (.c (.str [13, 10]))), o 3 (.mv (.t 34))])))
    (.reg [o 35 (.bin .add (.t 22) (.c (.int .i64 1))), o 22 (.mv (.t 35))])))))))
  (.seq (.reg [o 36 (.mv (.t 3)), o 37 (.bin .add (.t 36) (.c (.str [67, 111, 110, 116, 101, 110, 116, 45, 76, 101, 110, 103, 116, 104, 58, 32]))), o 38 (.faddr 2 (.t 1)), o 39 (.load none (.t 38)), o 40 (.lenS (.t 39)), o 41 (.callF 59 [(.t 40)]), o 42 (.bin .add (.t 37) (.t 41)), o 43 (.bin .add (.t 42) (.c (.str [13, 10, 13, 10]))), o 44 (.faddr 2 (.t 1)), o 45 (.load none (.t 44)), o 46 (.bin .add (.t 43) (.t 45)), o 2 (.mv (.t 46))])
  (.ret))))),
  [.tmp 2]⟩
/- loop.example/g03011/laws.eqResponse -/
def F23 : Fun := ⟨21,
  .seq (.reg [o 2 (.box 3 (.t 0)), o 3 (.box 3 (.t 1)), o 4 (.mv (.c (.bool false)))])
  (.seq (.seq (.reg [o 5 (.faddr 0 (.t 2)), o 6 (.load none (.t 5)), o 7 (.faddr 0 (.t 3)), o 8 (.load none (.t 7)), o 9 (.bin .neq (.t 6) (.t 8))])
  (.cond (.t 9) (.seq (.reg [o 4 (.mv (.c (.bool false)))])
   (.ret)) (.skip)))
  (.seq (.seq (.reg [o 10 (.faddr 1 (.t 2)), o 11 (.load none (.t 10)), o 12 (.faddr 1 (.t 3)), o 13 (.load none (.t 12)), o 14 (.call 61 [(.t 11), (.t 13)]), o 15 (.un .not (.t 14))])
  (.cond (.t 15) (.seq (.reg [o 4 (.mv (.c (.bool false)))])
   (.ret)) (.skip)))
  (.seq (.seq (.reg [o 16 (.faddr 2 (.t 2)), o 17 (.load none (.t 16)), o 18 (.faddr 2 (.t 3)), o 19 (.load none (.t 18)), o 20 (.bin .neq (.t 17) (.t 19))])
  (.cond (.t 20) (.seq (.reg [o 4 (.mv (.c (.bool false)))])
   (.ret)) (.skip)))
  (.seq (.reg [o 4 (.mv (.c (.bool true)))])
  (.ret))))),
  [.tmp 4]⟩
/- loop.example/g03011/laws.szFileS -/
def F24 : Fun := ⟨27,
  .seq (.reg [o 4 (.mv (.c (.int .i64 0)))])
  (.seq (.reg [o 6 (.mv (.t 1)), o 7 (.mv (.t 0)), o 8 (.lenL (.t 7)), o 9 (.bin .sub (.t 6) (.t 8)), o 1 (.mv (.t 9))])
  (.seq (.seq (.reg [o 10 (.mv (.t 1)), o 11 (.bin .lss (.t 10) (.c (.int .i64 0)))])
  (.cond (.t 11) (.seq (.reg [o 4 (.mv (.c (.int .i64 (-1))))])
   (.ret)) (.skip)))
  (.seq (.seq (.reg [o 5 (.mv (.c (.int .i64 0)))])
  (.block 0 (.loop (.seq (.seq (.reg [o 12 (.mv (.t 5)), o 13 (.mv (.t 0)), o 14 (.lenL (.t 13)), o 15 (.bin .lss (.t 12) (.t 14))])
    (.cond (.t 15) (.skip) (.exit 0)))
    (.seq (.block 1 (.seq (.reg [o 18 (.mv (.t 0)), o 19 (.mv (.t 5)), o 20 (.iaddr 3 (.t 18) (.t 19)), o 21 (.load (some 3) (.t 20)), o 22 (.mv (.t 1)), o 23 (.call 62 [(.t 21), (.t 22)]), o 1 (.mv (.t 23))])
     (.seq (.reg [o 24 (.mv (.t 1)), o 25 (.bin .lss (.t 24) (.c (.int .i64 0)))])
     (.cond (.t 25) (.seq (.reg [o 4 (.mv (.c (.int .i64 (-1))))])
      (.ret)) (.skip)))))
    (.reg [o 16 (.mv (.t 5)), o 17 (.bin .add (.t 16) (.c (.int .i64 1))), o 5 (.mv (.t 17))]))))))
  (.seq (.reg [o 26 (.mv (.t 1)), o 4 (.mv (.t 26))])
  (.ret))))),
  [.tmp 4]⟩
/- loop.example/g03011/spec.SiteStamp -/
def F25 : Fun := ⟨23,
  .seq (.reg [o 2 (.mv (.c (.int .i64 0)))])
  (.seq (.reg [o 3 (.mv (.c (.int .i64 0)))])
  (.seq (.seq (.reg [o 4 (.mv (.c (.int .i64 0)))])
  (.block 0 (.loop (.seq (.seq (.reg [o 5 (.mv (.t 4)), o 6 (.mv (.t 0)), o 7 (.lenL (.t 6)), o 8 (.bin .lss (.t 5) (.t 7)), o 9 (.mv (.t 8)), og 10 (.mv (.t 0)) 9 true, og 11 (.call 63 [(.t 10)]) 9 true, o 12 (.pick (.t 9) (.t 11) (.c (.bool false)))])
    (.cond (.t 12) (.skip) (.exit 0)))
    (.seq (.block 1 (.reg [o 15 (.mv (.t 3)), o 16 (.mv (.t 0)), o 17 (.mv (.t 4)), o 18 (.iaddr 3 (.t 16) (.t 17)), o 19 (.faddr 2 (.t 18)), o 20 (.load none (.t 19)), o 21 (.bin .add (.t 15) (.t 20)), o 3 (.mv (.t 21))]))
    (.reg [o 13 (.mv (.t 4)), o 14 (.bin .add (.t 13) (.c (.int .i64 1))), o 4 (.mv (.t 14))]))))))
  (.seq (.reg [o 22 (.mv (.t 3)), o 2 (.mv (.t 22))])
  (.ret)))),
  [.tmp 2]⟩
/- loop.example/g03011/laws.toFileS -/
def F26 : Fun := ⟨23,
  .seq (.reg [o 2 (.mv (.c .nsl))])
  (.seq (.reg [o 5 (.mv (.t 0)), o 6 (.lenL (.t 5)), o 7 (.mkslice 3 [(.str []), (.str []), (.int .i64 0)] 40 (.t 6) (.t 6)), o 3 (.mv (.t 7))])
  (.seq (.seq (.reg [o 4 (.mv (.c (.int .i64 0)))])
  (.block 0 (.loop (.seq (.seq (.reg [o 8 (.mv (.t 4)), o 9 (.mv (.t 0)), o 10 (.lenL (.t 9)), o 11 (.bin .lss (.t 8) (.t 10))])
    (.cond (.t 11) (.skip) (.exit 0)))
    (.seq (.block 1 (.reg [o 14 (.mv (.t 3)), o 15 (.mv (.t 4)), o 16 (.mv (.t 0)), o 17 (.mv (.t 4)), o 18 (.iaddr 3 (.t 16) (.t 17)), o 19 (.load (some 3) (.t 18)), o 20 (.call 64 [(.t 19)]), o 21 (.iaddr 3 (.t 14) (.t 15)), st (.store 3 (.t 21) (.t 20))]))
    (.reg [o 12 (.mv (.t 4)), o 13 (.bin .add (.t 12) (.c (.int .i64 1))), o 4 (.mv (.t 13))]))))))
  (.seq (.reg [o 22 (.mv (.t 3)), o 2 (.mv (.t 22))])
  (.ret)))),
  [.tmp 2]⟩
/- loop.example/g03011/impl.SiteStamp -/
def F27 : Fun := ⟨21,
  .seq (.reg [o 2 (.mv (.c (.int .i64 0)))])
  (.seq (.seq (.reg [o 6 (.mv (.t 0)), o 7 (.call 65 [(.t 6)]), o 8 (.un .not (.t 7))])
  (.cond (.t 8) (.seq (.reg [o 2 (.mv (.c (.int .i64 0)))])
   (.ret)) (.skip)))
  (.seq (.reg [o 3 (.mv (.c (.int .i64 0)))])
  (.seq (.seq (.reg [o 9 (.mv (.t 0)), o 10 (.lenL (.t 9)), o 11 (.mv (.c (.int .i64 0)))])
  (.block 0 (.loop (.seq (.reg [o 12 (.bin .lss (.t 11) (.t 10))])
    (.seq (.cond (.t 12) (.skip) (.exit 0))
    (.seq (.block 1 (.seq (.reg [o 13 (.iaddr 3 (.t 9) (.t 11)), o 14 (.load (some 3) (.t 13)), o 5 (.new 3 [(.str []), (.str []), (.int .i64 0)]), st (.store 3 (.t 5) (.t 14))])
     (.reg [o 15 (.mv (.t 3)), o 16 (.faddr 2 (.t 5)), o 17 (.load none (.t 16)), o 18 (.bin .add (.t 15) (.t 17)), o 3 (.mv (.t 18))])))
    (.reg [o 19 (.bin .add (.t 11) (.c (.int .i64 1))), o 11 (.mv (.t 19))])))))))
  (.seq (.reg [o 20 (.mv (.t 3)), o 2 (.mv (.t 20))])
  (.ret))))),
  [.tmp 2]⟩
/- loop.example/g03011/laws.eqFileS -/
def F28 : Fun := ⟨27,
  .seq (.reg [o 4 (.mv (.c (.bool false)))])
  (.seq (.seq (.reg [o 6 (.mv (.t 0)), o 7 (.lenL (.t 6)), o 8 (.mv (.t 1)), o 9 (.lenL (.t 8)), o 10 (.bin .neq (.t 7) (.t 9))])
  (.cond (.t 10) (.seq (.reg [o 4 (.mv (.c (.bool false)))])
   (.ret)) (.skip)))
  (.seq (.seq (.reg [o 5 (.mv (.c (.int .i64 0)))])
  (.block 0 (.loop (.seq (.seq (.reg [o 11 (.mv (.t 5)), o 12 (.mv (.t 0)), o 13 (.lenL (.t 12)), o 14 (.bin .lss (.t 11) (.t 13))])
    (.cond (.t 14) (.skip) (.exit 0)))
    (.seq (.block 1 (.seq (.reg [o 17 (.mv (.t 0)), o 18 (.mv (.t 5)), o 19 (.iaddr 3 (.t 17) (.t 18)), o 20 (.load (some 3) (.t 19)), o 21 (.mv (.t 1)), o 22 (.mv (.t 5)), o 23 (.iaddr 3 (.t 21) (.t 22)), o 24 (.load (some 3) (.t 23)), o 25 (.callF 66 [(.t 20), (.t 24)]), o 26 (.un .not (.t 25))])
     (.cond (.t 26) (.seq (.reg [o 4 (.mv (.c (.bool false)))])
      (.ret)) (.skip))))
    (.reg [o 15 (.mv (.t 5)), o 16 (.bin .add (.t 15) (.c (.int .i64 1))), o 5 (.mv (.t 16))]))))))
  (.seq (.reg [o 4 (.mv (.c (.bool true)))])
  (.ret)))),
  [.tmp 4]⟩
/- loop.example/g03011/laws.szRequest -/
def F29 : Fun := ⟨25,
  .seq (.reg [o 2 (.box 3 (.t 0)), o 4 (.mv (.c (.int .i64 0)))])
  (.seq (.reg [o 5 (.mv (.t 1)), o 6 (.faddr 0 (.t 2)), o 7 (.load none (.t 6)), o 8 (.lenS (.t 7)), o 9 (.bin .sub (.t 5) (.t 8)), o 1 (.mv (.t 9))])
  (.seq (.seq (.reg [o 10 (.mv (.t 1)), o 11 (.bin .lss (.t 10) (.c (.int .i64 0)))])
  (.cond (.t 11) (.seq (.reg [o 4 (.mv (.c (.int .i64 (-1))))])
   (.ret)) (.skip)))
  (.seq (.reg [o 12 (.faddr 1 (.t 2)), o 13 (.load none (.t 12)), o 14 (.mv (.t 1)), o 15 (.call 67 [(.t 13), (.t 14)]), o 1 (.mv (.t 15))])
  (.seq (.seq (.reg [o 16 (.mv (.t 1)), o 17 (.bin .lss (.t 16) (.c (.int .i64 0)))])
  (.cond (.t 17) (.seq (.reg [o 4 (.mv (.c (.int .i64 (-1))))])
   (.ret)) (.skip)))
  (.seq (.reg [o 18 (.faddr 2 (.t 2)), o 19 (.load none (.t 18)), o 20 (.mv (.t 1)), o 21 (.call 67 [(.t 19), (.t 20)]), o 1 (.mv (.t 21))])
  (.seq (.seq (.reg [o 22 (.mv (.t 1)), o 23 (.bin .lss (.t 22) (.c (.int .i64 0)))])
  (.cond (.t 23) (.seq (.reg [o 4 (.mv (.c (.int .i64 (-1))))])
   (.ret)) (.skip)))
  (.seq (.reg [o 24 (.mv (.t 1)), o 4 (.mv (.t 24))])
  (.ret)))))))),
  [.tmp 4]⟩
/- loop.example/g03011/spec.IsRequest -/
def F30 : Fun := ⟨16,
  .seq (.reg [o 1 (.box 3 (.t 0)), o 2 (.mv (.c (.bool false)))])
  (.seq (.reg [o 3 (.faddr 0 (.t 1)), o 4 (.load none (.t 3)), o 5 (.call 68 [(.t 4)]), o 6 (.mv (.t 5)), og 7 (.faddr 1 (.t 1)) 6 true, og 8 (.load none (.t 7)) 6 true, og 9 (.call 69 [(.t 8)]) 6 true, o 10 (.pick (.t 6) (.t 9) (.c (.bool false))), o 11 (.mv (.t 10)), og 12 (.faddr 2 (.t 1)) 11 true, og 13 (.load none (.t 12)) 11 true, og 14 (.call 69 [(.t 13)]) 11 true, o 15 (.pick (.t 11) (.t 14) (.c (.bool false))), o 2 (.mv (.t 15))])
  (.ret)),
  [.tmp 2]⟩
/- loop.example/g03011/laws.toRequest -/
def F31 : Fun := ⟨16,
  .seq (.reg [o 1 (.box 3 (.t 0)), o 2 (.new 3 [(.str []), .nsl, .nsl])])
  (.seq (.reg [o 3 (.new 3 [(.str []), .nsl, .nsl])])
  (.seq (.reg [o 4 (.faddr 0 (.t 1)), o 5 (.load none (.t 4)), o 6 (.faddr 0 (.t 3)), st (.store 1 (.t 6) (.t 5))])
  (.seq (.reg [o 7 (.faddr 1 (.t 1)), o 8 (.load none (.t 7)), o 9 (.call 70 [(.t 8)]), o 10 (.faddr 1 (.t 3)), st (.store 1 (.t 10) (.t 9))])
  (.seq (.reg [o 11 (.faddr 2 (.t 1)), o 12 (.load none (.t 11)), o 13 (.call 70 [(.t 12)]), o 14 (.faddr 2 (.t 3)), st (.store 1 (.t 14) (.t 13))])
  (.seq (.reg [o 15 (.load (some 3) (.t 3)), st (.store 3 (.t 2) (.t 15))])
  (.ret)))))),
  [.cell 2 (some 3)]⟩
/- loop.example/g03011/impl.IsRequest -/
def F32 : Fun := ⟨16,
  .seq (.reg [o 1 (.box 3 (.t 0)), o 2 (.mv (.c (.bool false)))])
  (.seq (.reg [o 3 (.faddr 0 (.t 1)), o 4 (.load none (.t 3)), o 5 (.call 71 [(.t 4)]), o 6 (.mv (.t 5)), og 7 (.faddr 1 (.t 1)) 6 true, og 8 (.load none (.t 7)) 6 true, og 9 (.call 72 [(.t 8)]) 6 true, o 10 (.pick (.t 6) (.t 9) (.c (.bool false))), o 11 (.mv (.t 10)), og 12 (.faddr 2 (.t 1)) 11 true, og 13 (.load none (.t 12)) 11 true, og 14 (.call 72 [(.t 13)]) 11 true, o 15 (.pick (.t 11) (.t 14) (.c (.bool false))), o 2 (.mv (.t 15))])
  (.ret)),
  [.tmp 2]⟩
/- loop.example/g03011/laws.eqRequest -/
def F33 : Fun := ⟨22,
  .seq (.reg [o 2 (.box 3 (.t 0)), o 3 (.box 3 (.t 1)), o 4 (.mv (.c (.bool false)))])
  (.seq (.seq (.reg [o 5 (.faddr 0 (.t 2)), o 6 (.load none (.t 5)), o 7 (.faddr 0 (.t 3)), o 8 (.load none (.t 7)), o 9 (.bin .neq (.t 6) (.t 8))])
  (.cond (.t 9) (.seq (.reg [o 4 (.mv (.c (.bool false)))])
   (.ret)) (.skip)))
  (.seq (.seq (.reg [o 10 (.faddr 1 (.t 2)), o 11 (.load none (.t 10)), o 12 (.faddr 1 (.t 3)), o 13 (.load none (.t 12)), o 14 (.call 14 [(.t 11), (.t 13)]), o 15 (.un .not (.t 14))])
  (.cond (.t 15) (.seq (.reg [o 4 (.mv (.c (.bool false)))])
   (.ret)) (.skip)))
  (.seq (.seq (.reg [o 16 (.faddr 2 (.t 2)), o 17 (.load none (.t 16)), o 18 (.faddr 2 (.t 3)), o 19 (.load none (.t 18)), o 20 (.call 14 [(.t 17), (.t 19)]), o 21 (.un .not (.t 20))])
  (.cond (.t 21) (.seq (.reg [o 4 (.mv (.c (.bool false)))])
   (.ret)) (.skip)))
  (.seq (.reg [o 4 (.mv (.c (.bool true)))])
  (.ret))))),
  [.tmp 4]⟩
/- loop.example/g03011/spec.FormatRequest -/
def F34 : Fun := ⟨35,
  .seq (.reg [o 1 (.box 3 (.t 0)), o 2 (.mv (.c (.str [])))])
  (.seq (.seq (.reg [o 4 (.load (some 3) (.t 1)), o 5 (.call 30 [(.t 4)]), o 6 (.un .not (.t 5))])
  (.cond (.t 6) (.seq (.reg [o 2 (.mv (.c (.str [])))])
   (.ret)) (.skip)))
  (.seq (.reg [o 7 (.faddr 0 (.t 1)), o 8 (.load none (.t 7)), o 9 (.bin .add (.c (.str [71, 69, 84, 32, 47])) (.t 8)), o 3 (.mv (.t 9))])
  (.seq (.seq (.reg [o 10 (.faddr 1 (.t 1)), o 11 (.load none (.t 10)), o 12 (.lenL (.t 11)), o 13 (.bin .gtr (.t 12) (.c (.int .i64 0)))])
  (.cond (.t 13) (.reg [o 14 (.mv (.t 3)), o 15 (.bin .add (.t 14) (.c (.str [63]))), o 16 (.faddr 1 (.t 1)), o 17 (.load none (.t 16)), o 18 (.call 73 [(.t 17)]), o 19 (.bin .add (.t 15) (.t 18)), o 3 (.mv (.t 19))]) (.skip)))
  (.seq (.reg [o 20 (.mv (.t 3)), o 21 (.bin .add (.t 20) (.c (.str [32, 72, 84, 84, 80, 47, 49, 46, 49, 13, 10]))), o 3 (.mv (.t 21))])
  (.seq (.seq (.reg [o 22 (.faddr 2 (.t 1)), o 23 (.load none (.t 22)), o 24 (.lenL (.t 23)), o 25 (.bin .gtr (.t 24) (.c (.int .i64 0)))])
  (.cond (.t 25) (.reg [o 26 (.mv (.t 3)), o 27 (.bin .add (.t 26) (.c (.str [67, 111, 111, 107, 105, 101, 58, 32]))), o 28 (.faddr 2 (.t 1)), o 29 (.load none (.t 28)), o 30 (.call 74 [(.t 29)]), o 31 (.bin .add (.t 27) (.t 30)), o 32 (.bin .add (.t 31) (.c (.str [13, 10]))), o 3 (.mv (.t 32))]) (.skip)))
  (.seq (.reg [o 33 (.mv (.t 3)), o 34 (.bin .add (.t 33) (.c (.str [13, 10]))), o 2 (.mv (.t 34))])
  (.ret))))))),
  [.tmp 2]⟩
/- loop.example/g03011/impl.FormatRequest -/
def F35 : Fun := ⟨35,
  .seq (.reg [o 1 (.box 3 (.t 0)), o 2 (.mv (.c (.str [])))])
  (.seq (.seq (.reg [o 4 (.load (some 3) (.t 1)), o 5 (.call 32 [(.t 4)]), o 6 (.un .not (.t 5))])
  (.cond (.t 6) (.seq (.reg [o 2 (.mv (.c (.str [])))])
   (.ret)) (.skip)))
  (.seq (.reg [o 7 (.faddr 0 (.t 1)), o 8 (.load none (.t 7)), o 9 (.bin .add (.c (.str [71, 69, 84, 32, 47])) (.t 8)), o 3 (.mv (.t 9))])
  (.seq (.seq (.reg [o 10 (.faddr 1 (.t 1)), o 11 (.load none (.t 10)), o 12 (.lenL (.t 11)), o 13 (.bin .gtr (.t 12) (.c (.int .i64 0)))])
  (.cond (.t 13) (.reg [o 14 (.mv (.t 3)), o 15 (.bin .add (.t 14) (.c (.str [63]))), o 16 (.faddr 1 (.t 1)), o 17 (.load none (.t 16)), o 18 (.call 75 [(.t 17)]), o 19 (.bin .add (.t 15) (.t 18)), o 3 (.mv (.t 19))]) (.skip)))
  (.seq (.reg [o 20 (.mv (.t 3)), o 21 (.bin .add (.t 20) (.c (.str [32, 72, 84, 84, 80, 47, 49, 46, 49, 13, 10]))), o 3 (.mv (.t 21))])
  (.seq (.seq (.reg [o 22 (.faddr 2 (.t 1)), o 23 (.load none (.t 22)), o 24 (.lenL (.t 23)), o 25 (.bin .gtr (.t 24) (.c (.int .i64 0)))])
  (.cond (.t 25) (.reg [o 26 (.mv (.t 3)), o 27 (.bin .add (.t 26) (.c (.str [67, 111, 111, 107, 105, 101, 58, 32]))), o 28 (.faddr 2 (.t 1)), o 29 (.load none (.t 28)), o 30 (.call 76 [(.t 29)]), o 31 (.bin .add (.t 27) (.t 30)), o 32 (.bin .add (.t 31) (.c (.str [13, 10]))), o 3 (.mv (.t 32))]) (.skip)))
  (.seq (.reg [o 33 (.mv (.t 3)), o 34 (.bin .add (.t 33) (.c (.str [13, 10]))), o 2 (.mv (.t 34))])
  (.ret))))))),
  [.tmp 2]⟩
/- loop.example/g03011/spec.ParseRequest -/
def F36 : Fun := ⟨133,
  .seq (.reg [o 2 (.new 3 [(.str []), .nsl, .nsl]), o 3 (.mv (.c (.bool false)))])
  (.seq (.reg [o 18 (.build [(.str []), .nsl, .nsl] []), o 4 (.new 3 [(.str []), .nsl, .nsl]), st (.store 3 (.t 4) (.t 18))])
  (.seq (.reg [o 20 (.mv (.t 0)), o 21 (.call 77 [(.t 20), (.c (.int .i64 0))]), o 19 (.mv (.t 21)), o 22 (.extract (.t 19) 0), o 23 (.extract (.t 19) 1), o 5 (.mv (.t 22)), o 6 (.mv (.t 23))])
  (.seq (.reg [o 24 (.mv (.t 5)), o 25 (.lenS (.t 24)), o 7 (.mv (.t 25))])
  (.seq (.seq (.reg [o 26 (.mv (.t 6)), o 27 (.bin .lss (.t 26) (.c (.int .i64 0))), o 28 (.mv (.t 27)), og 29 (.mv (.t 5)) 28 false, og 30 (.call 78 [(.t 29), (.c (.int .i64 0)), (.c (.str [71, 69, 84, 32, 47]))]) 28 false, og 31 (.un .not (.t 30)) 28 false, o 32 (.pick (.t 28) (.c (.bool true)) (.t 31)), o 33 (.mv (.t 32)), og 34 (.mv (.t 7)) 33 false, og 35 (.bin .lss (.t 34) (.c (.int .i64 14))) 33 false, o 36 (.pick (.t 33) (.c (.bool true)) (.t 35)), o 37 (.mv (.t 36)), og 38 (.mv (.t 5)) 37 false, og 39 (.mv (.t 7)) 37 false, og 40 (.bin .sub (.t 39) (.c (.int .i64 9))) 37 false, og 41 (.sliceS (.t 38) (some (.t 40)) none) 37 false, og 42 (.bin .neq (.t 41) (.c (.str [32, 72, 84, 84, 80, 47, 49, 46, 49]))) 37 false, o 43 (.pick (.t 37) (.c (.bool true)) (.t 42))])
  (.cond (.t 43) (.seq (.reg [o 44 (.load (some 3) (.t 4)), st (.store 3 (.t 2) (.t 44)), o 3 (.mv (.c (.bool false)))])
   (.ret)) (.skip)))
  (.seq (.reg [o 45 (.mv (.t 5)), o 46 (.mv (.t 7)), o 47 (.bin .sub (.t 46) (.c (.int .i64 9))), o 48 (.sliceS (.t 45) (some (.c (.int .i64 5))) (some (.t 47))), o 8 (.mv (.t 48))])
  (.seq (.reg [o 9 (.mv (.c (.int .i64 0)))])
  (.seq (.block 0 (.loop (.seq (.seq (.reg [o 49 (.mv (.t 9)), o 50 (.mv (.t 8)), o 51 (.lenS (.t 50)), o 52 (.bin .lss (.t 49) (.t 51)), o 53 (.mv (.t 52)), og 54 (.mv (.t 8)) 53 true, og 55 (.mv (.t 9)) 53 true, og 56 (.index (.t 54) (.t 55)) 53 true, og 57 (.bin .neq (.t 56) (.c (.int .u8 63))) 53 true, o 58 (.pick (.t 53) (.t 57) (.c (.bool false)))])
    (.cond (.t 58) (.skip) (.exit 0)))
    (.block 1 (.reg [o 59 (.mv (.t 9)), o 60 (.bin .add (.t 59) (.c (.int .i64 1))), o 9 (.mv (.t 60))])))))
  (.seq (.reg [o 62 (.mv (.t 8)), o 63 (.mv (.t 9)), o 64 (.sliceS (.t 62) none (some (.t 63))), o 65 (.call 79 [(.t 64)]), o 61 (.mv (.t 65)), o 66 (.extract (.t 61) 0), o 67 (.extract (.t 61) 1), o 10 (.mv (.t 66)), o 11 (.mv (.t 67))])
  (.seq (.reg [o 69 (.mv (.t 8)), o 70 (.mv (.t 8)), o 71 (.lenS (.t 70)), o 72 (.mv (.t 9)), o 73 (.bin .add (.t 72) (.c (.int .i64 1))), o 74 (.call 80 [(.t 71), (.t 73)]), o 75 (.sliceS (.t 69) (some (.t 74)) none), o 76 (.call 17 [(.t 75)]), o 68 (.mv (.t 76)), o 77 (.extract (.t 68) 0), o 78 (.extract (.t 68) 1), o 12 (.mv (.t 77)), o 13 (.mv (.t 78))])
  (.seq (.seq (.reg [o 79 (.mv (.t 11)), o 80 (.un .not (.t 79)), o 81 (.mv (.t 80)), og 82 (.mv (.t 13)) 81 false, og 83 (.un .not (.t 82)) 81 false, o 84 (.pick (.t 81) (.c (.bool true)) (.t 83))])
  (.cond (.t 84) (.seq (.reg [o 85 (.load (some 3) (.t 4)), st (.store 3 (.t 2) (.t 85)), o 3 (.mv (.c (.bool false)))])
   (.ret)) (.skip)))
  (.seq (.reg [o 86 (.mv (.t 10)), o 87 (.mv (.t 12)), o 88 (.build [(.str []), .nsl, .nsl] [(0, 1, (.t 86)), (1, 1, (.t 87))]), o 14 (.new 3 [(.str []), .nsl, .nsl]), st (.store 3 (.t 14) (.t 88))])
  (.seq (.reg [o 90 (.mv (.t 0)), o 91 (.mv (.t 6)), o 92 (.call 77 [(.t 90), (.t 91)]), o 89 (.mv (.t 92)), o 93 (.extract (.t 89) 0), o 94 (.extract (.t 89) 1), o 5 (.mv (.t 93)), o 15 (.mv (.t 94))])
  (.seq (.seq (.reg [o 95 (.mv (.t 15)), o 96 (.bin .geq (.t 95) (.c (.int .i64 0))), o 97 (.mv (.t 96)), og 98 (.mv (.t 5)) 97 true, og 99 (.call 78 [(.t 98), (.c (.int .i64 0)), (.c (.str [67, 111, 111, 107, 105, 101, 58, 32]))]) 97 true, o 100 (.pick (.t 97) (.t 99) (.c (.bool false)))])
  (.cond (.t 100) (.seq (.reg [o 102 (.mv (.t 5)), o 103 (.sliceS (.t 102) (some (.c (.int .i64 8))) none), o 104 (.call 12 [(.t 103)]), o 101 (.mv (.t 104)), o 105 (.extract (.t 101) 0), o 106 (.extract (.t 101) 1), o 16 (.mv (.t 105)), o 17 (.mv (.t 106))])
   (.seq (.seq (.reg [o 107 (.mv (.t 17)), o 108 (.un .not (.t 107))])
   (.cond (.t 108) (.seq (.reg [o 109 (.load (some 3) (.t 4)), st (.store 3 (.t 2) (.t 109)), o 3 (.mv (.c (.bool false)))])
    (.ret)) (.skip)))
   (.seq (.reg [o 110 (.mv (.t 16)), o 111 (.faddr 2 (.t 14)), st (.store 1 (.t 111) (.t 110))])
   (.reg [o 113 (.mv (.t 0)), o 114 (.mv (.t 15)), o 115 (.call 77 [(.t 113), (.t 114)]), o 112 (.mv (.t 115)), o 116 (.extract (.t 112) 0), o 117 (.extract (.t 112) 1), o 5 (.mv (.t 116)), o 15 (.mv (.t 117))])))) (.skip)))
  (.seq (.seq (.reg [o 118 (.mv (.t 15)), o 119 (.mv (.t 0)), o 120 (.lenS (.t 119)), o 121 (.bin .neq (.t 118) (.t 120)), o 122 (.mv (.t 121)), og 123 (.mv (.t 5)) 122 false, og 124 (.bin .neq (.t 123) (.c (.str []))) 122 false, o 125 (.pick (.t 122) (.c (.bool true)) (.t 124)), o 126 (.mv (.t 125)), og 127 (.load (some 3) (.t 14)) 126 false, og 128 (.call 30 [(.t 127)]) 126 false, og 129 (.un .not (.t 128)) 126 false, o 130 (.pick (.t 126) (.c (.bool true)) (.t 129))])
  (.cond (.t 130) (.seq (.reg [o 131 (.load (some 3) (.t 4)), st (.store 3 (.t 2) (.t 131)), o 3 (.mv (.c (.bool false)))])
   (.ret)) (.skip)))
  (.seq (.reg [o 132 (.load (some 3) (.t 14)), st (.store 3 (.t 2) (.t 132)), o 3 (.mv (.c (.bool true)))])
  (.ret)))))))))))))))),
  [.cell 2 (some 3), .tmp 3]⟩
/- loop.example/g03011/impl.ParseRequest -/
def F37 : Fun := ⟨109,
  .seq (.reg [o 2 (.new 3 [(.str []), .nsl, .nsl]), o 3 (.mv (.c (.bool false)))])
  (.seq (.reg [o 20 (.mv (.t 0)), o 21 (.call 81 [(.t 20), (.c (.str [13, 10]))]), o 19 (.mv (.t 21)), o 22 (.extract (.t 19) 0), o 23 (.extract (.t 19) 1), o 24 (.extract (.t 19) 2), o 4 (.mv (.t 22)), o 5 (.mv (.t 23)), o 6 (.mv (.t 24))])
  (.seq (.reg [o 26 (.mv (.t 4)), o 27 (.call 82 [(.t 26), (.c (.str [71, 69, 84, 32, 47]))]), o 25 (.mv (.t 27)), o 28 (.extract (.t 25) 0), o 29 (.extract (.t 25) 1), o 7 (.mv (.t 28)), o 8 (.mv (.t 29))])
  (.seq (.reg [o 31 (.mv (.t 7)), o 32 (.call 83 [(.t 31), (.c (.str [32, 72, 84, 84, 80, 47, 49, 46, 49]))]), o 30 (.mv (.t 32)), o 33 (.extract (.t 30) 0), o 34 (.extract (.t 30) 1), o 7 (.mv (.t 33)), o 9 (.mv (.t 34))])
  (.seq (.seq (.reg [o 35 (.mv (.t 6)), o 36 (.un .not (.t 35)), o 37 (.mv (.t 36)), og 38 (.mv (.t 8)) 37 false, og 39 (.un .not (.t 38)) 37 false, o 40 (.pick (.t 37) (.c (.bool true)) (.t 39)), o 41 (.mv (.t 40)), og 42 (.mv (.t 9)) 41 false, og 43 (.un .not (.t 42)) 41 false, o 44 (.pick (.t 41) (.c (.bool true)) (.t 43))])
  (.cond (.t 44) (.seq (.reg [o 45 (.build [(.str []), .nsl, .nsl] []), st (.store 3 (.t 2) (.t 45)), o 3 (.mv (.c (.bool false)))])
   (.ret)) (.skip)))
  (.seq (.reg [o 10 (.mv (.c (.str [])))])
  (.seq (.seq (.reg [o 47 (.mv (.t 5)), o 48 (.call 82 [(.t 47), (.c (.str [67, 111, 111, 107, 105, 101, 58, 32]))]), o 46 (.mv (.t 48)), o 49 (.extract (.t 46) 0), o 50 (.extract (.t 46) 1), o 11 (.mv (.t 49)), o 12 (.mv (.t 50))])
  (.seq (.reg [o 51 (.mv (.t 12))])
  (.cond (.t 51) (.reg [o 53 (.mv (.t 11)), o 54 (.call 81 [(.t 53), (.c (.str [13, 10]))]), o 52 (.mv (.t 54)), o 55 (.extract (.t 52) 0), o 56 (.extract (.t 52) 1), o 57 (.extract (.t 52) 2), o 10 (.mv (.t 55)), o 5 (.mv (.t 56)), o 6 (.mv (.t 57))]) (.skip))))
  (.seq (.seq (.reg [o 58 (.mv (.t 6)), o 59 (.un .not (.t 58)), o 60 (.mv (.t 59)), og 61 (.mv (.t 5)) 60 false, og 62 (.bin .neq (.t 61) (.c (.str [13, 10]))) 60 false, o 63 (.pick (.t 60) (.c (.bool true)) (.t 62))])
  (.cond (.t 63) (.seq (.reg [o 64 (.build [(.str []), .nsl, .nsl] []), st (.store 3 (.t 2) (.t 64)), o 3 (.mv (.c (.bool false)))])
   (.ret)) (.skip)))
  (.seq (.reg [o 66 (.mv (.t 7)), o 67 (.call 81 [(.t 66), (.c (.str [63]))]), o 65 (.mv (.t 67)), o 68 (.extract (.t 65) 0), o 69 (.extract (.t 65) 1), o 70 (.extract (.t 65) 2), o 13 (.mv (.t 68)), o 14 (.mv (.t 69)), o 15 (.mv (.t 70))])
  (.seq (.reg [o 71 (.build [(.str []), .nsl, .nsl] []), o 16 (.new 3 [(.str []), .nsl, .nsl]), st (.store 3 (.t 16) (.t 71))])
  (.seq (.reg [o 73 (.mv (.t 13)), o 74 (.call 84 [(.t 73)]), o 72 (.mv (.t 74)), o 75 (.extract (.t 72) 0), o 76 (.extract (.t 72) 1), o 13 (.mv (.t 75)), o 8 (.mv (.t 76))])
  (.seq (.reg [o 77 (.mv (.t 13)), o 78 (.faddr 0 (.t 16)), st (.store 1 (.t 78) (.t 77))])
  (.seq (.reg [o 80 (.mv (.t 14)), o 81 (.call 18 [(.t 80)]), o 79 (.mv (.t 81)), o 82 (.extract (.t 79) 0), o 83 (.extract (.t 79) 1), o 84 (.faddr 1 (.t 16)), st (.store 1 (.t 84) (.t 82)), o 9 (.mv (.t 83))])
  (.seq (.reg [o 86 (.mv (.t 10)), o 87 (.call 13 [(.t 86)]), o 85 (.mv (.t 87)), o 88 (.extract (.t 85) 0), o 89 (.extract (.t 85) 1), o 17 (.mv (.t 88)), o 18 (.mv (.t 89))])
  (.seq (.reg [o 90 (.mv (.t 17)), o 91 (.faddr 2 (.t 16)), st (.store 1 (.t 91) (.t 90))])
  (.seq (.seq (.reg [o 92 (.mv (.t 8)), o 93 (.un .not (.t 92)), o 94 (.mv (.t 93)), og 95 (.mv (.t 9)) 94 false, og 96 (.un .not (.t 95)) 94 false, o 97 (.pick (.t 94) (.c (.bool true)) (.t 96)), o 98 (.mv (.t 97)), og 99 (.mv (.t 18)) 98 false, og 100 (.un .not (.t 99)) 98 false, o 101 (.pick (.t 98) (.c (.bool true)) (.t 100)), o 102 (.mv (.t 101)), og 103 (.load (some 3) (.t 16)) 102 false, og 104 (.call 32 [(.t 103)]) 102 false, og 105 (.un .not (.t 104)) 102 false, o 106 (.pick (.t 102) (.c (.bool true)) (.t 105))])
  (.cond (.t 106) (.seq (.reg [o 107 (.build [(.str []), .nsl, .nsl] []), st (.store 3 (.t 2) (.t 107)), o 3 (.mv (.c (.bool false)))])
   (.ret)) (.skip)))
  (.seq (.reg [o 108 (.load (some 3) (.t 16)), st (.store 3 (.t 2) (.t 108)), o 3 (.mv (.c (.bool true)))])
  (.ret))))))))))))))))),
  [.cell 2 (some 3), .tmp 3]⟩
/- loop.example/g03011/laws.markRequest -/
def F38 : Fun := ⟨14,
  .seq (.reg [o 2 (.box 3 (.t 0)), o 4 (.mv (.c (.int .i64 0)))])
  (.seq (.reg [o 5 (.faddr 1 (.t 2)), o 6 (.load none (.t 5)), o 7 (.mv (.t 1)), o 8 (.call 15 [(.t 6), (.t 7)]), o 1 (.mv (.t 8))])
  (.seq (.reg [o 9 (.faddr 2 (.t 2)), o 10 (.load none (.t 9)), o 11 (.mv (.t 1)), o 12 (.call 15 [(.t 10), (.t 11)]), o 1 (.mv (.t 12))])
  (.seq (.reg [o 13 (.mv (.t 1)), o 4 (.mv (.t 13))])
  (.ret)))),
  [.tmp 4]⟩
/- loop.example/g03011/laws.heldRequest -/
def F39 : Fun := ⟨18,
  .seq (.reg [o 2 (.box 3 (.t 0)), o 4 (.mv (.c (.int .i64 0)))])
  (.seq (.reg [o 5 (.faddr 1 (.t 2)), o 6 (.load none (.t 5)), o 7 (.mv (.t 1)), o 8 (.call 16 [(.t 6), (.t 7)]), o 1 (.mv (.t 8))])
  (.seq (.seq (.reg [o 9 (.mv (.t 1)), o 10 (.bin .lss (.t 9) (.c (.int .i64 0)))])
  (.cond (.t 10) (.seq (.reg [o 4 (.mv (.c (.int .i64 (-1))))])
   (.ret)) (.skip)))
  (.seq (.reg [o 11 (.faddr 2 (.t 2)), o 12 (.load none (.t 11)), o 13 (.mv (.t 1)), o 14 (.call 16 [(.t 12), (.t 13)]), o 1 (.mv (.t 14))])
  (.seq (.seq (.reg [o 15 (.mv (.t 1)), o 16 (.bin .lss (.t 15) (.c (.int .i64 0)))])
  (.cond (.t 16) (.seq (.reg [o 4 (.mv (.c (.int .i64 (-1))))])
   (.ret)) (.skip)))
  (.seq (.reg [o 17 (.mv (.t 1)), o 4 (.mv (.t 17))])
  (.ret)))))),
  [.tmp 4]⟩
/- loop.example/g03011/spec.ParseResponse -/
def F40 : Fun := ⟨111,
  .seq (.reg [o 2 (.new 3 [(.int .i64 0), .nsl, (.str [])]), o 3 (.mv (.c (.bool false)))])
  (.seq (.reg [o 11 (.build [(.int .i64 0), .nsl, (.str [])] []), o 4 (.new 3 [(.int .i64 0), .nsl, (.str [])]), st (.store 3 (.t 4) (.t 11))])
  (.seq (.reg [o 13 (.mv (.t 0)), o 14 (.call 77 [(.t 13), (.c (.int .i64 0))]), o 12 (.mv (.t 14)), o 15 (.extract (.t 12) 0), o 16 (.extract (.t 12) 1), o 5 (.mv (.t 15)), o 6 (.mv (.t 16))])
  (.seq (.seq (.reg [o 17 (.mv (.t 6)), o 18 (.bin .lss (.t 17) (.c (.int .i64 0))), o 19 (.mv (.t 18)), og 20 (.mv (.t 5)) 19 false, og 21 (.call 78 [(.t 20), (.c (.int .i64 0)), (.c (.str [72, 84, 84, 80, 47, 49, 46, 49, 32]))]) 19 false, og 22 (.un .not (.t 21)) 19 false, o 23 (.pick (.t 19) (.c (.bool true)) (.t 22)), o 24 (.mv (.t 23)), og 25 (.mv (.t 5)) 24 false, og 26 (.lenS (.t 25)) 24 false, og 27 (.bin .lss (.t 26) (.c (.int .i64 12))) 24 false, o 28 (.pick (.t 24) (.c (.bool true)) (.t 27))])
  (.cond (.t 28) (.seq (.reg [o 29 (.load (some 3) (.t 4)), st (.store 3 (.t 2) (.t 29)), o 3 (.mv (.c (.bool false)))])
   (.ret)) (.skip)))
  (.seq (.reg [o 31 (.mv (.t 5)), o 32 (.sliceS (.t 31) (some (.c (.int .i64 9))) (some (.c (.int .i64 12)))), o 33 (.call 85 [(.t 32)]), o 30 (.mv (.t 33)), o 34 (.extract (.t 30) 0), o 35 (.extract (.t 30) 1), o 7 (.mv (.t 34)), o 8 (.mv (.t 35))])
  (.seq (.reg [o 36 (.mv (.t 7)), o 37 (.build [(.int .i64 0), .nsl, (.str [])] [(0, 1, (.t 36))]), o 9 (.new 3 [(.int .i64 0), .nsl, (.str [])]), st (.store 3 (.t 9) (.t 37))])
  (.seq (.block 0 (.loop (.seq (.seq (.reg [o 38 (.mv (.t 6)), o 39 (.bin .geq (.t 38) (.c (.int .i64 0)))])
    (.cond (.t 39) (.skip) (.exit 0)))
    (.block 1 (.seq (.reg [o 41 (.mv (.t 0)), o 42 (.mv (.t 6)), o 43 (.call 77 [(.t 41), (.t 42)]), o 40 (.mv (.t 43)), o 44 (.extract (.t 40) 0), o 45 (.extract (.t 40) 1), o 5 (.mv (.t 44)), o 6 (.mv (.t 45))])
     (.seq (.seq (.reg [o 46 (.mv (.t 5)), o 47 (.bin .eql (.t 46) (.c (.str [])))])
     (.cond (.t 47) (.exit 0) (.skip)))
     (.seq (.reg [o 10 (.mv (.c (.int .i64 0)))])
     (.seq (.block 2 (.loop (.seq (.seq (.reg [o 48 (.mv (.t 10)), o 49 (.mv (.t 5)), o 50 (.lenS (.t 49)), o 51 (.bin .lss (.t 48) (.t 50)), o 52 (.mv (.t 51)), og 53 (.mv (.t 5)) 52 true, og 54 (.mv (.t 10)) 52 true, og 55 (.index (.t 53) (.t 54)) 52 true, og 56 (.bin .neq (.t 55) (.c (.int .u8 58))) 52 true, o 57 (.pick (.t 52) (.t 56) (.c (.bool false)))])
       (.cond (.t 57) (.skip) (.exit 2)))
       (.block 3 (.reg [o 58 (.mv (.t 10)), o 59 (.bin .add (.t 58) (.c (.int .i64 1))), o 10 (.mv (.t 59))])))))
     (.seq (.seq (.reg [o 60 (.mv (.t 10)), o 61 (.bin .add (.t 60) (.c (.int .i64 2))), o 62 (.mv (.t 5)), o 63 (.lenS (.t 62)), o 64 (.bin .gtr (.t 61) (.t 63))])
     (.cond (.t 64) (.seq (.reg [o 65 (.load (some 3) (.t 4)), st (.store 3 (.t 2) (.t 65)), o 3 (.mv (.c (.bool false)))])
      (.ret)) (.skip)))
     (.reg [o 66 (.faddr 1 (.t 9)), o 67 (.load none (.t 66)), o 68 (.mv (.t 5)), o 69 (.mv (.t 10)), o 70 (.sliceS (.t 68) none (some (.t 69))), o 71 (.mv (.t 5)), o 72 (.mv (.t 10)), o 73 (.bin .add (.t 72) (.c (.int .i64 2))), o 74 (.sliceS (.t 71) (some (.t 73)) none), o 75 (.build [(.str []), (.str [])] [(0, 1, (.t 70)), (1, 1, (.t 74))]), o 76 (.bslice 2 [(.str []), (.str [])] 1 [(0, (.t 75))]), o 77 (.append 2 32 (.t 67) (.t 76)), o 78 (.faddr 1 (.t 9)), st (.store 1 (.t 78) (.t 77))]))))))))))
  (.seq (.seq (.reg [o 79 (.mv (.t 6)), o 80 (.bin .lss (.t 79) (.c (.int .i64 0))), o 81 (.mv (.t 80)), og 82 (.faddr 1 (.t 9)) 81 false, og 83 (.load none (.t 82)) 81 false, og 84 (.lenL (.t 83)) 81 false, og 85 (.bin .eql (.t 84) (.c (.int .i64 0))) 81 false, o 86 (.pick (.t 81) (.c (.bool true)) (.t 85))])
  (.cond (.t 86) (.seq (.reg [o 87 (.load (some 3) (.t 4)), st (.store 3 (.t 2) (.t 87)), o 3 (.mv (.c (.bool false)))])
   (.ret)) (.skip)))
  (.seq (.reg [o 88 (.faddr 1 (.t 9)), o 89 (.load none (.t 88)), o 90 (.faddr 1 (.t 9)), o 91 (.load none (.t 90)), o 92 (.lenL (.t 91)), o 93 (.bin .sub (.t 92) (.c (.int .i64 1))), o 94 (.slice 2 (.t 89) none (some (.t 93))), o 95 (.faddr 1 (.t 9)), st (.store 1 (.t 95) (.t 94))])
  (.seq (.reg [o 96 (.mv (.t 0)), o 97 (.mv (.t 6)), o 98 (.sliceS (.t 96) (some (.t 97)) none), o 99 (.faddr 2 (.t 9)), st (.store 1 (.t 99) (.t 98))])
  (.seq (.seq (.reg [o 100 (.load (some 3) (.t 9)), o 101 (.call 55 [(.t 100)]), o 102 (.un .not (.t 101)), o 103 (.mv (.t 102)), og 104 (.load (some 3) (.t 9)) 103 false, og 105 (.call 56 [(.t 104)]) 103 false, og 106 (.mv (.t 0)) 103 false, og 107 (.bin .neq (.t 105) (.t 106)) 103 false, o 108 (.pick (.t 103) (.c (.bool true)) (.t 107))])
  (.cond (.t 108) (.seq (.reg [o 109 (.load (some 3) (.t 4)), st (.store 3 (.t 2) (.t 109)), o 3 (.mv (.c (.bool false)))])
   (.ret)) (.skip)))
  (.seq (.reg [o 110 (.load (some 3) (.t 9)), st (.store 3 (.t 2) (.t 110)), o 3 (.mv (.c (.bool true)))])
  (.ret)))))))))))),
  [.cell 2 (some 3), .tmp 3]⟩
/- loop.example/g03011/impl.ParseResponse -/
def F41 : Fun := ⟨89,
  .seq (.reg [o 2 (.new 3 [(.int .i64 0), .nsl, (.str [])]), o 3 (.mv (.c (.bool false)))])
  (.seq (.reg [o 21 (.mv (.t 0)), o 22 (.call 81 [(.t 21), (.c (.str [13, 10, 13, 10]))]), o 20 (.mv (.t 22)), o 23 (.extract (.t 20) 0), o 24 (.extract (.t 20) 1), o 25 (.extract (.t 20) 2), o 4 (.mv (.t 23)), o 5 (.mv (.t 24)), o 6 (.mv (.t 25))])
  (.seq (.reg [o 26 (.mv (.t 4)), o 27 (.call 86 [(.t 26), (.c (.str [13, 10]))]), o 7 (.mv (.t 27))])
  (.seq (.reg [o 28 (.mv (.t 7)), o 29 (.iaddr 1 (.t 28) (.c (.int .i64 0))), o 30 (.load none (.t 29)), o 31 (.call 87 [(.t 30), (.c (.str [72, 84, 84, 80, 47, 49, 46, 49, 32]))]), o 8 (.mv (.t 31))])
  (.seq (.reg [o 33 (.mv (.t 8)), o 34 (.call 81 [(.t 33), (.c (.str [32]))]), o 32 (.mv (.t 34)), o 35 (.extract (.t 32) 0), o 36 (.extract (.t 32) 1), o 37 (.extract (.t 32) 2), o 9 (.mv (.t 35)), o 10 (.mv (.t 36)), o 11 (.mv (.t 37))])
  (.seq (.reg [o 39 (.mv (.t 9)), o 40 (.call 88 [(.t 39)]), o 38 (.mv (.t 40)), o 41 (.extract (.t 38) 0), o 42 (.extract (.t 38) 1), o 12 (.mv (.t 41)), o 13 (.mv (.t 42))])
  (.seq (.seq (.reg [o 43 (.mv (.t 13)), o 44 (.un .not (.t 43)), o 45 (.mv (.t 44)), og 46 (.mv (.t 7)) 45 false, og 47 (.lenL (.t 46)) 45 false, og 48 (.bin .lss (.t 47) (.c (.int .i64 2))) 45 false, o 49 (.pick (.t 45) (.c (.bool true)) (.t 48))])
  (.cond (.t 49) (.seq (.reg [o 50 (.build [(.int .i64 0), .nsl, (.str [])] []), st (.store 3 (.t 2) (.t 50)), o 3 (.mv (.c (.bool false)))])
   (.ret)) (.skip)))
  (.seq (.reg [o 51 (.mv (.t 12)), o 52 (.mv (.t 5)), o 53 (.build [(.int .i64 0), .nsl, (.str [])] [(0, 1, (.t 51)), (2, 1, (.t 52))]), o 14 (.new 3 [(.int .i64 0), .nsl, (.str [])]), st (.store 3 (.t 14) (.t 53))])
  (.seq (.seq (.reg [o 54 (.mv (.t 7)), o 55 (.mv (.t 7)), o 56 (.lenL (.t 55)), o 57 (.bin .sub (.t 56) (.c (.int .i64 1))), o 58 (.slice 1 (.t 54) (some (.c (.int .i64 1))) (some (.t 57))), o 59 (.lenL (.t 58)), o 60 (.mv (.c (.int .i64 0)))])
  (.block 0 (.loop (.seq (.reg [o 61 (.bin .lss (.t 60) (.t 59))])
    (.seq (.cond (.t 61) (.skip) (.exit 0))
    (.seq (.block 1 (.seq (.reg [o 62 (.iaddr 1 (.t 58) (.t 60)), o 63 (.load none (.t 62)), o 16 (.mv (.t 63))])
     (.seq (.reg [o 65 (.mv (.t 16)), o 66 (.call 81 [(.t 65), (.c (.str [58, 32]))]), o 64 (.mv (.t 66)), o 67 (.extract (.t 64) 0), o 68 (.extract (.t 64) 1), o 69 (.extract (.t 64) 2), o 17 (.mv (.t 67)), o 18 (.mv (.t 68)), o 19 (.mv (.t 69))])
     (.reg [o 70 (.faddr 1 (.t 14)), o 71 (.load none (.t 70)), o 72 (.mv (.t 17)), o 73 (.mv (.t 18)), o 74 (.build [(.str []), (.str [])] [(0, 1, (.t 72)), (1, 1, (.t 73))]), o 75 (.bslice 2 [(.str []), (.str [])] 1 [(0, (.t 74))]), o 76 (.append 2 32 (.t 71) (.t 75)), o 77 (.faddr 1 (.t 14)), st (.store 1 (.t 77) (.t 76))]))))
    (.reg [o 78 (.bin .add (.t 60) (.c (.int .i64 1))), o 60 (.mv (.t 78))])))))))
  (.seq (.seq (.reg [o 79 (.mv (.t 0)), o 80 (.bin .eql (.t 79) (.c (.str []))), o 81 (.mv (.t 80)), og 82 (.load (some 3) (.t 14)) 81 false, og 83 (.call 22 [(.t 82)]) 81 false, og 84 (.mv (.t 0)) 81 false, og 85 (.bin .neq (.t 83) (.t 84)) 81 false, o 86 (.pick (.t 81) (.c (.bool true)) (.t 85))])
  (.cond (.t 86) (.seq (.reg [o 87 (.build [(.int .i64 0), .nsl, (.str [])] []), st (.store 3 (.t 2) (.t 87)), o 3 (.mv (.c (.bool false)))])
   (.ret)) (.skip)))
  (.seq (.reg [o 88 (.load (some 3) (.t 14)), st (.store 3 (.t 2) (.t 88)), o 3 (.mv (.c (.bool true)))])
  (.ret))))))))))),
  [.cell 2 (some 3), .tmp 3]⟩
/- loop.example/g03011/laws.markResponse -/
def F42 : Fun := ⟨10,
  .seq (.reg [o 2 (.box 3 (.t 0)), o 4 (.mv (.c (.int .i64 0)))])
  (.seq (.reg [o 5 (.faddr 1 (.t 2)), o 6 (.load none (.t 5)), o 7 (.mv (.t 1)), o 8 (.call 89 [(.t 6), (.t 7)]), o 1 (.mv (.t 8))])
  (.seq (.reg [o 9 (.mv (.t 1)), o 4 (.mv (.t 9))])
  (.ret))),
  [.tmp 4]⟩
/- loop.example/g03011/laws.heldResponse -/
def F43 : Fun := ⟨12,
  .seq (.reg [o 2 (.box 3 (.t 0)), o 4 (.mv (.c (.int .i64 0)))])
  (.seq (.reg [o 5 (.faddr 1 (.t 2)), o 6 (.load none (.t 5)), o 7 (.mv (.t 1)), o 8 (.call 90 [(.t 6), (.t 7)]), o 1 (.mv (.t 8))])
  (.seq (.seq (.reg [o 9 (.mv (.t 1)), o 10 (.bin .lss (.t 9) (.c (.int .i64 0)))])
  (.cond (.t 10) (.seq (.reg [o 4 (.mv (.c (.int .i64 (-1))))])
   (.ret)) (.skip)))
  (.seq (.reg [o 11 (.mv (.t 1)), o 4 (.mv (.t 11))])
  (.ret)))),
  [.tmp 4]⟩
/- loop.example/g03011/spec.NewServer -/
def F44 : Fun := ⟨22,
  .seq (.reg [o 4 (.new 8 [.nsl, .nsl, .nsl, .nsl, .nsl, .nsl, (.int .i64 0), (.int .i64 0)]), o 5 (.mv (.c (.bool false)))])
  (.seq (.seq (.reg [o 6 (.mv (.t 0)), o 7 (.call 63 [(.t 6)]), o 8 (.un .not (.t 7)), o 9 (.mv (.t 8)), og 10 (.mv (.t 1)) 9 false, og 11 (.call 91 [(.t 10), (.c (.int .i64 1)), (.c (.int .i64 4))]) 9 false, og 12 (.un .not (.t 11)) 9 false, o 13 (.pick (.t 9) (.c (.bool true)) (.t 12))])
  (.cond (.t 13) (.seq (.reg [o 14 (.build [.nsl, .nsl, .nsl, .nsl, .nsl, .nsl, (.int .i64 0), (.int .i64 0)] []), st (.store 8 (.t 4) (.t 14)), o 5 (.mv (.c (.bool false)))])
   (.ret)) (.skip)))
  (.seq (.seq (.reg [o 16 (.mv (.t 0))])
  (.seq (.reg [o 19 (.mv (.t 1))])
  (.alt (.seq (.reg [o 15 (.bslice 3 [(.str []), (.str []), (.int .i64 0)] 0 [])])
   (.alt (.seq (.reg [o 17 (.append 3 40 (.t 15) (.t 16))])
    (.alt (.seq (.reg [o 18 (.call 92 [])])
     (.seq (.reg [o 20 (.mkslice 9 [(.int .i64 0), (.int .i64 0), (.str []), .nsl, .nsl, (.str []), (.str []), .nsl, (.int .i64 0)] 144 (.t 19) (.t 19))])
     (.seq (.reg [o 21 (.build [.nsl, .nsl, .nsl, .nsl, .nsl, .nsl, (.int .i64 0), (.int .i64 0)] [(0, 1, (.t 17)), (1, 1, (.t 18)), (4, 1, (.t 20))])])
     (.seq (.reg [st (.store 8 (.t 4) (.t 21))])
     (.seq (.reg [o 5 (.mv (.c (.bool true)))])
     (.skip))))))
    (.seq (.reg [o 20 (.mkslice 9 [(.int .i64 0), (.int .i64 0), (.str []), .nsl, .nsl, (.str []), (.str []), .nsl, (.int .i64 0)] 144 (.t 19) (.t 19))])
     (.seq (.reg [o 18 (.call 92 [])])
     (.seq (.reg [o 21 (.build [.nsl, .nsl, .nsl, .nsl, .nsl, .nsl, (.int .i64 0), (.int .i64 0)] [(0, 1, (.t 17)), (1, 1, (.t 18)), (4, 1, (.t 20))])])
     (.seq (.reg [st (.store 8 (.t 4) (.t 21))])
     (.seq (.reg [o 5 (.mv (.c (.bool true)))])
     (.skip))))))))
   (.seq (.reg [o 20 (.mkslice 9 [(.int .i64 0), (.int .i64 0), (.str []), .nsl, .nsl, (.str []), (.str []), .nsl, (.int .i64 0)] 144 (.t 19) (.t 19))])
    (.seq (.reg [o 17 (.append 3 40 (.t 15) (.t 16))])
    (.seq (.reg [o 18 (.call 92 [])])
    (.seq (.reg [o 21 (.build [.nsl, .nsl, .nsl, .nsl, .nsl, .nsl, (.int .i64 0), (.int .i64 0)] [(0, 1, (.t 17)), (1, 1, (.t 18)), (4, 1, (.t 20))])])
    (.seq (.reg [st (.store 8 (.t 4) (.t 21))])
    (.seq (.reg [o 5 (.mv (.c (.bool true)))])
    (.skip)))))))))
  (.seq (.reg [o 20 (.mkslice 9 [(.int .i64 0), (.int .i64 0), (.str []), .nsl, .nsl, (.str []), (.str []), .nsl, (.int .i64 0)] 144 (.t 19) (.t 19))])
   (.seq (.reg [o 15 (.bslice 3 [(.str []), (.str []), (.int .i64 0)] 0 [])])
   (.seq (.reg [o 17 (.append 3 40 (.t 15) (.t 16))])
   (.seq (.reg [o 18 (.call 92 [])])
   (.seq (.reg [o 21 (.build [.nsl, .nsl, .nsl, .nsl, .nsl, .nsl, (.int .i64 0), (.int .i64 0)] [(0, 1, (.t 17)), (1, 1, (.t 18)), (4, 1, (.t 20))])])
   (.seq (.reg [st (.store 8 (.t 4) (.t 21))])
   (.seq (.reg [o 5 (.mv (.c (.bool true)))])
   (.skip)))))))))))
  (.ret))),
  [.cell 4 (some 8), .tmp 5]⟩
/- loop.example/g03011/impl.NewServer -/
def F45 : Fun := ⟨21,
  .seq (.reg [o 4 (.new 8 [.nsl, .nsl, .nsl, .nsl, .nsl, .nsl, (.int .i64 0), (.int .i64 0)]), o 5 (.mv (.c (.bool false)))])
  (.seq (.seq (.reg [o 6 (.mv (.t 0)), o 7 (.call 65 [(.t 6)]), o 8 (.un .not (.t 7)), o 9 (.mv (.t 8)), og 10 (.mv (.t 1)) 9 false, og 11 (.call 93 [(.t 10), (.c (.int .i64 1)), (.c (.int .i64 4))]) 9 false, og 12 (.un .not (.t 11)) 9 false, o 13 (.pick (.t 9) (.c (.bool true)) (.t 12))])
  (.cond (.t 13) (.seq (.reg [o 14 (.build [.nsl, .nsl, .nsl, .nsl, .nsl, .nsl, (.int .i64 0), (.int .i64 0)] []), st (.store 8 (.t 4) (.t 14)), o 5 (.mv (.c (.bool false)))])
   (.ret)) (.skip)))
  (.seq (.seq (.reg [o 15 (.mv (.t 0))])
  (.seq (.reg [o 18 (.mv (.t 1))])
  (.alt (.seq (.reg [o 16 (.call 94 [(.t 15)])])
   (.alt (.seq (.reg [o 17 (.call 95 [])])
    (.seq (.reg [o 19 (.mkslice 9 [(.int .i64 0), (.int .i64 0), (.str []), .nsl, .nsl, (.str []), (.str []), .nsl, (.int .i64 0)] 144 (.t 18) (.t 18))])
    (.seq (.reg [o 20 (.build [.nsl, .nsl, .nsl, .nsl, .nsl, .nsl, (.int .i64 0), (.int .i64 0)] [(0, 1, (.t 16)), (1, 1, (.t 17)), (4, 1, (.t 19))])])
    (.seq (.reg [st (.store 8 (.t 4) (.t 20))])
    (.seq (.reg [o 5 (.mv (.c (.bool true)))])
    (.skip))))))
   (.seq (.reg [o 19 (.mkslice 9 [(.int .i64 0), (.int .i64 0), (.str []), .nsl, .nsl, (.str []), (.str []), .nsl, (.int .i64 0)] 144 (.t 18) (.t 18))])
    (.seq (.reg [o 17 (.call 95 [])])
    (.seq (.reg [o 20 (.build [.nsl, .nsl, .nsl, .nsl, .nsl, .nsl, (.int .i64 0), (.int .i64 0)] [(0, 1, (.t 16)), (1, 1, (.t 17)), (4, 1, (.t 19))])])
    (.seq (.reg [st (.store 8 (.t 4) (.t 20))])
    (.seq (.reg [o 5 (.mv (.c (.bool true)))])
    (.skip))))))))
  (.seq (.reg [o 19 (.mkslice 9 [(.int .i64 0), (.int .i64 0), (.str []), .nsl, .nsl, (.str []), (.str []), .nsl, (.int .i64 0)] 144 (.t 18) (.t 18))])
   (.seq (.reg [o 16 (.call 94 [(.t 15)])])
   (.seq (.reg [o 17 (.call 95 [])])
   (.seq (.reg [o 20 (.build [.nsl, .nsl, .nsl, .nsl, .nsl, .nsl, (.int .i64 0), (.int .i64 0)] [(0, 1, (.t 16)), (1, 1, (.t 17)), (4, 1, (.t 19))])])
   (.seq (.reg [st (.store 8 (.t 4) (.t 20))])
   (.seq (.reg [o 5 (.mv (.c (.bool true)))])
   (.skip))))))))))
  (.ret))),
  [.cell 4 (some 8), .tmp 5]⟩
/- loop.example/g03011/laws.eqServer -/
def F46 : Fun := ⟨51,
  .seq (.reg [o 2 (.box 8 (.t 0)), o 3 (.box 8 (.t 1)), o 4 (.mv (.c (.bool false)))])
  (.seq (.seq (.reg [o 5 (.faddr 0 (.t 2)), o 6 (.load none (.t 5)), o 7 (.faddr 0 (.t 3)), o 8 (.load none (.t 7)), o 9 (.call 28 [(.t 6), (.t 8)]), o 10 (.un .not (.t 9))])
  (.cond (.t 10) (.seq (.reg [o 4 (.mv (.c (.bool false)))])
   (.ret)) (.skip)))
  (.seq (.seq (.reg [o 11 (.faddr 1 (.t 2)), o 12 (.load none (.t 11)), o 13 (.faddr 1 (.t 3)), o 14 (.load none (.t 13)), o 15 (.call 96 [(.t 12), (.t 14)]), o 16 (.un .not (.t 15))])
  (.cond (.t 16) (.seq (.reg [o 4 (.mv (.c (.bool false)))])
   (.ret)) (.skip)))
  (.seq (.seq (.reg [o 17 (.faddr 2 (.t 2)), o 18 (.load none (.t 17)), o 19 (.faddr 2 (.t 3)), o 20 (.load none (.t 19)), o 21 (.call 97 [(.t 18), (.t 20)]), o 22 (.un .not (.t 21))])
  (.cond (.t 22) (.seq (.reg [o 4 (.mv (.c (.bool false)))])
   (.ret)) (.skip)))
  (.seq (.seq (.reg [o 23 (.faddr 3 (.t 2)), o 24 (.load none (.t 23)), o 25 (.faddr 3 (.t 3)), o 26 (.load none (.t 25)), o 27 (.call 98 [(.t 24), (.t 26)]), o 28 (.un .not (.t 27))])
  (.cond (.t 28) (.seq (.reg [o 4 (.mv (.c (.bool false)))])
   (.ret)) (.skip)))
  (.seq (.seq (.reg [o 29 (.faddr 4 (.t 2)), o 30 (.load none (.t 29)), o 31 (.faddr 4 (.t 3)), o 32 (.load none (.t 31)), o 33 (.call 99 [(.t 30), (.t 32)]), o 34 (.un .not (.t 33))])
  (.cond (.t 34) (.seq (.reg [o 4 (.mv (.c (.bool false)))])
   (.ret)) (.skip)))
  (.seq (.seq (.reg [o 35 (.faddr 5 (.t 2)), o 36 (.load none (.t 35)), o 37 (.faddr 5 (.t 3)), o 38 (.load none (.t 37)), o 39 (.call 100 [(.t 36), (.t 38)]), o 40 (.un .not (.t 39))])
  (.cond (.t 40) (.seq (.reg [o 4 (.mv (.c (.bool false)))])
   (.ret)) (.skip)))
  (.seq (.seq (.reg [o 41 (.faddr 6 (.t 2)), o 42 (.load none (.t 41)), o 43 (.faddr 6 (.t 3)), o 44 (.load none (.t 43)), o 45 (.bin .neq (.t 42) (.t 44))])
  (.cond (.t 45) (.seq (.reg [o 4 (.mv (.c (.bool false)))])
   (.ret)) (.skip)))
  (.seq (.seq (.reg [o 46 (.faddr 7 (.t 2)), o 47 (.load none (.t 46)), o 48 (.faddr 7 (.t 3)), o 49 (.load none (.t 48)), o 50 (.bin .neq (.t 47) (.t 49))])
  (.cond (.t 50) (.seq (.reg [o 4 (.mv (.c (.bool false)))])
   (.ret)) (.skip)))
  (.seq (.reg [o 4 (.mv (.c (.bool true)))])
  (.ret)))))))))),
  [.tmp 4]⟩
/- loop.example/g03011/laws.markFileS -/
def F47 : Fun := ⟨36,
  .seq (.reg [o 4 (.mv (.c (.int .i64 0)))])
  (.seq (.seq (.reg [o 5 (.mv (.c (.int .i64 0)))])
  (.block 0 (.loop (.seq (.seq (.reg [o 6 (.mv (.t 5)), o 7 (.mv (.t 0)), o 8 (.lenL (.t 7)), o 9 (.bin .lss (.t 6) (.t 8))])
    (.cond (.t 9) (.skip) (.exit 0)))
    (.seq (.block 1 (.seq (.reg [o 12 (.mv (.t 0)), o 13 (.mv (.t 5)), o 14 (.mv (.t 1)), o 15 (.call 53 [(.t 14)]), o 16 (.iaddr 3 (.t 12) (.t 13)), o 17 (.faddr 0 (.t 16)), st (.store 1 (.t 17) (.t 15))])
     (.seq (.reg [o 18 (.mv (.t 1)), o 19 (.bin .add (.t 18) (.c (.int .i64 1))), o 1 (.mv (.t 19))])
     (.seq (.reg [o 20 (.mv (.t 0)), o 21 (.mv (.t 5)), o 22 (.mv (.t 1)), o 23 (.call 53 [(.t 22)]), o 24 (.iaddr 3 (.t 20) (.t 21)), o 25 (.faddr 1 (.t 24)), st (.store 1 (.t 25) (.t 23))])
     (.seq (.reg [o 26 (.mv (.t 1)), o 27 (.bin .add (.t 26) (.c (.int .i64 1))), o 1 (.mv (.t 27))])
     (.seq (.reg [o 28 (.mv (.t 0)), o 29 (.mv (.t 5)), o 30 (.mv (.t 1)), o 31 (.iaddr 3 (.t 28) (.t 29)), o 32 (.faddr 2 (.t 31)), st (.store 1 (.t 32) (.t 30))])
     (.reg [o 33 (.mv (.t 1)), o 34 (.bin .add (.t 33) (.c (.int .i64 1))), o 1 (.mv (.t 34))])))))))
    (.reg [o 10 (.mv (.t 5)), o 11 (.bin .add (.t 10) (.c (.int .i64 1))), o 5 (.mv (.t 11))]))))))
  (.seq (.reg [o 35 (.mv (.t 1)), o 4 (.mv (.t 35))])
  (.ret))),
  [.tmp 4]⟩
/- loop.example/g03011/laws.markServer -/
def F48 : Fun := ⟨30,
  .seq (.reg [o 2 (.box 8 (.t 0)), o 4 (.mv (.c (.int .i64 0)))])
  (.seq (.reg [o 5 (.faddr 0 (.t 2)), o 6 (.load none (.t 5)), o 7 (.mv (.t 1)), o 8 (.call 47 [(.t 6), (.t 7)]), o 1 (.mv (.t 8))])
  (.seq (.reg [o 9 (.faddr 1 (.t 2)), o 10 (.load none (.t 9)), o 11 (.mv (.t 1)), o 12 (.call 101 [(.t 10), (.t 11)]), o 1 (.mv (.t 12))])
  (.seq (.reg [o 13 (.faddr 2 (.t 2)), o 14 (.load none (.t 13)), o 15 (.mv (.t 1)), o 16 (.call 102 [(.t 14), (.t 15)]), o 1 (.mv (.t 16))])
  (.seq (.reg [o 17 (.faddr 3 (.t 2)), o 18 (.load none (.t 17)), o 19 (.mv (.t 1)), o 20 (.call 103 [(.t 18), (.t 19)]), o 1 (.mv (.t 20))])
  (.seq (.reg [o 21 (.faddr 4 (.t 2)), o 22 (.load none (.t 21)), o 23 (.mv (.t 1)), o 24 (.call 104 [(.t 22), (.t 23)]), o 1 (.mv (.t 24))])
  (.seq (.reg [o 25 (.faddr 5 (.t 2)), o 26 (.load none (.t 25)), o 27 (.mv (.t 1)), o 28 (.call 105 [(.t 26), (.t 27)]), o 1 (.mv (.t 28))])
  (.seq (.reg [o 29 (.mv (.t 1)), o 4 (.mv (.t 29))])
  (.ret)))))))),
  [.tmp 4]⟩
/- loop.example/g03011/laws.heldServer -/
def F49 : Fun := ⟨42,
  .seq (.reg [o 2 (.box 8 (.t 0)), o 4 (.mv (.c (.int .i64 0)))])
  (.seq (.reg [o 5 (.faddr 0 (.t 2)), o 6 (.load none (.t 5)), o 7 (.mv (.t 1)), o 8 (.call 106 [(.t 6), (.t 7)]), o 1 (.mv (.t 8))])
  (.seq (.seq (.reg [o 9 (.mv (.t 1)), o 10 (.bin .lss (.t 9) (.c (.int .i64 0)))])
  (.cond (.t 10) (.seq (.reg [o 4 (.mv (.c (.int .i64 (-1))))])
   (.ret)) (.skip)))
  (.seq (.reg [o 11 (.faddr 1 (.t 2)), o 12 (.load none (.t 11)), o 13 (.mv (.t 1)), o 14 (.call 107 [(.t 12), (.t 13)]), o 1 (.mv (.t 14))])
  (.seq (.seq (.reg [o 15 (.mv (.t 1)), o 16 (.bin .lss (.t 15) (.c (.int .i64 0)))])
  (.cond (.t 16) (.seq (.reg [o 4 (.mv (.c (.int .i64 (-1))))])
   (.ret)) (.skip)))
  (.seq (.reg [o 17 (.faddr 2 (.t 2)), o 18 (.load none (.t 17)), o 19 (.mv (.t 1)), o 20 (.call 108 [(.t 18), (.t 19)]), o 1 (.mv (.t 20))])
  (.seq (.seq (.reg [o 21 (.mv (.t 1)), o 22 (.bin .lss (.t 21) (.c (.int .i64 0)))])
  (.cond (.t 22) (.seq (.reg [o 4 (.mv (.c (.int .i64 (-1))))])
   (.ret)) (.skip)))
  (.seq (.reg [o 23 (.faddr 3 (.t 2)), o 24 (.load none (.t 23)), o 25 (.mv (.t 1)), o 26 (.call 109 [(.t 24), (.t 25)]), o 1 (.mv (.t 26))])
  (.seq (.seq (.reg [o 27 (.mv (.t 1)), o 28 (.bin .lss (.t 27) (.c (.int .i64 0)))])
  (.cond (.t 28) (.seq (.reg [o 4 (.mv (.c (.int .i64 (-1))))])
   (.ret)) (.skip)))
  (.seq (.reg [o 29 (.faddr 4 (.t 2)), o 30 (.load none (.t 29)), o 31 (.mv (.t 1)), o 32 (.call 110 [(.t 30), (.t 31)]), o 1 (.mv (.t 32))])
  (.seq (.seq (.reg [o 33 (.mv (.t 1)), o 34 (.bin .lss (.t 33) (.c (.int .i64 0)))])
  (.cond (.t 34) (.seq (.reg [o 4 (.mv (.c (.int .i64 (-1))))])
   (.ret)) (.skip)))
  (.seq (.reg [o 35 (.faddr 5 (.t 2)), o 36 (.load none (.t 35)), o 37 (.mv (.t 1)), o 38 (.call 111 [(.t 36), (.t 37)]), o 1 (.mv (.t 38))])
  (.seq (.seq (.reg [o 39 (.mv (.t 1)), o 40 (.bin .lss (.t 39) (.c (.int .i64 0)))])
  (.cond (.t 40) (.seq (.reg [o 4 (.mv (.c (.int .i64 (-1))))])
   (.ret)) (.skip)))
  (.seq (.reg [o 41 (.mv (.t 1)), o 4 (.mv (.t 41))])
  (.ret)))))))))))))),
  [.tmp 4]⟩
/- loop.example/g03011/spec.l36Parse -/
def F50 : Fun := ⟨60,
  .seq (.reg [o 4 (.mv (.c .nsl)), o 5 (.mv (.c (.bool false)))])
  (.seq (.reg [o 11 (.bslice 2 [(.str []), (.str [])] 0 []), o 6 (.mv (.t 11))])
  (.seq (.reg [o 7 (.mv (.c (.int .i64 0)))])
  (.seq (.seq (.reg [o 8 (.mv (.c (.int .i64 0)))])
  (.block 0 (.loop (.seq (.seq (.reg [o 12 (.mv (.t 8)), o 13 (.mv (.t 0)), o 14 (.lenS (.t 13)), o 15 (.bin .leq (.t 12) (.t 14)), o 16 (.mv (.t 15)), og 17 (.mv (.t 0)) 16 true, og 18 (.bin .neq (.t 17) (.c (.str []))) 16 true, o 19 (.pick (.t 16) (.t 18) (.c (.bool false)))])
    (.cond (.t 19) (.skip) (.exit 0)))
    (.seq (.block 1 (.seq (.seq (.reg [o 22 (.mv (.t 8)), o 23 (.mv (.t 0)), o 24 (.lenS (.t 23)), o 25 (.bin .lss (.t 22) (.t 24)), o 26 (.mv (.t 25)), og 27 (.mv (.t 0)) 26 true, og 28 (.mv (.t 8)) 26 true, og 29 (.mv (.t 1)) 26 true, og 30 (.call 78 [(.t 27), (.t 28), (.t 29)]) 26 true, og 31 (.un .not (.t 30)) 26 true, o 32 (.pick (.t 26) (.t 31) (.c (.bool false)))])
     (.cond (.t 32) (.exit 1) (.skip)))
     (.seq (.seq (.reg [o 33 (.mv (.t 8)), o 34 (.mv (.t 7)), o 35 (.bin .lss (.t 33) (.t 34))])
     (.cond (.t 35) (.exit 1) (.skip)))
     (.seq (.reg [o 37 (.mv (.t 0)), o 38 (.mv (.t 7)), o 39 (.mv (.t 8)), o 40 (.sliceS (.t 37) (some (.t 38)) (some (.t 39))), o 41 (.call 112 [(.t 40)]), o 36 (.mv (.t 41)), o 42 (.extract (.t 36) 0), o 43 (.extract (.t 36) 1), o 9 (.new 2 [(.str []), (.str [])]), st (.store 2 (.t 9) (.t 42)), o 10 (.mv (.t 43))])
     (.seq (.seq (.reg [o 44 (.mv (.t 10)), o 45 (.un .not (.t 44))])
     (.cond (.t 45) (.seq (.reg [o 46 (.bslice 2 [(.str []), (.str [])] 0 []), o 4 (.mv (.t 46)), o 5 (.mv (.c (.bool false)))])
      (.ret)) (.skip)))
     (.seq (.reg [o 47 (.mv (.t 6)), o 48 (.load (some 2) (.t 9)), o 49 (.bslice 2 [(.str []), (.str [])] 1 [(0, (.t 48))]), o 50 (.append 2 32 (.t 47) (.t 49)), o 6 (.mv (.t 50))])
     (.reg [o 51 (.mv (.t 8)), o 52 (.mv (.t 1)), o 53 (.lenS (.t 52)), o 54 (.bin .add (.t 51) (.t 53)), o 7 (.mv (.t 54))])))))))
    (.reg [o 20 (.mv (.t 8)), o 21 (.bin .add (.t 20) (.c (.int .i64 1))), o 8 (.mv (.t 21))]))))))
  (.seq (.seq (.reg [o 55 (.mv (.t 6)), o 56 (.call 69 [(.t 55)]), o 57 (.un .not (.t 56))])
  (.cond (.t 57) (.seq (.reg [o 58 (.bslice 2 [(.str []), (.str [])] 0 []), o 4 (.mv (.t 58)), o 5 (.mv (.c (.bool false)))])
   (.ret)) (.skip)))
  (.seq (.reg [o 59 (.mv (.t 6)), o 4 (.mv (.t 59)), o 5 (.mv (.c (.bool true)))])
  (.ret)))))),
  [.tmp 4, .tmp 5]⟩
/- loop.example/g03011/impl.parsePairs -/
def F51 : Fun := ⟨61,
  .seq (.reg [o 4 (.mv (.c .nsl)), o 5 (.mv (.c (.bool false)))])
  (.seq (.reg [o 16 (.bslice 2 [(.str []), (.str [])] 0 []), o 6 (.mv (.t 16))])
  (.seq (.seq (.reg [o 17 (.mv (.t 0)), o 18 (.bin .eql (.t 17) (.c (.str [])))])
  (.cond (.t 18) (.seq (.reg [o 19 (.mv (.t 6)), o 4 (.mv (.t 19)), o 5 (.mv (.c (.bool true)))])
   (.ret)) (.skip)))
  (.seq (.seq (.reg [o 20 (.mv (.t 0)), o 21 (.mv (.t 1)), o 22 (.call 86 [(.t 20), (.t 21)]), o 23 (.lenL (.t 22)), o 24 (.mv (.c (.int .i64 0)))])
  (.block 0 (.loop (.seq (.reg [o 25 (.bin .lss (.t 24) (.t 23))])
    (.seq (.cond (.t 25) (.skip) (.exit 0))
    (.seq (.block 1 (.seq (.reg [o 26 (.iaddr 1 (.t 22) (.t 24)), o 27 (.load none (.t 26)), o 8 (.mv (.t 27))])
     (.seq (.reg [o 29 (.mv (.t 8)), o 30 (.call 81 [(.t 29), (.c (.str [61]))]), o 28 (.mv (.t 30)), o 31 (.extract (.t 28) 0), o 32 (.extract (.t 28) 1), o 33 (.extract (.t 28) 2), o 9 (.mv (.t 31)), o 10 (.mv (.t 32)), o 11 (.mv (.t 33))])
     (.seq (.reg [o 35 (.mv (.t 9)), o 36 (.call 113 [(.t 35)]), o 34 (.mv (.t 36)), o 37 (.extract (.t 34) 0), o 38 (.extract (.t 34) 1), o 12 (.mv (.t 37)), o 13 (.mv (.t 38))])
     (.seq (.reg [o 40 (.mv (.t 10)), o 41 (.call 113 [(.t 40)]), o 39 (.mv (.t 41)), o 42 (.extract (.t 39) 0), o 43 (.extract (.t 39) 1), o 14 (.mv (.t 42)), o 15 (.mv (.t 43))])
     (.seq (.seq (.reg [o 44 (.mv (.t 13)), o 45 (.un .not (.t 44)), o 46 (.mv (.t 45)), og 47 (.mv (.t 15)) 46 false, og 48 (.un .not (.t 47)) 46 false, o 49 (.pick (.t 46) (.c (.bool true)) (.t 48))])
     (.cond (.t 49) (.seq (.reg [o 4 (.mv (.c .nsl)), o 5 (.mv (.c (.bool false)))])
      (.ret)) (.skip)))
     (.reg [o 50 (.mv (.t 6)), o 51 (.mv (.t 12)), o 52 (.mv (.t 14)), o 53 (.build [(.str []), (.str [])] [(0, 1, (.t 51)), (1, 1, (.t 52))]), o 54 (.bslice 2 [(.str []), (.str [])] 1 [(0, (.t 53))]), o 55 (.append 2 32 (.t 50) (.t 54)), o 6 (.mv (.t 55))])))))))
    (.reg [o 56 (.bin .add (.t 24) (.c (.int .i64 1))), o 24 (.mv (.t 56))])))))))
  (.seq (.seq (.reg [o 57 (.mv (.t 6)), o 58 (.call 72 [(.t 57)]), o 59 (.un .not (.t 58))])
  (.cond (.t 59) (.seq (.reg [o 4 (.mv (.c .nsl)), o 5 (.mv (.c (.bool false)))])
   (.ret)) (.skip)))
  (.seq (.reg [o 60 (.mv (.t 6)), o 4 (.mv (.t 60)), o 5 (.mv (.c (.bool true)))])
  (.ret)))))),
  [.tmp 4, .tmp 5]⟩
/- loop.example/g03011/laws.eqPair -/
def F52 : Fun := ⟨15,
  .seq (.reg [o 2 (.box 2 (.t 0)), o 3 (.box 2 (.t 1)), o 4 (.mv (.c (.bool false)))])
  (.seq (.seq (.reg [o 5 (.faddr 0 (.t 2)), o 6 (.load none (.t 5)), o 7 (.faddr 0 (.t 3)), o 8 (.load none (.t 7)), o 9 (.bin .neq (.t 6) (.t 8))])
  (.cond (.t 9) (.seq (.reg [o 4 (.mv (.c (.bool false)))])
   (.ret)) (.skip)))
  (.seq (.seq (.reg [o 10 (.faddr 1 (.t 2)), o 11 (.load none (.t 10)), o 12 (.faddr 1 (.t 3)), o 13 (.load none (.t 12)), o 14 (.bin .neq (.t 11) (.t 13))])
  (.cond (.t 14) (.seq (.reg [o 4 (.mv (.c (.bool false)))])
   (.ret)) (.skip)))
  (.seq (.reg [o 4 (.mv (.c (.bool true)))])
  (.ret)))),
  [.tmp 4]⟩
/- loop.example/g03011/laws.markText -/
def F53 : Fun := ⟨20,
  .seq (.reg [o 2 (.mv (.c (.str [])))])
  (.seq (.seq (.reg [o 4 (.mv (.t 0)), o 5 (.bin .leq (.t 4) (.c (.int .i64 0)))])
  (.cond (.t 5) (.seq (.reg [o 2 (.mv (.c (.str [109, 48])))])
   (.ret)) (.skip)))
  (.seq (.reg [o 3 (.mv (.c (.str [])))])
  (.seq (.block 0 (.loop (.seq (.seq (.reg [o 6 (.mv (.t 0)), o 7 (.bin .gtr (.t 6) (.c (.int .i64 0)))])
    (.cond (.t 7) (.skip) (.exit 0)))
    (.block 1 (.seq (.reg [o 8 (.mv (.t 0)), o 9 (.bin .rem (.t 8) (.c (.int .i64 10))), o 10 (.bin .add (.c (.int .i64 48)) (.t 9)), o 11 (.toInt .u8 (.t 10)), o 12 (.bslice 1 [(.int .u8 0)] 1 [(0, (.t 11))]), o 13 (.toStr (.t 12)), o 14 (.mv (.t 3)), o 15 (.bin .add (.t 13) (.t 14)), o 3 (.mv (.t 15))])
     (.reg [o 16 (.mv (.t 0)), o 17 (.bin .quo (.t 16) (.c (.int .i64 10))), o 0 (.mv (.t 17))]))))))
  (.seq (.reg [o 18 (.mv (.t 3)), o 19 (.bin .add (.c (.str [109])) (.t 18)), o 2 (.mv (.t 19))])
  (.ret))))),
  [.tmp 2]⟩
/- loop.example/g03011/laws.szHeaderS -/
def F54 : Fun := ⟨27,
  .seq (.reg [o 4 (.mv (.c (.int .i64 0)))])
  (.seq (.reg [o 6 (.mv (.t 1)), o 7 (.mv (.t 0)), o 8 (.lenL (.t 7)), o 9 (.bin .sub (.t 6) (.t 8)), o 1 (.mv (.t 9))])
  (.seq (.seq (.reg [o 10 (.mv (.t 1)), o 11 (.bin .lss (.t 10) (.c (.int .i64 0)))])
  (.cond (.t 11) (.seq (.reg [o 4 (.mv (.c (.int .i64 (-1))))])
   (.ret)) (.skip)))
  (.seq (.seq (.reg [o 5 (.mv (.c (.int .i64 0)))])
  (.block 0 (.loop (.seq (.seq (.reg [o 12 (.mv (.t 5)), o 13 (.mv (.t 0)), o 14 (.lenL (.t 13)), o 15 (.bin .lss (.t 12) (.t 14))])
    (.cond (.t 15) (.skip) (.exit 0)))
    (.seq (.block 1 (.seq (.reg [o 18 (.mv (.t 0)), o 19 (.mv (.t 5)), o 20 (.iaddr 2 (.t 18) (.t 19)), o 21 (.load (some 2) (.t 20)), o 22 (.mv (.t 1)), o 23 (.call 114 [(.t 21), (.t 22)]), o 1 (.mv (.t 23))])
     (.seq (.reg [o 24 (.mv (.t 1)), o 25 (.bin .lss (.t 24) (.c (.int .i64 0)))])
     (.cond (.t 25) (.seq (.reg [o 4 (.mv (.c (.int .i64 (-1))))])
      (.ret)) (.skip)))))
    (.reg [o 16 (.mv (.t 5)), o 17 (.bin .add (.t 16) (.c (.int .i64 1))), o 5 (.mv (.t 17))]))))))
  (.seq (.reg [o 26 (.mv (.t 1)), o 4 (.mv (.t 26))])
  (.ret))))),
  [.tmp 4]⟩
/- loop.example/g03011/spec.IsResponse -/
def F55 : Fun := ⟨15,
  .seq (.reg [o 1 (.box 3 (.t 0)), o 2 (.mv (.c (.bool false)))])
  (.seq (.reg [o 3 (.faddr 0 (.t 1)), o 4 (.load none (.t 3)), o 5 (.call 115 [(.t 4)]), o 6 (.bin .neq (.t 5) (.c (.str []))), o 7 (.mv (.t 6)), og 8 (.faddr 2 (.t 1)) 7 true, og 9 (.load none (.t 8)) 7 true, og 10 (.faddr 1 (.t 1)) 7 true, og 11 (.load none (.t 10)) 7 true, og 12 (.build [(.str []), .nsl, .nsl] [(0, 1, (.t 9)), (1, 1, (.t 11))]) 7 true, og 13 (.call 116 [(.t 12)]) 7 true, o 14 (.pick (.t 7) (.t 13) (.c (.bool false))), o 2 (.mv (.t 14))])
  (.ret)),
  [.tmp 2]⟩
/- loop.example/g03011/spec.l38Format -/
def F56 : Fun := ⟨50,
  .seq (.reg [o 1 (.box 3 (.t 0)), o 2 (.mv (.c (.str [])))])
  (.seq (.reg [o 5 (.faddr 0 (.t 1)), o 6 (.load none (.t 5)), o 7 (.callF 117 [(.t 6)]), o 8 (.bin .add (.c (.str [72, 84, 84, 80, 47, 49, 46, 49, 32])) (.t 7)), o 9 (.bin .add (.t 8) (.c (.str [32]))), o 10 (.faddr 0 (.t 1)), o 11 (.load none (.t 10)), o 12 (.callF 115 [(.t 11)]), o 13 (.bin .add (.t 9) (.t 12)), o 14 (.bin .add (.t 13) (.c (.str [13, 10]))), o 3 (.mv (.t 14))])
  (.seq (.seq (.reg [o 4 (.mv (.c (.int .i64 0)))])
  (.block 0 (.loop (.seq (.seq (.reg [o 15 (.mv (.t 4)), o 16 (.faddr 1 (.t 1)), o 17 (.load none (.t 16)), o 18 (.lenL (.t 17)), o 19 (.bin .lss (.t 15) (.t 18))])
    (.cond (.t 19) (.skip) (.exit 0)))
    (.seq (.block 1 (.reg [o 22 (.mv (.t 3)), o 23 (.faddr 1 (.t 1)), o 24 (.load none (.t 23)), o 25 (.mv (.t 4)), o 26 (.iaddr 2 (.t 24) (.t 25)), o 27 (.faddr 0 (.t 26)), o 28 (.load none (.t 27)), o 29 (.bin .add (.t 22) (.t 28)), o 30 (.bin .add (.t 29) (.c (.str [58, 32]))), o 31 (.faddr 1 (.t 1)), o 32 (.load none (.t 31)), o 33 (.mv (.t 4)), o 34 (.iaddr 2 (.t 32) (.t 33)), o 35 (.faddr 1 (.t 34)), o 36 (.load none (.t 35)), o 37 (.bin .add (.t 30) (.t 36)), o 38 (.bin .add (.t 37) (.c (.str [13, 10]))), o 3 (.mv (.t 38))]))
    (.reg [o 20 (.mv (.t 4)), o 21 (.bin .add (.t 20) (.c (.int .i64 1))), o 4 (.mv (.t 21))]))))))
  (.seq (.reg [o 39 (.mv (.t 3)), o 40 (.bin .add (.t 39) (.c (.str [67, 111, 110, 116, 101, 110, 116, 45, 76, 101, 110, 103, 116, 104, 58, 32]))), o 41 (.faddr 2 (.t 1)), o 42 (.load none (.t 41)), o 43 (.lenS (.t 42)), o 44 (.callF 117 [(.t 43)]), o 45 (.bin .add (.t 40) (.t 44)), o 46 (.bin .add (.t 45) (.c (.str [13, 10, 13, 10]))), o 47 (.faddr 2 (.t 1)), o 48 (.load none (.t 47)), o 49 (.bin .add (.t 46) (.t 48)), o 2 (.mv (.t 49))])
  (.ret)))),
  [.tmp 2]⟩
/- loop.example/g03011/laws.toHeaderS -/
def F57 : Fun := ⟨23,
  .seq (.reg [o 2 (.mv (.c .nsl))])
  (.seq (.reg [o 5 (.mv (.t 0)), o 6 (.lenL (.t 5)), o 7 (.mkslice 2 [(.str []), (.str [])] 32 (.t 6) (.t 6)), o 3 (.mv (.t 7))])
  (.seq (.seq (.reg [o 4 (.mv (.c (.int .i64 0)))])
  (.block 0 (.loop (.seq (.seq (.reg [o 8 (.mv (.t 4)), o 9 (.mv (.t 0)), o 10 (.lenL (.t 9)), o 11 (.bin .lss (.t 8) (.t 10))])
    (.cond (.t 11) (.skip) (.exit 0)))
    (.seq (.block 1 (.reg [o 14 (.mv (.t 3)), o 15 (.mv (.t 4)), o 16 (.mv (.t 0)), o 17 (.mv (.t 4)), o 18 (.iaddr 2 (.t 16) (.t 17)), o 19 (.load (some 2) (.t 18)), o 20 (.call 118 [(.t 19)]), o 21 (.iaddr 2 (.t 14) (.t 15)), st (.store 2 (.t 21) (.t 20))]))
    (.reg [o 12 (.mv (.t 4)), o 13 (.bin .add (.t 12) (.c (.int .i64 1))), o 4 (.mv (.t 13))]))))))
  (.seq (.reg [o 22 (.mv (.t 3)), o 2 (.mv (.t 22))])
  (.ret)))),
  [.tmp 2]⟩
/- loop.example/g03011/impl.IsResponse -/
def F58 : Fun := ⟨15,
  .seq (.reg [o 1 (.box 3 (.t 0)), o 2 (.mv (.c (.bool false)))])
  (.seq (.reg [o 3 (.faddr 0 (.t 1)), o 4 (.load none (.t 3)), o 5 (.call 60 [(.t 4)]), o 6 (.bin .neq (.t 5) (.c (.str []))), o 7 (.mv (.t 6)), og 8 (.faddr 2 (.t 1)) 7 true, og 9 (.load none (.t 8)) 7 true, og 10 (.faddr 1 (.t 1)) 7 true, og 11 (.load none (.t 10)) 7 true, og 12 (.build [(.str []), .nsl, .nsl] [(0, 1, (.t 9)), (1, 1, (.t 11))]) 7 true, og 13 (.call 119 [(.t 12)]) 7 true, o 14 (.pick (.t 7) (.t 13) (.c (.bool false))), o 2 (.mv (.t 14))])
  (.ret)),
  [.tmp 2]⟩
/- loop.example/g03011/impl.FormatInt -/
def F59 : Fun := ⟨5,
  .seq (.reg [o 2 (.mv (.c (.str [])))])
  (.seq (.reg [o 3 (.mv (.t 0)), o 4 (.call 120 [(.t 3)]), o 2 (.mv (.t 4))])
  (.ret)),
  [.tmp 2]⟩
/- loop.example/g03011/impl.Reason -/
def F60 : Fun := ⟨14,
  .seq (.reg [o 2 (.mv (.c (.str [])))])
  (.seq (.seq (.reg [o 3 (.mv (.t 0))])
  (.block 0 (.seq (.reg [o 5 (.bin .eql (.t 3) (.c (.int .i64 200))), o 4 (.mv (.t 5))])
   (.cond (.t 4) (.seq (.reg [o 2 (.mv (.c (.str [79, 75])))])
    (.ret)) (.seq (.reg [o 7 (.bin .eql (.t 3) (.c (.int .i64 400))), o 6 (.mv (.t 7))])
    (.cond (.t 6) (.seq (.reg [o 2 (.mv (.c (.str [66, 97, 100, 32, 82, 101, 113, 117, 101, 115, 116])))])
     (.ret)) (.seq (.reg [o 9 (.bin .eql (.t 3) (.c (.int .i64 404))), o 8 (.mv (.t 9))])
     (.cond (.t 8) (.seq (.reg [o 2 (.mv (.c (.str [78, 111, 116, 32, 70, 111, 117, 110, 100])))])
      (.ret)) (.seq (.reg [o 11 (.bin .eql (.t 3) (.c (.int .i64 500))), o 10 (.mv (.t 11))])
      (.cond (.t 10) (.seq (.reg [o 2 (.mv (.c (.str [69, 114, 114, 111, 114])))])
       (.ret)) (.seq (.reg [o 13 (.bin .eql (.t 3) (.c (.int .i64 503))), o 12 (.mv (.t 13))])
       (.cond (.t 12) (.seq (.reg [o 2 (.mv (.c (.str [66, 117, 115, 121])))])
        (.ret)) (.skip)))))))))))))
  (.seq (.reg [o 2 (.mv (.c (.str [])))])
  (.ret))),
  [.tmp 2]⟩
/- loop.example/g03011/laws.eqHeaderS -/
def F61 : Fun := ⟨27,
  .seq (.reg [o 4 (.mv (.c (.bool false)))])
  (.seq (.seq (.reg [o 6 (.mv (.t 0)), o 7 (.lenL (.t 6)), o 8 (.mv (.t 1)), o 9 (.lenL (.t 8)), o 10 (.bin .neq (.t 7) (.t 9))])
  (.cond (.t 10) (.seq (.reg [o 4 (.mv (.c (.bool false)))])
   (.ret)) (.skip)))
  (.seq (.seq (.reg [o 5 (.mv (.c (.int .i64 0)))])
  (.block 0 (.loop (.seq (.seq (.reg [o 11 (.mv (.t 5)), o 12 (.mv (.t 0)), o 13 (.lenL (.t 12)), o 14 (.bin .lss (.t 11) (.t 13))])
    (.cond (.t 14) (.skip) (.exit 0)))
    (.seq (.block 1 (.seq (.reg [o 17 (.mv (.t 0)), o 18 (.mv (.t 5)), o 19 (.iaddr 2 (.t 17) (.t 18)), o 20 (.load (some 2) (.t 19)), o 21 (.mv (.t 1)), o 22 (.mv (.t 5)), o 23 (.iaddr 2 (.t 21) (.t 22)), o 24 (.load (some 2) (.t 23)), o 25 (.callF 121 [(.t 20), (.t 24)]), o 26 (.un .not (.t 25))])
     (.cond (.t 26) (.seq (.reg [o 4 (.mv (.c (.bool false)))])
      (.ret)) (.skip))))
    (.reg [o 15 (.mv (.t 5)), o 16 (.bin .add (.t 15) (.c (.int .i64 1))), o 5 (.mv (.t 16))]))))))
  (.seq (.reg [o 4 (.mv (.c (.bool true)))])
  (.ret)))),
  [.tmp 4]⟩
/- loop.example/g03011/laws.szFile -/
def F62 : Fun := ⟨20,
  .seq (.reg [o 2 (.box 3 (.t 0)), o 4 (.mv (.c (.int .i64 0)))])
  (.seq (.reg [o 5 (.mv (.t 1)), o 6 (.faddr 0 (.t 2)), o 7 (.load none (.t 6)), o 8 (.lenS (.t 7)), o 9 (.bin .sub (.t 5) (.t 8)), o 1 (.mv (.t 9))])
  (.seq (.seq (.reg [o 10 (.mv (.t 1)), o 11 (.bin .lss (.t 10) (.c (.int .i64 0)))])
  (.cond (.t 11) (.seq (.reg [o 4 (.mv (.c (.int .i64 (-1))))])
   (.ret)) (.skip)))
  (.seq (.reg [o 12 (.mv (.t 1)), o 13 (.faddr 1 (.t 2)), o 14 (.load none (.t 13)), o 15 (.lenS (.t 14)), o 16 (.bin .sub (.t 12) (.t 15)), o 1 (.mv (.t 16))])
  (.seq (.seq (.reg [o 17 (.mv (.t 1)), o 18 (.bin .lss (.t 17) (.c (.int .i64 0)))])
  (.cond (.t 18) (.seq (.reg [o 4 (.mv (.c (.int .i64 (-1))))])
   (.ret)) (.skip)))
  (.seq (.reg [o 19 (.mv (.t 1)), o 4 (.mv (.t 19))])
  (.ret)))))),
  [.tmp 4]⟩
/- loop.example/g03011/spec.IsSite -/
def F63 : Fun := ⟨49,
  .seq (.reg [o 2 (.mv (.c (.bool false)))])
  (.seq (.seq (.reg [o 3 (.mv (.c (.int .i64 0)))])
  (.block 0 (.loop (.seq (.seq (.reg [o 4 (.mv (.t 3)), o 5 (.mv (.t 0)), o 6 (.lenL (.t 5)), o 7 (.bin .lss (.t 4) (.t 6))])
    (.cond (.t 7) (.skip) (.exit 0)))
    (.seq (.block 1 (.seq (.reg [o 10 (.mv (.t 0)), o 11 (.mv (.t 3)), o 12 (.iaddr 3 (.t 10) (.t 11)), o 13 (.faddr 0 (.t 12)), o 14 (.load none (.t 13)), o 15 (.call 68 [(.t 14)]), o 16 (.un .not (.t 15)), o 17 (.mv (.t 16)), og 18 (.mv (.t 0)) 17 false, og 19 (.mv (.t 0)) 17 false, og 20 (.mv (.t 3)) 17 false, og 21 (.iaddr 3 (.t 19) (.t 20)) 17 false, og 22 (.faddr 0 (.t 21)) 17 false, og 23 (.load none (.t 22)) 17 false, og 24 (.call 122 [(.t 18), (.t 23)]) 17 false, og 25 (.mv (.t 3)) 17 false, og 26 (.bin .neq (.t 24) (.t 25)) 17 false, o 27 (.pick (.t 17) (.c (.bool true)) (.t 26)), o 28 (.mv (.t 27)), og 29 (.mv (.t 0)) 28 false, og 30 (.mv (.t 3)) 28 false, og 31 (.iaddr 3 (.t 29) (.t 30)) 28 false, og 32 (.faddr 1 (.t 31)) 28 false, og 33 (.load none (.t 32)) 28 false, og 34 (.lenS (.t 33)) 28 false, og 35 (.bin .gtr (.t 34) (.c (.int .i64 4000))) 28 false, o 36 (.pick (.t 28) (.c (.bool true)) (.t 35)), o 37 (.mv (.t 36)), og 38 (.mv (.t 0)) 37 false, og 39 (.mv (.t 3)) 37 false, og 40 (.iaddr 3 (.t 38) (.t 39)) 37 false, og 41 (.faddr 2 (.t 40)) 37 false, og 42 (.load none (.t 41)) 37 false, og 43 (.call 91 [(.t 42), (.c (.int .i64 1)), (.c (.int .i64 1000000000))]) 37 false, og 44 (.un .not (.t 43)) 37 false, o 45 (.pick (.t 37) (.c (.bool true)) (.t 44))])
     (.cond (.t 45) (.seq (.reg [o 2 (.mv (.c (.bool false)))])
      (.ret)) (.skip))))
    (.reg [o 8 (.mv (.t 3)), o 9 (.bin .add (.t 8) (.c (.int .i64 1))), o 3 (.mv (.t 9))]))))))
  (.seq (.reg [o 46 (.mv (.t 0)), o 47 (.lenL (.t 46)), o 48 (.bin .leq (.t 47) (.c (.int .i64 8))), o 2 (.mv (.t 48))])
  (.ret))),
  [.tmp 2]⟩
/- loop.example/g03011/laws.toFile -/
def F64 : Fun := ⟨14,
  .seq (.reg [o 1 (.box 3 (.t 0)), o 2 (.new 3 [(.str []), (.str []), (.int .i64 0)])])
  (.seq (.reg [o 3 (.new 3 [(.str []), (.str []), (.int .i64 0)])])
  (.seq (.reg [o 4 (.faddr 0 (.t 1)), o 5 (.load none (.t 4)), o 6 (.faddr 0 (.t 3)), st (.store 1 (.t 6) (.t 5))])
  (.seq (.reg [o 7 (.faddr 1 (.t 1)), o 8 (.load none (.t 7)), o 9 (.faddr 1 (.t 3)), st (.store 1 (.t 9) (.t 8))])
  (.seq (.reg [o 10 (.faddr 2 (.t 1)), o 11 (.load none (.t 10)), o 12 (.faddr 2 (.t 3)), st (.store 1 (.t 12) (.t 11))])
  (.seq (.reg [o 13 (.load (some 3) (.t 3)), st (.store 3 (.t 2) (.t 13))])
  (.ret)))))),
  [.cell 2 (some 3)]⟩
/- loop.example/g03011/impl.IsSite -/
def F65 : Fun := ⟨42,
  .seq (.reg [o 2 (.mv (.c (.bool false)))])
  (.seq (.reg [o 6 (.mkmap), o 3 (.mv (.t 6))])
  (.seq (.seq (.reg [o 7 (.mv (.t 0)), o 8 (.lenL (.t 7)), o 9 (.mv (.c (.int .i64 0)))])
  (.block 0 (.loop (.seq (.reg [o 10 (.bin .lss (.t 9) (.t 8))])
    (.seq (.cond (.t 10) (.skip) (.exit 0))
    (.seq (.block 1 (.seq (.reg [o 11 (.iaddr 3 (.t 7) (.t 9)), o 12 (.load (some 3) (.t 11)), o 5 (.new 3 [(.str []), (.str []), (.int .i64 0)]), st (.store 3 (.t 5) (.t 12))])
     (.seq (.seq (.reg [o 13 (.mv (.t 3)), o 14 (.faddr 0 (.t 5)), o 15 (.load none (.t 14)), o 16 (.lookup 1 (.bool false) false (.t 13) (.t 15)), o 17 (.mv (.t 16)), og 18 (.faddr 0 (.t 5)) 17 false, og 19 (.load none (.t 18)) 17 false, og 20 (.call 71 [(.t 19)]) 17 false, og 21 (.un .not (.t 20)) 17 false, o 22 (.pick (.t 17) (.c (.bool true)) (.t 21)), o 23 (.mv (.t 22)), og 24 (.faddr 1 (.t 5)) 23 false, og 25 (.load none (.t 24)) 23 false, og 26 (.lenS (.t 25)) 23 false, og 27 (.bin .gtr (.t 26) (.c (.int .i64 4000))) 23 false, o 28 (.pick (.t 23) (.c (.bool true)) (.t 27)), o 29 (.mv (.t 28)), og 30 (.faddr 2 (.t 5)) 29 false, og 31 (.load none (.t 30)) 29 false, og 32 (.call 93 [(.t 31), (.c (.int .i64 1)), (.c (.int .i64 1000000000))]) 29 false, og 33 (.un .not (.t 32)) 29 false, o 34 (.pick (.t 29) (.c (.bool true)) (.t 33))])
     (.cond (.t 34) (.seq (.reg [o 2 (.mv (.c (.bool false)))])
      (.ret)) (.skip)))
     (.reg [o 35 (.mv (.t 3)), o 36 (.faddr 0 (.t 5)), o 37 (.load none (.t 36)), st (.mupd 1 (.t 35) (.t 37) (.c (.bool true)))]))))
    (.reg [o 38 (.bin .add (.t 9) (.c (.int .i64 1))), o 9 (.mv (.t 38))])))))))
  (.seq (.reg [o 39 (.mv (.t 0)), o 40 (.lenL (.t 39)), o 41 (.bin .leq (.t 40) (.c (.int .i64 8))), o 2 (.mv (.t 41))])
  (.ret)))),
  [.tmp 2]⟩
/- loop.example/g03011/laws.eqFile -/
def F66 : Fun := ⟨20,
  .seq (.reg [o 2 (.box 3 (.t 0)), o 3 (.box 3 (.t 1)), o 4 (.mv (.c (.bool false)))])
  (.seq (.seq (.reg [o 5 (.faddr 0 (.t 2)), o 6 (.load none (.t 5)), o 7 (.faddr 0 (.t 3)), o 8 (.load none (.t 7)), o 9 (.bin .neq (.t 6) (.t 8))])
  (.cond (.t 9) (.seq (.reg [o 4 (.mv (.c (.bool false)))])
   (.ret)) (.skip)))
  (.seq (.seq (.reg [o 10 (.faddr 1 (.t 2)), o 11 (.load none (.t 10)), o 12 (.faddr 1 (.t 3)), o 13 (.load none (.t 12)), o 14 (.bin .neq (.t 11) (.t 13))])
  (.cond (.t 14) (.seq (.reg [o 4 (.mv (.c (.bool false)))])
   (.ret)) (.skip)))
  (.seq (.seq (.reg [o 15 (.faddr 2 (.t 2)), o 16 (.load none (.t 15)), o 17 (.faddr 2 (.t 3)), o 18 (.load none (.t 17)), o 19 (.bin .neq (.t 16) (.t 18))])
  (.cond (.t 19) (.seq (.reg [o 4 (.mv (.c (.bool false)))])
   (.ret)) (.skip)))
  (.seq (.reg [o 4 (.mv (.c (.bool true)))])
  (.ret))))),
  [.tmp 4]⟩
/- loop.example/g03011/laws.szPairS -/
def F67 : Fun := ⟨27,
  .seq (.reg [o 4 (.mv (.c (.int .i64 0)))])
  (.seq (.reg [o 6 (.mv (.t 1)), o 7 (.mv (.t 0)), o 8 (.lenL (.t 7)), o 9 (.bin .sub (.t 6) (.t 8)), o 1 (.mv (.t 9))])
  (.seq (.seq (.reg [o 10 (.mv (.t 1)), o 11 (.bin .lss (.t 10) (.c (.int .i64 0)))])
  (.cond (.t 11) (.seq (.reg [o 4 (.mv (.c (.int .i64 (-1))))])
   (.ret)) (.skip)))
  (.seq (.seq (.reg [o 5 (.mv (.c (.int .i64 0)))])
  (.block 0 (.loop (.seq (.seq (.reg [o 12 (.mv (.t 5)), o 13 (.mv (.t 0)), o 14 (.lenL (.t 13)), o 15 (.bin .lss (.t 12) (.t 14))])
    (.cond (.t 15) (.skip) (.exit 0)))
    (.seq (.block 1 (.seq (.reg [o 18 (.mv (.t 0)), o 19 (.mv (.t 5)), o 20 (.iaddr 2 (.t 18) (.t 19)), o 21 (.load (some 2) (.t 20)), o 22 (.mv (.t 1)), o 23 (.call 123 [(.t 21), (.t 22)]), o 1 (.mv (.t 23))])
     (.seq (.reg [o 24 (.mv (.t 1)), o 25 (.bin .lss (.t 24) (.c (.int .i64 0)))])
     (.cond (.t 25) (.seq (.reg [o 4 (.mv (.c (.int .i64 (-1))))])
      (.ret)) (.skip)))))
    (.reg [o 16 (.mv (.t 5)), o 17 (.bin .add (.t 16) (.c (.int .i64 1))), o 5 (.mv (.t 17))]))))))
  (.seq (.reg [o 26 (.mv (.t 1)), o 4 (.mv (.t 26))])
  (.ret))))),
  [.tmp 4]⟩
/- loop.example/g03011/spec.IsNormal -/
def F68 : Fun := ⟨16,
  .seq (.reg [o 2 (.mv (.c (.bool false)))])
  (.seq (.reg [o 6 (.mv (.t 0)), o 7 (.call 79 [(.t 6)]), o 5 (.mv (.t 7)), o 8 (.extract (.t 5) 0), o 9 (.extract (.t 5) 1), o 3 (.mv (.t 8)), o 4 (.mv (.t 9))])
  (.seq (.reg [o 10 (.mv (.t 4)), o 11 (.mv (.t 10)), og 12 (.mv (.t 3)) 11 true, og 13 (.mv (.t 0)) 11 true, og 14 (.bin .eql (.t 12) (.t 13)) 11 true, o 15 (.pick (.t 11) (.t 14) (.c (.bool false))), o 2 (.mv (.t 15))])
  (.ret))),
  [.tmp 2]⟩
/- loop.example/g03011/spec.l36Pairs -/
def F69 : Fun := ⟨29,
  .seq (.reg [o 2 (.mv (.c (.bool false)))])
  (.seq (.seq (.reg [o 3 (.mv (.c (.int .i64 0)))])
  (.block 0 (.loop (.seq (.seq (.reg [o 4 (.mv (.t 3)), o 5 (.mv (.t 0)), o 6 (.lenL (.t 5)), o 7 (.bin .lss (.t 4) (.t 6))])
    (.cond (.t 7) (.skip) (.exit 0)))
    (.seq (.block 1 (.seq (.reg [o 10 (.mv (.t 0)), o 11 (.mv (.t 3)), o 12 (.iaddr 2 (.t 10) (.t 11)), o 13 (.faddr 0 (.t 12)), o 14 (.load none (.t 13)), o 15 (.lenS (.t 14)), o 16 (.bin .gtr (.t 15) (.c (.int .i64 60))), o 17 (.mv (.t 16)), og 18 (.mv (.t 0)) 17 false, og 19 (.mv (.t 3)) 17 false, og 20 (.iaddr 2 (.t 18) (.t 19)) 17 false, og 21 (.faddr 1 (.t 20)) 17 false, og 22 (.load none (.t 21)) 17 false, og 23 (.lenS (.t 22)) 17 false, og 24 (.bin .gtr (.t 23) (.c (.int .i64 60))) 17 false, o 25 (.pick (.t 17) (.c (.bool true)) (.t 24))])
     (.cond (.t 25) (.seq (.reg [o 2 (.mv (.c (.bool false)))])
      (.ret)) (.skip))))
    (.reg [o 8 (.mv (.t 3)), o 9 (.bin .add (.t 8) (.c (.int .i64 1))), o 3 (.mv (.t 9))]))))))
  (.seq (.reg [o 26 (.mv (.t 0)), o 27 (.lenL (.t 26)), o 28 (.bin .leq (.t 27) (.c (.int .i64 12))), o 2 (.mv (.t 28))])
  (.ret))),
  [.tmp 2]⟩
/- loop.example/g03011/laws.toPairS -/
def F70 : Fun := ⟨23,
  .seq (.reg [o 2 (.mv (.c .nsl))])
  (.seq (.reg [o 5 (.mv (.t 0)), o 6 (.lenL (.t 5)), o 7 (.mkslice 2 [(.str []), (.str [])] 32 (.t 6) (.t 6)), o 3 (.mv (.t 7))])
  (.seq (.seq (.reg [o 4 (.mv (.c (.int .i64 0)))])
  (.block 0 (.loop (.seq (.seq (.reg [o 8 (.mv (.t 4)), o 9 (.mv (.t 0)), o 10 (.lenL (.t 9)), o 11 (.bin .lss (.t 8) (.t 10))])
    (.cond (.t 11) (.skip) (.exit 0)))
    (.seq (.block 1 (.reg [o 14 (.mv (.t 3)), o 15 (.mv (.t 4)), o 16 (.mv (.t 0)), o 17 (.mv (.t 4)), o 18 (.iaddr 2 (.t 16) (.t 17)), o 19 (.load (some 2) (.t 18)), o 20 (.call 124 [(.t 19)]), o 21 (.iaddr 2 (.t 14) (.t 15)), st (.store 2 (.t 21) (.t 20))]))
    (.reg [o 12 (.mv (.t 4)), o 13 (.bin .add (.t 12) (.c (.int .i64 1))), o 4 (.mv (.t 13))]))))))
  (.seq (.reg [o 22 (.mv (.t 3)), o 2 (.mv (.t 22))])
  (.ret)))),
  [.tmp 2]⟩
/- loop.example/g03011/impl.IsNormal -/
def F71 : Fun := ⟨16,
  .seq (.reg [o 2 (.mv (.c (.bool false)))])
  (.seq (.reg [o 6 (.mv (.t 0)), o 7 (.call 84 [(.t 6)]), o 5 (.mv (.t 7)), o 8 (.extract (.t 5) 0), o 9 (.extract (.t 5) 1), o 3 (.mv (.t 8)), o 4 (.mv (.t 9))])
  (.seq (.reg [o 10 (.mv (.t 4)), o 11 (.mv (.t 10)), og 12 (.mv (.t 3)) 11 true, og 13 (.mv (.t 0)) 11 true, og 14 (.bin .eql (.t 12) (.t 13)) 11 true, o 15 (.pick (.t 11) (.t 14) (.c (.bool false))), o 2 (.mv (.t 15))])
  (.ret))),
  [.tmp 2]⟩
/- loop.example/g03011/impl.pairsOK -/
def F72 : Fun := ⟨25,
  .seq (.reg [o 2 (.mv (.c (.bool false)))])
  (.seq (.seq (.reg [o 5 (.mv (.t 0)), o 6 (.lenL (.t 5)), o 7 (.mv (.c (.int .i64 0)))])
  (.block 0 (.loop (.seq (.reg [o 8 (.bin .lss (.t 7) (.t 6))])
    (.seq (.cond (.t 8) (.skip) (.exit 0))
    (.seq (.block 1 (.seq (.reg [o 9 (.iaddr 2 (.t 5) (.t 7)), o 10 (.load (some 2) (.t 9)), o 4 (.new 2 [(.str []), (.str [])]), st (.store 2 (.t 4) (.t 10))])
     (.seq (.reg [o 11 (.faddr 0 (.t 4)), o 12 (.load none (.t 11)), o 13 (.lenS (.t 12)), o 14 (.bin .gtr (.t 13) (.c (.int .i64 60))), o 15 (.mv (.t 14)), og 16 (.faddr 1 (.t 4)) 15 false, og 17 (.load none (.t 16)) 15 false, og 18 (.lenS (.t 17)) 15 false, og 19 (.bin .gtr (.t 18) (.c (.int .i64 60))) 15 false, o 20 (.pick (.t 15) (.c (.bool true)) (.t 19))])
     (.cond (.t 20) (.seq (.reg [o 2 (.mv (.c (.bool false)))])
      (.ret)) (.skip)))))
    (.reg [o 21 (.bin .add (.t 7) (.c (.int .i64 1))), o 7 (.mv (.t 21))])))))))
  (.seq (.reg [o 22 (.mv (.t 0)), o 23 (.lenL (.t 22)), o 24 (.bin .leq (.t 23) (.c (.int .i64 12))), o 2 (.mv (.t 24))])
  (.ret))),
  [.tmp 2]⟩
/- loop.example/g03011/spec.FormatQuery -/
def F73 : Fun := ⟨5,
  .seq (.reg [o 2 (.mv (.c (.str [])))])
  (.seq (.reg [o 3 (.mv (.t 0)), o 4 (.call 125 [(.t 3), (.c (.str [38]))]), o 2 (.mv (.t 4))])
  (.ret)),
  [.tmp 2]⟩
/- loop.example/g03011/spec.FormatCookies -/
def F74 : Fun := ⟨5,
  .seq (.reg [o 2 (.mv (.c (.str [])))])
  (.seq (.reg [o 3 (.mv (.t 0)), o 4 (.call 125 [(.t 3), (.c (.str [59, 32]))]), o 2 (.mv (.t 4))])
  (.ret)),
  [.tmp 2]⟩
/- loop.example/g03011/impl.FormatQuery -/
def F75 : Fun := ⟨5,
  .seq (.reg [o 2 (.mv (.c (.str [])))])
  (.seq (.reg [o 3 (.mv (.t 0)), o 4 (.call 126 [(.t 3), (.c (.str [38]))]), o 2 (.mv (.t 4))])
  (.ret)),
  [.tmp 2]⟩
/- loop.example/g03011/impl.FormatCookies -/
def F76 : Fun := ⟨5,
  .seq (.reg [o 2 (.mv (.c (.str [])))])
  (.seq (.reg [o 3 (.mv (.t 0)), o 4 (.call 126 [(.t 3), (.c (.str [59, 32]))]), o 2 (.mv (.t 4))])
  (.ret)),
  [.tmp 2]⟩
/- loop.example/g03011/spec.l36Line -/
def F77 : Fun := ⟨27,
  .seq (.reg [o 4 (.mv (.c (.str []))), o 5 (.mv (.c (.int .i64 0)))])
  (.seq (.seq (.reg [o 7 (.mv (.t 1)), o 6 (.mv (.t 7))])
  (.block 0 (.loop (.seq (.seq (.reg [o 8 (.mv (.t 6)), o 9 (.bin .geq (.t 8) (.c (.int .i64 0))), o 10 (.mv (.t 9)), og 11 (.mv (.t 6)) 10 true, og 12 (.mv (.t 0)) 10 true, og 13 (.lenS (.t 12)) 10 true, og 14 (.bin .lss (.t 11) (.t 13)) 10 true, o 15 (.pick (.t 10) (.t 14) (.c (.bool false)))])
    (.cond (.t 15) (.skip) (.exit 0)))
    (.seq (.block 1 (.seq (.reg [o 18 (.mv (.t 0)), o 19 (.mv (.t 6)), o 20 (.call 78 [(.t 18), (.t 19), (.c (.str [13, 10]))])])
     (.cond (.t 20) (.seq (.reg [o 21 (.mv (.t 0)), o 22 (.mv (.t 1)), o 23 (.mv (.t 6)), o 24 (.sliceS (.t 21) (some (.t 22)) (some (.t 23))), o 25 (.mv (.t 6)), o 26 (.bin .add (.t 25) (.c (.int .i64 2))), o 4 (.mv (.t 24)), o 5 (.mv (.t 26))])
      (.ret)) (.skip))))
    (.reg [o 16 (.mv (.t 6)), o 17 (.bin .add (.t 16) (.c (.int .i64 1))), o 6 (.mv (.t 17))]))))))
  (.seq (.reg [o 4 (.mv (.c (.str []))), o 5 (.mv (.c (.int .i64 (-1))))])
  (.ret))),
  [.tmp 4, .tmp 5]⟩
/- loop.example/g03011/spec.l14Is -/
def F78 : Fun := ⟨25,
  .seq (.reg [o 6 (.mv (.c (.bool false)))])
  (.seq (.reg [o 7 (.mv (.t 2)), o 8 (.lenS (.t 7)), o 9 (.mv (.t 0)), o 10 (.lenS (.t 9)), o 11 (.mv (.t 1)), o 12 (.bin .sub (.t 10) (.t 11)), o 13 (.bin .leq (.t 8) (.t 12)), o 14 (.mv (.t 13)), og 15 (.mv (.t 0)) 14 true, og 16 (.mv (.t 1)) 14 true, og 17 (.mv (.t 1)) 14 true, og 18 (.mv (.t 2)) 14 true, og 19 (.lenS (.t 18)) 14 true, og 20 (.bin .add (.t 17) (.t 19)) 14 true, og 21 (.sliceS (.t 15) (some (.t 16)) (some (.t 20))) 14 true, og 22 (.mv (.t 2)) 14 true, og 23 (.bin .eql (.t 21) (.t 22)) 14 true, o 24 (.pick (.t 14) (.t 23) (.c (.bool false))), o 6 (.mv (.t 24))])
  (.ret)),
  [.tmp 6]⟩
/- loop.example/g03011/spec.NormalPath -/
def F79 : Fun := ⟨41,
  .seq (.reg [o 2 (.mv (.c (.str []))), o 3 (.mv (.c (.bool false)))])
  (.seq (.seq (.reg [o 8 (.mv (.t 0)), o 9 (.lenS (.t 8)), o 10 (.bin .gtr (.t 9) (.c (.int .i64 400)))])
  (.cond (.t 10) (.seq (.reg [o 2 (.mv (.c (.str []))), o 3 (.mv (.c (.bool false)))])
   (.ret)) (.skip)))
  (.seq (.reg [o 12 (.mv (.t 0)), o 13 (.call 127 [(.t 12)]), o 11 (.mv (.t 13)), o 14 (.extract (.t 11) 0), o 15 (.extract (.t 11) 1), o 4 (.mv (.t 14)), o 5 (.mv (.t 15))])
  (.seq (.reg [o 6 (.mv (.c (.str [])))])
  (.seq (.seq (.reg [o 7 (.mv (.c (.int .i64 0)))])
  (.block 0 (.loop (.seq (.seq (.reg [o 16 (.mv (.t 7)), o 17 (.mv (.t 4)), o 18 (.lenL (.t 17)), o 19 (.bin .lss (.t 16) (.t 18))])
    (.cond (.t 19) (.skip) (.exit 0)))
    (.seq (.block 1 (.seq (.seq (.reg [o 22 (.mv (.t 7)), o 23 (.bin .gtr (.t 22) (.c (.int .i64 0)))])
     (.cond (.t 23) (.reg [o 24 (.mv (.t 6)), o 25 (.bin .add (.t 24) (.c (.str [47]))), o 6 (.mv (.t 25))]) (.skip)))
     (.reg [o 26 (.mv (.t 6)), o 27 (.mv (.t 4)), o 28 (.mv (.t 7)), o 29 (.iaddr 1 (.t 27) (.t 28)), o 30 (.load none (.t 29)), o 31 (.bin .add (.t 26) (.t 30)), o 6 (.mv (.t 31))])))
    (.reg [o 20 (.mv (.t 7)), o 21 (.bin .add (.t 20) (.c (.int .i64 1))), o 7 (.mv (.t 21))]))))))
  (.seq (.seq (.reg [o 32 (.mv (.t 5)), o 33 (.un .not (.t 32)), o 34 (.mv (.t 33)), og 35 (.mv (.t 6)) 34 false, og 36 (.lenS (.t 35)) 34 false, og 37 (.call 91 [(.t 36), (.c (.int .i64 1)), (.c (.int .i64 60))]) 34 false, og 38 (.un .not (.t 37)) 34 false, o 39 (.pick (.t 34) (.c (.bool true)) (.t 38))])
  (.cond (.t 39) (.seq (.reg [o 2 (.mv (.c (.str []))), o 3 (.mv (.c (.bool false)))])
   (.ret)) (.skip)))
  (.seq (.reg [o 40 (.mv (.t 6)), o 2 (.mv (.t 40)), o 3 (.mv (.c (.bool true)))])
  (.ret))))))),
  [.tmp 2, .tmp 3]⟩
/- loop.example/g03011/spec.Min -/
def F80 : Fun := ⟨10,
  .seq (.reg [o 4 (.mv (.c (.int .i64 0)))])
  (.seq (.seq (.reg [o 5 (.mv (.t 1)), o 6 (.mv (.t 0)), o 7 (.bin .lss (.t 5) (.t 6))])
  (.cond (.t 7) (.seq (.reg [o 8 (.mv (.t 1)), o 4 (.mv (.t 8))])
   (.ret)) (.skip)))
  (.seq (.reg [o 9 (.mv (.t 0)), o 4 (.mv (.t 9))])
  (.ret))),
  [.tmp 4]⟩
/- strings.Cut -/
def F81 : Fun := ⟨13,
  .seq (.reg [o 4 (.mv (.c (.str []))), o 5 (.mv (.c (.str []))), o 6 (.mv (.c (.bool false)))])
  (.seq (.reg [o 7 (.mv (.t 0)), o 8 (.mv (.t 1)), o 9 (.call 128 [(.t 7), (.t 8)]), o 10 (.extract (.t 9) 0), o 11 (.extract (.t 9) 1), o 12 (.extract (.t 9) 2), o 4 (.mv (.t 10)), o 5 (.mv (.t 11)), o 6 (.mv (.t 12))])
  (.ret)),
  [.tmp 4, .tmp 5, .tmp 6]⟩
/- strings.CutPrefix -/
def F82 : Fun := ⟨11,
  .seq (.reg [o 4 (.mv (.c (.str []))), o 5 (.mv (.c (.bool false)))])
  (.seq (.reg [o 6 (.mv (.t 0)), o 7 (.mv (.t 1)), o 8 (.call 129 [(.t 6), (.t 7)]), o 9 (.extract (.t 8) 0), o 10 (.extract (.t 8) 1), o 4 (.mv (.t 9)), o 5 (.mv (.t 10))])
  (.ret)),
  [.tmp 4, .tmp 5]⟩
/- strings.CutSuffix -/
def F83 : Fun := ⟨11,
  .seq (.reg [o 4 (.mv (.c (.str []))), o 5 (.mv (.c (.bool false)))])
  (.seq (.reg [o 6 (.mv (.t 0)), o 7 (.mv (.t 1)), o 8 (.call 130 [(.t 6), (.t 7)]), o 9 (.extract (.t 8) 0), o 10 (.extract (.t 8) 1), o 4 (.mv (.t 9)), o 5 (.mv (.t 10))])
  (.ret)),
  [.tmp 4, .tmp 5]⟩
/- loop.example/g03011/impl.NormalPath -/
def F84 : Fun := ⟨26,
  .seq (.reg [o 2 (.mv (.c (.str []))), o 3 (.mv (.c (.bool false)))])
  (.seq (.seq (.reg [o 7 (.mv (.t 0)), o 8 (.lenS (.t 7)), o 9 (.bin .gtr (.t 8) (.c (.int .i64 400)))])
  (.cond (.t 9) (.seq (.reg [o 2 (.mv (.c (.str []))), o 3 (.mv (.c (.bool false)))])
   (.ret)) (.skip)))
  (.seq (.reg [o 11 (.mv (.t 0)), o 12 (.call 131 [(.t 11)]), o 10 (.mv (.t 12)), o 13 (.extract (.t 10) 0), o 14 (.extract (.t 10) 1), o 4 (.mv (.t 13)), o 5 (.mv (.t 14))])
  (.seq (.reg [o 15 (.mv (.t 4)), o 16 (.call 132 [(.t 15), (.c (.str [47]))]), o 6 (.mv (.t 16))])
  (.seq (.seq (.reg [o 17 (.mv (.t 5)), o 18 (.un .not (.t 17)), o 19 (.mv (.t 18)), og 20 (.mv (.t 6)) 19 false, og 21 (.lenS (.t 20)) 19 false, og 22 (.call 93 [(.t 21), (.c (.int .i64 1)), (.c (.int .i64 60))]) 19 false, og 23 (.un .not (.t 22)) 19 false, o 24 (.pick (.t 19) (.c (.bool true)) (.t 23))])
  (.cond (.t 24) (.seq (.reg [o 2 (.mv (.c (.str []))), o 3 (.mv (.c (.bool false)))])
   (.ret)) (.skip)))
  (.seq (.reg [o 25 (.mv (.t 6)), o 2 (.mv (.t 25)), o 3 (.mv (.c (.bool true)))])
  (.ret)))))),
  [.tmp 2, .tmp 3]⟩
/- loop.example/g03011/spec.ParseInt -/
def F85 : Fun := ⟨39,
  .seq (.reg [o 2 (.mv (.c (.int .i64 0))), o 3 (.mv (.c (.bool false)))])
  (.seq (.seq (.reg [o 6 (.mv (.t 0)), o 7 (.lenS (.t 6)), o 8 (.call 91 [(.t 7), (.c (.int .i64 1)), (.c (.int .i64 13))]), o 9 (.un .not (.t 8))])
  (.cond (.t 9) (.seq (.reg [o 2 (.mv (.c (.int .i64 0))), o 3 (.mv (.c (.bool false)))])
   (.ret)) (.skip)))
  (.seq (.reg [o 4 (.mv (.c (.int .i64 0)))])
  (.seq (.seq (.reg [o 5 (.mv (.c (.int .i64 0)))])
  (.block 0 (.loop (.seq (.seq (.reg [o 10 (.mv (.t 5)), o 11 (.mv (.t 0)), o 12 (.lenS (.t 11)), o 13 (.bin .lss (.t 10) (.t 12))])
    (.cond (.t 13) (.skip) (.exit 0)))
    (.seq (.block 1 (.seq (.seq (.reg [o 16 (.mv (.t 0)), o 17 (.mv (.t 5)), o 18 (.index (.t 16) (.t 17)), o 19 (.toInt .i64 (.t 18)), o 20 (.call 91 [(.t 19), (.c (.int .i64 48)), (.c (.int .i64 57))]), o 21 (.un .not (.t 20))])
     (.cond (.t 21) (.seq (.reg [o 2 (.mv (.c (.int .i64 0))), o 3 (.mv (.c (.bool false)))])
      (.ret)) (.skip)))
     (.reg [o 22 (.mv (.t 4)), o 23 (.bin .mul (.c (.int .i64 10)) (.t 22)), o 24 (.mv (.t 0)), o 25 (.mv (.t 5)), o 26 (.index (.t 24) (.t 25)), o 27 (.bin .sub (.t 26) (.c (.int .u8 48))), o 28 (.toInt .i64 (.t 27)), o 29 (.bin .add (.t 23) (.t 28)), o 4 (.mv (.t 29))])))
    (.reg [o 14 (.mv (.t 5)), o 15 (.bin .add (.t 14) (.c (.int .i64 1))), o 5 (.mv (.t 15))]))))))
  (.seq (.seq (.reg [o 30 (.mv (.t 4)), o 31 (.bin .gtr (.t 30) (.c (.int .i64 1000000000000))), o 32 (.mv (.t 31)), og 33 (.mv (.t 4)) 32 false, og 34 (.call 117 [(.t 33)]) 32 false, og 35 (.mv (.t 0)) 32 false, og 36 (.bin .neq (.t 34) (.t 35)) 32 false, o 37 (.pick (.t 32) (.c (.bool true)) (.t 36))])
  (.cond (.t 37) (.seq (.reg [o 2 (.mv (.c (.int .i64 0))), o 3 (.mv (.c (.bool false)))])
   (.ret)) (.skip)))
  (.seq (.reg [o 38 (.mv (.t 4)), o 2 (.mv (.t 38)), o 3 (.mv (.c (.bool true)))])
  (.ret)))))),
  [.tmp 2, .tmp 3]⟩
/- strings.Split -/
def F86 : Fun := ⟨8,
  .seq (.reg [o 4 (.mv (.c .nsl))])
  (.seq (.reg [o 5 (.mv (.t 0)), o 6 (.mv (.t 1)), o 7 (.call 133 [(.t 5), (.t 6), (.c (.int .i64 0)), (.c (.int .i64 (-1)))]), o 4 (.mv (.t 7))])
  (.ret)),
  [.tmp 4]⟩
/- strings.TrimPrefix -/
def F87 : Fun := ⟨8,
  .seq (.reg [o 4 (.mv (.c (.str [])))])
  (.seq (.reg [o 5 (.mv (.t 0)), o 6 (.mv (.t 1)), o 7 (.call 134 [(.t 5), (.t 6)]), o 4 (.mv (.t 7))])
  (.ret)),
  [.tmp 4]⟩
/- loop.example/g03011/impl.ParseInt -/
def F88 : Fun := ⟨8,
  .seq (.reg [o 2 (.mv (.c (.int .i64 0))), o 3 (.mv (.c (.bool false)))])
  (.seq (.reg [o 4 (.mv (.t 0)), o 5 (.call 135 [(.t 4), (.c (.int .i64 0)), (.c (.int .i64 1000000000000))]), o 6 (.extract (.t 5) 0), o 7 (.extract (.t 5) 1), o 2 (.mv (.t 6)), o 3 (.mv (.t 7))])
  (.ret)),
  [.tmp 2, .tmp 3]⟩
/- loop.example/g03011/laws.markHeaderS -/
def F89 : Fun := ⟨29,
  .seq (.reg [o 4 (.mv (.c (.int .i64 0)))])
  (.seq (.seq (.reg [o 5 (.mv (.c (.int .i64 0)))])
  (.block 0 (.loop (.seq (.seq (.reg [o 6 (.mv (.t 5)), o 7 (.mv (.t 0)), o 8 (.lenL (.t 7)), o 9 (.bin .lss (.t 6) (.t 8))])
    (.cond (.t 9) (.skip) (.exit 0)))
    (.seq (.block 1 (.seq (.reg [o 12 (.mv (.t 0)), o 13 (.mv (.t 5)), o 14 (.mv (.t 1)), o 15 (.call 53 [(.t 14)]), o 16 (.iaddr 2 (.t 12) (.t 13)), o 17 (.faddr 0 (.t 16)), st (.store 1 (.t 17) (.t 15))])
     (.seq (.reg [o 18 (.mv (.t 1)), o 19 (.bin .add (.t 18) (.c (.int .i64 1))), o 1 (.mv (.t 19))])
     (.seq (.reg [o 20 (.mv (.t 0)), o 21 (.mv (.t 5)), o 22 (.mv (.t 1)), o 23 (.call 53 [(.t 22)]), o 24 (.iaddr 2 (.t 20) (.t 21)), o 25 (.faddr 1 (.t 24)), st (.store 1 (.t 25) (.t 23))])
     (.reg [o 26 (.mv (.t 1)), o 27 (.bin .add (.t 26) (.c (.int .i64 1))), o 1 (.mv (.t 27))])))))
    (.reg [o 10 (.mv (.t 5)), o 11 (.bin .add (.t 10) (.c (.int .i64 1))), o 5 (.mv (.t 11))]))))))
  (.seq (.reg [o 28 (.mv (.t 1)), o 4 (.mv (.t 28))])
  (.ret))),
  [.tmp 4]⟩
/- loop.example/g03011/laws.heldHeaderS -/
def F90 : Fun := ⟨33,
  .seq (.reg [o 4 (.mv (.c (.int .i64 0)))])
  (.seq (.seq (.reg [o 5 (.mv (.c (.int .i64 0)))])
  (.block 0 (.loop (.seq (.seq (.reg [o 6 (.mv (.t 5)), o 7 (.mv (.t 0)), o 8 (.lenL (.t 7)), o 9 (.bin .lss (.t 6) (.t 8))])
    (.cond (.t 9) (.skip) (.exit 0)))
    (.seq (.block 1 (.seq (.seq (.reg [o 12 (.mv (.t 0)), o 13 (.mv (.t 5)), o 14 (.iaddr 2 (.t 12) (.t 13)), o 15 (.faddr 0 (.t 14)), o 16 (.load none (.t 15)), o 17 (.mv (.t 1)), o 18 (.callF 53 [(.t 17)]), o 19 (.bin .neq (.t 16) (.t 18))])
     (.cond (.t 19) (.seq (.reg [o 4 (.mv (.c (.int .i64 (-1))))])
      (.ret)) (.skip)))
     (.seq (.reg [o 20 (.mv (.t 1)), o 21 (.bin .add (.t 20) (.c (.int .i64 1))), o 1 (.mv (.t 21))])
     (.seq (.seq (.reg [o 22 (.mv (.t 0)), o 23 (.mv (.t 5)), o 24 (.iaddr 2 (.t 22) (.t 23)), o 25 (.faddr 1 (.t 24)), o 26 (.load none (.t 25)), o 27 (.mv (.t 1)), o 28 (.callF 53 [(.t 27)]), o 29 (.bin .neq (.t 26) (.t 28))])
     (.cond (.t 29) (.seq (.reg [o 4 (.mv (.c (.int .i64 (-1))))])
      (.ret)) (.skip)))
     (.reg [o 30 (.mv (.t 1)), o 31 (.bin .add (.t 30) (.c (.int .i64 1))), o 1 (.mv (.t 31))])))))
    (.reg [o 10 (.mv (.t 5)), o 11 (.bin .add (.t 10) (.c (.int .i64 1))), o 5 (.mv (.t 11))]))))))
  (.seq (.reg [o 32 (.mv (.t 1)), o 4 (.mv (.t 32))])
  (.ret))),
  [.tmp 4]⟩
/- loop.example/g03011/spec.l1In -/
def F91 : Fun := ⟨15,
  .seq (.reg [o 6 (.mv (.c (.bool false)))])
  (.seq (.reg [o 7 (.mv (.t 0)), o 8 (.mv (.t 1)), o 9 (.bin .geq (.t 7) (.t 8)), o 10 (.mv (.t 9)), og 11 (.mv (.t 0)) 10 true, og 12 (.mv (.t 2)) 10 true, og 13 (.bin .leq (.t 11) (.t 12)) 10 true, o 14 (.pick (.t 10) (.t 13) (.c (.bool false))), o 6 (.mv (.t 14))])
  (.ret)),
  [.tmp 6]⟩
/- loop.example/g03011/spec.NewLines -/
def F92 : Fun := ⟨2,
  .seq (.reg [o 0 (.mv (.c .nsl))])
  (.seq (.reg [o 1 (.mkslice 4 [(.int .i64 0), (.int .i64 0), (.int .i64 0), .nsl] 48 (.c (.int .i64 8)) (.c (.int .i64 8))), o 0 (.mv (.t 1))])
  (.ret)),
  [.tmp 0]⟩
/- loop.example/g03011/impl.InRange -/
def F93 : Fun := ⟨15,
  .seq (.reg [o 6 (.mv (.c (.bool false)))])
  (.seq (.reg [o 7 (.mv (.t 1)), o 8 (.mv (.t 0)), o 9 (.bin .leq (.t 7) (.t 8)), o 10 (.mv (.t 9)), og 11 (.mv (.t 0)) 10 true, og 12 (.mv (.t 2)) 10 true, og 13 (.bin .leq (.t 11) (.t 12)) 10 true, o 14 (.pick (.t 10) (.t 13) (.c (.bool false))), o 6 (.mv (.t 14))])
  (.ret)),
  [.tmp 6]⟩
/- slices.Clone[[]loop.example/g03011/impl.File,loop.example/g03011/impl.File] -/
def F94 : Fun := ⟨8,
  .seq (.reg [o 2 (.mv (.c .nsl))])
  (.seq (.seq (.reg [o 3 (.mv (.t 0)), o 4 (.isnl false (.t 3))])
  (.cond (.t 4) (.seq (.reg [o 2 (.mv (.c .nsl))])
   (.ret)) (.skip)))
  (.seq (.reg [o 5 (.bslice 3 [(.str []), (.str []), (.int .i64 0)] 0 []), o 6 (.mv (.t 0)), o 7 (.append 3 40 (.t 5) (.t 6)), o 2 (.mv (.t 7))])
  (.ret))),
  [.tmp 2]⟩
/- loop.example/g03011/impl.NewLines -/
def F95 : Fun := ⟨2,
  .seq (.reg [o 0 (.mv (.c .nsl))])
  (.seq (.reg [o 1 (.mkslice 4 [(.int .i64 0), (.int .i64 0), (.int .i64 0), .nsl] 48 (.c (.int .i64 8)) (.c (.int .i64 8))), o 0 (.mv (.t 1))])
  (.ret)),
  [.tmp 0]⟩
/- loop.example/g03011/laws.eqLineS -/
def F96 : Fun := ⟨27,
  .seq (.reg [o 4 (.mv (.c (.bool false)))])
  (.seq (.seq (.reg [o 6 (.mv (.t 0)), o 7 (.lenL (.t 6)), o 8 (.mv (.t 1)), o 9 (.lenL (.t 8)), o 10 (.bin .neq (.t 7) (.t 9))])
  (.cond (.t 10) (.seq (.reg [o 4 (.mv (.c (.bool false)))])
   (.ret)) (.skip)))
  (.seq (.seq (.reg [o 5 (.mv (.c (.int .i64 0)))])
  (.block 0 (.loop (.seq (.seq (.reg [o 11 (.mv (.t 5)), o 12 (.mv (.t 0)), o 13 (.lenL (.t 12)), o 14 (.bin .lss (.t 11) (.t 13))])
    (.cond (.t 14) (.skip) (.exit 0)))
    (.seq (.block 1 (.seq (.reg [o 17 (.mv (.t 0)), o 18 (.mv (.t 5)), o 19 (.iaddr 4 (.t 17) (.t 18)), o 20 (.load (some 4) (.t 19)), o 21 (.mv (.t 1)), o 22 (.mv (.t 5)), o 23 (.iaddr 4 (.t 21) (.t 22)), o 24 (.load (some 4) (.t 23)), o 25 (.callF 136 [(.t 20), (.t 24)]), o 26 (.un .not (.t 25))])
     (.cond (.t 26) (.seq (.reg [o 4 (.mv (.c (.bool false)))])
      (.ret)) (.skip))))
    (.reg [o 15 (.mv (.t 5)), o 16 (.bin .add (.t 15) (.c (.int .i64 1))), o 5 (.mv (.t 16))]))))))
  (.seq (.reg [o 4 (.mv (.c (.bool true)))])
  (.ret)))),
  [.tmp 4]⟩
/- loop.example/g03011/laws.eqSessionS -/
def F97 : Fun := ⟨27,
  .seq (.reg [o 4 (.mv (.c (.bool false)))])
  (.seq (.seq (.reg [o 6 (.mv (.t 0)), o 7 (.lenL (.t 6)), o 8 (.mv (.t 1)), o 9 (.lenL (.t 8)), o 10 (.bin .neq (.t 7) (.t 9))])
  (.cond (.t 10) (.seq (.reg [o 4 (.mv (.c (.bool false)))])
   (.ret)) (.skip)))
  (.seq (.seq (.reg [o 5 (.mv (.c (.int .i64 0)))])
  (.block 0 (.loop (.seq (.seq (.reg [o 11 (.mv (.t 5)), o 12 (.mv (.t 0)), o 13 (.lenL (.t 12)), o 14 (.bin .lss (.t 11) (.t 13))])
    (.cond (.t 14) (.skip) (.exit 0)))
    (.seq (.block 1 (.seq (.reg [o 17 (.mv (.t 0)), o 18 (.mv (.t 5)), o 19 (.iaddr 4 (.t 17) (.t 18)), o 20 (.load (some 4) (.t 19)), o 21 (.mv (.t 1)), o 22 (.mv (.t 5)), o 23 (.iaddr 4 (.t 21) (.t 22)), o 24 (.load (some 4) (.t 23)), o 25 (.callF 137 [(.t 20), (.t 24)]), o 26 (.un .not (.t 25))])
     (.cond (.t 26) (.seq (.reg [o 4 (.mv (.c (.bool false)))])
      (.ret)) (.skip))))
    (.reg [o 15 (.mv (.t 5)), o 16 (.bin .add (.t 15) (.c (.int .i64 1))), o 5 (.mv (.t 16))]))))))
  (.seq (.reg [o 4 (.mv (.c (.bool true)))])
  (.ret)))),
  [.tmp 4]⟩
/- loop.example/g03011/laws.eqJobS -/
def F98 : Fun := ⟨27,
  .seq (.reg [o 4 (.mv (.c (.bool false)))])
  (.seq (.seq (.reg [o 6 (.mv (.t 0)), o 7 (.lenL (.t 6)), o 8 (.mv (.t 1)), o 9 (.lenL (.t 8)), o 10 (.bin .neq (.t 7) (.t 9))])
  (.cond (.t 10) (.seq (.reg [o 4 (.mv (.c (.bool false)))])
   (.ret)) (.skip)))
  (.seq (.seq (.reg [o 5 (.mv (.c (.int .i64 0)))])
  (.block 0 (.loop (.seq (.seq (.reg [o 11 (.mv (.t 5)), o 12 (.mv (.t 0)), o 13 (.lenL (.t 12)), o 14 (.bin .lss (.t 11) (.t 13))])
    (.cond (.t 14) (.skip) (.exit 0)))
    (.seq (.block 1 (.seq (.reg [o 17 (.mv (.t 0)), o 18 (.mv (.t 5)), o 19 (.iaddr 5 (.t 17) (.t 18)), o 20 (.load (some 5) (.t 19)), o 21 (.mv (.t 1)), o 22 (.mv (.t 5)), o 23 (.iaddr 5 (.t 21) (.t 22)), o 24 (.load (some 5) (.t 23)), o 25 (.callF 138 [(.t 20), (.t 24)]), o 26 (.un .not (.t 25))])
     (.cond (.t 26) (.seq (.reg [o 4 (.mv (.c (.bool false)))])
      (.ret)) (.skip))))
    (.reg [o 15 (.mv (.t 5)), o 16 (.bin .add (.t 15) (.c (.int .i64 1))), o 5 (.mv (.t 16))]))))))
  (.seq (.reg [o 4 (.mv (.c (.bool true)))])
  (.ret)))),
  [.tmp 4]⟩
/- loop.example/g03011/laws.eqWorkerS -/
def F99 : Fun := ⟨27,
  .seq (.reg [o 4 (.mv (.c (.bool false)))])
  (.seq (.seq (.reg [o 6 (.mv (.t 0)), o 7 (.lenL (.t 6)), o 8 (.mv (.t 1)), o 9 (.lenL (.t 8)), o 10 (.bin .neq (.t 7) (.t 9))])
  (.cond (.t 10) (.seq (.reg [o 4 (.mv (.c (.bool false)))])
   (.ret)) (.skip)))
  (.seq (.seq (.reg [o 5 (.mv (.c (.int .i64 0)))])
  (.block 0 (.loop (.seq (.seq (.reg [o 11 (.mv (.t 5)), o 12 (.mv (.t 0)), o 13 (.lenL (.t 12)), o 14 (.bin .lss (.t 11) (.t 13))])
    (.cond (.t 14) (.skip) (.exit 0)))
    (.seq (.block 1 (.seq (.reg [o 17 (.mv (.t 0)), o 18 (.mv (.t 5)), o 19 (.iaddr 9 (.t 17) (.t 18)), o 20 (.load (some 9) (.t 19)), o 21 (.mv (.t 1)), o 22 (.mv (.t 5)), o 23 (.iaddr 9 (.t 21) (.t 22)), o 24 (.load (some 9) (.t 23)), o 25 (.callF 139 [(.t 20), (.t 24)]), o 26 (.un .not (.t 25))])
     (.cond (.t 26) (.seq (.reg [o 4 (.mv (.c (.bool false)))])
      (.ret)) (.skip))))
    (.reg [o 15 (.mv (.t 5)), o 16 (.bin .add (.t 15) (.c (.int .i64 1))), o 5 (.mv (.t 16))]))))))
  (.seq (.reg [o 4 (.mv (.c (.bool true)))])
  (.ret)))),
  [.tmp 4]⟩
/- loop.example/g03011/laws.eqAnswerS -/
def F100 : Fun := ⟨27,
  .seq (.reg [o 4 (.mv (.c (.bool false)))])
  (.seq (.seq (.reg [o 6 (.mv (.t 0)), o 7 (.lenL (.t 6)), o 8 (.mv (.t 1)), o 9 (.lenL (.t 8)), o 10 (.bin .neq (.t 7) (.t 9))])
  (.cond (.t 10) (.seq (.reg [o 4 (.mv (.c (.bool false)))])
   (.ret)) (.skip)))
  (.seq (.seq (.reg [o 5 (.mv (.c (.int .i64 0)))])
  (.block 0 (.loop (.seq (.seq (.reg [o 11 (.mv (.t 5)), o 12 (.mv (.t 0)), o 13 (.lenL (.t 12)), o 14 (.bin .lss (.t 11) (.t 13))])
    (.cond (.t 14) (.skip) (.exit 0)))
    (.seq (.block 1 (.seq (.reg [o 17 (.mv (.t 0)), o 18 (.mv (.t 5)), o 19 (.iaddr 11 (.t 17) (.t 18)), o 20 (.load (some 11) (.t 19)), o 21 (.mv (.t 1)), o 22 (.mv (.t 5)), o 23 (.iaddr 11 (.t 21) (.t 22)), o 24 (.load (some 11) (.t 23)), o 25 (.callF 140 [(.t 20), (.t 24)]), o 26 (.un .not (.t 25))])
     (.cond (.t 26) (.seq (.reg [o 4 (.mv (.c (.bool false)))])
      (.ret)) (.skip))))
    (.reg [o 15 (.mv (.t 5)), o 16 (.bin .add (.t 15) (.c (.int .i64 1))), o 5 (.mv (.t 16))]))))))
  (.seq (.reg [o 4 (.mv (.c (.bool true)))])
  (.ret)))),
  [.tmp 4]⟩
/- loop.example/g03011/laws.markLineS -/
def F101 : Fun := ⟨41,
  .seq (.reg [o 4 (.mv (.c (.int .i64 0)))])
  (.seq (.seq (.reg [o 5 (.mv (.c (.int .i64 0)))])
  (.block 0 (.loop (.seq (.seq (.reg [o 6 (.mv (.t 5)), o 7 (.mv (.t 0)), o 8 (.lenL (.t 7)), o 9 (.bin .lss (.t 6) (.t 8))])
    (.cond (.t 9) (.skip) (.exit 0)))
    (.seq (.block 1 (.seq (.reg [o 12 (.mv (.t 0)), o 13 (.mv (.t 5)), o 14 (.mv (.t 1)), o 15 (.iaddr 4 (.t 12) (.t 13)), o 16 (.faddr 0 (.t 15)), st (.store 1 (.t 16) (.t 14))])
     (.seq (.reg [o 17 (.mv (.t 1)), o 18 (.bin .add (.t 17) (.c (.int .i64 1))), o 1 (.mv (.t 18))])
     (.seq (.reg [o 19 (.mv (.t 0)), o 20 (.mv (.t 5)), o 21 (.mv (.t 1)), o 22 (.iaddr 4 (.t 19) (.t 20)), o 23 (.faddr 1 (.t 22)), st (.store 1 (.t 23) (.t 21))])
     (.seq (.reg [o 24 (.mv (.t 1)), o 25 (.bin .add (.t 24) (.c (.int .i64 1))), o 1 (.mv (.t 25))])
     (.seq (.reg [o 26 (.mv (.t 0)), o 27 (.mv (.t 5)), o 28 (.mv (.t 1)), o 29 (.iaddr 4 (.t 26) (.t 27)), o 30 (.faddr 2 (.t 29)), st (.store 1 (.t 30) (.t 28))])
     (.seq (.reg [o 31 (.mv (.t 1)), o 32 (.bin .add (.t 31) (.c (.int .i64 1))), o 1 (.mv (.t 32))])
     (.reg [o 33 (.mv (.t 0)), o 34 (.mv (.t 5)), o 35 (.iaddr 4 (.t 33) (.t 34)), o 36 (.faddr 3 (.t 35)), o 37 (.load none (.t 36)), o 38 (.mv (.t 1)), o 39 (.call 141 [(.t 37), (.t 38)]), o 1 (.mv (.t 39))]))))))))
    (.reg [o 10 (.mv (.t 5)), o 11 (.bin .add (.t 10) (.c (.int .i64 1))), o 5 (.mv (.t 11))]))))))
  (.seq (.reg [o 40 (.mv (.t 1)), o 4 (.mv (.t 40))])
  (.ret))),
  [.tmp 4]⟩
/- loop.example/g03011/laws.markSessionS -/
def F102 : Fun := ⟨43,
  .seq (.reg [o 4 (.mv (.c (.int .i64 0)))])
  (.seq (.seq (.reg [o 5 (.mv (.c (.int .i64 0)))])
  (.block 0 (.loop (.seq (.seq (.reg [o 6 (.mv (.t 5)), o 7 (.mv (.t 0)), o 8 (.lenL (.t 7)), o 9 (.bin .lss (.t 6) (.t 8))])
    (.cond (.t 9) (.skip) (.exit 0)))
    (.seq (.block 1 (.seq (.reg [o 12 (.mv (.t 0)), o 13 (.mv (.t 5)), o 14 (.mv (.t 1)), o 15 (.call 53 [(.t 14)]), o 16 (.iaddr 4 (.t 12) (.t 13)), o 17 (.faddr 0 (.t 16)), st (.store 1 (.t 17) (.t 15))])
     (.seq (.reg [o 18 (.mv (.t 1)), o 19 (.bin .add (.t 18) (.c (.int .i64 1))), o 1 (.mv (.t 19))])
     (.seq (.reg [o 20 (.mv (.t 0)), o 21 (.mv (.t 5)), o 22 (.mv (.t 1)), o 23 (.call 53 [(.t 22)]), o 24 (.iaddr 4 (.t 20) (.t 21)), o 25 (.faddr 1 (.t 24)), st (.store 1 (.t 25) (.t 23))])
     (.seq (.reg [o 26 (.mv (.t 1)), o 27 (.bin .add (.t 26) (.c (.int .i64 1))), o 1 (.mv (.t 27))])
     (.seq (.reg [o 28 (.mv (.t 0)), o 29 (.mv (.t 5)), o 30 (.mv (.t 1)), o 31 (.iaddr 4 (.t 28) (.t 29)), o 32 (.faddr 2 (.t 31)), st (.store 1 (.t 32) (.t 30))])
     (.seq (.reg [o 33 (.mv (.t 1)), o 34 (.bin .add (.t 33) (.c (.int .i64 1))), o 1 (.mv (.t 34))])
     (.seq (.reg [o 35 (.mv (.t 0)), o 36 (.mv (.t 5)), o 37 (.mv (.t 1)), o 38 (.iaddr 4 (.t 35) (.t 36)), o 39 (.faddr 3 (.t 38)), st (.store 1 (.t 39) (.t 37))])
     (.reg [o 40 (.mv (.t 1)), o 41 (.bin .add (.t 40) (.c (.int .i64 1))), o 1 (.mv (.t 41))])))))))))
    (.reg [o 10 (.mv (.t 5)), o 11 (.bin .add (.t 10) (.c (.int .i64 1))), o 5 (.mv (.t 11))]))))))
  (.seq (.reg [o 42 (.mv (.t 1)), o 4 (.mv (.t 42))])
  (.ret))),
  [.tmp 4]⟩
/- loop.example/g03011/laws.markJobS -/
def F103 : Fun := ⟨53,
  .seq (.reg [o 4 (.mv (.c (.int .i64 0)))])
  (.seq (.seq (.reg [o 5 (.mv (.c (.int .i64 0)))])
  (.block 0 (.loop (.seq (.seq (.reg [o 6 (.mv (.t 5)), o 7 (.mv (.t 0)), o 8 (.lenL (.t 7)), o 9 (.bin .lss (.t 6) (.t 8))])
    (.cond (.t 9) (.skip) (.exit 0)))
    (.seq (.block 1 (.seq (.reg [o 12 (.mv (.t 0)), o 13 (.mv (.t 5)), o 14 (.mv (.t 1)), o 15 (.iaddr 5 (.t 12) (.t 13)), o 16 (.faddr 0 (.t 15)), st (.store 1 (.t 16) (.t 14))])
     (.seq (.reg [o 17 (.mv (.t 1)), o 18 (.bin .add (.t 17) (.c (.int .i64 1))), o 1 (.mv (.t 18))])
     (.seq (.reg [o 19 (.mv (.t 0)), o 20 (.mv (.t 5)), o 21 (.mv (.t 1)), o 22 (.call 53 [(.t 21)]), o 23 (.iaddr 5 (.t 19) (.t 20)), o 24 (.faddr 1 (.t 23)), o 25 (.faddr 0 (.t 24)), st (.store 1 (.t 25) (.t 22))])
     (.seq (.reg [o 26 (.mv (.t 1)), o 27 (.bin .add (.t 26) (.c (.int .i64 1))), o 1 (.mv (.t 27))])
     (.seq (.reg [o 28 (.mv (.t 0)), o 29 (.mv (.t 5)), o 30 (.iaddr 5 (.t 28) (.t 29)), o 31 (.faddr 1 (.t 30)), o 32 (.faddr 1 (.t 31)), o 33 (.load none (.t 32)), o 34 (.mv (.t 1)), o 35 (.call 15 [(.t 33), (.t 34)]), o 1 (.mv (.t 35))])
     (.seq (.reg [o 36 (.mv (.t 0)), o 37 (.mv (.t 5)), o 38 (.iaddr 5 (.t 36) (.t 37)), o 39 (.faddr 1 (.t 38)), o 40 (.faddr 2 (.t 39)), o 41 (.load none (.t 40)), o 42 (.mv (.t 1)), o 43 (.call 15 [(.t 41), (.t 42)]), o 1 (.mv (.t 43))])
     (.seq (.reg [o 44 (.mv (.t 0)), o 45 (.mv (.t 5)), o 46 (.mv (.t 1)), o 47 (.call 53 [(.t 46)]), o 48 (.iaddr 5 (.t 44) (.t 45)), o 49 (.faddr 4 (.t 48)), st (.store 1 (.t 49) (.t 47))])
     (.reg [o 50 (.mv (.t 1)), o 51 (.bin .add (.t 50) (.c (.int .i64 1))), o 1 (.mv (.t 51))])))))))))
    (.reg [o 10 (.mv (.t 5)), o 11 (.bin .add (.t 10) (.c (.int .i64 1))), o 5 (.mv (.t 11))]))))))
  (.seq (.reg [o 52 (.mv (.t 1)), o 4 (.mv (.t 52))])
  (.ret))),
  [.tmp 4]⟩
/- loop.example/g03011/laws.markWorkerS -/
def F104 : Fun := ⟨87,
  .seq (.reg [o 4 (.mv (.c (.int .i64 0)))])
  (.seq (.seq (.reg [o 5 (.mv (.c (.int .i64 0)))])
  (.block 0 (.loop (.seq (.seq (.reg [o 6 (.mv (.t 5)), o 7 (.mv (.t 0)), o 8 (.lenL (.t 7)), o 9 (.bin .lss (.t 6) (.t 8))])
    (.cond (.t 9) (.skip) (.exit 0)))
    (.seq (.block 1 (.seq (.reg [o 12 (.mv (.t 0)), o 13 (.mv (.t 5)), o 14 (.mv (.t 1)), o 15 (.iaddr 9 (.t 12) (.t 13)), o 16 (.faddr 0 (.t 15)), st (.store 1 (.t 16) (.t 14))])
     (.seq (.reg [o 17 (.mv (.t 1)), o 18 (.bin .add (.t 17) (.c (.int .i64 1))), o 1 (.mv (.t 18))])
     (.seq (.reg [o 19 (.mv (.t 0)), o 20 (.mv (.t 5)), o 21 (.mv (.t 1)), o 22 (.iaddr 9 (.t 19) (.t 20)), o 23 (.faddr 1 (.t 22)), o 24 (.faddr 0 (.t 23)), st (.store 1 (.t 24) (.t 21))])
     (.seq (.reg [o 25 (.mv (.t 1)), o 26 (.bin .add (.t 25) (.c (.int .i64 1))), o 1 (.mv (.t 26))])
     (.seq (.reg [o 27 (.mv (.t 0)), o 28 (.mv (.t 5)), o 29 (.mv (.t 1)), o 30 (.call 53 [(.t 29)]), o 31 (.iaddr 9 (.t 27) (.t 28)), o 32 (.faddr 1 (.t 31)), o 33 (.faddr 1 (.t 32)), o 34 (.faddr 0 (.t 33)), st (.store 1 (.t 34) (.t 30))])
     (.seq (.reg [o 35 (.mv (.t 1)), o 36 (.bin .add (.t 35) (.c (.int .i64 1))), o 1 (.mv (.t 36))])
     (.seq (.reg [o 37 (.mv (.t 0)), o 38 (.mv (.t 5)), o 39 (.iaddr 9 (.t 37) (.t 38)), o 40 (.faddr 1 (.t 39)), o 41 (.faddr 1 (.t 40)), o 42 (.faddr 1 (.t 41)), o 43 (.load none (.t 42)), o 44 (.mv (.t 1)), o 45 (.call 15 [(.t 43), (.t 44)]), o 1 (.mv (.t 45))])
     (.seq (.reg [o 46 (.mv (.t 0)), o 47 (.mv (.t 5)), o 48 (.iaddr 9 (.t 46) (.t 47)), o 49 (.faddr 1 (.t 48)), o 50 (.faddr 1 (.t 49)), o 51 (.faddr 2 (.t 50)), o 52 (.load none (.t 51)), o 53 (.mv (.t 1)), o 54 (.call 15 [(.t 52), (.t 53)]), o 1 (.mv (.t 54))])
     (.seq (.reg [o 55 (.mv (.t 0)), o 56 (.mv (.t 5)), o 57 (.mv (.t 1)), o 58 (.call 53 [(.t 57)]), o 59 (.iaddr 9 (.t 55) (.t 56)), o 60 (.faddr 1 (.t 59)), o 61 (.faddr 4 (.t 60)), st (.store 1 (.t 61) (.t 58))])
     (.seq (.reg [o 62 (.mv (.t 1)), o 63 (.bin .add (.t 62) (.c (.int .i64 1))), o 1 (.mv (.t 63))])
     (.seq (.reg [o 64 (.mv (.t 0)), o 65 (.mv (.t 5)), o 66 (.mv (.t 1)), o 67 (.call 53 [(.t 66)]), o 68 (.iaddr 9 (.t 64) (.t 65)), o 69 (.faddr 6 (.t 68)), st (.store 1 (.t 69) (.t 67))])
     (.seq (.reg [o 70 (.mv (.t 1)), o 71 (.bin .add (.t 70) (.c (.int .i64 1))), o 1 (.mv (.t 71))])
     (.seq (.reg [o 72 (.mv (.t 0)), o 73 (.mv (.t 5)), o 74 (.iaddr 9 (.t 72) (.t 73)), o 75 (.faddr 7 (.t 74)), o 76 (.load none (.t 75)), o 77 (.mv (.t 1)), o 78 (.call 47 [(.t 76), (.t 77)]), o 1 (.mv (.t 78))])
     (.seq (.reg [o 79 (.mv (.t 0)), o 80 (.mv (.t 5)), o 81 (.mv (.t 1)), o 82 (.iaddr 9 (.t 79) (.t 80)), o 83 (.faddr 8 (.t 82)), st (.store 1 (.t 83) (.t 81))])
     (.reg [o 84 (.mv (.t 1)), o 85 (.bin .add (.t 84) (.c (.int .i64 1))), o 1 (.mv (.t 85))]))))))))))))))))
    (.reg [o 10 (.mv (.t 5)), o 11 (.bin .add (.t 10) (.c (.int .i64 1))), o 5 (.mv (.t 11))]))))))
  (.seq (.reg [o 86 (.mv (.t 1)), o 4 (.mv (.t 86))])
  (.ret))),
  [.tmp 4]⟩
/- loop.example/g03011/laws.markAnswerS -/
def F105 : Fun := ⟨101,
  .seq (.reg [o 4 (.mv (.c (.int .i64 0)))])
  (.seq (.seq (.reg [o 5 (.mv (.c (.int .i64 0)))])
  (.block 0 (.loop (.seq (.seq (.reg [o 6 (.mv (.t 5)), o 7 (.mv (.t 0)), o 8 (.lenL (.t 7)), o 9 (.bin .lss (.t 6) (.t 8))])
    (.cond (.t 9) (.skip) (.exit 0)))
    (.seq (.block 1 (.seq (.reg [o 12 (.mv (.t 0)), o 13 (.mv (.t 5)), o 14 (.mv (.t 1)), o 15 (.iaddr 11 (.t 12) (.t 13)), o 16 (.faddr 0 (.t 15)), st (.store 1 (.t 16) (.t 14))])
     (.seq (.reg [o 17 (.mv (.t 1)), o 18 (.bin .add (.t 17) (.c (.int .i64 1))), o 1 (.mv (.t 18))])
     (.seq (.reg [o 19 (.mv (.t 0)), o 20 (.mv (.t 5)), o 21 (.mv (.t 1)), o 22 (.call 53 [(.t 21)]), o 23 (.iaddr 11 (.t 19) (.t 20)), o 24 (.faddr 1 (.t 23)), st (.store 1 (.t 24) (.t 22))])
     (.seq (.reg [o 25 (.mv (.t 1)), o 26 (.bin .add (.t 25) (.c (.int .i64 1))), o 1 (.mv (.t 26))])
     (.seq (.reg [o 27 (.mv (.t 0)), o 28 (.mv (.t 5)), o 29 (.iaddr 11 (.t 27) (.t 28)), o 30 (.faddr 2 (.t 29)), o 31 (.load none (.t 30)), o 32 (.mv (.t 1)), o 33 (.call 47 [(.t 31), (.t 32)]), o 1 (.mv (.t 33))])
     (.seq (.reg [o 34 (.mv (.t 0)), o 35 (.mv (.t 5)), o 36 (.mv (.t 1)), o 37 (.call 53 [(.t 36)]), o 38 (.iaddr 11 (.t 34) (.t 35)), o 39 (.faddr 3 (.t 38)), o 40 (.faddr 0 (.t 39)), st (.store 1 (.t 40) (.t 37))])
     (.seq (.reg [o 41 (.mv (.t 1)), o 42 (.bin .add (.t 41) (.c (.int .i64 1))), o 1 (.mv (.t 42))])
     (.seq (.reg [o 43 (.mv (.t 0)), o 44 (.mv (.t 5)), o 45 (.iaddr 11 (.t 43) (.t 44)), o 46 (.faddr 3 (.t 45)), o 47 (.faddr 1 (.t 46)), o 48 (.load none (.t 47)), o 49 (.mv (.t 1)), o 50 (.call 15 [(.t 48), (.t 49)]), o 1 (.mv (.t 50))])
     (.seq (.reg [o 51 (.mv (.t 0)), o 52 (.mv (.t 5)), o 53 (.iaddr 11 (.t 51) (.t 52)), o 54 (.faddr 3 (.t 53)), o 55 (.faddr 2 (.t 54)), o 56 (.load none (.t 55)), o 57 (.mv (.t 1)), o 58 (.call 15 [(.t 56), (.t 57)]), o 1 (.mv (.t 58))])
     (.seq (.reg [o 59 (.mv (.t 0)), o 60 (.mv (.t 5)), o 61 (.mv (.t 1)), o 62 (.call 53 [(.t 61)]), o 63 (.iaddr 11 (.t 59) (.t 60)), o 64 (.faddr 6 (.t 63)), st (.store 1 (.t 64) (.t 62))])
     (.seq (.reg [o 65 (.mv (.t 1)), o 66 (.bin .add (.t 65) (.c (.int .i64 1))), o 1 (.mv (.t 66))])
     (.seq (.reg [o 67 (.mv (.t 0)), o 68 (.mv (.t 5)), o 69 (.mv (.t 1)), o 70 (.iaddr 11 (.t 67) (.t 68)), o 71 (.faddr 7 (.t 70)), o 72 (.faddr 0 (.t 71)), st (.store 1 (.t 72) (.t 69))])
     (.seq (.reg [o 73 (.mv (.t 1)), o 74 (.bin .add (.t 73) (.c (.int .i64 1))), o 1 (.mv (.t 74))])
     (.seq (.reg [o 75 (.mv (.t 0)), o 76 (.mv (.t 5)), o 77 (.iaddr 11 (.t 75) (.t 76)), o 78 (.faddr 7 (.t 77)), o 79 (.faddr 1 (.t 78)), o 80 (.load none (.t 79)), o 81 (.mv (.t 1)), o 82 (.call 89 [(.t 80), (.t 81)]), o 1 (.mv (.t 82))])
     (.seq (.reg [o 83 (.mv (.t 0)), o 84 (.mv (.t 5)), o 85 (.mv (.t 1)), o 86 (.call 53 [(.t 85)]), o 87 (.iaddr 11 (.t 83) (.t 84)), o 88 (.faddr 7 (.t 87)), o 89 (.faddr 2 (.t 88)), st (.store 1 (.t 89) (.t 86))])
     (.seq (.reg [o 90 (.mv (.t 1)), o 91 (.bin .add (.t 90) (.c (.int .i64 1))), o 1 (.mv (.t 91))])
     (.seq (.reg [o 92 (.mv (.t 0)), o 93 (.mv (.t 5)), o 94 (.mv (.t 1)), o 95 (.call 53 [(.t 94)]), o 96 (.iaddr 11 (.t 92) (.t 93)), o 97 (.faddr 10 (.t 96)), st (.store 1 (.t 97) (.t 95))])
     (.reg [o 98 (.mv (.t 1)), o 99 (.bin .add (.t 98) (.c (.int .i64 1))), o 1 (.mv (.t 99))])))))))))))))))))))
    (.reg [o 10 (.mv (.t 5)), o 11 (.bin .add (.t 10) (.c (.int .i64 1))), o 5 (.mv (.t 11))]))))))
  (.seq (.reg [o 100 (.mv (.t 1)), o 4 (.mv (.t 100))])
  (.ret))),
  [.tmp 4]⟩
/- loop.example/g03011/laws.heldFileS -/
def F106 : Fun := ⟨42,
  .seq (.reg [o 4 (.mv (.c (.int .i64 0)))])
  (.seq (.seq (.reg [o 5 (.mv (.c (.int .i64 0)))])
  (.block 0 (.loop (.seq (.seq (.reg [o 6 (.mv (.t 5)), o 7 (.mv (.t 0)), o 8 (.lenL (.t 7)), o 9 (.bin .lss (.t 6) (.t 8))])
    (.cond (.t 9) (.skip) (.exit 0)))
    (.seq (.block 1 (.seq (.seq (.reg [o 12 (.mv (.t 0)), o 13 (.mv (.t 5)), o 14 (.iaddr 3 (.t 12) (.t 13)), o 15 (.faddr 0 (.t 14)), o 16 (.load none (.t 15)), o 17 (.mv (.t 1)), o 18 (.callF 53 [(.t 17)]), o 19 (.bin .neq (.t 16) (.t 18))])
     (.cond (.t 19) (.seq (.reg [o 4 (.mv (.c (.int .i64 (-1))))])
      (.ret)) (.skip)))
     (.seq (.reg [o 20 (.mv (.t 1)), o 21 (.bin .add (.t 20) (.c (.int .i64 1))), o 1 (.mv (.t 21))])
     (.seq (.seq (.reg [o 22 (.mv (.t 0)), o 23 (.mv (.t 5)), o 24 (.iaddr 3 (.t 22) (.t 23)), o 25 (.faddr 1 (.t 24)), o 26 (.load none (.t 25)), o 27 (.mv (.t 1)), o 28 (.callF 53 [(.t 27)]), o 29 (.bin .neq (.t 26) (.t 28))])
     (.cond (.t 29) (.seq (.reg [o 4 (.mv (.c (.int .i64 (-1))))])
      (.ret)) (.skip)))
     (.seq (.reg [o 30 (.mv (.t 1)), o 31 (.bin .add (.t 30) (.c (.int .i64 1))), o 1 (.mv (.t 31))])
     (.seq (.seq (.reg [o 32 (.mv (.t 0)), o 33 (.mv (.t 5)), o 34 (.iaddr 3 (.t 32) (.t 33)), o 35 (.faddr 2 (.t 34)), o 36 (.load none (.t 35)), o 37 (.mv (.t 1)), o 38 (.bin .neq (.t 36) (.t 37))])
     (.cond (.t 38) (.seq (.reg [o 4 (.mv (.c (.int .i64 (-1))))])
      (.ret)) (.skip)))
     (.reg [o 39 (.mv (.t 1)), o 40 (.bin .add (.t 39) (.c (.int .i64 1))), o 1 (.mv (.t 40))])))))))
    (.reg [o 10 (.mv (.t 5)), o 11 (.bin .add (.t 10) (.c (.int .i64 1))), o 5 (.mv (.t 11))]))))))
  (.seq (.reg [o 41 (.mv (.t 1)), o 4 (.mv (.t 41))])
  (.ret))),
  [.tmp 4]⟩
/- loop.example/g03011/laws.heldLineS -/
def F107 : Fun := ⟨49,
  .seq (.reg [o 4 (.mv (.c (.int .i64 0)))])
  (.seq (.seq (.reg [o 5 (.mv (.c (.int .i64 0)))])
  (.block 0 (.loop (.seq (.seq (.reg [o 6 (.mv (.t 5)), o 7 (.mv (.t 0)), o 8 (.lenL (.t 7)), o 9 (.bin .lss (.t 6) (.t 8))])
    (.cond (.t 9) (.skip) (.exit 0)))
    (.seq (.block 1 (.seq (.seq (.reg [o 12 (.mv (.t 0)), o 13 (.mv (.t 5)), o 14 (.iaddr 4 (.t 12) (.t 13)), o 15 (.faddr 0 (.t 14)), o 16 (.load none (.t 15)), o 17 (.mv (.t 1)), o 18 (.bin .neq (.t 16) (.t 17))])
     (.cond (.t 18) (.seq (.reg [o 4 (.mv (.c (.int .i64 (-1))))])
      (.ret)) (.skip)))
     (.seq (.reg [o 19 (.mv (.t 1)), o 20 (.bin .add (.t 19) (.c (.int .i64 1))), o 1 (.mv (.t 20))])
     (.seq (.seq (.reg [o 21 (.mv (.t 0)), o 22 (.mv (.t 5)), o 23 (.iaddr 4 (.t 21) (.t 22)), o 24 (.faddr 1 (.t 23)), o 25 (.load none (.t 24)), o 26 (.mv (.t 1)), o 27 (.bin .neq (.t 25) (.t 26))])
     (.cond (.t 27) (.seq (.reg [o 4 (.mv (.c (.int .i64 (-1))))])
      (.ret)) (.skip)))
     (.seq (.reg [o 28 (.mv (.t 1)), o 29 (.bin .add (.t 28) (.c (.int .i64 1))), o 1 (.mv (.t 29))])
     (.seq (.seq (.reg [o 30 (.mv (.t 0)), o 31 (.mv (.t 5)), o 32 (.iaddr 4 (.t 30) (.t 31)), o 33 (.faddr 2 (.t 32)), o 34 (.load none (.t 33)), o 35 (.mv (.t 1)), o 36 (.bin .neq (.t 34) (.t 35))])
     (.cond (.t 36) (.seq (.reg [o 4 (.mv (.c (.int .i64 (-1))))])
      (.ret)) (.skip)))
     (.seq (.reg [o 37 (.mv (.t 1)), o 38 (.bin .add (.t 37) (.c (.int .i64 1))), o 1 (.mv (.t 38))])
     (.seq (.reg [o 39 (.mv (.t 0)), o 40 (.mv (.t 5)), o 41 (.iaddr 4 (.t 39) (.t 40)), o 42 (.faddr 3 (.t 41)), o 43 (.load none (.t 42)), o 44 (.mv (.t 1)), o 45 (.call 142 [(.t 43), (.t 44)]), o 1 (.mv (.t 45))])
     (.seq (.reg [o 46 (.mv (.t 1)), o 47 (.bin .lss (.t 46) (.c (.int .i64 0)))])
     (.cond (.t 47) (.seq (.reg [o 4 (.mv (.c (.int .i64 (-1))))])
      (.ret)) (.skip)))))))))))
    (.reg [o 10 (.mv (.t 5)), o 11 (.bin .add (.t 10) (.c (.int .i64 1))), o 5 (.mv (.t 11))]))))))
  (.seq (.reg [o 48 (.mv (.t 1)), o 4 (.mv (.t 48))])
  (.ret))),
  [.tmp 4]⟩
/- loop.example/g03011/laws.heldSessionS -/
def F108 : Fun := ⟨51,
  .seq (.reg [o 4 (.mv (.c (.int .i64 0)))])
  (.seq (.seq (.reg [o 5 (.mv (.c (.int .i64 0)))])
  (.block 0 (.loop (.seq (.seq (.reg [o 6 (.mv (.t 5)), o 7 (.mv (.t 0)), o 8 (.lenL (.t 7)), o 9 (.bin .lss (.t 6) (.t 8))])
    (.cond (.t 9) (.skip) (.exit 0)))
    (.seq (.block 1 (.seq (.seq (.reg [o 12 (.mv (.t 0)), o 13 (.mv (.t 5)), o 14 (.iaddr 4 (.t 12) (.t 13)), o 15 (.faddr 0 (.t 14)), o 16 (.load none (.t 15)), o 17 (.mv (.t 1)), o 18 (.callF 53 [(.t 17)]), o 19 (.bin .neq (.t 16) (.t 18))])
     (.cond (.t 19) (.seq (.reg [o 4 (.mv (.c (.int .i64 (-1))))])
      (.ret)) (.skip)))
     (.seq (.reg [o 20 (.mv (.t 1)), o 21 (.bin .add (.t 20) (.c (.int .i64 1))), o 1 (.mv (.t 21))])
     (.seq (.seq (.reg [o 22 (.mv (.t 0)), o 23 (.mv (.t 5)), o 24 (.iaddr 4 (.t 22) (.t 23)), o 25 (.faddr 1 (.t 24)), o 26 (.load none (.t 25)), o 27 (.mv (.t 1)), o 28 (.callF 53 [(.t 27)]), o 29 (.bin .neq (.t 26) (.t 28))])
     (.cond (.t 29) (.seq (.reg [o 4 (.mv (.c (.int .i64 (-1))))])
      (.ret)) (.skip)))
     (.seq (.reg [o 30 (.mv (.t 1)), o 31 (.bin .add (.t 30) (.c (.int .i64 1))), o 1 (.mv (.t 31))])
     (.seq (.seq (.reg [o 32 (.mv (.t 0)), o 33 (.mv (.t 5)), o 34 (.iaddr 4 (.t 32) (.t 33)), o 35 (.faddr 2 (.t 34)), o 36 (.load none (.t 35)), o 37 (.mv (.t 1)), o 38 (.bin .neq (.t 36) (.t 37))])
     (.cond (.t 38) (.seq (.reg [o 4 (.mv (.c (.int .i64 (-1))))])
      (.ret)) (.skip)))
     (.seq (.reg [o 39 (.mv (.t 1)), o 40 (.bin .add (.t 39) (.c (.int .i64 1))), o 1 (.mv (.t 40))])
     (.seq (.seq (.reg [o 41 (.mv (.t 0)), o 42 (.mv (.t 5)), o 43 (.iaddr 4 (.t 41) (.t 42)), o 44 (.faddr 3 (.t 43)), o 45 (.load none (.t 44)), o 46 (.mv (.t 1)), o 47 (.bin .neq (.t 45) (.t 46))])
     (.cond (.t 47) (.seq (.reg [o 4 (.mv (.c (.int .i64 (-1))))])
      (.ret)) (.skip)))
     (.reg [o 48 (.mv (.t 1)), o 49 (.bin .add (.t 48) (.c (.int .i64 1))), o 1 (.mv (.t 49))])))))))))
    (.reg [o 10 (.mv (.t 5)), o 11 (.bin .add (.t 10) (.c (.int .i64 1))), o 5 (.mv (.t 11))]))))))
  (.seq (.reg [o 50 (.mv (.t 1)), o 4 (.mv (.t 50))])
  (.ret))),
  [.tmp 4]⟩
/- loop.example/g03011/laws.heldJobS -/
def F109 : Fun := ⟨63,
  .seq (.reg [o 4 (.mv (.c (.int .i64 0)))])
  (.seq (.seq (.reg [o 5 (.mv (.c (.int .i64 0)))])
  (.block 0 (.loop (.seq (.seq (.reg [o 6 (.mv (.t 5)), o 7 (.mv (.t 0)), o 8 (.lenL (.t 7)), o 9 (.bin .lss (.t 6) (.t 8))])
    (.cond (.t 9) (.skip) (.exit 0)))
    (.seq (.block 1 (.seq (.seq (.reg [o 12 (.mv (.t 0)), o 13 (.mv (.t 5)), o 14 (.iaddr 5 (.t 12) (.t 13)), o 15 (.faddr 0 (.t 14)), o 16 (.load none (.t 15)), o 17 (.mv (.t 1)), o 18 (.bin .neq (.t 16) (.t 17))])
     (.cond (.t 18) (.seq (.reg [o 4 (.mv (.c (.int .i64 (-1))))])
      (.ret)) (.skip)))
     (.seq (.reg [o 19 (.mv (.t 1)), o 20 (.bin .add (.t 19) (.c (.int .i64 1))), o 1 (.mv (.t 20))])
     (.seq (.seq (.reg [o 21 (.mv (.t 0)), o 22 (.mv (.t 5)), o 23 (.iaddr 5 (.t 21) (.t 22)), o 24 (.faddr 1 (.t 23)), o 25 (.faddr 0 (.t 24)), o 26 (.load none (.t 25)), o 27 (.mv (.t 1)), o 28 (.callF 53 [(.t 27)]), o 29 (.bin .neq (.t 26) (.t 28))])
     (.cond (.t 29) (.seq (.reg [o 4 (.mv (.c (.int .i64 (-1))))])
      (.ret)) (.skip)))
     (.seq (.reg [o 30 (.mv (.t 1)), o 31 (.bin .add (.t 30) (.c (.int .i64 1))), o 1 (.mv (.t 31))])
     (.seq (.reg [o 32 (.mv (.t 0)), o 33 (.mv (.t 5)), o 34 (.iaddr 5 (.t 32) (.t 33)), o 35 (.faddr 1 (.t 34)), o 36 (.faddr 1 (.t 35)), o 37 (.load none (.t 36)), o 38 (.mv (.t 1)), o 39 (.call 16 [(.t 37), (.t 38)]), o 1 (.mv (.t 39))])
     (.seq (.seq (.reg [o 40 (.mv (.t 1)), o 41 (.bin .lss (.t 40) (.c (.int .i64 0)))])
     (.cond (.t 41) (.seq (.reg [o 4 (.mv (.c (.int .i64 (-1))))])
      (.ret)) (.skip)))
     (.seq (.reg [o 42 (.mv (.t 0)), o 43 (.mv (.t 5)), o 44 (.iaddr 5 (.t 42) (.t 43)), o 45 (.faddr 1 (.t 44)), o 46 (.faddr 2 (.t 45)), o 47 (.load none (.t 46)), o 48 (.mv (.t 1)), o 49 (.call 16 [(.t 47), (.t 48)]), o 1 (.mv (.t 49))])
     (.seq (.seq (.reg [o 50 (.mv (.t 1)), o 51 (.bin .lss (.t 50) (.c (.int .i64 0)))])
     (.cond (.t 51) (.seq (.reg [o 4 (.mv (.c (.int .i64 (-1))))])
      (.ret)) (.skip)))
     (.seq (.seq (.reg [o 52 (.mv (.t 0)), o 53 (.mv (.t 5)), o 54 (.iaddr 5 (.t 52) (.t 53)), o 55 (.faddr 4 (.t 54)), o 56 (.load none (.t 55)), o 57 (.mv (.t 1)), o 58 (.callF 53 [(.t 57)]), o 59 (.bin .neq (.t 56) (.t 58))])
     (.cond (.t 59) (.seq (.reg [o 4 (.mv (.c (.int .i64 (-1))))])
      (.ret)) (.skip)))
     (.reg [o 60 (.mv (.t 1)), o 61 (.bin .add (.t 60) (.c (.int .i64 1))), o 1 (.mv (.t 61))])))))))))))
    (.reg [o 10 (.mv (.t 5)), o 11 (.bin .add (.t 10) (.c (.int .i64 1))), o 5 (.mv (.t 11))]))))))
  (.seq (.reg [o 62 (.mv (.t 1)), o 4 (.mv (.t 62))])
  (.ret))),
  [.tmp 4]⟩
/- loop.example/g03011/laws.heldWorkerS -/
def F110 : Fun := ⟨105,
  .seq (.reg [o 4 (.mv (.c (.int .i64 0)))])
  (.seq (.seq (.reg [o 5 (.mv (.c (.int .i64 0)))])
  (.block 0 (.loop (.seq (.seq (.reg [o 6 (.mv (.t 5)), o 7 (.mv (.t 0)), o 8 (.lenL (.t 7)), o 9 (.bin .lss (.t 6) (.t 8))])
    (.cond (.t 9) (.skip) (.exit 0)))
    (.seq (.block 1 (.seq (.seq (.reg [o 12 (.mv (.t 0)), o 13 (.mv (.t 5)), o 14 (.iaddr 9 (.t 12) (.t 13)), o 15 (.faddr 0 (.t 14)), o 16 (.load none (.t 15)), o 17 (.mv (.t 1)), o 18 (.bin .neq (.t 16) (.t 17))])
     (.cond (.t 18) (.seq (.reg [o 4 (.mv (.c (.int .i64 (-1))))])
      (.ret)) (.skip)))
     (.seq (.reg [o 19 (.mv (.t 1)), o 20 (.bin .add (.t 19) (.c (.int .i64 1))), o 1 (.mv (.t 20))])
     (.seq (.seq (.reg [o 21 (.mv (.t 0)), o 22 (.mv (.t 5)), o 23 (.iaddr 9 (.t 21) (.t 22)), o 24 (.faddr 1 (.t 23)), o 25 (.faddr 0 (.t 24)), o 26 (.load none (.t 25)), o 27 (.mv (.t 1)), o 28 (.bin .neq (.t 26) (.t 27))])
     (.cond (.t 28) (.seq (.reg [o 4 (.mv (.c (.int .i64 (-1))))])
      (.ret)) (.skip)))
     (.seq (.reg [o 29 (.mv (.t 1)), o 30 (.bin .add (.t 29) (.c (.int .i64 1))), o 1 (.mv (.t 30))])
     (.seq (.seq (.reg [o 31 (.mv (.t 0)), o 32 (.mv (.t 5)), o 33 (.iaddr 9 (.t 31) (.t 32)), o 34 (.faddr 1 (.t 33)), o 35 (.faddr 1 (.t 34)), o 36 (.faddr 0 (.t 35)), o 37 (.load none (.t 36)), o 38 (.mv (.t 1)), o 39 (.callF 53 [(.t 38)]), o 40 (.bin .neq (.t 37) (.t 39))])
     (.cond (.t 40) (.seq (.reg [o 4 (.mv (.c (.int .i64 (-1))))])
      (.ret)) (.skip)))
     (.seq (.reg [o 41 (.mv (.t 1)), o 42 (.bin .add (.t 41) (.c (.int .i64 1))), o 1 (.mv (.t 42))])
     (.seq (.reg [o 43 (.mv (.t 0)), o 44 (.mv (.t 5)), o 45 (.iaddr 9 (.t 43) (.t 44)), o 46 (.faddr 1 (.t 45)), o 47 (.faddr 1 (.t 46)), o 48 (.faddr 1 (.t 47)), o 49 (.load none (.t 48)), o 50 (.mv (.t 1)), o 51 (.call 16 [(.t 49), (.t 50)]), o 1 (.mv (.t 51))])
     (.seq (.seq (.reg [o 52 (.mv (.t 1)), o 53 (.bin .lss (.t 52) (.c (.int .i64 0)))])
     (.cond (.t 53) (.seq (.reg [o 4 (.mv (.c (.int .i64 (-1))))])
      (.ret)) (.skip)))
     (.seq (.reg [o 54 (.mv (.t 0)), o 55 (.mv (.t 5)), o 56 (.iaddr 9 (.t 54) (.t 55)), o 57 (.faddr 1 (.t 56)), o 58 (.faddr 1 (.t 57)), o 59 (.faddr 2 (.t 58)), o 60 (.load none (.t 59)), o 61 (.mv (.t 1)), o 62 (.call 16 [(.t 60), (.t 61)]), o 1 (.mv (.t 62))])
     (.seq (.seq (.reg [o 63 (.mv (.t 1)), o 64 (.bin .lss (.t 63) (.c (.int .i64 0)))])
     (.cond (.t 64) (.seq (.reg [o 4 (.mv (.c (.int .i64 (-1))))])
      (.ret)) (.skip)))
     (.seq (.seq (.reg [o 65 (.mv (.t 0)), o 66 (.mv (.t 5)), o 67 (.iaddr 9 (.t 65) (.t 66)), o 68 (.faddr 1 (.t 67)), o 69 (.faddr 4 (.t 68)), o 70 (.load none (.t 69)), o 71 (.mv (.t 1)), o 72 (.callF 53 [(.t 71)]), o 73 (.bin .neq (.t 70) (.t 72))])
     (.cond (.t 73) (.seq (.reg [o 4 (.mv (.c (.int .i64 (-1))))])
      (.ret)) (.skip)))
     (.seq (.reg [o 74 (.mv (.t 1)), o 75 (.bin .add (.t 74) (.c (.int .i64 1))), o 1 (.mv (.t 75))])
     (.seq (.seq (.reg [o 76 (.mv (.t 0)), o 77 (.mv (.t 5)), o 78 (.iaddr 9 (.t 76) (.t 77)), o 79 (.faddr 6 (.t 78)), o 80 (.load none (.t 79)), o 81 (.mv (.t 1)), o 82 (.callF 53 [(.t 81)]), o 83 (.bin .neq (.t 80) (.t 82))])
     (.cond (.t 83) (.seq (.reg [o 4 (.mv (.c (.int .i64 (-1))))])
      (.ret)) (.skip)))
     (.seq (.reg [o 84 (.mv (.t 1)), o 85 (.bin .add (.t 84) (.c (.int .i64 1))), o 1 (.mv (.t 85))])
     (.seq (.reg [o 86 (.mv (.t 0)), o 87 (.mv (.t 5)), o 88 (.iaddr 9 (.t 86) (.t 87)), o 89 (.faddr 7 (.t 88)), o 90 (.load none (.t 89)), o 91 (.mv (.t 1)), o 92 (.call 106 [(.t 90), (.t 91)]), o 1 (.mv (.t 92))])
     (.seq (.seq (.reg [o 93 (.mv (.t 1)), o 94 (.bin .lss (.t 93) (.c (.int .i64 0)))])
     (.cond (.t 94) (.seq (.reg [o 4 (.mv (.c (.int .i64 (-1))))])
      (.ret)) (.skip)))
     (.seq (.seq (.reg [o 95 (.mv (.t 0)), o 96 (.mv (.t 5)), o 97 (.iaddr 9 (.t 95) (.t 96)), o 98 (.faddr 8 (.t 97)), o 99 (.load none (.t 98)), o 100 (.mv (.t 1)), o 101 (.bin .neq (.t 99) (.t 100))])
     (.cond (.t 101) (.seq (.reg [o 4 (.mv (.c (.int .i64 (-1))))])
      (.ret)) (.skip)))
     (.reg [o 102 (.mv (.t 1)), o 103 (.bin .add (.t 102) (.c (.int .i64 1))), o 1 (.mv (.t 103))])))))))))))))))))))
    (.reg [o 10 (.mv (.t 5)), o 11 (.bin .add (.t 10) (.c (.int .i64 1))), o 5 (.mv (.t 11))]))))))
  (.seq (.reg [o 104 (.mv (.t 1)), o 4 (.mv (.t 104))])
  (.ret))),
  [.tmp 4]⟩
/- loop.example/g03011/laws.heldAnswerS -/
def F111 : Fun := ⟨123,
  .seq (.reg [o 4 (.mv (.c (.int .i64 0)))])
  (.seq (.seq (.reg [o 5 (.mv (.c (.int .i64 0)))])
  (.block 0 (.loop (.seq (.seq (.reg [o 6 (.mv (.t 5)), o 7 (.mv (.t 0)), o 8 (.lenL (.t 7)), o 9 (.bin .lss (.t 6) (.t 8))])
    (.cond (.t 9) (.skip) (.exit 0)))
    (.seq (.block 1 (.seq (.seq (.reg [o 12 (.mv (.t 0)), o 13 (.mv (.t 5)), o 14 (.iaddr 11 (.t 12) (.t 13)), o 15 (.faddr 0 (.t 14)), o 16 (.load none (.t 15)), o 17 (.mv (.t 1)), o 18 (.bin .neq (.t 16) (.t 17))])
     (.cond (.t 18) (.seq (.reg [o 4 (.mv (.c (.int .i64 (-1))))])
      (.ret)) (.skip)))
     (.seq (.reg [o 19 (.mv (.t 1)), o 20 (.bin .add (.t 19) (.c (.int .i64 1))), o 1 (.mv (.t 20))])
     (.seq (.seq (.reg [o 21 (.mv (.t 0)), o 22 (.mv (.t 5)), o 23 (.iaddr 11 (.t 21) (.t 22)), o 24 (.faddr 1 (.t 23)), o 25 (.load none (.t 24)), o 26 (.mv (.t 1)), o 27 (.callF 53 [(.t 26)]), o 28 (.bin .neq (.t 25) (.t 27))])
     (.cond (.t 28) (.seq (.reg [o 4 (.mv (.c (.int .i64 (-1))))])
      (.ret)) (.skip)))
     (.seq (.reg [o 29 (.mv (.t 1)), o 30 (.bin .add (.t 29) (.c (.int .i64 1))), o 1 (.mv (.t 30))])
     (.seq (.reg [o 31 (.mv (.t 0)), o 32 (.mv (.t 5)), o 33 (.iaddr 11 (.t 31) (.t 32)), o 34 (.faddr 2 (.t 33)), o 35 (.load none (.t 34)), o 36 (.mv (.t 1)), o 37 (.call 106 [(.t 35), (.t 36)]), o 1 (.mv (.t 37))])
     (.seq (.seq (.reg [o 38 (.mv (.t 1)), o 39 (.bin .lss (.t 38) (.c (.int .i64 0)))])
     (.cond (.t 39) (.seq (.reg [o 4 (.mv (.c (.int .i64 (-1))))])
      (.ret)) (.skip)))
     (.seq (.seq (.reg [o 40 (.mv (.t 0)), o 41 (.mv (.t 5)), o 42 (.iaddr 11 (.t 40) (.t 41)), o 43 (.faddr 3 (.t 42)), o 44 (.faddr 0 (.t 43)), o 45 (.load none (.t 44)), o 46 (.mv (.t 1)), o 47 (.callF 53 [(.t 46)]), o 48 (.bin .neq (.t 45) (.t 47))])
     (.cond (.t 48) (.seq (.reg [o 4 (.mv (.c (.int .i64 (-1))))])
      (.ret)) (.skip)))
     (.seq (.reg [o 49 (.mv (.t 1)), o 50 (.bin .add (.t 49) (.c (.int .i64 1))), o 1 (.mv (.t 50))])
     (.seq (.reg [o 51 (.mv (.t 0)), o 52 (.mv (.t 5)), o 53 (.iaddr 11 (.t 51) (.t 52)), o 54 (.faddr 3 (.t 53)), o 55 (.faddr 1 (.t 54)), o 56 (.load none (.t 55)), o 57 (.mv (.t 1)), o 58 (.call 16 [(.t 56), (.t 57)]), o 1 (.mv (.t 58))])
     (.seq (.seq (.reg [o 59 (.mv (.t 1)), o 60 (.bin .lss (.t 59) (.c (.int .i64 0)))])
     (.cond (.t 60) (.seq (.reg [o 4 (.mv (.c (.int .i64 (-1))))])
      (.ret)) (.skip)))
     (.seq (.reg [o 61 (.mv (.t 0)), o 62 (.mv (.t 5)), o 63 (.iaddr 11 (.t 61) (.t 62)), o 64 (.faddr 3 (.t 63)), o 65 (.faddr 2 (.t 64)), o 66 (.load none (.t 65)), o 67 (.mv (.t 1)), o 68 (.call 16 [(.t 66), (.t 67)]), o 1 (.mv (.t 68))])
     (.seq (.seq (.reg [o 69 (.mv (.t 1)), o 70 (.bin .lss (.t 69) (.c (.int .i64 0)))])
     (.cond (.t 70) (.seq (.reg [o 4 (.mv (.c (.int .i64 (-1))))])
      (.ret)) (.skip)))
     (.seq (.seq (.reg [o 71 (.mv (.t 0)), o 72 (.mv (.t 5)), o 73 (.iaddr 11 (.t 71) (.t 72)), o 74 (.faddr 6 (.t 73)), o 75 (.load none (.t 74)), o 76 (.mv (.t 1)), o 77 (.callF 53 [(.t 76)]), o 78 (.bin .neq (.t 75) (.t 77))])
     (.cond (.t 78) (.seq (.reg [o 4 (.mv (.c (.int .i64 (-1))))])
      (.ret)) (.skip)))
     (.seq (.reg [o 79 (.mv (.t 1)), o 80 (.bin .add (.t 79) (.c (.int .i64 1))), o 1 (.mv (.t 80))])
     (.seq (.seq (.reg [o 81 (.mv (.t 0)), o 82 (.mv (.t 5)), o 83 (.iaddr 11 (.t 81) (.t 82)), o 84 (.faddr 7 (.t 83)), o 85 (.faddr 0 (.t 84)), o 86 (.load none (.t 85)), o 87 (.mv (.t 1)), o 88 (.bin .neq (.t 86) (.t 87))])
     (.cond (.t 88) (.seq (.reg [o 4 (.mv (.c (.int .i64 (-1))))])
      (.ret)) (.skip)))
     (.seq (.reg [o 89 (.mv (.t 1)), o 90 (.bin .add (.t 89) (.c (.int .i64 1))), o 1 (.mv (.t 90))])
     (.seq (.reg [o 91 (.mv (.t 0)), o 92 (.mv (.t 5)), o 93 (.iaddr 11 (.t 91) (.t 92)), o 94 (.faddr 7 (.t 93)), o 95 (.faddr 1 (.t 94)), o 96 (.load none (.t 95)), o 97 (.mv (.t 1)), o 98 (.call 90 [(.t 96), (.t 97)]), o 1 (.mv (.t 98))])
     (.seq (.seq (.reg [o 99 (.mv (.t 1)), o 100 (.bin .lss (.t 99) (.c (.int .i64 0)))])
     (.cond (.t 100) (.seq (.reg [o 4 (.mv (.c (.int .i64 (-1))))])
      (.ret)) (.skip)))
     (.seq (.seq (.reg [o 101 (.mv (.t 0)), o 102 (.mv (.t 5)), o 103 (.iaddr 11 (.t 101) (.t 102)), o 104 (.faddr 7 (.t 103)), o 105 (.faddr 2 (.t 104)), o 106 (.load none (.t 105)), o 107 (.mv (.t 1)), o 108 (.callF 53 [(.t 107)]), o 109 (.bin .neq (.t 106) (.t 108))])
     (.cond (.t 109) (.seq (.reg [o 4 (.mv (.c (.int .i64 (-1))))])
      (.ret)) (.skip)))
     (.seq (.reg [o 110 (.mv (.t 1)), o 111 (.bin .add (.t 110) (.c (.int .i64 1))), o 1 (.mv (.t 111))])
     (.seq (.seq (.reg [o 112 (.mv (.t 0)), o 113 (.mv (.t 5)), o 114 (.iaddr 11 (.t 112) (.t 113)), o 115 (.faddr 10 (.t 114)), o 116 (.load none (.t 115)), o 117 (.mv (.t 1)), o 118 (.callF 53 [(.t 117)]), o 119 (.bin .neq (.t 116) (.t 118))])
     (.cond (.t 119) (.seq (.reg [o 4 (.mv (.c (.int .i64 (-1))))])
      (.ret)) (.skip)))
     (.reg [o 120 (.mv (.t 1)), o 121 (.bin .add (.t 120) (.c (.int .i64 1))), o 1 (.mv (.t 121))])))))))))))))))))))))))
    (.reg [o 10 (.mv (.t 5)), o 11 (.bin .add (.t 10) (.c (.int .i64 1))), o 5 (.mv (.t 11))]))))))
  (.seq (.reg [o 122 (.mv (.t 1)), o 4 (.mv (.t 122))])
  (.ret))),
  [.tmp 4]⟩
/- loop.example/g03011/spec.l36Pair -/
def F112 : Fun := ⟨46,
  .seq (.reg [o 2 (.new 2 [(.str []), (.str [])]), o 3 (.mv (.c (.bool false)))])
  (.seq (.reg [o 4 (.mv (.c (.int .i64 0)))])
  (.seq (.block 0 (.loop (.seq (.seq (.reg [o 9 (.mv (.t 4)), o 10 (.mv (.t 0)), o 11 (.lenS (.t 10)), o 12 (.bin .lss (.t 9) (.t 11)), o 13 (.mv (.t 12)), og 14 (.mv (.t 0)) 13 true, og 15 (.mv (.t 4)) 13 true, og 16 (.index (.t 14) (.t 15)) 13 true, og 17 (.bin .neq (.t 16) (.c (.int .u8 61))) 13 true, o 18 (.pick (.t 13) (.t 17) (.c (.bool false)))])
    (.cond (.t 18) (.skip) (.exit 0)))
    (.block 1 (.reg [o 19 (.mv (.t 4)), o 20 (.bin .add (.t 19) (.c (.int .i64 1))), o 4 (.mv (.t 20))])))))
  (.seq (.reg [o 22 (.mv (.t 0)), o 23 (.mv (.t 4)), o 24 (.sliceS (.t 22) none (some (.t 23))), o 25 (.call 143 [(.t 24)]), o 21 (.mv (.t 25)), o 26 (.extract (.t 21) 0), o 27 (.extract (.t 21) 1), o 5 (.mv (.t 26)), o 6 (.mv (.t 27))])
  (.seq (.reg [o 29 (.mv (.t 0)), o 30 (.mv (.t 0)), o 31 (.lenS (.t 30)), o 32 (.mv (.t 4)), o 33 (.bin .add (.t 32) (.c (.int .i64 1))), o 34 (.call 80 [(.t 31), (.t 33)]), o 35 (.sliceS (.t 29) (some (.t 34)) none), o 36 (.call 143 [(.t 35)]), o 28 (.mv (.t 36)), o 37 (.extract (.t 28) 0), o 38 (.extract (.t 28) 1), o 7 (.mv (.t 37)), o 8 (.mv (.t 38))])
  (.seq (.reg [o 39 (.mv (.t 5)), o 40 (.mv (.t 7)), o 41 (.build [(.str []), (.str [])] [(0, 1, (.t 39)), (1, 1, (.t 40))]), o 42 (.mv (.t 6)), o 43 (.mv (.t 42)), og 44 (.mv (.t 8)) 43 true, o 45 (.pick (.t 43) (.t 44) (.c (.bool false))), st (.store 2 (.t 2) (.t 41)), o 3 (.mv (.t 45))])
  (.ret)))))),
  [.cell 2 (some 2), .tmp 3]⟩
/- loop.example/g03011/impl.UnescapeURL -/
def F113 : Fun := ⟨48,
  .seq (.reg [o 2 (.mv (.c (.str []))), o 3 (.mv (.c (.bool false)))])
  (.seq (.reg [o 8 (.bslice 1 [(.int .u8 0)] 0 []), o 4 (.mv (.t 8))])
  (.seq (.seq (.reg [o 5 (.mv (.c (.int .i64 0)))])
  (.block 0 (.loop (.seq (.seq (.reg [o 9 (.mv (.t 5)), o 10 (.mv (.t 0)), o 11 (.lenS (.t 10)), o 12 (.bin .lss (.t 9) (.t 11))])
    (.cond (.t 12) (.skip) (.exit 0)))
    (.seq (.block 1 (.seq (.reg [o 15 (.mv (.t 0)), o 16 (.mv (.t 5)), o 17 (.index (.t 15) (.t 16))])
     (.block 2 (.seq (.reg [o 25 (.bin .eql (.t 17) (.c (.int .u8 43))), o 24 (.mv (.t 25))])
      (.cond (.t 24) (.reg [o 26 (.mv (.t 4)), o 27 (.bslice 1 [(.int .u8 0)] 1 [(0, (.c (.int .u8 32)))]), o 28 (.append 1 1 (.t 26) (.t 27)), o 4 (.mv (.t 28))]) (.seq (.reg [o 30 (.bin .eql (.t 17) (.c (.int .u8 37))), o 29 (.mv (.t 30))])
       (.cond (.t 29) (.seq (.reg [o 32 (.mv (.t 0)), o 33 (.mv (.t 5)), o 34 (.bin .add (.t 33) (.c (.int .i64 1))), o 35 (.call 144 [(.t 32), (.t 34), (.c (.bool true))]), o 31 (.mv (.t 35)), o 36 (.extract (.t 31) 0), o 37 (.extract (.t 31) 1), o 6 (.mv (.t 36)), o 7 (.mv (.t 37))])
        (.seq (.seq (.reg [o 38 (.mv (.t 7)), o 39 (.un .not (.t 38))])
        (.cond (.t 39) (.seq (.reg [o 2 (.mv (.c (.str []))), o 3 (.mv (.c (.bool false)))])
         (.ret)) (.skip)))
        (.seq (.reg [o 40 (.mv (.t 4)), o 41 (.mv (.t 6)), o 42 (.bslice 1 [(.int .u8 0)] 1 [(0, (.t 41))]), o 43 (.append 1 1 (.t 40) (.t 42)), o 4 (.mv (.t 43))])
        (.reg [o 44 (.mv (.t 5)), o 45 (.bin .add (.t 44) (.c (.int .i64 2))), o 5 (.mv (.t 45))])))) (.reg [o 18 (.mv (.t 4)), o 19 (.mv (.t 0)), o 20 (.mv (.t 5)), o 21 (.index (.t 19) (.t 20)), o 22 (.bslice 1 [(.int .u8 0)] 1 [(0, (.t 21))]), o 23 (.append 1 1 (.t 18) (.t 22)), o 4 (.mv (.t 23))]))))))))
    (.reg [o 13 (.mv (.t 5)), o 14 (.bin .add (.t 13) (.c (.int .i64 1))), o 5 (.mv (.t 14))]))))))
  (.seq (.reg [o 46 (.mv (.t 4)), o 47 (.toStr (.t 46)), o 2 (.mv (.t 47)), o 3 (.mv (.c (.bool true)))])
  (.ret)))),
  [.tmp 2, .tmp 3]⟩
/- loop.example/g03011/laws.szHeader -/
def F114 : Fun := ⟨20,
  .seq (.reg [o 2 (.box 2 (.t 0)), o 4 (.mv (.c (.int .i64 0)))])
  (.seq (.reg [o 5 (.mv (.t 1)), o 6 (.faddr 0 (.t 2)), o 7 (.load none (.t 6)), o 8 (.lenS (.t 7)), o 9 (.bin .sub (.t 5) (.t 8)), o 1 (.mv (.t 9))])
  (.seq (.seq (.reg [o 10 (.mv (.t 1)), o 11 (.bin .lss (.t 10) (.c (.int .i64 0)))])
  (.cond (.t 11) (.seq (.reg [o 4 (.mv (.c (.int .i64 (-1))))])
   (.ret)) (.skip)))
  (.seq (.reg [o 12 (.mv (.t 1)), o 13 (.faddr 1 (.t 2)), o 14 (.load none (.t 13)), o 15 (.lenS (.t 14)), o 16 (.bin .sub (.t 12) (.t 15)), o 1 (.mv (.t 16))])
  (.seq (.seq (.reg [o 17 (.mv (.t 1)), o 18 (.bin .lss (.t 17) (.c (.int .i64 0)))])
  (.cond (.t 18) (.seq (.reg [o 4 (.mv (.c (.int .i64 (-1))))])
   (.ret)) (.skip)))
  (.seq (.reg [o 19 (.mv (.t 1)), o 4 (.mv (.t 19))])
  (.ret)))))),
  [.tmp 4]⟩
/- loop.example/g03011/spec.Reason -/
def F115 : Fun := ⟨14,
  .seq (.reg [o 2 (.mv (.c (.str [])))])
  (.seq (.seq (.reg [o 3 (.mv (.t 0))])
  (.block 0 (.seq (.reg [o 5 (.bin .eql (.t 3) (.c (.int .i64 200))), o 4 (.mv (.t 5))])
   (.cond (.t 4) (.seq (.reg [o 2 (.mv (.c (.str [79, 75])))])
    (.ret)) (.seq (.reg [o 7 (.bin .eql (.t 3) (.c (.int .i64 400))), o 6 (.mv (.t 7))])
    (.cond (.t 6) (.seq (.reg [o 2 (.mv (.c (.str [66, 97, 100, 32, 82, 101, 113, 117, 101, 115, 116])))])
     (.ret)) (.seq (.reg [o 9 (.bin .eql (.t 3) (.c (.int .i64 404))), o 8 (.mv (.t 9))])
     (.cond (.t 8) (.seq (.reg [o 2 (.mv (.c (.str [78, 111, 116, 32, 70, 111, 117, 110, 100])))])
      (.ret)) (.seq (.reg [o 11 (.bin .eql (.t 3) (.c (.int .i64 500))), o 10 (.mv (.t 11))])
      (.cond (.t 10) (.seq (.reg [o 2 (.mv (.c (.str [69, 114, 114, 111, 114])))])
       (.ret)) (.seq (.reg [o 13 (.bin .eql (.t 3) (.c (.int .i64 503))), o 12 (.mv (.t 13))])
       (.cond (.t 12) (.seq (.reg [o 2 (.mv (.c (.str [66, 117, 115, 121])))])
        (.ret)) (.skip)))))))))))))
  (.seq (.reg [o 2 (.mv (.c (.str [])))])
  (.ret))),
  [.tmp 2]⟩
/- loop.example/g03011/spec.IsOutput -/
def F116 : Fun := ⟨79,
  .seq (.reg [o 1 (.box 3 (.t 0)), o 2 (.mv (.c (.bool false)))])
  (.seq (.seq (.reg [o 6 (.load (some 3) (.t 1)), o 7 (.call 145 [(.t 6)]), o 8 (.bin .gtr (.t 7) (.c (.int .i64 3000))), o 9 (.mv (.t 8)), og 10 (.faddr 2 (.t 1)) 9 false, og 11 (.load none (.t 10)) 9 false, og 12 (.lenL (.t 11)) 9 false, og 13 (.bin .gtr (.t 12) (.c (.int .i64 5))) 9 false, o 14 (.pick (.t 9) (.c (.bool true)) (.t 13)), o 15 (.mv (.t 14)), og 16 (.faddr 1 (.t 1)) 15 false, og 17 (.load none (.t 16)) 15 false, og 18 (.lenL (.t 17)) 15 false, og 19 (.bin .gtr (.t 18) (.c (.int .i64 8))) 15 false, o 20 (.pick (.t 15) (.c (.bool true)) (.t 19))])
  (.cond (.t 20) (.seq (.reg [o 2 (.mv (.c (.bool false)))])
   (.ret)) (.skip)))
  (.seq (.seq (.reg [o 3 (.mv (.c (.int .i64 0)))])
  (.block 0 (.loop (.seq (.seq (.reg [o 21 (.mv (.t 3)), o 22 (.faddr 1 (.t 1)), o 23 (.load none (.t 22)), o 24 (.lenL (.t 23)), o 25 (.bin .lss (.t 21) (.t 24))])
    (.cond (.t 25) (.skip) (.exit 0)))
    (.seq (.block 1 (.seq (.seq (.reg [o 4 (.mv (.c (.int .i64 0)))])
     (.block 2 (.loop (.seq (.seq (.reg [o 28 (.mv (.t 4)), o 29 (.mv (.t 3)), o 30 (.bin .lss (.t 28) (.t 29))])
       (.cond (.t 30) (.skip) (.exit 2)))
       (.seq (.block 3 (.seq (.reg [o 33 (.faddr 1 (.t 1)), o 34 (.load none (.t 33)), o 35 (.mv (.t 4)), o 36 (.iaddr 2 (.t 34) (.t 35)), o 37 (.faddr 0 (.t 36)), o 38 (.load none (.t 37)), o 39 (.faddr 1 (.t 1)), o 40 (.load none (.t 39)), o 41 (.mv (.t 3)), o 42 (.iaddr 2 (.t 40) (.t 41)), o 43 (.faddr 0 (.t 42)), o 44 (.load none (.t 43)), o 45 (.bin .eql (.t 38) (.t 44))])
        (.cond (.t 45) (.seq (.reg [o 2 (.mv (.c (.bool false)))])
         (.ret)) (.skip))))
       (.reg [o 31 (.mv (.t 4)), o 32 (.bin .add (.t 31) (.c (.int .i64 1))), o 4 (.mv (.t 32))]))))))
     (.seq (.reg [o 46 (.faddr 1 (.t 1)), o 47 (.load none (.t 46)), o 48 (.mv (.t 3)), o 49 (.iaddr 2 (.t 47) (.t 48)), o 50 (.faddr 0 (.t 49)), o 51 (.load none (.t 50)), o 52 (.call 146 [(.t 51)]), o 53 (.un .not (.t 52)), o 54 (.mv (.t 53)), og 55 (.faddr 1 (.t 1)) 54 false, og 56 (.load none (.t 55)) 54 false, og 57 (.mv (.t 3)) 54 false, og 58 (.iaddr 2 (.t 56) (.t 57)) 54 false, og 59 (.faddr 1 (.t 58)) 54 false, og 60 (.load none (.t 59)) 54 false, og 61 (.call 147 [(.t 60)]) 54 false, og 62 (.un .not (.t 61)) 54 false, o 63 (.pick (.t 54) (.c (.bool true)) (.t 62))])
     (.cond (.t 63) (.seq (.reg [o 2 (.mv (.c (.bool false)))])
      (.ret)) (.skip)))))
    (.reg [o 26 (.mv (.t 3)), o 27 (.bin .add (.t 26) (.c (.int .i64 1))), o 3 (.mv (.t 27))]))))))
  (.seq (.seq (.reg [o 5 (.mv (.c (.int .i64 0)))])
  (.block 4 (.loop (.seq (.seq (.reg [o 64 (.mv (.t 5)), o 65 (.faddr 2 (.t 1)), o 66 (.load none (.t 65)), o 67 (.lenL (.t 66)), o 68 (.bin .lss (.t 64) (.t 67))])
    (.cond (.t 68) (.skip) (.exit 4)))
    (.seq (.block 5 (.seq (.reg [o 71 (.faddr 2 (.t 1)), o 72 (.load none (.t 71)), o 73 (.mv (.t 5)), o 74 (.iaddr 2 (.t 72) (.t 73)), o 75 (.faddr 0 (.t 74)), o 76 (.load none (.t 75)), o 77 (.call 91 [(.t 76), (.c (.int .i64 0)), (.c (.int .i64 3))]), o 78 (.un .not (.t 77))])
     (.cond (.t 78) (.seq (.reg [o 2 (.mv (.c (.bool false)))])
      (.ret)) (.skip))))
    (.reg [o 69 (.mv (.t 5)), o 70 (.bin .add (.t 69) (.c (.int .i64 1))), o 5 (.mv (.t 70))]))))))
  (.seq (.reg [o 2 (.mv (.c (.bool true)))])
  (.ret))))),
  [.tmp 2]⟩
/- loop.example/g03011/spec.FormatInt -/
def F117 : Fun := ⟨31,
  .seq (.reg [o 2 (.mv (.c (.str [])))])
  (.seq (.seq (.reg [o 6 (.mv (.t 0)), o 7 (.bin .eql (.t 6) (.c (.int .i64 0)))])
  (.cond (.t 7) (.seq (.reg [o 2 (.mv (.c (.str [48])))])
   (.ret)) (.skip)))
  (.seq (.reg [o 3 (.mv (.c (.str [])))])
  (.seq (.seq (.reg [o 8 (.mv (.t 0)), o 4 (.mv (.t 8))])
  (.block 0 (.loop (.seq (.seq (.reg [o 9 (.mv (.t 4)), o 10 (.bin .neq (.t 9) (.c (.int .i64 0)))])
    (.cond (.t 10) (.skip) (.exit 0)))
    (.seq (.block 1 (.seq (.reg [o 13 (.mv (.t 4)), o 14 (.bin .rem (.t 13) (.c (.int .i64 10))), o 5 (.mv (.t 14))])
     (.seq (.seq (.reg [o 15 (.mv (.t 5)), o 16 (.bin .lss (.t 15) (.c (.int .i64 0)))])
     (.cond (.t 16) (.reg [o 17 (.mv (.t 5)), o 18 (.un .neg (.t 17)), o 5 (.mv (.t 18))]) (.skip)))
     (.reg [o 19 (.mv (.t 5)), o 20 (.bin .add (.c (.int .i64 48)) (.t 19)), o 21 (.toInt .u8 (.t 20)), o 22 (.bslice 1 [(.int .u8 0)] 1 [(0, (.t 21))]), o 23 (.toStr (.t 22)), o 24 (.mv (.t 3)), o 25 (.bin .add (.t 23) (.t 24)), o 3 (.mv (.t 25))]))))
    (.reg [o 11 (.mv (.t 4)), o 12 (.bin .quo (.t 11) (.c (.int .i64 10))), o 4 (.mv (.t 12))]))))))
  (.seq (.seq (.reg [o 26 (.mv (.t 0)), o 27 (.bin .lss (.t 26) (.c (.int .i64 0)))])
  (.cond (.t 27) (.seq (.reg [o 28 (.mv (.t 3)), o 29 (.bin .add (.c (.str [45])) (.t 28)), o 2 (.mv (.t 29))])
   (.ret)) (.skip)))
  (.seq (.reg [o 30 (.mv (.t 3)), o 2 (.mv (.t 30))])
  (.ret)))))),
  [.tmp 2]⟩
/- loop.example/g03011/laws.toHeader -/
def F118 : Fun := ⟨11,
  .seq (.reg [o 1 (.box 2 (.t 0)), o 2 (.new 2 [(.str []), (.str [])])])
  (.seq (.reg [o 3 (.new 2 [(.str []), (.str [])])])
  (.seq (.reg [o 4 (.faddr 0 (.t 1)), o 5 (.load none (.t 4)), o 6 (.faddr 0 (.t 3)), st (.store 1 (.t 6) (.t 5))])
  (.seq (.reg [o 7 (.faddr 1 (.t 1)), o 8 (.load none (.t 7)), o 9 (.faddr 1 (.t 3)), st (.store 1 (.t 9) (.t 8))])
  (.seq (.reg [o 10 (.load (some 2) (.t 3)), st (.store 2 (.t 2) (.t 10))])
  (.ret))))),
  [.cell 2 (some 2)]⟩
/- loop.example/g03011/impl.IsOutput -/
def F119 : Fun := ⟨63,
  .seq (.reg [o 1 (.box 3 (.t 0)), o 2 (.mv (.c (.bool false)))])
  (.seq (.seq (.reg [o 8 (.load (some 3) (.t 1)), o 9 (.call 148 [(.t 8)]), o 10 (.bin .gtr (.t 9) (.c (.int .i64 3000))), o 11 (.mv (.t 10)), og 12 (.faddr 2 (.t 1)) 11 false, og 13 (.load none (.t 12)) 11 false, og 14 (.lenL (.t 13)) 11 false, og 15 (.bin .gtr (.t 14) (.c (.int .i64 5))) 11 false, o 16 (.pick (.t 11) (.c (.bool true)) (.t 15)), o 17 (.mv (.t 16)), og 18 (.faddr 1 (.t 1)) 17 false, og 19 (.load none (.t 18)) 17 false, og 20 (.lenL (.t 19)) 17 false, og 21 (.bin .gtr (.t 20) (.c (.int .i64 8))) 17 false, o 22 (.pick (.t 17) (.c (.bool true)) (.t 21))])
  (.cond (.t 22) (.seq (.reg [o 2 (.mv (.c (.bool false)))])
   (.ret)) (.skip)))
  (.seq (.seq (.reg [o 23 (.faddr 2 (.t 1)), o 24 (.load none (.t 23)), o 25 (.lenL (.t 24)), o 26 (.mv (.c (.int .i64 0)))])
  (.block 0 (.loop (.seq (.reg [o 27 (.bin .lss (.t 26) (.t 25))])
    (.seq (.cond (.t 27) (.skip) (.exit 0))
    (.seq (.block 1 (.seq (.reg [o 28 (.iaddr 2 (.t 24) (.t 26)), o 29 (.load (some 2) (.t 28)), o 4 (.new 2 [(.int .i64 0), (.str [])]), st (.store 2 (.t 4) (.t 29))])
     (.seq (.reg [o 30 (.faddr 0 (.t 4)), o 31 (.load none (.t 30)), o 32 (.call 93 [(.t 31), (.c (.int .i64 0)), (.c (.int .i64 3))]), o 33 (.un .not (.t 32))])
     (.cond (.t 33) (.seq (.reg [o 2 (.mv (.c (.bool false)))])
      (.ret)) (.skip)))))
    (.reg [o 34 (.bin .add (.t 26) (.c (.int .i64 1))), o 26 (.mv (.t 34))])))))))
  (.seq (.reg [o 35 (.mkmap), o 5 (.mv (.t 35))])
  (.seq (.seq (.reg [o 36 (.faddr 1 (.t 1)), o 37 (.load none (.t 36)), o 38 (.lenL (.t 37)), o 39 (.mv (.c (.int .i64 0)))])
  (.block 2 (.loop (.seq (.reg [o 40 (.bin .lss (.t 39) (.t 38))])
    (.seq (.cond (.t 40) (.skip) (.exit 2))
    (.seq (.block 3 (.seq (.reg [o 41 (.iaddr 2 (.t 37) (.t 39)), o 42 (.load (some 2) (.t 41)), o 7 (.new 2 [(.str []), (.str [])]), st (.store 2 (.t 7) (.t 42))])
     (.seq (.seq (.reg [o 43 (.mv (.t 5)), o 44 (.faddr 0 (.t 7)), o 45 (.load none (.t 44)), o 46 (.lookup 1 (.bool false) false (.t 43) (.t 45)), o 47 (.mv (.t 46)), og 48 (.faddr 0 (.t 7)) 47 false, og 49 (.load none (.t 48)) 47 false, og 50 (.call 149 [(.t 49)]) 47 false, og 51 (.un .not (.t 50)) 47 false, o 52 (.pick (.t 47) (.c (.bool true)) (.t 51)), o 53 (.mv (.t 52)), og 54 (.faddr 1 (.t 7)) 53 false, og 55 (.load none (.t 54)) 53 false, og 56 (.call 150 [(.t 55)]) 53 false, og 57 (.un .not (.t 56)) 53 false, o 58 (.pick (.t 53) (.c (.bool true)) (.t 57))])
     (.cond (.t 58) (.seq (.reg [o 2 (.mv (.c (.bool false)))])
      (.ret)) (.skip)))
     (.reg [o 59 (.mv (.t 5)), o 60 (.faddr 0 (.t 7)), o 61 (.load none (.t 60)), st (.mupd 1 (.t 59) (.t 61) (.c (.bool true)))]))))
    (.reg [o 62 (.bin .add (.t 39) (.c (.int .i64 1))), o 39 (.mv (.t 62))])))))))
  (.seq (.reg [o 2 (.mv (.c (.bool true)))])
  (.ret)))))),
  [.tmp 2]⟩
/- strconv.Itoa -/
def F120 : Fun := ⟨5,
  .seq (.reg [o 2 (.mv (.c (.str [])))])
  (.seq (.reg [o 3 (.mv (.t 0)), o 4 (.call 151 [(.t 3)]), o 2 (.mv (.t 4))])
  (.ret)),
  [.tmp 2]⟩
/- loop.example/g03011/laws.eqHeader -/
def F121 : Fun := ⟨15,
  .seq (.reg [o 2 (.box 2 (.t 0)), o 3 (.box 2 (.t 1)), o 4 (.mv (.c (.bool false)))])
  (.seq (.seq (.reg [o 5 (.faddr 0 (.t 2)), o 6 (.load none (.t 5)), o 7 (.faddr 0 (.t 3)), o 8 (.load none (.t 7)), o 9 (.bin .neq (.t 6) (.t 8))])
  (.cond (.t 9) (.seq (.reg [o 4 (.mv (.c (.bool false)))])
   (.ret)) (.skip)))
  (.seq (.seq (.reg [o 10 (.faddr 1 (.t 2)), o 11 (.load none (.t 10)), o 12 (.faddr 1 (.t 3)), o 13 (.load none (.t 12)), o 14 (.bin .neq (.t 11) (.t 13))])
  (.cond (.t 14) (.seq (.reg [o 4 (.mv (.c (.bool false)))])
   (.ret)) (.skip)))
  (.seq (.reg [o 4 (.mv (.c (.bool true)))])
  (.ret)))),
  [.tmp 4]⟩
/- loop.example/g03011/spec.FindFile -/
def F122 : Fun := ⟨30,
  .seq (.reg [o 4 (.mv (.c (.int .i64 0)))])
  (.seq (.reg [o 9 (.mv (.t 1)), o 10 (.call 79 [(.t 9)]), o 8 (.mv (.t 10)), o 11 (.extract (.t 8) 0), o 12 (.extract (.t 8) 1), o 5 (.mv (.t 11)), o 6 (.mv (.t 12))])
  (.seq (.seq (.reg [o 7 (.mv (.c (.int .i64 0)))])
  (.block 0 (.loop (.seq (.seq (.reg [o 13 (.mv (.t 6)), o 14 (.mv (.t 13)), og 15 (.mv (.t 7)) 14 true, og 16 (.mv (.t 0)) 14 true, og 17 (.lenL (.t 16)) 14 true, og 18 (.bin .lss (.t 15) (.t 17)) 14 true, o 19 (.pick (.t 14) (.t 18) (.c (.bool false)))])
    (.cond (.t 19) (.skip) (.exit 0)))
    (.seq (.block 1 (.seq (.reg [o 22 (.mv (.t 0)), o 23 (.mv (.t 7)), o 24 (.iaddr 3 (.t 22) (.t 23)), o 25 (.faddr 0 (.t 24)), o 26 (.load none (.t 25)), o 27 (.mv (.t 5)), o 28 (.bin .eql (.t 26) (.t 27))])
     (.cond (.t 28) (.seq (.reg [o 29 (.mv (.t 7)), o 4 (.mv (.t 29))])
      (.ret)) (.skip))))
    (.reg [o 20 (.mv (.t 7)), o 21 (.bin .add (.t 20) (.c (.int .i64 1))), o 7 (.mv (.t 21))]))))))
  (.seq (.reg [o 4 (.mv (.c (.int .i64 (-1))))])
  (.ret)))),
  [.tmp 4]⟩
/- loop.example/g03011/laws.szPair -/
def F123 : Fun := ⟨20,
  .seq (.reg [o 2 (.box 2 (.t 0)), o 4 (.mv (.c (.int .i64 0)))])
  (.seq (.reg [o 5 (.mv (.t 1)), o 6 (.faddr 0 (.t 2)), o 7 (.load none (.t 6)), o 8 (.lenS (.t 7)), o 9 (.bin .sub (.t 5) (.t 8)), o 1 (.mv (.t 9))])
  (.seq (.seq (.reg [o 10 (.mv (.t 1)), o 11 (.bin .lss (.t 10) (.c (.int .i64 0)))])
  (.cond (.t 11) (.seq (.reg [o 4 (.mv (.c (.int .i64 (-1))))])
   (.ret)) (.skip)))
  (.seq (.reg [o 12 (.mv (.t 1)), o 13 (.faddr 1 (.t 2)), o 14 (.load none (.t 13)), o 15 (.lenS (.t 14)), o 16 (.bin .sub (.t 12) (.t 15)), o 1 (.mv (.t 16))])
  (.seq (.seq (.reg [o 17 (.mv (.t 1)), o 18 (.bin .lss (.t 17) (.c (.int .i64 0)))])
  (.cond (.t 18) (.seq (.reg [o 4 (.mv (.c (.int .i64 (-1))))])
   (.ret)) (.skip)))
  (.seq (.reg [o 19 (.mv (.t 1)), o 4 (.mv (.t 19))])
  (.ret)))))),
  [.tmp 4]⟩
/- loop.example/g03011/laws.toPair -/
def F124 : Fun := ⟨11,
  .seq (.reg [o 1 (.box 2 (.t 0)), o 2 (.new 2 [(.str []), (.str [])])])
  (.seq (.reg [o 3 (.new 2 [(.str []), (.str [])])])
  (.seq (.reg [o 4 (.faddr 0 (.t 1)), o 5 (.load none (.t 4)), o 6 (.faddr 0 (.t 3)), st (.store 1 (.t 6) (.t 5))])
  (.seq (.reg [o 7 (.faddr 1 (.t 1)), o 8 (.load none (.t 7)), o 9 (.faddr 1 (.t 3)), st (.store 1 (.t 9) (.t 8))])
  (.seq (.reg [o 10 (.load (some 2) (.t 3)), st (.store 2 (.t 2) (.t 10))])
  (.ret))))),
  [.cell 2 (some 2)]⟩
/- loop.example/g03011/spec.l36Format -/
def F125 : Fun := ⟨35,
  .seq (.reg [o 4 (.mv (.c (.str [])))])
  (.seq (.reg [o 5 (.mv (.c (.str [])))])
  (.seq (.seq (.reg [o 6 (.mv (.c (.int .i64 0)))])
  (.block 0 (.loop (.seq (.seq (.reg [o 7 (.mv (.t 6)), o 8 (.mv (.t 0)), o 9 (.lenL (.t 8)), o 10 (.bin .lss (.t 7) (.t 9))])
    (.cond (.t 10) (.skip) (.exit 0)))
    (.seq (.block 1 (.seq (.seq (.reg [o 13 (.mv (.t 6)), o 14 (.bin .gtr (.t 13) (.c (.int .i64 0)))])
     (.cond (.t 14) (.reg [o 15 (.mv (.t 5)), o 16 (.mv (.t 1)), o 17 (.bin .add (.t 15) (.t 16)), o 5 (.mv (.t 17))]) (.skip)))
     (.reg [o 18 (.mv (.t 5)), o 19 (.mv (.t 0)), o 20 (.mv (.t 6)), o 21 (.iaddr 2 (.t 19) (.t 20)), o 22 (.faddr 0 (.t 21)), o 23 (.load none (.t 22)), o 24 (.callF 152 [(.t 23)]), o 25 (.bin .add (.t 18) (.t 24)), o 26 (.bin .add (.t 25) (.c (.str [61]))), o 27 (.mv (.t 0)), o 28 (.mv (.t 6)), o 29 (.iaddr 2 (.t 27) (.t 28)), o 30 (.faddr 1 (.t 29)), o 31 (.load none (.t 30)), o 32 (.callF 152 [(.t 31)]), o 33 (.bin .add (.t 26) (.t 32)), o 5 (.mv (.t 33))])))
    (.reg [o 11 (.mv (.t 6)), o 12 (.bin .add (.t 11) (.c (.int .i64 1))), o 6 (.mv (.t 12))]))))))
  (.seq (.reg [o 34 (.mv (.t 5)), o 4 (.mv (.t 34))])
  (.ret)))),
  [.tmp 4]⟩
/- loop.example/g03011/impl.formatPairs -/
def F126 : Fun := ⟨30,
  .seq (.reg [o 4 (.mv (.c (.str [])))])
  (.seq (.reg [o 8 (.bslice 1 [(.str [])] 0 []), o 5 (.mv (.t 8))])
  (.seq (.seq (.reg [o 9 (.mv (.t 0)), o 10 (.lenL (.t 9)), o 11 (.mv (.c (.int .i64 0)))])
  (.block 0 (.loop (.seq (.reg [o 12 (.bin .lss (.t 11) (.t 10))])
    (.seq (.cond (.t 12) (.skip) (.exit 0))
    (.seq (.block 1 (.seq (.reg [o 13 (.iaddr 2 (.t 9) (.t 11)), o 14 (.load (some 2) (.t 13)), o 7 (.new 2 [(.str []), (.str [])]), st (.store 2 (.t 7) (.t 14))])
     (.reg [o 15 (.mv (.t 5)), o 16 (.faddr 0 (.t 7)), o 17 (.load none (.t 16)), o 18 (.callF 153 [(.t 17)]), o 19 (.bin .add (.t 18) (.c (.str [61]))), o 20 (.faddr 1 (.t 7)), o 21 (.load none (.t 20)), o 22 (.callF 153 [(.t 21)]), o 23 (.bin .add (.t 19) (.t 22)), o 24 (.bslice 1 [(.str [])] 1 [(0, (.t 23))]), o 25 (.append 1 16 (.t 15) (.t 24)), o 5 (.mv (.t 25))])))
    (.reg [o 26 (.bin .add (.t 11) (.c (.int .i64 1))), o 11 (.mv (.t 26))])))))))
  (.seq (.reg [o 27 (.mv (.t 5)), o 28 (.mv (.t 1)), o 29 (.call 132 [(.t 27), (.t 28)]), o 4 (.mv (.t 29))])
  (.ret)))),
  [.tmp 4]⟩
/- loop.example/g03011/spec.SplitPath -/
def F127 : Fun := ⟨60,
  .seq (.reg [o 2 (.mv (.c .nsl)), o 3 (.mv (.c (.bool false)))])
  (.seq (.reg [o 8 (.bslice 1 [(.str [])] 0 []), o 4 (.mv (.t 8))])
  (.seq (.reg [o 5 (.mv (.c (.int .i64 0)))])
  (.seq (.seq (.reg [o 6 (.mv (.c (.int .i64 0)))])
  (.block 0 (.loop (.seq (.seq (.reg [o 9 (.mv (.t 6)), o 10 (.mv (.t 0)), o 11 (.lenS (.t 10)), o 12 (.bin .leq (.t 9) (.t 11))])
    (.cond (.t 12) (.skip) (.exit 0)))
    (.seq (.block 1 (.seq (.seq (.reg [o 15 (.mv (.t 6)), o 16 (.mv (.t 0)), o 17 (.lenS (.t 16)), o 18 (.bin .lss (.t 15) (.t 17)), o 19 (.mv (.t 18)), og 20 (.mv (.t 0)) 19 true, og 21 (.mv (.t 6)) 19 true, og 22 (.index (.t 20) (.t 21)) 19 true, og 23 (.bin .neq (.t 22) (.c (.int .u8 47))) 19 true, o 24 (.pick (.t 19) (.t 23) (.c (.bool false)))])
     (.cond (.t 24) (.exit 1) (.skip)))
     (.seq (.reg [o 25 (.mv (.t 0)), o 26 (.mv (.t 5)), o 27 (.mv (.t 6)), o 28 (.sliceS (.t 25) (some (.t 26)) (some (.t 27))), o 7 (.mv (.t 28))])
     (.seq (.reg [o 29 (.mv (.t 6)), o 30 (.bin .add (.t 29) (.c (.int .i64 1))), o 5 (.mv (.t 30))])
     (.block 2 (.seq (.reg [o 36 (.mv (.t 7)), o 37 (.bin .eql (.t 36) (.c (.str []))), o 38 (.mv (.t 37)), og 39 (.mv (.t 7)) 38 false, og 40 (.bin .eql (.t 39) (.c (.str [46]))) 38 false, o 41 (.pick (.t 38) (.c (.bool true)) (.t 40)), o 35 (.mv (.t 41))])
      (.cond (.t 35) (.skip) (.seq (.reg [o 43 (.mv (.t 7)), o 44 (.bin .eql (.t 43) (.c (.str [46, 46]))), o 42 (.mv (.t 44))])
       (.cond (.t 42) (.seq (.seq (.reg [o 45 (.mv (.t 4)), o 46 (.lenL (.t 45)), o 47 (.bin .eql (.t 46) (.c (.int .i64 0)))])
        (.cond (.t 47) (.seq (.reg [o 48 (.bslice 1 [(.str [])] 0 []), o 2 (.mv (.t 48)), o 3 (.mv (.c (.bool false)))])
         (.ret)) (.skip)))
        (.reg [o 49 (.mv (.t 4)), o 50 (.mv (.t 4)), o 51 (.lenL (.t 50)), o 52 (.bin .sub (.t 51) (.c (.int .i64 1))), o 53 (.slice 1 (.t 49) none (some (.t 52))), o 4 (.mv (.t 53))])) (.seq (.reg [o 55 (.mv (.t 7)), o 56 (.call 154 [(.t 55)]), o 57 (.un .not (.t 56)), o 54 (.mv (.t 57))])
        (.cond (.t 54) (.seq (.reg [o 58 (.bslice 1 [(.str [])] 0 []), o 2 (.mv (.t 58)), o 3 (.mv (.c (.bool false)))])
         (.ret)) (.reg [o 31 (.mv (.t 4)), o 32 (.mv (.t 7)), o 33 (.bslice 1 [(.str [])] 1 [(0, (.t 32))]), o 34 (.append 1 16 (.t 31) (.t 33)), o 4 (.mv (.t 34))]))))))))))))
    (.reg [o 13 (.mv (.t 6)), o 14 (.bin .add (.t 13) (.c (.int .i64 1))), o 6 (.mv (.t 14))]))))))
  (.seq (.reg [o 59 (.mv (.t 4)), o 2 (.mv (.t 59)), o 3 (.mv (.c (.bool true)))])
  (.ret))))),
  [.tmp 2, .tmp 3]⟩
/- internal/stringslite.Cut -/
def F128 : Fun := ⟨23,
  .seq (.reg [o 4 (.mv (.c (.str []))), o 5 (.mv (.c (.str []))), o 6 (.mv (.c (.bool false)))])
  (.seq (.seq (.reg [o 8 (.mv (.t 0)), o 9 (.mv (.t 1)), o 10 (.call 155 [(.t 8), (.t 9)]), o 7 (.mv (.t 10))])
  (.seq (.reg [o 11 (.mv (.t 7)), o 12 (.bin .geq (.t 11) (.c (.int .i64 0)))])
  (.cond (.t 12) (.seq (.reg [o 13 (.mv (.t 0)), o 14 (.mv (.t 7)), o 15 (.sliceS (.t 13) none (some (.t 14))), o 16 (.mv (.t 0)), o 17 (.mv (.t 7)), o 18 (.mv (.t 1)), o 19 (.lenS (.t 18)), o 20 (.bin .add (.t 17) (.t 19)), o 21 (.sliceS (.t 16) (some (.t 20)) none), o 4 (.mv (.t 15)), o 5 (.mv (.t 21)), o 6 (.mv (.c (.bool true)))])
   (.ret)) (.skip))))
  (.seq (.reg [o 22 (.mv (.t 0)), o 4 (.mv (.t 22)), o 5 (.mv (.c (.str []))), o 6 (.mv (.c (.bool false)))])
  (.ret))),
  [.tmp 4, .tmp 5, .tmp 6]⟩
/- internal/stringslite.CutPrefix -/
def F129 : Fun := ⟨15,
  .seq (.reg [o 4 (.mv (.c (.str []))), o 5 (.mv (.c (.bool false)))])
  (.seq (.seq (.reg [o 6 (.mv (.t 0)), o 7 (.mv (.t 1)), o 8 (.call 156 [(.t 6), (.t 7)]), o 9 (.un .not (.t 8))])
  (.cond (.t 9) (.seq (.reg [o 10 (.mv (.t 0)), o 4 (.mv (.t 10)), o 5 (.mv (.c (.bool false)))])
   (.ret)) (.skip)))
  (.seq (.reg [o 11 (.mv (.t 0)), o 12 (.mv (.t 1)), o 13 (.lenS (.t 12)), o 14 (.sliceS (.t 11) (some (.t 13)) none), o 4 (.mv (.t 14)), o 5 (.mv (.c (.bool true)))])
  (.ret))),
  [.tmp 4, .tmp 5]⟩
/- internal/stringslite.CutSuffix -/
def F130 : Fun := ⟨18,
  .seq (.reg [o 4 (.mv (.c (.str []))), o 5 (.mv (.c (.bool false)))])
  (.seq (.seq (.reg [o 6 (.mv (.t 0)), o 7 (.mv (.t 1)), o 8 (.call 157 [(.t 6), (.t 7)]), o 9 (.un .not (.t 8))])
  (.cond (.t 9) (.seq (.reg [o 10 (.mv (.t 0)), o 4 (.mv (.t 10)), o 5 (.mv (.c (.bool false)))])
   (.ret)) (.skip)))
  (.seq (.reg [o 11 (.mv (.t 0)), o 12 (.mv (.t 0)), o 13 (.lenS (.t 12)), o 14 (.mv (.t 1)), o 15 (.lenS (.t 14)), o 16 (.bin .sub (.t 13) (.t 15)), o 17 (.sliceS (.t 11) none (some (.t 16))), o 4 (.mv (.t 17)), o 5 (.mv (.c (.bool true)))])
  (.ret))),
  [.tmp 4, .tmp 5]⟩
/- loop.example/g03011/impl.SplitPath -/
def F131 : Fun := ⟨43,
  .seq (.reg [o 2 (.mv (.c .nsl)), o 3 (.mv (.c (.bool false)))])
  (.seq (.reg [o 7 (.bslice 1 [(.str [])] 0 []), o 4 (.mv (.t 7))])
  (.seq (.seq (.reg [o 8 (.mv (.t 0)), o 9 (.call 86 [(.t 8), (.c (.str [47]))]), o 10 (.lenL (.t 9)), o 11 (.mv (.c (.int .i64 0)))])
  (.block 0 (.loop (.seq (.reg [o 12 (.bin .lss (.t 11) (.t 10))])
    (.seq (.cond (.t 12) (.skip) (.exit 0))
    (.seq (.block 1 (.seq (.reg [o 13 (.iaddr 1 (.t 9) (.t 11)), o 14 (.load none (.t 13)), o 6 (.mv (.t 14))])
     (.block 2 (.seq (.reg [o 20 (.mv (.t 6)), o 21 (.bin .eql (.t 20) (.c (.str []))), o 22 (.mv (.t 21)), og 23 (.mv (.t 6)) 22 false, og 24 (.bin .eql (.t 23) (.c (.str [46]))) 22 false, o 25 (.pick (.t 22) (.c (.bool true)) (.t 24)), o 19 (.mv (.t 25))])
      (.cond (.t 19) (.skip) (.seq (.reg [o 27 (.mv (.t 6)), o 28 (.bin .eql (.t 27) (.c (.str [46, 46]))), o 26 (.mv (.t 28))])
       (.cond (.t 26) (.seq (.seq (.reg [o 29 (.mv (.t 4)), o 30 (.lenL (.t 29)), o 31 (.bin .eql (.t 30) (.c (.int .i64 0)))])
        (.cond (.t 31) (.seq (.reg [o 2 (.mv (.c .nsl)), o 3 (.mv (.c (.bool false)))])
         (.ret)) (.skip)))
        (.reg [o 32 (.mv (.t 4)), o 33 (.mv (.t 4)), o 34 (.lenL (.t 33)), o 35 (.bin .sub (.t 34) (.c (.int .i64 1))), o 36 (.slice 1 (.t 32) none (some (.t 35))), o 4 (.mv (.t 36))])) (.seq (.reg [o 38 (.mv (.t 6)), o 39 (.call 158 [(.t 38)]), o 40 (.un .not (.t 39)), o 37 (.mv (.t 40))])
        (.cond (.t 37) (.seq (.reg [o 2 (.mv (.c .nsl)), o 3 (.mv (.c (.bool false)))])
         (.ret)) (.reg [o 15 (.mv (.t 4)), o 16 (.mv (.t 6)), o 17 (.bslice 1 [(.str [])] 1 [(0, (.t 16))]), o 18 (.append 1 16 (.t 15) (.t 17)), o 4 (.mv (.t 18))]))))))))))
    (.reg [o 41 (.bin .add (.t 11) (.c (.int .i64 1))), o 11 (.mv (.t 41))])))))))
  (.seq (.reg [o 42 (.mv (.t 4)), o 2 (.mv (.t 42)), o 3 (.mv (.c (.bool true)))])
  (.ret)))),
  [.tmp 2, .tmp 3]⟩
/- internal/stringslite.TrimPrefix -/
def F134 : Fun := ⟨13,
  .seq (.reg [o 4 (.mv (.c (.str [])))])
  (.seq (.seq (.reg [o 5 (.mv (.t 0)), o 6 (.mv (.t 1)), o 7 (.call 156 [(.t 5), (.t 6)])])
  (.cond (.t 7) (.seq (.reg [o 8 (.mv (.t 0)), o 9 (.mv (.t 1)), o 10 (.lenS (.t 9)), o 11 (.sliceS (.t 8) (some (.t 10)) none), o 4 (.mv (.t 11))])
   (.ret)) (.skip)))
  (.seq (.reg [o 12 (.mv (.t 0)), o 4 (.mv (.t 12))])
  (.ret))),
  [.tmp 4]⟩
/- loop.example/g03011/impl.parseWithin -/
def F135 : Fun := ⟨37,
  .seq (.reg [o 6 (.mv (.c (.int .i64 0))), o 7 (.mv (.c (.bool false)))])
  (.seq (.seq (.reg [o 10 (.mv (.t 0)), o 11 (.lenS (.t 10)), o 12 (.bin .gtr (.t 11) (.c (.int .i64 20)))])
  (.cond (.t 12) (.seq (.reg [o 6 (.mv (.c (.int .i64 0))), o 7 (.mv (.c (.bool false)))])
   (.ret)) (.skip)))
  (.seq (.reg [o 14 (.mv (.t 0)), o 15 (.call 165 [(.t 14)]), o 13 (.mv (.t 15)), o 16 (.extract (.t 13) 0), o 17 (.extract (.t 13) 1), o 8 (.mv (.t 16)), o 9 (.mv (.t 17))])
  (.seq (.seq (.reg [o 18 (.mv (.t 9)), o 19 (.isni true (.t 18)), o 20 (.mv (.t 19)), og 21 (.mv (.t 8)) 20 false, og 22 (.call 120 [(.t 21)]) 20 false, og 23 (.mv (.t 0)) 20 false, og 24 (.bin .neq (.t 22) (.t 23)) 20 false, o 25 (.pick (.t 20) (.c (.bool true)) (.t 24)), o 26 (.mv (.t 25)), og 27 (.mv (.t 8)) 26 false, og 28 (.mv (.t 1)) 26 false, og 29 (.bin .lss (.t 27) (.t 28)) 26 false, o 30 (.pick (.t 26) (.c (.bool true)) (.t 29)), o 31 (.mv (.t 30)), og 32 (.mv (.t 8)) 31 false, og 33 (.mv (.t 2)) 31 false, og 34 (.bin .gtr (.t 32) (.t 33)) 31 false, o 35 (.pick (.t 31) (.c (.bool true)) (.t 34))])
  (.cond (.t 35) (.seq (.reg [o 6 (.mv (.c (.int .i64 0))), o 7 (.mv (.c (.bool false)))])
   (.ret)) (.skip)))
  (.seq (.reg [o 36 (.mv (.t 8)), o 6 (.mv (.t 36)), o 7 (.mv (.c (.bool true)))])
  (.ret))))),
  [.tmp 6, .tmp 7]⟩
/- loop.example/g03011/laws.eqLine -/
def F136 : Fun := ⟨26,
  .seq (.reg [o 2 (.box 4 (.t 0)), o 3 (.box 4 (.t 1)), o 4 (.mv (.c (.bool false)))])
  (.seq (.seq (.reg [o 5 (.faddr 0 (.t 2)), o 6 (.load none (.t 5)), o 7 (.faddr 0 (.t 3)), o 8 (.load none (.t 7)), o 9 (.bin .neq (.t 6) (.t 8))])
  (.cond (.t 9) (.seq (.reg [o 4 (.mv (.c (.bool false)))])
   (.ret)) (.skip)))
  (.seq (.seq (.reg [o 10 (.faddr 1 (.t 2)), o 11 (.load none (.t 10)), o 12 (.faddr 1 (.t 3)), o 13 (.load none (.t 12)), o 14 (.bin .neq (.t 11) (.t 13))])
  (.cond (.t 14) (.seq (.reg [o 4 (.mv (.c (.bool false)))])
   (.ret)) (.skip)))
  (.seq (.seq (.reg [o 15 (.faddr 2 (.t 2)), o 16 (.load none (.t 15)), o 17 (.faddr 2 (.t 3)), o 18 (.load none (.t 17)), o 19 (.bin .neq (.t 16) (.t 18))])
  (.cond (.t 19) (.seq (.reg [o 4 (.mv (.c (.bool false)))])
   (.ret)) (.skip)))
  (.seq (.seq (.reg [o 20 (.faddr 3 (.t 2)), o 21 (.load none (.t 20)), o 22 (.faddr 3 (.t 3)), o 23 (.load none (.t 22)), o 24 (.call 166 [(.t 21), (.t 23)]), o 25 (.un .not (.t 24))])
  (.cond (.t 25) (.seq (.reg [o 4 (.mv (.c (.bool false)))])
   (.ret)) (.skip)))
  (.seq (.reg [o 4 (.mv (.c (.bool true)))])
  (.ret)))))),
  [.tmp 4]⟩
/- loop.example/g03011/laws.eqSession -/
def F137 : Fun := ⟨25,
  .seq (.reg [o 2 (.box 4 (.t 0)), o 3 (.box 4 (.t 1)), o 4 (.mv (.c (.bool false)))])
  (.seq (.seq (.reg [o 5 (.faddr 0 (.t 2)), o 6 (.load none (.t 5)), o 7 (.faddr 0 (.t 3)), o 8 (.load none (.t 7)), o 9 (.bin .neq (.t 6) (.t 8))])
  (.cond (.t 9) (.seq (.reg [o 4 (.mv (.c (.bool false)))])
   (.ret)) (.skip)))
  (.seq (.seq (.reg [o 10 (.faddr 1 (.t 2)), o 11 (.load none (.t 10)), o 12 (.faddr 1 (.t 3)), o 13 (.load none (.t 12)), o 14 (.bin .neq (.t 11) (.t 13))])
  (.cond (.t 14) (.seq (.reg [o 4 (.mv (.c (.bool false)))])
   (.ret)) (.skip)))
  (.seq (.seq (.reg [o 15 (.faddr 2 (.t 2)), o 16 (.load none (.t 15)), o 17 (.faddr 2 (.t 3)), o 18 (.load none (.t 17)), o 19 (.bin .neq (.t 16) (.t 18))])
  (.cond (.t 19) (.seq (.reg [o 4 (.mv (.c (.bool false)))])
   (.ret)) (.skip)))
  (.seq (.seq (.reg [o 20 (.faddr 3 (.t 2)), o 21 (.load none (.t 20)), o 22 (.faddr 3 (.t 3)), o 23 (.load none (.t 22)), o 24 (.bin .neq (.t 21) (.t 23))])
  (.cond (.t 24) (.seq (.reg [o 4 (.mv (.c (.bool false)))])
   (.ret)) (.skip)))
  (.seq (.reg [o 4 (.mv (.c (.bool true)))])
  (.ret)))))),
  [.tmp 4]⟩
/- loop.example/g03011/laws.eqJob -/
def F138 : Fun := ⟨21,
  .seq (.reg [o 2 (.box 5 (.t 0)), o 3 (.box 5 (.t 1)), o 4 (.mv (.c (.bool false)))])
  (.seq (.seq (.reg [o 5 (.faddr 0 (.t 2)), o 6 (.load none (.t 5)), o 7 (.faddr 0 (.t 3)), o 8 (.load none (.t 7)), o 9 (.bin .neq (.t 6) (.t 8))])
  (.cond (.t 9) (.seq (.reg [o 4 (.mv (.c (.bool false)))])
   (.ret)) (.skip)))
  (.seq (.seq (.reg [o 10 (.faddr 1 (.t 2)), o 11 (.load (some 3) (.t 10)), o 12 (.faddr 1 (.t 3)), o 13 (.load (some 3) (.t 12)), o 14 (.call 33 [(.t 11), (.t 13)]), o 15 (.un .not (.t 14))])
  (.cond (.t 15) (.seq (.reg [o 4 (.mv (.c (.bool false)))])
   (.ret)) (.skip)))
  (.seq (.seq (.reg [o 16 (.faddr 4 (.t 2)), o 17 (.load none (.t 16)), o 18 (.faddr 4 (.t 3)), o 19 (.load none (.t 18)), o 20 (.bin .neq (.t 17) (.t 19))])
  (.cond (.t 20) (.seq (.reg [o 4 (.mv (.c (.bool false)))])
   (.ret)) (.skip)))
  (.seq (.reg [o 4 (.mv (.c (.bool true)))])
  (.ret))))),
  [.tmp 4]⟩
/- loop.example/g03011/laws.eqWorker -/
def F139 : Fun := ⟨32,
  .seq (.reg [o 2 (.box 9 (.t 0)), o 3 (.box 9 (.t 1)), o 4 (.mv (.c (.bool false)))])
  (.seq (.seq (.reg [o 5 (.faddr 0 (.t 2)), o 6 (.load none (.t 5)), o 7 (.faddr 0 (.t 3)), o 8 (.load none (.t 7)), o 9 (.bin .neq (.t 6) (.t 8))])
  (.cond (.t 9) (.seq (.reg [o 4 (.mv (.c (.bool false)))])
   (.ret)) (.skip)))
  (.seq (.seq (.reg [o 10 (.faddr 1 (.t 2)), o 11 (.load (some 5) (.t 10)), o 12 (.faddr 1 (.t 3)), o 13 (.load (some 5) (.t 12)), o 14 (.call 138 [(.t 11), (.t 13)]), o 15 (.un .not (.t 14))])
  (.cond (.t 15) (.seq (.reg [o 4 (.mv (.c (.bool false)))])
   (.ret)) (.skip)))
  (.seq (.seq (.reg [o 16 (.faddr 6 (.t 2)), o 17 (.load none (.t 16)), o 18 (.faddr 6 (.t 3)), o 19 (.load none (.t 18)), o 20 (.bin .neq (.t 17) (.t 19))])
  (.cond (.t 20) (.seq (.reg [o 4 (.mv (.c (.bool false)))])
   (.ret)) (.skip)))
  (.seq (.seq (.reg [o 21 (.faddr 7 (.t 2)), o 22 (.load none (.t 21)), o 23 (.faddr 7 (.t 3)), o 24 (.load none (.t 23)), o 25 (.call 28 [(.t 22), (.t 24)]), o 26 (.un .not (.t 25))])
  (.cond (.t 26) (.seq (.reg [o 4 (.mv (.c (.bool false)))])
   (.ret)) (.skip)))
  (.seq (.seq (.reg [o 27 (.faddr 8 (.t 2)), o 28 (.load none (.t 27)), o 29 (.faddr 8 (.t 3)), o 30 (.load none (.t 29)), o 31 (.bin .neq (.t 28) (.t 30))])
  (.cond (.t 31) (.seq (.reg [o 4 (.mv (.c (.bool false)))])
   (.ret)) (.skip)))
  (.seq (.reg [o 4 (.mv (.c (.bool true)))])
  (.ret))))))),
  [.tmp 4]⟩
/- loop.example/g03011/laws.eqAnswer -/
def F140 : Fun := ⟨43,
  .seq (.reg [o 2 (.box 11 (.t 0)), o 3 (.box 11 (.t 1)), o 4 (.mv (.c (.bool false)))])
  (.seq (.seq (.reg [o 5 (.faddr 0 (.t 2)), o 6 (.load none (.t 5)), o 7 (.faddr 0 (.t 3)), o 8 (.load none (.t 7)), o 9 (.bin .neq (.t 6) (.t 8))])
  (.cond (.t 9) (.seq (.reg [o 4 (.mv (.c (.bool false)))])
   (.ret)) (.skip)))
  (.seq (.seq (.reg [o 10 (.faddr 1 (.t 2)), o 11 (.load none (.t 10)), o 12 (.faddr 1 (.t 3)), o 13 (.load none (.t 12)), o 14 (.bin .neq (.t 11) (.t 13))])
  (.cond (.t 14) (.seq (.reg [o 4 (.mv (.c (.bool false)))])
   (.ret)) (.skip)))
  (.seq (.seq (.reg [o 15 (.faddr 2 (.t 2)), o 16 (.load none (.t 15)), o 17 (.faddr 2 (.t 3)), o 18 (.load none (.t 17)), o 19 (.call 28 [(.t 16), (.t 18)]), o 20 (.un .not (.t 19))])
  (.cond (.t 20) (.seq (.reg [o 4 (.mv (.c (.bool false)))])
   (.ret)) (.skip)))
  (.seq (.seq (.reg [o 21 (.faddr 3 (.t 2)), o 22 (.load (some 3) (.t 21)), o 23 (.faddr 3 (.t 3)), o 24 (.load (some 3) (.t 23)), o 25 (.call 33 [(.t 22), (.t 24)]), o 26 (.un .not (.t 25))])
  (.cond (.t 26) (.seq (.reg [o 4 (.mv (.c (.bool false)))])
   (.ret)) (.skip)))
  (.seq (.seq (.reg [o 27 (.faddr 6 (.t 2)), o 28 (.load none (.t 27)), o 29 (.faddr 6 (.t 3)), o 30 (.load none (.t 29)), o 31 (.bin .neq (.t 28) (.t 30))])
  (.cond (.t 31) (.seq (.reg [o 4 (.mv (.c (.bool false)))])
   (.ret)) (.skip)))
  (.seq (.seq (.reg [o 32 (.faddr 7 (.t 2)), o 33 (.load (some 3) (.t 32)), o 34 (.faddr 7 (.t 3)), o 35 (.load (some 3) (.t 34)), o 36 (.call 23 [(.t 33), (.t 35)]), o 37 (.un .not (.t 36))])
  (.cond (.t 37) (.seq (.reg [o 4 (.mv (.c (.bool false)))])
   (.ret)) (.skip)))
  (.seq (.seq (.reg [o 38 (.faddr 10 (.t 2)), o 39 (.load none (.t 38)), o 40 (.faddr 10 (.t 3)), o 41 (.load none (.t 40)), o 42 (.bin .neq (.t 39) (.t 41))])
  (.cond (.t 42) (.seq (.reg [o 4 (.mv (.c (.bool false)))])
   (.ret)) (.skip)))
  (.seq (.reg [o 4 (.mv (.c (.bool true)))])
  (.ret))))))))),
  [.tmp 4]⟩
/- loop.example/g03011/laws.markIntS -/
def F141 : Fun := ⟨19,
  .seq (.reg [o 4 (.mv (.c (.int .i64 0)))])
  (.seq (.seq (.reg [o 5 (.mv (.c (.int .i64 0)))])
  (.block 0 (.loop (.seq (.seq (.reg [o 6 (.mv (.t 5)), o 7 (.mv (.t 0)), o 8 (.lenL (.t 7)), o 9 (.bin .lss (.t 6) (.t 8))])
    (.cond (.t 9) (.skip) (.exit 0)))
    (.seq (.block 1 (.seq (.reg [o 12 (.mv (.t 0)), o 13 (.mv (.t 5)), o 14 (.mv (.t 1)), o 15 (.iaddr 1 (.t 12) (.t 13)), st (.store 1 (.t 15) (.t 14))])
     (.reg [o 16 (.mv (.t 1)), o 17 (.bin .add (.t 16) (.c (.int .i64 1))), o 1 (.mv (.t 17))])))
    (.reg [o 10 (.mv (.t 5)), o 11 (.bin .add (.t 10) (.c (.int .i64 1))), o 5 (.mv (.t 11))]))))))
  (.seq (.reg [o 18 (.mv (.t 1)), o 4 (.mv (.t 18))])
  (.ret))),
  [.tmp 4]⟩
/- loop.example/g03011/laws.heldIntS -/
def F142 : Fun := ⟨21,
  .seq (.reg [o 4 (.mv (.c (.int .i64 0)))])
  (.seq (.seq (.reg [o 5 (.mv (.c (.int .i64 0)))])
  (.block 0 (.loop (.seq (.seq (.reg [o 6 (.mv (.t 5)), o 7 (.mv (.t 0)), o 8 (.lenL (.t 7)), o 9 (.bin .lss (.t 6) (.t 8))])
    (.cond (.t 9) (.skip) (.exit 0)))
    (.seq (.block 1 (.seq (.seq (.reg [o 12 (.mv (.t 0)), o 13 (.mv (.t 5)), o 14 (.iaddr 1 (.t 12) (.t 13)), o 15 (.load none (.t 14)), o 16 (.mv (.t 1)), o 17 (.bin .neq (.t 15) (.t 16))])
     (.cond (.t 17) (.seq (.reg [o 4 (.mv (.c (.int .i64 (-1))))])
      (.ret)) (.skip)))
     (.reg [o 18 (.mv (.t 1)), o 19 (.bin .add (.t 18) (.c (.int .i64 1))), o 1 (.mv (.t 19))])))
    (.reg [o 10 (.mv (.t 5)), o 11 (.bin .add (.t 10) (.c (.int .i64 1))), o 5 (.mv (.t 11))]))))))
  (.seq (.reg [o 20 (.mv (.t 1)), o 4 (.mv (.t 20))])
  (.ret))),
  [.tmp 4]⟩
/- loop.example/g03011/spec.UnescapeURL -/
def F143 : Fun := ⟨48,
  .seq (.reg [o 2 (.mv (.c (.str []))), o 3 (.mv (.c (.bool false)))])
  (.seq (.reg [o 7 (.bslice 1 [(.int .u8 0)] 0 []), o 4 (.mv (.t 7))])
  (.seq (.seq (.reg [o 5 (.mv (.c (.int .i64 0)))])
  (.block 0 (.loop (.seq (.seq (.reg [o 8 (.mv (.t 5)), o 9 (.mv (.t 0)), o 10 (.lenS (.t 9)), o 11 (.bin .lss (.t 8) (.t 10))])
    (.cond (.t 11) (.skip) (.exit 0)))
    (.seq (.block 1 (.block 2 (.seq (.reg [o 21 (.mv (.t 0)), o 22 (.mv (.t 5)), o 23 (.index (.t 21) (.t 22)), o 24 (.bin .eql (.t 23) (.c (.int .u8 43))), o 20 (.mv (.t 24))])
      (.cond (.t 20) (.reg [o 25 (.mv (.t 4)), o 26 (.bslice 1 [(.int .u8 0)] 1 [(0, (.c (.int .u8 32)))]), o 27 (.append 1 1 (.t 25) (.t 26)), o 4 (.mv (.t 27))]) (.seq (.reg [o 29 (.mv (.t 0)), o 30 (.mv (.t 5)), o 31 (.index (.t 29) (.t 30)), o 32 (.bin .eql (.t 31) (.c (.int .u8 37))), o 28 (.mv (.t 32))])
       (.cond (.t 28) (.seq (.reg [o 33 (.mv (.t 0)), o 34 (.mv (.t 5)), o 35 (.bin .add (.t 34) (.c (.int .i64 1))), o 36 (.call 167 [(.t 33), (.t 35), (.c (.bool true))]), o 6 (.mv (.t 36))])
        (.seq (.seq (.reg [o 37 (.mv (.t 6)), o 38 (.bin .lss (.t 37) (.c (.int .i64 0)))])
        (.cond (.t 38) (.seq (.reg [o 2 (.mv (.c (.str []))), o 3 (.mv (.c (.bool false)))])
         (.ret)) (.skip)))
        (.seq (.reg [o 39 (.mv (.t 4)), o 40 (.mv (.t 6)), o 41 (.toInt .u8 (.t 40)), o 42 (.bslice 1 [(.int .u8 0)] 1 [(0, (.t 41))]), o 43 (.append 1 1 (.t 39) (.t 42)), o 4 (.mv (.t 43))])
        (.reg [o 44 (.mv (.t 5)), o 45 (.bin .add (.t 44) (.c (.int .i64 2))), o 5 (.mv (.t 45))])))) (.reg [o 14 (.mv (.t 4)), o 15 (.mv (.t 0)), o 16 (.mv (.t 5)), o 17 (.index (.t 15) (.t 16)), o 18 (.bslice 1 [(.int .u8 0)] 1 [(0, (.t 17))]), o 19 (.append 1 1 (.t 14) (.t 18)), o 4 (.mv (.t 19))])))))))
    (.reg [o 12 (.mv (.t 5)), o 13 (.bin .add (.t 12) (.c (.int .i64 1))), o 5 (.mv (.t 13))]))))))
  (.seq (.reg [o 46 (.mv (.t 4)), o 47 (.toStr (.t 46)), o 2 (.mv (.t 47)), o 3 (.mv (.c (.bool true)))])
  (.ret)))),
  [.tmp 2, .tmp 3]⟩
/- loop.example/g03011/impl.hexPair -/
def F144 : Fun := ⟨42,
  .seq (.reg [o 6 (.mv (.c (.int .u8 0))), o 7 (.mv (.c (.bool false)))])
  (.seq (.seq (.reg [o 12 (.mv (.t 1)), o 13 (.bin .add (.t 12) (.c (.int .i64 2))), o 14 (.mv (.t 0)), o 15 (.lenS (.t 14)), o 16 (.bin .gtr (.t 13) (.t 15))])
  (.cond (.t 16) (.seq (.reg [o 6 (.mv (.c (.int .u8 0))), o 7 (.mv (.c (.bool false)))])
   (.ret)) (.skip)))
  (.seq (.reg [o 18 (.mv (.t 0)), o 19 (.mv (.t 1)), o 20 (.index (.t 18) (.t 19)), o 21 (.mv (.t 2)), o 22 (.call 168 [(.t 20), (.t 21)]), o 17 (.mv (.t 22)), o 23 (.extract (.t 17) 0), o 24 (.extract (.t 17) 1), o 8 (.mv (.t 23)), o 9 (.mv (.t 24))])
  (.seq (.reg [o 26 (.mv (.t 0)), o 27 (.mv (.t 1)), o 28 (.bin .add (.t 27) (.c (.int .i64 1))), o 29 (.index (.t 26) (.t 28)), o 30 (.mv (.t 2)), o 31 (.call 168 [(.t 29), (.t 30)]), o 25 (.mv (.t 31)), o 32 (.extract (.t 25) 0), o 33 (.extract (.t 25) 1), o 10 (.mv (.t 32)), o 11 (.mv (.t 33))])
  (.seq (.reg [o 34 (.mv (.t 8)), o 35 (.bin .mul (.t 34) (.c (.int .u8 16))), o 36 (.mv (.t 10)), o 37 (.bin .add (.t 35) (.t 36)), o 38 (.mv (.t 9)), o 39 (.mv (.t 38)), og 40 (.mv (.t 11)) 39 true, o 41 (.pick (.t 39) (.t 40) (.c (.bool false))), o 6 (.mv (.t 37)), o 7 (.mv (.t 41))])
  (.ret))))),
  [.tmp 6, .tmp 7]⟩
/- loop.example/g03011/spec.l20Total -/
def F145 : Fun := ⟨25,
  .seq (.reg [o 1 (.box 3 (.t 0)), o 2 (.mv (.c (.int .i64 0)))])
  (.seq (.reg [o 5 (.faddr 0 (.t 1)), o 6 (.load none (.t 5)), o 7 (.lenS (.t 6)), o 3 (.mv (.t 7))])
  (.seq (.seq (.reg [o 4 (.mv (.c (.int .i64 0)))])
  (.block 0 (.loop (.seq (.seq (.reg [o 8 (.mv (.t 4)), o 9 (.faddr 2 (.t 1)), o 10 (.load none (.t 9)), o 11 (.lenL (.t 10)), o 12 (.bin .lss (.t 8) (.t 11))])
    (.cond (.t 12) (.skip) (.exit 0)))
    (.seq (.block 1 (.reg [o 15 (.mv (.t 3)), o 16 (.faddr 2 (.t 1)), o 17 (.load none (.t 16)), o 18 (.mv (.t 4)), o 19 (.iaddr 2 (.t 17) (.t 18)), o 20 (.faddr 1 (.t 19)), o 21 (.load none (.t 20)), o 22 (.lenS (.t 21)), o 23 (.bin .add (.t 15) (.t 22)), o 3 (.mv (.t 23))]))
    (.reg [o 13 (.mv (.t 4)), o 14 (.bin .add (.t 13) (.c (.int .i64 1))), o 4 (.mv (.t 14))]))))))
  (.seq (.reg [o 24 (.mv (.t 3)), o 2 (.mv (.t 24))])
  (.ret)))),
  [.tmp 2]⟩
/- loop.example/g03011/spec.l20Name -/
def F146 : Fun := ⟨37,
  .seq (.reg [o 2 (.mv (.c (.bool false)))])
  (.seq (.seq (.reg [o 3 (.mv (.c (.int .i64 0)))])
  (.block 0 (.loop (.seq (.seq (.reg [o 4 (.mv (.t 3)), o 5 (.mv (.t 0)), o 6 (.lenS (.t 5)), o 7 (.bin .lss (.t 4) (.t 6))])
    (.cond (.t 7) (.skip) (.exit 0)))
    (.seq (.block 1 (.seq (.reg [o 10 (.mv (.t 0)), o 11 (.mv (.t 3)), o 12 (.index (.t 10) (.t 11)), o 13 (.call 169 [(.t 12)]), o 14 (.un .not (.t 13)), o 15 (.mv (.t 14)), og 16 (.mv (.t 0)) 15 true, og 17 (.mv (.t 3)) 15 true, og 18 (.index (.t 16) (.t 17)) 15 true, og 19 (.call 170 [(.t 18)]) 15 true, og 20 (.un .not (.t 19)) 15 true, o 21 (.pick (.t 15) (.t 20) (.c (.bool false))), o 22 (.mv (.t 21)), og 23 (.mv (.t 0)) 22 true, og 24 (.mv (.t 3)) 22 true, og 25 (.index (.t 23) (.t 24)) 22 true, og 26 (.bin .neq (.t 25) (.c (.int .u8 45))) 22 true, o 27 (.pick (.t 22) (.t 26) (.c (.bool false))), o 28 (.mv (.t 27)), og 29 (.mv (.t 0)) 28 false, og 30 (.mv (.t 3)) 28 false, og 31 (.index (.t 29) (.t 30)) 28 false, og 32 (.bin .eql (.t 31) (.c (.int .u8 95))) 28 false, o 33 (.pick (.t 28) (.c (.bool true)) (.t 32))])
     (.cond (.t 33) (.seq (.reg [o 2 (.mv (.c (.bool false)))])
      (.ret)) (.skip))))
    (.reg [o 8 (.mv (.t 3)), o 9 (.bin .add (.t 8) (.c (.int .i64 1))), o 3 (.mv (.t 9))]))))))
  (.seq (.reg [o 34 (.mv (.t 0)), o 35 (.lenS (.t 34)), o 36 (.call 91 [(.t 35), (.c (.int .i64 1)), (.c (.int .i64 20))]), o 2 (.mv (.t 36))])
  (.ret))),
  [.tmp 2]⟩
/- loop.example/g03011/spec.l20Value -/
def F147 : Fun := ⟨19,
  .seq (.reg [o 2 (.mv (.c (.bool false)))])
  (.seq (.seq (.reg [o 3 (.mv (.c (.int .i64 0)))])
  (.block 0 (.loop (.seq (.seq (.reg [o 4 (.mv (.t 3)), o 5 (.mv (.t 0)), o 6 (.lenS (.t 5)), o 7 (.bin .lss (.t 4) (.t 6))])
    (.cond (.t 7) (.skip) (.exit 0)))
    (.seq (.block 1 (.seq (.reg [o 10 (.mv (.t 0)), o 11 (.mv (.t 3)), o 12 (.index (.t 10) (.t 11)), o 13 (.toInt .i64 (.t 12)), o 14 (.call 91 [(.t 13), (.c (.int .i64 32)), (.c (.int .i64 126))]), o 15 (.un .not (.t 14))])
     (.cond (.t 15) (.seq (.reg [o 2 (.mv (.c (.bool false)))])
      (.ret)) (.skip))))
    (.reg [o 8 (.mv (.t 3)), o 9 (.bin .add (.t 8) (.c (.int .i64 1))), o 3 (.mv (.t 9))]))))))
  (.seq (.reg [o 16 (.mv (.t 0)), o 17 (.lenS (.t 16)), o 18 (.bin .leq (.t 17) (.c (.int .i64 60))), o 2 (.mv (.t 18))])
  (.ret))),
  [.tmp 2]⟩
/- loop.example/g03011/impl.outputTotal -/
def F148 : Fun := ⟨23,
  .seq (.reg [o 1 (.box 3 (.t 0)), o 2 (.mv (.c (.int .i64 0)))])
  (.seq (.reg [o 6 (.faddr 0 (.t 1)), o 7 (.load none (.t 6)), o 8 (.lenS (.t 7)), o 3 (.mv (.t 8))])
  (.seq (.seq (.reg [o 9 (.faddr 2 (.t 1)), o 10 (.load none (.t 9)), o 11 (.lenL (.t 10)), o 12 (.mv (.c (.int .i64 0)))])
  (.block 0 (.loop (.seq (.reg [o 13 (.bin .lss (.t 12) (.t 11))])
    (.seq (.cond (.t 13) (.skip) (.exit 0))
    (.seq (.block 1 (.seq (.reg [o 14 (.iaddr 2 (.t 10) (.t 12)), o 15 (.load (some 2) (.t 14)), o 5 (.new 2 [(.int .i64 0), (.str [])]), st (.store 2 (.t 5) (.t 15))])
     (.reg [o 16 (.mv (.t 3)), o 17 (.faddr 1 (.t 5)), o 18 (.load none (.t 17)), o 19 (.lenS (.t 18)), o 20 (.bin .add (.t 16) (.t 19)), o 3 (.mv (.t 20))])))
    (.reg [o 21 (.bin .add (.t 12) (.c (.int .i64 1))), o 12 (.mv (.t 21))])))))))
  (.seq (.reg [o 22 (.mv (.t 3)), o 2 (.mv (.t 22))])
  (.ret)))),
  [.tmp 2]⟩
/- loop.example/g03011/impl.headerName -/
def F149 : Fun := ⟨31,
  .seq (.reg [o 2 (.mv (.c (.bool false)))])
  (.seq (.seq (.reg [o 3 (.mv (.c (.int .i64 0)))])
  (.block 0 (.loop (.seq (.seq (.reg [o 4 (.mv (.t 3)), o 5 (.mv (.t 0)), o 6 (.lenS (.t 5)), o 7 (.bin .lss (.t 4) (.t 6))])
    (.cond (.t 7) (.skip) (.exit 0)))
    (.seq (.block 1 (.seq (.reg [o 10 (.mv (.t 0)), o 11 (.mv (.t 3)), o 12 (.index (.t 10) (.t 11)), o 13 (.call 171 [(.t 12)]), o 14 (.un .not (.t 13)), o 15 (.mv (.t 14)), og 16 (.mv (.t 0)) 15 true, og 17 (.mv (.t 3)) 15 true, og 18 (.index (.t 16) (.t 17)) 15 true, og 19 (.call 172 [(.t 18)]) 15 true, og 20 (.un .not (.t 19)) 15 true, o 21 (.pick (.t 15) (.t 20) (.c (.bool false))), o 22 (.mv (.t 21)), og 23 (.mv (.t 0)) 22 true, og 24 (.mv (.t 3)) 22 true, og 25 (.index (.t 23) (.t 24)) 22 true, og 26 (.bin .neq (.t 25) (.c (.int .u8 45))) 22 true, o 27 (.pick (.t 22) (.t 26) (.c (.bool false)))])
     (.cond (.t 27) (.seq (.reg [o 2 (.mv (.c (.bool false)))])
      (.ret)) (.skip))))
    (.reg [o 8 (.mv (.t 3)), o 9 (.bin .add (.t 8) (.c (.int .i64 1))), o 3 (.mv (.t 9))]))))))
  (.seq (.reg [o 28 (.mv (.t 0)), o 29 (.lenS (.t 28)), o 30 (.call 93 [(.t 29), (.c (.int .i64 1)), (.c (.int .i64 20))]), o 2 (.mv (.t 30))])
  (.ret))),
  [.tmp 2]⟩
/- loop.example/g03011/impl.headerValue -/
def F150 : Fun := ⟨23,
  .seq (.reg [o 2 (.mv (.c (.bool false)))])
  (.seq (.seq (.reg [o 3 (.mv (.c (.int .i64 0)))])
  (.block 0 (.loop (.seq (.seq (.reg [o 4 (.mv (.t 3)), o 5 (.mv (.t 0)), o 6 (.lenS (.t 5)), o 7 (.bin .lss (.t 4) (.t 6))])
    (.cond (.t 7) (.skip) (.exit 0)))
    (.seq (.block 1 (.seq (.reg [o 10 (.mv (.t 0)), o 11 (.mv (.t 3)), o 12 (.index (.t 10) (.t 11)), o 13 (.bin .lss (.t 12) (.c (.int .u8 32))), o 14 (.mv (.t 13)), og 15 (.mv (.t 0)) 14 false, og 16 (.mv (.t 3)) 14 false, og 17 (.index (.t 15) (.t 16)) 14 false, og 18 (.bin .gtr (.t 17) (.c (.int .u8 126))) 14 false, o 19 (.pick (.t 14) (.c (.bool true)) (.t 18))])
     (.cond (.t 19) (.seq (.reg [o 2 (.mv (.c (.bool false)))])
      (.ret)) (.skip))))
    (.reg [o 8 (.mv (.t 3)), o 9 (.bin .add (.t 8) (.c (.int .i64 1))), o 3 (.mv (.t 9))]))))))
  (.seq (.reg [o 20 (.mv (.t 0)), o 21 (.lenS (.t 20)), o 22 (.bin .leq (.t 21) (.c (.int .i64 60))), o 2 (.mv (.t 22))])
  (.ret))),
  [.tmp 2]⟩
/- internal/strconv.Itoa -/
def F151 : Fun := ⟨5,
  .seq (.reg [o 2 (.mv (.c (.str [])))])
  (.seq (.reg [o 3 (.mv (.t 0)), o 4 (.call 173 [(.t 3), (.c (.int .i64 10))]), o 2 (.mv (.t 4))])
  (.ret)),
  [.tmp 2]⟩
/- loop.example/g03011/spec.EscapeURL -/
def F152 : Fun := ⟨31,
  .seq (.reg [o 2 (.mv (.c (.str [])))])
  (.seq (.reg [o 3 (.mv (.c (.str [])))])
  (.seq (.seq (.reg [o 4 (.mv (.c (.int .i64 0)))])
  (.block 0 (.loop (.seq (.seq (.reg [o 5 (.mv (.t 4)), o 6 (.mv (.t 0)), o 7 (.lenS (.t 6)), o 8 (.bin .lss (.t 5) (.t 7))])
    (.cond (.t 8) (.skip) (.exit 0)))
    (.seq (.block 1 (.seq (.reg [o 11 (.mv (.t 0)), o 12 (.mv (.t 4)), o 13 (.index (.t 11) (.t 12)), o 14 (.call 174 [(.t 13)])])
     (.cond (.t 14) (.reg [o 15 (.mv (.t 3)), o 16 (.mv (.t 0)), o 17 (.mv (.t 4)), o 18 (.mv (.t 4)), o 19 (.bin .add (.t 18) (.c (.int .i64 1))), o 20 (.sliceS (.t 16) (some (.t 17)) (some (.t 19))), o 21 (.bin .add (.t 15) (.t 20)), o 3 (.mv (.t 21))]) (.reg [o 22 (.mv (.t 3)), o 23 (.bin .add (.t 22) (.c (.str [37]))), o 24 (.mv (.t 0)), o 25 (.mv (.t 4)), o 26 (.index (.t 24) (.t 25)), o 27 (.toInt .i64 (.t 26)), o 28 (.call 175 [(.t 27)]), o 29 (.bin .add (.t 23) (.t 28)), o 3 (.mv (.t 29))]))))
    (.reg [o 9 (.mv (.t 4)), o 10 (.bin .add (.t 9) (.c (.int .i64 1))), o 4 (.mv (.t 10))]))))))
  (.seq (.reg [o 30 (.mv (.t 3)), o 2 (.mv (.t 30))])
  (.ret)))),
  [.tmp 2]⟩
/- loop.example/g03011/impl.EscapeURL -/
def F153 : Fun := ⟨53,
  .seq (.reg [o 2 (.mv (.c (.str [])))])
  (.seq (.reg [o 6 (.bslice 1 [(.int .u8 0)] 0 []), o 3 (.mv (.t 6))])
  (.seq (.seq (.reg [o 4 (.mv (.c (.int .i64 0)))])
  (.block 0 (.loop (.seq (.seq (.reg [o 7 (.mv (.t 4)), o 8 (.mv (.t 0)), o 9 (.lenS (.t 8)), o 10 (.bin .lss (.t 7) (.t 9))])
    (.cond (.t 10) (.skip) (.exit 0)))
    (.seq (.block 1 (.seq (.reg [o 13 (.mv (.t 0)), o 14 (.mv (.t 4)), o 15 (.index (.t 13) (.t 14)), o 5 (.mv (.t 15))])
     (.seq (.reg [o 16 (.mv (.t 5)), o 17 (.call 171 [(.t 16)]), o 18 (.mv (.t 17)), og 19 (.mv (.t 5)) 18 false, og 20 (.call 172 [(.t 19)]) 18 false, o 21 (.pick (.t 18) (.c (.bool true)) (.t 20)), o 22 (.mv (.t 21)), og 23 (.mv (.t 5)) 22 false, og 24 (.bin .eql (.t 23) (.c (.int .u8 45))) 22 false, o 25 (.pick (.t 22) (.c (.bool true)) (.t 24)), o 26 (.mv (.t 25)), og 27 (.mv (.t 5)) 26 false, og 28 (.bin .eql (.t 27) (.c (.int .u8 95))) 26 false, o 29 (.pick (.t 26) (.c (.bool true)) (.t 28)), o 30 (.mv (.t 29)), og 31 (.mv (.t 5)) 30 false, og 32 (.bin .eql (.t 31) (.c (.int .u8 46))) 30 false, o 33 (.pick (.t 30) (.c (.bool true)) (.t 32)), o 34 (.mv (.t 33)), og 35 (.mv (.t 5)) 34 false, og 36 (.bin .eql (.t 35) (.c (.int .u8 126))) 34 false, o 37 (.pick (.t 34) (.c (.bool true)) (.t 36))])
     (.cond (.t 37) (.reg [o 38 (.mv (.t 3)), o 39 (.mv (.t 5)), o 40 (.bslice 1 [(.int .u8 0)] 1 [(0, (.t 39))]), o 41 (.append 1 1 (.t 38) (.t 40)), o 3 (.mv (.t 41))]) (.reg [o 42 (.mv (.t 3)), o 43 (.mv (.t 5)), o 44 (.bin .quo (.t 43) (.c (.int .u8 16))), o 45 (.call 176 [(.t 44)]), o 46 (.mv (.t 5)), o 47 (.bin .rem (.t 46) (.c (.int .u8 16))), o 48 (.call 176 [(.t 47)]), o 49 (.bslice 1 [(.int .u8 0)] 3 [(0, (.c (.int .u8 37))), (1, (.t 45)), (2, (.t 48))]), o 50 (.append 1 1 (.t 42) (.t 49)), o 3 (.mv (.t 50))])))))
    (.reg [o 11 (.mv (.t 4)), o 12 (.bin .add (.t 11) (.c (.int .i64 1))), o 4 (.mv (.t 12))]))))))
  (.seq (.reg [o 51 (.mv (.t 3)), o 52 (.toStr (.t 51)), o 2 (.mv (.t 52))])
  (.ret)))),
  [.tmp 2]⟩
/- loop.example/g03011/spec.l22Part -/
def F154 : Fun := ⟨37,
  .seq (.reg [o 2 (.mv (.c (.bool false)))])
  (.seq (.seq (.reg [o 3 (.mv (.c (.int .i64 0)))])
  (.block 0 (.loop (.seq (.seq (.reg [o 4 (.mv (.t 3)), o 5 (.mv (.t 0)), o 6 (.lenS (.t 5)), o 7 (.bin .lss (.t 4) (.t 6))])
    (.cond (.t 7) (.skip) (.exit 0)))
    (.seq (.block 1 (.seq (.reg [o 10 (.mv (.t 0)), o 11 (.mv (.t 3)), o 12 (.index (.t 10) (.t 11)), o 13 (.call 169 [(.t 12)]), o 14 (.un .not (.t 13)), o 15 (.mv (.t 14)), og 16 (.mv (.t 0)) 15 true, og 17 (.mv (.t 3)) 15 true, og 18 (.index (.t 16) (.t 17)) 15 true, og 19 (.call 170 [(.t 18)]) 15 true, og 20 (.un .not (.t 19)) 15 true, o 21 (.pick (.t 15) (.t 20) (.c (.bool false))), o 22 (.mv (.t 21)), og 23 (.mv (.t 0)) 22 true, og 24 (.mv (.t 3)) 22 true, og 25 (.index (.t 23) (.t 24)) 22 true, og 26 (.bin .neq (.t 25) (.c (.int .u8 45))) 22 true, o 27 (.pick (.t 22) (.t 26) (.c (.bool false))), o 28 (.mv (.t 27)), og 29 (.mv (.t 0)) 28 true, og 30 (.mv (.t 3)) 28 true, og 31 (.index (.t 29) (.t 30)) 28 true, og 32 (.bin .neq (.t 31) (.c (.int .u8 46))) 28 true, o 33 (.pick (.t 28) (.t 32) (.c (.bool false)))])
     (.cond (.t 33) (.seq (.reg [o 2 (.mv (.c (.bool false)))])
      (.ret)) (.skip))))
    (.reg [o 8 (.mv (.t 3)), o 9 (.bin .add (.t 8) (.c (.int .i64 1))), o 3 (.mv (.t 9))]))))))
  (.seq (.reg [o 34 (.mv (.t 0)), o 35 (.lenS (.t 34)), o 36 (.call 91 [(.t 35), (.c (.int .i64 1)), (.c (.int .i64 20))]), o 2 (.mv (.t 36))])
  (.ret))),
  [.tmp 2]⟩
/- internal/stringslite.HasPrefix -/
def F156 : Fun := ⟨18,
  .seq (.reg [o 4 (.mv (.c (.bool false)))])
  (.seq (.reg [o 5 (.mv (.t 0)), o 6 (.lenS (.t 5)), o 7 (.mv (.t 1)), o 8 (.lenS (.t 7)), o 9 (.bin .geq (.t 6) (.t 8)), o 10 (.mv (.t 9)), og 11 (.mv (.t 0)) 10 true, og 12 (.mv (.t 1)) 10 true, og 13 (.lenS (.t 12)) 10 true, og 14 (.sliceS (.t 11) none (some (.t 13))) 10 true, og 15 (.mv (.t 1)) 10 true, og 16 (.bin .eql (.t 14) (.t 15)) 10 true, o 17 (.pick (.t 10) (.t 16) (.c (.bool false))), o 4 (.mv (.t 17))])
  (.ret)),
  [.tmp 4]⟩
/- internal/stringslite.HasSuffix -/
def F157 : Fun := ⟨21,
  .seq (.reg [o 4 (.mv (.c (.bool false)))])
  (.seq (.reg [o 5 (.mv (.t 0)), o 6 (.lenS (.t 5)), o 7 (.mv (.t 1)), o 8 (.lenS (.t 7)), o 9 (.bin .geq (.t 6) (.t 8)), o 10 (.mv (.t 9)), og 11 (.mv (.t 0)) 10 true, og 12 (.mv (.t 0)) 10 true, og 13 (.lenS (.t 12)) 10 true, og 14 (.mv (.t 1)) 10 true, og 15 (.lenS (.t 14)) 10 true, og 16 (.bin .sub (.t 13) (.t 15)) 10 true, og 17 (.sliceS (.t 11) (some (.t 16)) none) 10 true, og 18 (.mv (.t 1)) 10 true, og 19 (.bin .eql (.t 17) (.t 18)) 10 true, o 20 (.pick (.t 10) (.t 19) (.c (.bool false))), o 4 (.mv (.t 20))])
  (.ret)),
  [.tmp 4]⟩
/- loop.example/g03011/impl.pathPart -/
def F158 : Fun := ⟨37,
  .seq (.reg [o 2 (.mv (.c (.bool false)))])
  (.seq (.seq (.reg [o 3 (.mv (.c (.int .i64 0)))])
  (.block 0 (.loop (.seq (.seq (.reg [o 5 (.mv (.t 3)), o 6 (.mv (.t 0)), o 7 (.lenS (.t 6)), o 8 (.bin .lss (.t 5) (.t 7))])
    (.cond (.t 8) (.skip) (.exit 0)))
    (.seq (.block 1 (.seq (.reg [o 11 (.mv (.t 0)), o 12 (.mv (.t 3)), o 13 (.index (.t 11) (.t 12)), o 4 (.mv (.t 13))])
     (.seq (.reg [o 14 (.mv (.t 4)), o 15 (.call 171 [(.t 14)]), o 16 (.un .not (.t 15)), o 17 (.mv (.t 16)), og 18 (.mv (.t 4)) 17 true, og 19 (.call 172 [(.t 18)]) 17 true, og 20 (.un .not (.t 19)) 17 true, o 21 (.pick (.t 17) (.t 20) (.c (.bool false))), o 22 (.mv (.t 21)), og 23 (.mv (.t 4)) 22 true, og 24 (.bin .neq (.t 23) (.c (.int .u8 95))) 22 true, o 25 (.pick (.t 22) (.t 24) (.c (.bool false))), o 26 (.mv (.t 25)), og 27 (.mv (.t 4)) 26 true, og 28 (.bin .neq (.t 27) (.c (.int .u8 45))) 26 true, o 29 (.pick (.t 26) (.t 28) (.c (.bool false))), o 30 (.mv (.t 29)), og 31 (.mv (.t 4)) 30 true, og 32 (.bin .neq (.t 31) (.c (.int .u8 46))) 30 true, o 33 (.pick (.t 30) (.t 32) (.c (.bool false)))])
     (.cond (.t 33) (.seq (.reg [o 2 (.mv (.c (.bool false)))])
      (.ret)) (.skip)))))
    (.reg [o 9 (.mv (.t 3)), o 10 (.bin .add (.t 9) (.c (.int .i64 1))), o 3 (.mv (.t 10))]))))))
  (.seq (.reg [o 34 (.mv (.t 0)), o 35 (.lenS (.t 34)), o 36 (.bin .leq (.t 35) (.c (.int .i64 20))), o 2 (.mv (.t 36))])
  (.ret))),
  [.tmp 2]⟩
/- (*strings.Builder).WriteString -/
def F160 : Fun := ⟨19,
  .seq (.reg [o 4 (.mv (.c (.int .i64 0))), o 5 (.mv (.c (.ifc true)))])
  (.seq (.reg [o 6 (.mv (.t 0)), o 7 (.call 181 [(.t 6)])])
  (.seq (.reg [o 8 (.mv (.t 0)), o 9 (.mv (.t 0)), o 10 (.nilck (.t 9)), o 11 (.faddr 1 (.t 10)), o 12 (.load none (.t 11)), o 13 (.mv (.t 1)), o 14 (.append 1 1 (.t 12) (.t 13)), o 15 (.nilck (.t 8)), o 16 (.faddr 1 (.t 15)), st (.store 1 (.t 16) (.t 14))])
  (.seq (.reg [o 17 (.mv (.t 1)), o 18 (.lenS (.t 17)), o 4 (.mv (.t 18)), o 5 (.mv (.c (.ifc true)))])
  (.ret)))),
  [.tmp 4, .tmp 5]⟩
/- strings.explode -/
def F162 : Fun := ⟨50,
  .seq (.reg [o 4 (.mv (.c .nsl))])
  (.seq (.reg [o 10 (.mv (.t 0)), o 11 (.call 183 [(.t 10)]), o 5 (.mv (.t 11))])
  (.seq (.seq (.reg [o 12 (.mv (.t 1)), o 13 (.bin .lss (.t 12) (.c (.int .i64 0))), o 14 (.mv (.t 13)), og 15 (.mv (.t 1)) 14 false, og 16 (.mv (.t 5)) 14 false, og 17 (.bin .gtr (.t 15) (.t 16)) 14 false, o 18 (.pick (.t 14) (.c (.bool true)) (.t 17))])
  (.cond (.t 18) (.reg [o 19 (.mv (.t 5)), o 1 (.mv (.t 19))]) (.skip)))
  (.seq (.reg [o 20 (.mv (.t 1)), o 21 (.mkslice 1 [(.str [])] 16 (.t 20) (.t 20)), o 6 (.mv (.t 21))])
  (.seq (.seq (.reg [o 7 (.mv (.c (.int .i64 0)))])
  (.block 0 (.loop (.seq (.seq (.reg [o 22 (.mv (.t 7)), o 23 (.mv (.t 1)), o 24 (.bin .sub (.t 23) (.c (.int .i64 1))), o 25 (.bin .lss (.t 22) (.t 24))])
    (.cond (.t 25) (.skip) (.exit 0)))
    (.seq (.block 1 (.seq (.reg [o 29 (.mv (.t 0)), o 30 (.call 184 [(.t 29)]), o 28 (.mv (.t 30)), o 31 (.extract (.t 28) 0), o 32 (.extract (.t 28) 1), o 8 (.mv (.t 31)), o 9 (.mv (.t 32))])
     (.seq (.reg [o 33 (.mv (.t 6)), o 34 (.mv (.t 7)), o 35 (.mv (.t 0)), o 36 (.mv (.t 9)), o 37 (.sliceS (.t 35) none (some (.t 36))), o 38 (.iaddr 1 (.t 33) (.t 34)), st (.store 1 (.t 38) (.t 37))])
     (.reg [o 39 (.mv (.t 0)), o 40 (.mv (.t 9)), o 41 (.sliceS (.t 39) (some (.t 40)) none), o 0 (.mv (.t 41))]))))
    (.reg [o 26 (.mv (.t 7)), o 27 (.bin .add (.t 26) (.c (.int .i64 1))), o 7 (.mv (.t 27))]))))))
  (.seq (.seq (.reg [o 42 (.mv (.t 1)), o 43 (.bin .gtr (.t 42) (.c (.int .i64 0)))])
  (.cond (.t 43) (.reg [o 44 (.mv (.t 6)), o 45 (.mv (.t 1)), o 46 (.bin .sub (.t 45) (.c (.int .i64 1))), o 47 (.mv (.t 0)), o 48 (.iaddr 1 (.t 44) (.t 46)), st (.store 1 (.t 48) (.t 47))]) (.skip)))
  (.seq (.reg [o 49 (.mv (.t 6)), o 4 (.mv (.t 49))])
  (.ret))))))),
  [.tmp 4]⟩
/- strings.Index -/
def F164 : Fun := ⟨8,
  .seq (.reg [o 4 (.mv (.c (.int .i64 0)))])
  (.seq (.reg [o 5 (.mv (.t 0)), o 6 (.mv (.t 1)), o 7 (.call 155 [(.t 5), (.t 6)]), o 4 (.mv (.t 7))])
  (.ret)),
  [.tmp 4]⟩
/- strconv.Atoi -/
def F165 : Fun := ⟨18,
  .seq (.reg [o 2 (.mv (.c (.int .i64 0))), o 3 (.mv (.c (.ifc true)))])
  (.seq (.reg [o 7 (.mv (.t 0)), o 8 (.call 186 [(.t 7)]), o 6 (.mv (.t 8)), o 9 (.extract (.t 6) 0), o 10 (.extract (.t 6) 1), o 4 (.mv (.t 9)), o 5 (.mv (.t 10))])
  (.seq (.seq (.reg [o 11 (.mv (.t 5)), o 12 (.isni true (.t 11))])
  (.cond (.t 12) (.seq (.reg [o 13 (.mv (.t 4)), o 14 (.mv (.t 0)), o 15 (.mv (.t 5)), o 16 (.call 187 [(.c (.str [65, 116, 111, 105])), (.t 14), (.c (.int .i64 0)), (.c (.int .i64 0)), (.t 15)]), o 2 (.mv (.t 13)), o 3 (.mv (.t 16))])
   (.ret)) (.skip)))
  (.seq (.reg [o 17 (.mv (.t 4)), o 2 (.mv (.t 17)), o 3 (.mv (.c (.ifc true)))])
  (.ret)))),
  [.tmp 2, .tmp 3]⟩
/- loop.example/g03011/laws.eqIntS -/
def F166 : Fun := ⟨26,
  .seq (.reg [o 4 (.mv (.c (.bool false)))])
  (.seq (.seq (.reg [o 6 (.mv (.t 0)), o 7 (.lenL (.t 6)), o 8 (.mv (.t 1)), o 9 (.lenL (.t 8)), o 10 (.bin .neq (.t 7) (.t 9))])
  (.cond (.t 10) (.seq (.reg [o 4 (.mv (.c (.bool false)))])
   (.ret)) (.skip)))
  (.seq (.seq (.reg [o 5 (.mv (.c (.int .i64 0)))])
  (.block 0 (.loop (.seq (.seq (.reg [o 11 (.mv (.t 5)), o 12 (.mv (.t 0)), o 13 (.lenL (.t 12)), o 14 (.bin .lss (.t 11) (.t 13))])
    (.cond (.t 14) (.skip) (.exit 0)))
    (.seq (.block 1 (.seq (.reg [o 17 (.mv (.t 0)), o 18 (.mv (.t 5)), o 19 (.iaddr 1 (.t 17) (.t 18)), o 20 (.load none (.t 19)), o 21 (.mv (.t 1)), o 22 (.mv (.t 5)), o 23 (.iaddr 1 (.t 21) (.t 22)), o 24 (.load none (.t 23)), o 25 (.bin .neq (.t 20) (.t 24))])
     (.cond (.t 25) (.seq (.reg [o 4 (.mv (.c (.bool false)))])
      (.ret)) (.skip))))
    (.reg [o 15 (.mv (.t 5)), o 16 (.bin .add (.t 15) (.c (.int .i64 1))), o 5 (.mv (.t 16))]))))))
  (.seq (.reg [o 4 (.mv (.c (.bool true)))])
  (.ret)))),
  [.tmp 4]⟩
/- loop.example/g03011/spec.l4Two -/
def F167 : Fun := ⟨55,
  .seq (.reg [o 6 (.mv (.c (.int .i64 0)))])
  (.seq (.seq (.reg [o 10 (.mv (.t 1)), o 11 (.mv (.t 0)), o 12 (.lenS (.t 11)), o 13 (.bin .sub (.t 12) (.c (.int .i64 2))), o 14 (.bin .gtr (.t 10) (.t 13))])
  (.cond (.t 14) (.seq (.reg [o 6 (.mv (.c (.int .i64 (-1))))])
   (.ret)) (.skip)))
  (.seq (.reg [o 7 (.mv (.c (.int .i64 0)))])
  (.seq (.seq (.reg [o 8 (.mv (.c (.int .i64 0)))])
  (.block 0 (.loop (.seq (.seq (.reg [o 15 (.mv (.t 8)), o 16 (.bin .lss (.t 15) (.c (.int .i64 2)))])
    (.cond (.t 16) (.skip) (.exit 0)))
    (.seq (.block 1 (.seq (.reg [o 19 (.mv (.t 0)), o 20 (.mv (.t 1)), o 21 (.mv (.t 8)), o 22 (.bin .add (.t 20) (.t 21)), o 23 (.index (.t 19) (.t 22)), o 24 (.toInt .i64 (.t 23)), o 9 (.mv (.t 24))])
     (.block 2 (.seq (.reg [o 26 (.mv (.t 9)), o 27 (.call 91 [(.t 26), (.c (.int .i64 48)), (.c (.int .i64 57))]), o 25 (.mv (.t 27))])
      (.cond (.t 25) (.reg [o 28 (.mv (.t 7)), o 29 (.bin .mul (.c (.int .i64 16)) (.t 28)), o 30 (.mv (.t 9)), o 31 (.bin .add (.t 29) (.t 30)), o 32 (.bin .sub (.t 31) (.c (.int .i64 48))), o 7 (.mv (.t 32))]) (.seq (.reg [o 34 (.mv (.t 9)), o 35 (.call 91 [(.t 34), (.c (.int .i64 65)), (.c (.int .i64 70))]), o 33 (.mv (.t 35))])
       (.cond (.t 33) (.reg [o 36 (.mv (.t 7)), o 37 (.bin .mul (.c (.int .i64 16)) (.t 36)), o 38 (.mv (.t 9)), o 39 (.bin .add (.t 37) (.t 38)), o 40 (.bin .sub (.t 39) (.c (.int .i64 65))), o 41 (.bin .add (.t 40) (.c (.int .i64 10))), o 7 (.mv (.t 41))]) (.seq (.reg [o 43 (.mv (.t 2)), o 44 (.mv (.t 43)), og 45 (.mv (.t 9)) 44 true, og 46 (.call 91 [(.t 45), (.c (.int .i64 97)), (.c (.int .i64 102))]) 44 true, o 47 (.pick (.t 44) (.t 46) (.c (.bool false))), o 42 (.mv (.t 47))])
        (.cond (.t 42) (.reg [o 48 (.mv (.t 7)), o 49 (.bin .mul (.c (.int .i64 16)) (.t 48)), o 50 (.mv (.t 9)), o 51 (.bin .add (.t 49) (.t 50)), o 52 (.bin .sub (.t 51) (.c (.int .i64 97))), o 53 (.bin .add (.t 52) (.c (.int .i64 10))), o 7 (.mv (.t 53))]) (.seq (.reg [o 6 (.mv (.c (.int .i64 (-1))))])
         (.ret)))))))))))
    (.reg [o 17 (.mv (.t 8)), o 18 (.bin .add (.t 17) (.c (.int .i64 1))), o 8 (.mv (.t 18))]))))))
  (.seq (.reg [o 54 (.mv (.t 7)), o 6 (.mv (.t 54))])
  (.ret))))),
  [.tmp 6]⟩
/- loop.example/g03011/impl.hexValue -/
def F168 : Fun := ⟨34,
  .seq (.reg [o 4 (.mv (.c (.int .u8 0))), o 5 (.mv (.c (.bool false)))])
  (.seq (.block 0 (.seq (.reg [o 7 (.mv (.t 0)), o 8 (.call 172 [(.t 7)]), o 6 (.mv (.t 8))])
   (.cond (.t 6) (.seq (.reg [o 9 (.mv (.t 0)), o 10 (.bin .sub (.t 9) (.c (.int .u8 48))), o 4 (.mv (.t 10)), o 5 (.mv (.c (.bool true)))])
    (.ret)) (.seq (.reg [o 12 (.mv (.t 0)), o 13 (.bin .geq (.t 12) (.c (.int .u8 65))), o 14 (.mv (.t 13)), og 15 (.mv (.t 0)) 14 true, og 16 (.bin .leq (.t 15) (.c (.int .u8 70))) 14 true, o 17 (.pick (.t 14) (.t 16) (.c (.bool false))), o 11 (.mv (.t 17))])
    (.cond (.t 11) (.seq (.reg [o 18 (.mv (.t 0)), o 19 (.bin .sub (.t 18) (.c (.int .u8 65))), o 20 (.bin .add (.t 19) (.c (.int .u8 10))), o 4 (.mv (.t 20)), o 5 (.mv (.c (.bool true)))])
     (.ret)) (.seq (.reg [o 22 (.mv (.t 1)), o 23 (.mv (.t 22)), og 24 (.mv (.t 0)) 23 true, og 25 (.bin .geq (.t 24) (.c (.int .u8 97))) 23 true, o 26 (.pick (.t 23) (.t 25) (.c (.bool false))), o 27 (.mv (.t 26)), og 28 (.mv (.t 0)) 27 true, og 29 (.bin .leq (.t 28) (.c (.int .u8 102))) 27 true, o 30 (.pick (.t 27) (.t 29) (.c (.bool false))), o 21 (.mv (.t 30))])
     (.cond (.t 21) (.seq (.reg [o 31 (.mv (.t 0)), o 32 (.bin .sub (.t 31) (.c (.int .u8 97))), o 33 (.bin .add (.t 32) (.c (.int .u8 10))), o 4 (.mv (.t 33)), o 5 (.mv (.c (.bool true)))])
      (.ret)) (.skip))))))))
  (.seq (.reg [o 4 (.mv (.c (.int .u8 0))), o 5 (.mv (.c (.bool false)))])
  (.ret))),
  [.tmp 4, .tmp 5]⟩
/- loop.example/g03011/spec.l14Letter -/
def F169 : Fun := ⟨15,
  .seq (.reg [o 2 (.mv (.c (.bool false)))])
  (.seq (.reg [o 3 (.mv (.t 0)), o 4 (.toInt .i64 (.t 3)), o 5 (.call 91 [(.t 4), (.c (.int .i64 97)), (.c (.int .i64 122))]), o 6 (.mv (.t 5)), og 7 (.mv (.t 0)) 6 false, og 8 (.toInt .i64 (.t 7)) 6 false, og 9 (.call 91 [(.t 8), (.c (.int .i64 65)), (.c (.int .i64 90))]) 6 false, o 10 (.pick (.t 6) (.c (.bool true)) (.t 9)), o 11 (.mv (.t 10)), og 12 (.mv (.t 0)) 11 false, og 13 (.bin .eql (.t 12) (.c (.int .u8 95))) 11 false, o 14 (.pick (.t 11) (.c (.bool true)) (.t 13)), o 2 (.mv (.t 14))])
  (.ret)),
  [.tmp 2]⟩
/- loop.example/g03011/spec.l14Digit -/
def F170 : Fun := ⟨6,
  .seq (.reg [o 2 (.mv (.c (.bool false)))])
  (.seq (.reg [o 3 (.mv (.t 0)), o 4 (.toInt .i64 (.t 3)), o 5 (.call 91 [(.t 4), (.c (.int .i64 48)), (.c (.int .i64 57))]), o 2 (.mv (.t 5))])
  (.ret)),
  [.tmp 2]⟩
/- loop.example/g03011/impl.isLetter -/
def F171 : Fun := ⟨17,
  .seq (.reg [o 2 (.mv (.c (.bool false)))])
  (.seq (.reg [o 3 (.mv (.t 0)), o 4 (.bin .geq (.t 3) (.c (.int .u8 65))), o 5 (.mv (.t 4)), og 6 (.mv (.t 0)) 5 true, og 7 (.bin .leq (.t 6) (.c (.int .u8 90))) 5 true, o 8 (.pick (.t 5) (.t 7) (.c (.bool false))), o 9 (.mv (.t 8)), og 10 (.mv (.t 0)) 9 false, og 11 (.bin .geq (.t 10) (.c (.int .u8 97))) 9 false, og 12 (.mv (.t 11)) 9 false, og 13 (.mv (.t 0)) 12 true, og 14 (.bin .leq (.t 13) (.c (.int .u8 122))) 12 true, og 15 (.pick (.t 12) (.t 14) (.c (.bool false))) 9 false, o 16 (.pick (.t 9) (.c (.bool true)) (.t 15)), o 2 (.mv (.t 16))])
  (.ret)),
  [.tmp 2]⟩
/- loop.example/g03011/impl.isDigit -/
def F172 : Fun := ⟨9,
  .seq (.reg [o 2 (.mv (.c (.bool false)))])
  (.seq (.reg [o 3 (.mv (.t 0)), o 4 (.bin .geq (.t 3) (.c (.int .u8 48))), o 5 (.mv (.t 4)), og 6 (.mv (.t 0)) 5 true, og 7 (.bin .leq (.t 6) (.c (.int .u8 57))) 5 true, o 8 (.pick (.t 5) (.t 7) (.c (.bool false))), o 2 (.mv (.t 8))])
  (.ret)),
  [.tmp 2]⟩
/- loop.example/g03011/spec.l4Plain -/
def F174 : Fun := ⟨32,
  .seq (.reg [o 2 (.mv (.c (.bool false)))])
  (.seq (.reg [o 4 (.mv (.t 0)), o 5 (.toInt .i64 (.t 4)), o 3 (.mv (.t 5))])
  (.seq (.reg [o 6 (.mv (.t 3)), o 7 (.call 91 [(.t 6), (.c (.int .i64 97)), (.c (.int .i64 122))]), o 8 (.mv (.t 7)), og 9 (.mv (.t 3)) 8 false, og 10 (.call 91 [(.t 9), (.c (.int .i64 65)), (.c (.int .i64 90))]) 8 false, o 11 (.pick (.t 8) (.c (.bool true)) (.t 10)), o 12 (.mv (.t 11)), og 13 (.mv (.t 3)) 12 false, og 14 (.call 91 [(.t 13), (.c (.int .i64 48)), (.c (.int .i64 57))]) 12 false, o 15 (.pick (.t 12) (.c (.bool true)) (.t 14)), o 16 (.mv (.t 15)), og 17 (.mv (.t 0)) 16 false, og 18 (.bin .eql (.t 17) (.c (.int .u8 45))) 16 false, o 19 (.pick (.t 16) (.c (.bool true)) (.t 18)), o 20 (.mv (.t 19)), og 21 (.mv (.t 0)) 20 false, og 22 (.bin .eql (.t 21) (.c (.int .u8 95))) 20 false, o 23 (.pick (.t 20) (.c (.bool true)) (.t 22)), o 24 (.mv (.t 23)), og 25 (.mv (.t 0)) 24 false, og 26 (.bin .eql (.t 25) (.c (.int .u8 46))) 24 false, o 27 (.pick (.t 24) (.c (.bool true)) (.t 26)), o 28 (.mv (.t 27)), og 29 (.mv (.t 0)) 28 false, og 30 (.bin .eql (.t 29) (.c (.int .u8 126))) 28 false, o 31 (.pick (.t 28) (.c (.bool true)) (.t 30)), o 2 (.mv (.t 31))])
  (.ret))),
  [.tmp 2]⟩
/- loop.example/g03011/spec.l4Hex -/
def F175 : Fun := ⟨15,
  .seq (.reg [o 2 (.mv (.c (.str [])))])
  (.seq (.reg [o 3 (.mv (.c (.str [48, 49, 50, 51, 52, 53, 54, 55, 56, 57, 65, 66, 67, 68, 69, 70])))])
  (.seq (.reg [o 4 (.mv (.t 3)), o 5 (.mv (.t 0)), o 6 (.bin .shr (.t 5) (.c (.int .u64 4))), o 7 (.bin .and (.t 6) (.c (.int .i64 15))), o 8 (.index (.t 4) (.t 7)), o 9 (.mv (.t 3)), o 10 (.mv (.t 0)), o 11 (.bin .and (.t 10) (.c (.int .i64 15))), o 12 (.index (.t 9) (.t 11)), o 13 (.bslice 1 [(.int .u8 0)] 2 [(0, (.t 8)), (1, (.t 12))]), o 14 (.toStr (.t 13)), o 2 (.mv (.t 14))])
  (.ret))),
  [.tmp 2]⟩
/- loop.example/g03011/impl.hexUpper -/
def F176 : Fun := ⟨5,
  .seq (.reg [o 2 (.mv (.c (.int .u8 0)))])
  (.seq (.reg [o 3 (.mv (.t 0)), o 4 (.index (.c (.str [48, 49, 50, 51, 52, 53, 54, 55, 56, 57, 65, 66, 67, 68, 69, 70])) (.t 3)), o 2 (.mv (.t 4))])
  (.ret)),
  [.tmp 2]⟩
/- internal/bytealg.Cutover -/
def F179 : Fun := ⟨6,
  .seq (.reg [o 2 (.mv (.c (.int .i64 0)))])
  (.seq (.reg [o 3 (.mv (.t 0)), o 4 (.bin .add (.t 3) (.c (.int .i64 16))), o 5 (.bin .quo (.t 4) (.c (.int .i64 8))), o 2 (.mv (.t 5))])
  (.ret)),
  [.tmp 2]⟩
/- internal/bytealg.IndexRabinKarp[string] -/
def F180 : Fun := ⟨81,
  .seq (.reg [o 4 (.mv (.c (.int .i64 0)))])
  (.seq (.reg [o 12 (.mv (.t 1)), o 13 (.call 193 [(.t 12)]), o 11 (.mv (.t 13)), o 14 (.extract (.t 11) 0), o 15 (.extract (.t 11) 1), o 5 (.mv (.t 14)), o 6 (.mv (.t 15))])
  (.seq (.reg [o 16 (.mv (.t 1)), o 17 (.lenS (.t 16)), o 7 (.mv (.t 17))])
  (.seq (.reg [o 8 (.mv (.c (.int .u32 0)))])
  (.seq (.seq (.reg [o 9 (.mv (.c (.int .i64 0)))])
  (.block 0 (.loop (.seq (.seq (.reg [o 18 (.mv (.t 9)), o 19 (.mv (.t 7)), o 20 (.bin .lss (.t 18) (.t 19))])
    (.cond (.t 20) (.skip) (.exit 0)))
    (.seq (.block 1 (.reg [o 23 (.mv (.t 8)), o 24 (.bin .mul (.t 23) (.c (.int .u32 16777619))), o 25 (.mv (.t 0)), o 26 (.mv (.t 9)), o 27 (.index (.t 25) (.t 26)), o 28 (.toInt .u32 (.t 27)), o 29 (.bin .add (.t 24) (.t 28)), o 8 (.mv (.t 29))]))
    (.reg [o 21 (.mv (.t 9)), o 22 (.bin .add (.t 21) (.c (.int .i64 1))), o 9 (.mv (.t 22))]))))))
  (.seq (.seq (.reg [o 30 (.mv (.t 8)), o 31 (.mv (.t 5)), o 32 (.bin .eql (.t 30) (.t 31)), o 33 (.mv (.t 32)), og 34 (.mv (.t 0)) 33 true, og 35 (.mv (.t 7)) 33 true, og 36 (.sliceS (.t 34) none (some (.t 35))) 33 true, og 37 (.mv (.t 1)) 33 true, og 38 (.bin .eql (.t 36) (.t 37)) 33 true, o 39 (.pick (.t 33) (.t 38) (.c (.bool false)))])
  (.cond (.t 39) (.seq (.reg [o 4 (.mv (.c (.int .i64 0)))])
   (.ret)) (.skip)))
  (.seq (.seq (.reg [o 40 (.mv (.t 7)), o 10 (.mv (.t 40))])
  (.block 2 (.loop (.seq (.seq (.reg [o 41 (.mv (.t 10)), o 42 (.mv (.t 0)), o 43 (.lenS (.t 42)), o 44 (.bin .lss (.t 41) (.t 43))])
    (.cond (.t 44) (.skip) (.exit 2)))
    (.block 3 (.seq (.reg [o 45 (.mv (.t 8)), o 46 (.bin .mul (.t 45) (.c (.int .u32 16777619))), o 8 (.mv (.t 46))])
     (.seq (.reg [o 47 (.mv (.t 8)), o 48 (.mv (.t 0)), o 49 (.mv (.t 10)), o 50 (.index (.t 48) (.t 49)), o 51 (.toInt .u32 (.t 50)), o 52 (.bin .add (.t 47) (.t 51)), o 8 (.mv (.t 52))])
     (.seq (.reg [o 53 (.mv (.t 8)), o 54 (.mv (.t 6)), o 55 (.mv (.t 0)), o 56 (.mv (.t 10)), o 57 (.mv (.t 7)), o 58 (.bin .sub (.t 56) (.t 57)), o 59 (.index (.t 55) (.t 58)), o 60 (.toInt .u32 (.t 59)), o 61 (.bin .mul (.t 54) (.t 60)), o 62 (.bin .sub (.t 53) (.t 61)), o 8 (.mv (.t 62))])
     (.seq (.reg [o 63 (.mv (.t 10)), o 64 (.bin .add (.t 63) (.c (.int .i64 1))), o 10 (.mv (.t 64))])
     (.seq (.reg [o 65 (.mv (.t 8)), o 66 (.mv (.t 5)), o 67 (.bin .eql (.t 65) (.t 66)), o 68 (.mv (.t 67)), og 69 (.mv (.t 0)) 68 true, og 70 (.mv (.t 10)) 68 true, og 71 (.mv (.t 7)) 68 true, og 72 (.bin .sub (.t 70) (.t 71)) 68 true, og 73 (.mv (.t 10)) 68 true, og 74 (.sliceS (.t 69) (some (.t 72)) (some (.t 73))) 68 true, og 75 (.mv (.t 1)) 68 true, og 76 (.bin .eql (.t 74) (.t 75)) 68 true, o 77 (.pick (.t 68) (.t 76) (.c (.bool false)))])
     (.cond (.t 77) (.seq (.reg [o 78 (.mv (.t 10)), o 79 (.mv (.t 7)), o 80 (.bin .sub (.t 78) (.t 79)), o 4 (.mv (.t 80))])
      (.ret)) (.skip))))))))))))
  (.seq (.reg [o 4 (.mv (.c (.int .i64 (-1))))])
  (.ret)))))))),
  [.tmp 4]⟩
/- unicode/utf8.DecodeRuneInString -/
def F184 : Fun := ⟨19,
  .seq (.reg [o 2 (.mv (.c (.int .i32 0))), o 3 (.mv (.c (.int .i64 0)))])
  (.seq (.seq (.reg [o 4 (.mv (.t 0)), o 5 (.bin .neq (.t 4) (.c (.str []))), o 6 (.mv (.t 5)), og 7 (.mv (.t 0)) 6 true, og 8 (.index (.t 7) (.c (.int .i64 0))) 6 true, og 9 (.bin .lss (.t 8) (.c (.int .u8 128))) 6 true, o 10 (.pick (.t 6) (.t 9) (.c (.bool false)))])
  (.cond (.t 10) (.seq (.reg [o 11 (.mv (.t 0)), o 12 (.index (.t 11) (.c (.int .i64 0))), o 13 (.toInt .i32 (.t 12)), o 2 (.mv (.t 13)), o 3 (.mv (.c (.int .i64 1)))])
   (.ret)) (.reg [o 15 (.mv (.t 0)), o 16 (.call 196 [(.t 15)]), o 14 (.mv (.t 16)), o 17 (.extract (.t 14) 0), o 18 (.extract (.t 14) 1), o 2 (.mv (.t 17)), o 3 (.mv (.t 18))])))
  (.ret)),
  [.tmp 2, .tmp 3]⟩
/- internal/strconv.small -/
def F188 : Fun := ⟨15,
  .seq (.reg [o 2 (.mv (.c (.str [])))])
  (.seq (.seq (.reg [o 3 (.mv (.t 0)), o 4 (.bin .lss (.t 3) (.c (.int .i64 10)))])
  (.cond (.t 4) (.seq (.reg [o 5 (.mv (.t 0)), o 6 (.mv (.t 0)), o 7 (.bin .add (.t 6) (.c (.int .i64 1))), o 8 (.sliceS (.c (.str [48, 49, 50, 51, 52, 53, 54, 55, 56, 57, 97, 98, 99, 100, 101, 102, 103, 104, 105, 106, 107, 108, 109, 110, 111, 112, 113, 114, 115, 116, 117, 118, 119, 120, 121, 122])) (some (.t 5)) (some (.t 7))), o 2 (.mv (.t 8))])
   (.ret)) (.skip)))
  (.seq (.reg [o 9 (.mv (.t 0)), o 10 (.bin .mul (.t 9) (.c (.int .i64 2))), o 11 (.mv (.t 0)), o 12 (.bin .mul (.t 11) (.c (.int .i64 2))), o 13 (.bin .add (.t 12) (.c (.int .i64 2))), o 14 (.sliceS (.c (.str [48, 48, 48, 49, 48, 50, 48, 51, 48, 52, 48, 53, 48, 54, 48, 55, 48, 56, 48, 57, 49, 48, 49, 49, 49, 50, 49, 51, 49, 52, 49, 53, 49, 54, 49, 55, 49, 56, 49, 57, 50, 48, 50, 49, 50, 50, 50, 51, 50, 52, 50, 53, 50, 54, 50, 55, 50, 56, 50, 57, 51, 48, 51, 49, 51, 50, 51, 51, 51, 52, 51, 53, 51, 54, 51, 55, 51, 56, 51, 57, 52, 48, 52, 49, 52, 50, 52, 51, 52, 52, 52, 53, 52, 54, 52, 55, 52, 56, 52, 57, 53, 48, 53, 49, 53, 50, 53, 51, 53, 52, 53, 53, 53, 54, 53, 55, 53, 56, 53, 57, 54, 48, 54, 49, 54, 50, 54, 51, 54, 52, 54, 53, 54, 54, 54, 55, 54, 56, 54, 57, 55, 48, 55, 49, 55, 50, 55, 51, 55, 52, 55, 53, 55, 54, 55, 55, 55, 56, 55, 57, 56, 48, 56, 49, 56, 50, 56, 51, 56, 52, 56, 53, 56, 54, 56, 55, 56, 56, 56, 57, 57, 48, 57, 49, 57, 50, 57, 51, 57, 52, 57, 53, 57, 54, 57, 55, 57, 56, 57, 57])) (some (.t 10)) (some (.t 13))), o 2 (.mv (.t 14))])
  (.ret))),
  [.tmp 2]⟩
/- internal/strconv.formatBase10 -/
def F190 : Fun := ⟨167,
  .seq (.reg [o 17 (.mv (.t 0)), o 18 (.lenL (.t 17)), o 4 (.mv (.t 18))])
  (.seq (.block 0 (.loop (.seq (.seq (.reg [o 19 (.mv (.t 4)), o 20 (.bin .geq (.t 19) (.c (.int .i64 8)))])
    (.cond (.t 20) (.skip) (.exit 0)))
    (.block 1 (.seq (.reg [o 21 (.mv (.t 1)), o 22 (.bin .rem (.t 21) (.c (.int .u64 100000000))), o 23 (.toInt .u32 (.t 22)), o 5 (.mv (.t 23))])
     (.seq (.reg [o 24 (.mv (.t 1)), o 25 (.bin .quo (.t 24) (.c (.int .u64 100000000))), o 1 (.mv (.t 25))])
     (.seq (.reg [o 26 (.mv (.t 5)), o 27 (.bin .quo (.t 26) (.c (.int .u32 10000))), o 28 (.mv (.t 5)), o 29 (.bin .rem (.t 28) (.c (.int .u32 10000))), o 6 (.mv (.t 27)), o 7 (.mv (.t 29))])
     (.seq (.reg [o 30 (.mv (.t 7)), o 31 (.bin .quo (.t 30) (.c (.int .u32 100))), o 32 (.bin .mul (.t 31) (.c (.int .u32 2))), o 33 (.mv (.t 7)), o 34 (.bin .rem (.t 33) (.c (.int .u32 100))), o 35 (.bin .mul (.t 34) (.c (.int .u32 2))), o 8 (.mv (.t 32)), o 9 (.mv (.t 35))])
     (.seq (.reg [o 36 (.mv (.t 6)), o 37 (.bin .quo (.t 36) (.c (.int .u32 100))), o 38 (.bin .mul (.t 37) (.c (.int .u32 2))), o 39 (.mv (.t 6)), o 40 (.bin .rem (.t 39) (.c (.int .u32 100))), o 41 (.bin .mul (.t 40) (.c (.int .u32 2))), o 10 (.mv (.t 38)), o 11 (.mv (.t 41))])
     (.seq (.reg [o 42 (.mv (.t 0)), o 43 (.mv (.t 4)), o 44 (.bin .sub (.t 43) (.c (.int .i64 1))), o 45 (.mv (.t 0)), o 46 (.mv (.t 4)), o 47 (.bin .sub (.t 46) (.c (.int .i64 2))), o 48 (.mv (.t 9)), o 49 (.bin .add (.t 48) (.c (.int .u32 1))), o 50 (.index (.c (.str [48, 48, 48, 49, 48, 50, 48, 51, 48, 52, 48, 53, 48, 54, 48, 55, 48, 56, 48, 57, 49, 48, 49, 49, 49, 50, 49, 51, 49, 52, 49, 53, 49, 54, 49, 55, 49, 56, 49, 57, 50, 48, 50, 49, 50, 50, 50, 51, 50, 52, 50, 53, 50, 54, 50, 55, 50, 56, 50, 57, 51, 48, 51, 49, 51, 50, 51, 51, 51, 52, 51, 53, 51, 54, 51, 55, 51, 56, 51, 57, 52, 48, 52, 49, 52, 50, 52, 51, 52, 52, 52, 53, 52, 54, 52, 55, 52, 56, 52, 57, 53, 48, 53, 49, 53, 50, 53, 51, 53, 52, 53, 53, 53, 54, 53, 55, 53, 56, 53, 57, 54, 48, 54, 49, 54, 50, 54, 51, 54, 52, 54, 53, 54, 54, 54, 55, 54, 56, 54, 57, 55, 48, 55, 49, 55, 50, 55, 51, 55, 52, 55, 53, 55, 54, 55, 55, 55, 56, 55, 57, 56, 48, 56, 49, 56, 50, 56, 51, 56, 52, 56, 53, 56, 54, 56, 55, 56, 56, 56, 57, 57, 48, 57, 49, 57, 50, 57, 51, 57, 52, 57, 53, 57, 54, 57, 55, 57, 56, 57, 57])) (.t 49)), o 51 (.mv (.t 9)), o 52 (.index (.c (.str [48, 48, 48, 49, 48, 50, 48, 51, 48, 52, 48, 53, 48, 54, 48, 55, 48, 56, 48, 57, 49, 48, 49, 49, 49, 50, 49, 51, 49, 52, 49, 53, 49, 54, 49, 55, 49, 56, 49, 57, 50, 48, 50, 49, 50, 50, 50, 51, 50, 52, 50, 53, 50, 54, 50, 55, 50, 56, 50, 57, 51, 48, 51, 49, 51, 50, 51, 51, 51, 52, 51, 53, 51, 54, 51, 55, 51, 56, 51, 57, 52, 48, 52, 49, 52, 50, 52, 51, 52, 52, 52, 53, 52, 54, 52, 55, 52, 56, 52, 57, 53, 48, 53, 49, 53, 50, 53, 51, 53, 52, 53, 53, 53, 54, 53, 55, 53, 56, 53, 57, 54, 48, 54, 49, 54, 50, 54, 51, 54, 52, 54, 53, 54, 54, 54, 55, 54, 56, 54, 57, 55, 48, 55, 49, 55, 50, 55, 51, 55, 52, 55, 53, 55, 54, 55, 55, 55, 56, 55, 57, 56, 48, 56, 49, 56, 50, 56, 51, 56, 52, 56, 53, 56, 54, 56, 55, 56, 56, 56, 57, 57, 48, 57, 49, 57, 50, 57, 51, 57, 52, 57, 53, 57, 54, 57, 55, 57, 56, 57, 57])) (.t 51)), o 53 (.iaddr 1 (.t 42) (.t 44)), st (.store 1 (.t 53) (.t 50)), o 54 (.iaddr 1 (.t 45) (.t 47)), st (.store 1 (.t 54) (.t 52))])
     (.seq (.reg [o 55 (.mv (.t 0)), o 56 (.mv (.t 4)), o 57 (.bin .sub (.t 56) (.c (.int .i64 3))), o 58 (.mv (.t 0)), o 59 (.mv (.t 4)), o 60 (.bin .sub (.t 59) (.c (.int .i64 4))), o 61 (.mv (.t 8)), o 62 (.bin .add (.t 61) (.c (.int .u32 1))), o 63 (.index (.c (.str [48, 48, 48, 49, 48, 50, 48, 51, 48, 52, 48, 53, 48, 54, 48, 55, 48, 56, 48, 57, 49, 48, 49, 49, 49, 50, 49, 51, 49, 52, 49, 53, 49, 54, 49, 55, 49, 56, 49, 57, 50, 48, 50, 49, 50, 50, 50, 51, 50, 52, 50, 53, 50, 54, 50, 55, 50, 56, 50, 57, 51, 48, 51, 49, 51, 50, 51, 51, 51, 52, 51, 53, 51, 54, 51, 55, 51, 56, 51, 57, 52, 48, 52, 49, 52, 50, 52, 51, 52, 52, 52, 53, 52, 54, 52, 55, 52, 56, 52, 57, 53, 48, 53, 49, 53, 50, 53, 51, 53, 52, 53, 53, 53, 54, 53, 55, 53, 56, 53, 57, 54, 48, 54, 49, 54, 50, 54, 51, 54, 52, 54, 53, 54, 54, 54, 55, 54, 56, 54, 57, 55, 48, 55, 49, 55, 50, 55, 51, 55, 52, 55, 53, 55, 54, 55, 55, 55, 56, 55, 57, 56, 48, 56, 49, 56, 50, 56, 51, 56, 52, 56, 53, 56, 54, 56, 55, 56, 56, 56, 57, 57, 48, 57, 49, 57, 50, 57, 51, 57, 52, 57, 53, 57, 54, 57, 55, 57, 56, 57, 57])) (.t 62)), o 64 (.mv (.t 8)), o 65 (.index (.c (.str [48, 48, 48, 49, 48, 50, 48, 51, 48, 52, 48, 53, 48, 54, 48, 55, 48, 56, 48, 57, 49, 48, 49, 49, 49, 50, 49, 51, 49, 52, 49, 53, 49, 54, 49, 55, 49, 56, 49, 57, 50, 48, 50, 49, 50, 50, 50, 51, 50, 52, 50, 53, 50, 54, 50, 55, 50, 56, 50, 57, 51, 48, 51, 49, 51, 50, 51, 51, 51, 52, 51, 53, 51, 54, 51, 55, 51, 56, 51, 57, 52, 48, 52, 49, 52, 50, 52, 51, 52, 52, 52, 53, 52, 54, 52, 55, 52, 56, 52, 57, 53, 48, 53, 49, 53, 50, 53, 51, 53, 52, 53, 53, 53, 54, 53, 55, 53, 56, 53, 57, 54, 48, 54, 49, 54, 50, 54, 51, 54, 52, 54, 53, 54, 54, 54, 55, 54, 56, 54, 57, 55, 48, 55, 49, 55, 50, 55, 51, 55, 52, 55, 53, 55, 54, 55, 55, 55, 56, 55, 57, 56, 48, 56, 49, 56, 50, 56, 51, 56, 52, 56, 53, 56, 54, 56, 55, 56, 56, 56, 57, 57, 48, 57, 49, 57, 50, 57, 51, 57, 52, 57, 53, 57, 54, 57, 55, 57, 56, 57, 57])) (.t 64)), o 66 (.iaddr 1 (.t 55) (.t 57)), st (.store 1 (.t 66) (.t 63)), o 67 (.iaddr 1 (.t 58) (.t 60)), st (.store 1 (.t 67) (.t 65))])
     (.seq (.reg [o 68 (.mv (.t 0)), o 69 (.mv (.t 4)), o 70 (.bin .sub (.t 69) (.c (.int .i64 5))), o 71 (.mv (.t 0)), o 72 (.mv (.t 4)), o 73 (.bin .sub (.t 72) (.c (.int .i64 6))), o 74 (.mv (.t 11)), o 75 (.bin .add (.t 74) (.c (.int .u32 1))), o 76 (.index (.c (.str [48, 48, 48, 49, 48, 50, 48, 51, 48, 52, 48, 53, 48, 54, 48, 55, 48, 56, 48, 57, 49, 48, 49, 49, 49, 50, 49, 51, 49, 52, 49, 53, 49, 54, 49, 55, 49, 56, 49, 57, 50, 48, 50, 49, 50, 50, 50, 51, 50, 52, 50, 53, 50, 54, 50, 55, 50, 56, 50, 57, 51, 48, 51, 49, 51, 50, 51, 51, 51, 52, 51, 53, 51, 54, 51, 55, 51, 56, 51, 57, 52, 48, 52, 49, 52, 50, 52, 51, 52, 52, 52, 53, 52, 54, 52, 55, 52, 56, 52, 57, 53, 48, 53, 49, 53, 50, 53, 51, 53, 52, 53, 53, 53, 54, 53, 55, 53, 56, 53, 57, 54, 48, 54, 49, 54, 50, 54, 51, 54, 52, 54, 53, 54, 54, 54, 55, 54, 56, 54, 57, 55, 48, 55, 49, 55, 50, 55, 51, 55, 52, 55, 53, 55, 54, 55, 55, 55, 56, 55, 57, 56, 48, 56, 49, 56, 50, 56, 51, 56, 52, 56, 53, 56, 54, 56, 55, 56, 56, 56, 57, 57, 48, 57, 49, 57, 50, 57, 51, 57, 52, 57, 53, 57, 54, 57, 55, 57, 56, 57, 57])) (.t 75)), o 77 (.mv (.t 11)), o 78 (.index (.c (.str [48, 48, 48, 49, 48, 50, 48, 51, 48, 52, 48, 53, 48, 54, 48, 55, 48, 56, 48, 57, 49, 48, 49, 49, 49, 50, 49, 51, 49, 52, 49, 53, 49, 54, 49, 55, 49, 56, 49, 57, 50, 48, 50, 49, 50, 50, 50, 51, 50, 52, 50, 53, 50, 54, 50, 55, 50, 56, 50, 57, 51, 48, 51, 49, 51, 50, 51, 51, 51, 52, 51, 53, 51, 54, 51, 55, 51, 56, 51, 57, 52, 48, 52, 49, 52, 50, 52, 51, 52, 52, 52, 53, 52, 54, 52, 55, 52, 56, 52, 57, 53, 48, 53, 49, 53, 50, 53, 51, 53, 52, 53, 53, 53, 54, 53, 55, 53, 56, 53, 57, 54, 48, 54, 49, 54, 50, 54, 51, 54, 52, 54, 53, 54, 54, 54, 55, 54, 56, 54, 57, 55, 48, 55, 49, 55, 50, 55, 51, 55, 52, 55, 53, 55, 54, 55, 55, 55, 56, 55, 57, 56, 48, 56, 49, 56, 50, 56, 51, 56, 52, 56, 53, 56, 54, 56, 55, 56, 56, 56, 57, 57, 48, 57, 49, 57, 50, 57, 51, 57, 52, 57, 53, 57, 54, 57, 55, 57, 56, 57, 57])) (.t 77)), o 79 (.iaddr 1 (.t 68) (.t 70)), st (.store 1 (.t 79) (.t 76)), o 80 (.iaddr 1 (.t 71) (.t 73)), st (.store 1 (.t 80) (.t 78))])
     (.seq (.reg [o 81 (.mv (.t 0)), o 82 (.mv (.t 4)), o 83 (.bin .sub (.t 82) (.c (.int .i64 7))), o 84 (.mv (.t 0)), o 85 (.mv (.t 4)), o 86 (.bin .sub (.t 85) (.c (.int .i64 8))), o 87 (.mv (.t 10)), o 88 (.bin .add (.t 87) (.c (.int .u32 1))), o 89 (.index (.c (.str [48, 48, 48, 49, 48, 50, 48, 51, 48, 52, 48, 53, 48, 54, 48, 55, 48, 56, 48, 57, 49, 48, 49, 49, 49, 50, 49, 51, 49, 52, 49, 53, 49, 54, 49, 55, 49, 56, 49, 57, 50, 48, 50, 49, 50, 50, 50, 51, 50, 52, 50, 53, 50, 54, 50, 55, 50, 56, 50, 57, 51, 48, 51, 49, 51, 50, 51, 51, 51, 52, 51, 53, 51, 54, 51, 55, 51, 56, 51, 57, 52, 48, 52, 49, 52, 50, 52, 51, 52, 52, 52, 53, 52, 54, 52, 55, 52, 56, 52, 57, 53, 48, 53, 49, 53, 50, 53, 51, 53, 52, 53, 53, 53, 54, 53, 55, 53, 56, 53, 57, 54, 48, 54, 49, 54, 50, 54, 51, 54, 52, 54, 53, 54, 54, 54, 55, 54, 56, 54, 57, 55, 48, 55, 49, 55, 50, 55, 51, 55, 52, 55, 53, 55, 54, 55, 55, 55, 56, 55, 57, 56, 48, 56, 49, 56, 50, 56, 51, 56, 52, 56, 53, 56, 54, 56, 55, 56, 56, 56, 57, 57, 48, 57, 49, 57, 50, 57, 51, 57, 52, 57, 53, 57, 54, 57, 55, 57, 56, 57, 57])) (.t 88)), o 90 (.mv (.t 10)), o 91 (.index (.c (.str [48, 48, 48, 49, 48, 50, 48, 51, 48, 52, 48, 53, 48, 54, 48, 55, 48, 56, 48, 57, 49, 48, 49, 49, 49, 50, 49, 51, 49, 52, 49, 53, 49, 54, 49, 55, 49, 56, 49, 57, 50, 48, 50, 49, 50, 50, 50, 51, 50, 52, 50, 53, 50, 54, 50, 55, 50, 56, 50, 57, 51, 48, 51, 49, 51, 50, 51, 51, 51, 52, 51, 53, 51, 54, 51, 55, 51, 56, 51, 57, 52, 48, 52, 49, 52, 50, 52, 51, 52, 52, 52, 53, 52, 54, 52, 55, 52, 56, 52, 57, 53, 48, 53, 49, 53, 50, 53, 51, 53, 52, 53, 53, 53, 54, 53, 55, 53, 56, 53, 57, 54, 48, 54, 49, 54, 50, 54, 51, 54, 52, 54, 53, 54, 54, 54, 55, 54, 56, 54, 57, 55, 48, 55, 49, 55, 50, 55, 51, 55, 52, 55, 53, 55, 54, 55, 55, 55, 56, 55, 57, 56, 48, 56, 49, 56, 50, 56, 51, 56, 52, 56, 53, 56, 54, 56, 55, 56, 56, 56, 57, 57, 48, 57, 49, 57, 50, 57, 51, 57, 52, 57, 53, 57, 54, 57, 55, 57, 56, 57, 57])) (.t 90)), o 92 (.iaddr 1 (.t 81) (.t 83)), st (.store 1 (.t 92) (.t 89)), o 93 (.iaddr 1 (.t 84) (.t 86)), st (.store 1 (.t 93) (.t 91))])
     (.reg [o 94 (.mv (.t 4)), o 95 (.bin .sub (.t 94) (.c (.int .i64 8))), o 4 (.mv (.t 95))]))))))))))))))
  (.seq (.reg [o 96 (.mv (.t 1)), o 97 (.toInt .u32 (.t 96)), o 12 (.mv (.t 97))])
  (.seq (.seq (.reg [o 98 (.mv (.t 4)), o 99 (.bin .geq (.t 98) (.c (.int .i64 4)))])
  (.cond (.t 99) (.seq (.reg [o 100 (.mv (.t 12)), o 101 (.bin .rem (.t 100) (.c (.int .u32 10000))), o 13 (.mv (.t 101))])
   (.seq (.reg [o 102 (.mv (.t 12)), o 103 (.bin .quo (.t 102) (.c (.int .u32 10000))), o 12 (.mv (.t 103))])
   (.seq (.reg [o 104 (.mv (.t 13)), o 105 (.bin .quo (.t 104) (.c (.int .u32 100))), o 106 (.bin .mul (.t 105) (.c (.int .u32 2))), o 107 (.mv (.t 13)), o 108 (.bin .rem (.t 107) (.c (.int .u32 100))), o 109 (.bin .mul (.t 108) (.c (.int .u32 2))), o 14 (.mv (.t 106)), o 15 (.mv (.t 109))])
   (.seq (.reg [o 110 (.mv (.t 0)), o 111 (.mv (.t 4)), o 112 (.bin .sub (.t 111) (.c (.int .i64 1))), o 113 (.mv (.t 0)), o 114 (.mv (.t 4)), o 115 (.bin .sub (.t 114) (.c (.int .i64 2))), o 116 (.mv (.t 15)), o 117 (.bin .add (.t 116) (.c (.int .u32 1))), o 118 (.index (.c (.str [48, 48, 48, 49, 48, 50, 48, 51, 48, 52, 48, 53, 48, 54, 48, 55, 48, 56, 48, 57, 49, 48, 49, 49, 49, 50, 49, 51, 49, 52, 49, 53, 49, 54, 49, 55, 49, 56, 49, 57, 50, 48, 50, 49, 50, 50, 50, 51, 50, 52, 50, 53, 50, 54, 50, 55, 50, 56, 50, 57, 51, 48, 51, 49, 51, 50, 51, 51, 51, 52, 51, 53, 51, 54, 51, 55, 51, 56, 51, 57, 52, 48, 52, 49, 52, 50, 52, 51, 52, 52, 52, 53, 52, 54, 52, 55, 52, 56, 52, 57, 53, 48, 53, 49, 53, 50, 53, 51, 53, 52, 53, 53, 53, 54, 53, 55, 53, 56, 53, 57, 54, 48, 54, 49, 54, 50, 54, 51, 54, 52, 54, 53, 54, 54, 54, 55, 54, 56, 54, 57, 55, 48, 55, 49, 55, 50, 55, 51, 55, 52, 55, 53, 55, 54, 55, 55, 55, 56, 55, 57, 56, 48, 56, 49, 56, 50, 56, 51, 56, 52, 56, 53, 56, 54, 56, 55, 56, 56, 56, 57, 57, 48, 57, 49, 57, 50, 57, 51, 57, 52, 57, 53, 57, 54, 57, 55, 57, 56, 57, 57])) (.t 117)), o 119 (.mv (.t 15)), o 120 (.index (.c (.str [48, 48, 48, 49, 48, 50, 48, 51, 48, 52, 48, 53, 48, 54, 48, 55, 48, 56, 48, 57, 49, 48, 49, 49, 49, 50, 49, 51, 49, 52, 49, 53, 49, 54, 49, 55, 49, 56, 49, 57, 50, 48, 50, 49, 50, 50, 50, 51, 50, 52, 50, 53, 50, 54, 50, 55, 50, 56, 50, 57, 51, 48, 51, 49, 51, 50, 51, 51, 51, 52, 51, 53, 51, 54, 51, 55, 51, 56, 51, 57, 52, 48, 52, 49, 52, 50, 52, 51, 52, 52, 52, 53, 52, 54, 52, 55, 52, 56, 52, 57, 53, 48, 53, 49, 53, 50, 53, 51, 53, 52, 53, 53, 53, 54, 53, 55, 53, 56, 53, 57, 54, 48, 54, 49, 54, 50, 54, 51, 54, 52, 54, 53, 54, 54, 54, 55, 54, 56, 54, 57, 55, 48, 55, 49, 55, 50, 55, 51, 55, 52, 55, 53, 55, 54, 55, 55, 55, 56, 55, 57, 56, 48, 56, 49, 56, 50, 56, 51, 56, 52, 56, 53, 56, 54, 56, 55, 56, 56, 56, 57, 57, 48, 57, 49, 57, 50, 57, 51, 57, 52, 57, 53, 57, 54, 57, 55, 57, 56, 57, 57])) (.t 119)), o 121 (.iaddr 1 (.t 110) (.t 112)), st (.store 1 (.t 121) (.t 118)), o 122 (.iaddr 1 (.t 113) (.t 115)), st (.store 1 (.t 122) (.t 120))])
   (.seq (.reg [o 123 (.mv (.t 0)), o 124 (.mv (.t 4)), o 125 (.bin .sub (.t 124) (.c (.int .i64 3))), o 126 (.mv (.t 0)), o 127 (.mv (.t 4)), o 128 (.bin .sub (.t 127) (.c (.int .i64 4))), o 129 (.mv (.t 14)), o 130 (.bin .add (.t 129) (.c (.int .u32 1))), o 131 (.index (.c (.str [48, 48, 48, 49, 48, 50, 48, 51, 48, 52, 48, 53, 48, 54, 48, 55, 48, 56, 48, 57, 49, 48, 49, 49, 49, 50, 49, 51, 49, 52, 49, 53, 49, 54, 49, 55, 49, 56, 49, 57, 50, 48, 50, 49, 50, 50, 50, 51, 50, 52, 50, 53, 50, 54, 50, 55, 50, 56, 50, 57, 51, 48, 51, 49, 51, 50, 51, 51, 51, 52, 51, 53, 51, 54, 51, 55, 51, 56, 51, 57, 52, 48, 52, 49, 52, 50, 52, 51, 52, 52, 52, 53, 52, 54, 52, 55, 52, 56, 52, 57, 53, 48, 53, 49, 53, 50, 53, 51, 53, 52, 53, 53, 53, 54, 53, 55, 53, 56, 53, 57, 54, 48, 54, 49, 54, 50, 54, 51, 54, 52, 54, 53, 54, 54, 54, 55, 54, 56, 54, 57, 55, 48, 55, 49, 55, 50, 55, 51, 55, 52, 55, 53, 55, 54, 55, 55, 55, 56, 55, 57, 56, 48, 56, 49, 56, 50, 56, 51, 56, 52, 56, 53, 56, 54, 56, 55, 56, 56, 56, 57, 57, 48, 57, 49, 57, 50, 57, 51, 57, 52, 57, 53, 57, 54, 57, 55, 57, 56, 57, 57])) (.t 130)), o 132 (.mv (.t 14)), o 133 (.index (.c (.str [48, 48, 48, 49, 48, 50, 48, 51, 48, 52, 48, 53, 48, 54, 48, 55, 48, 56, 48, 57, 49, 48, 49, 49, 49, 50, 49, 51, 49, 52, 49, 53, 49, 54, 49, 55, 49, 56, 49, 57, 50, 48, 50, 49, 50, 50, 50, 51, 50, 52, 50, 53, 50, 54, 50, 55, 50, 56, 50, 57, 51, 48, 51, 49, 51, 50, 51, 51, 51, 52, 51, 53, 51, 54, 51, 55, 51, 56, 51, 57, 52, 48, 52, 49, 52, 50, 52, 51, 52, 52, 52, 53, 52, 54, 52, 55, 52, 56, 52, 57, 53, 48, 53, 49, 53, 50, 53, 51, 53, 52, 53, 53, 53, 54, 53, 55, 53, 56, 53, 57, 54, 48, 54, 49, 54, 50, 54, 51, 54, 52, 54, 53, 54, 54, 54, 55, 54, 56, 54, 57, 55, 48, 55, 49, 55, 50, 55, 51, 55, 52, 55, 53, 55, 54, 55, 55, 55, 56, 55, 57, 56, 48, 56, 49, 56, 50, 56, 51, 56, 52, 56, 53, 56, 54, 56, 55, 56, 56, 56, 57, 57, 48, 57, 49, 57, 50, 57, 51, 57, 52, 57, 53, 57, 54, 57, 55, 57, 56, 57, 57])) (.t 132)), o 134 (.iaddr 1 (.t 123) (.t 125)), st (.store 1 (.t 134) (.t 131)), o 135 (.iaddr 1 (.t 126) (.t 128)), st (.store 1 (.t 135) (.t 133))])
   (.reg [o 136 (.mv (.t 4)), o 137 (.bin .sub (.t 136) (.c (.int .i64 4))), o 4 (.mv (.t 137))])))))) (.skip)))
  (.seq (.seq (.reg [o 138 (.mv (.t 4)), o 139 (.bin .geq (.t 138) (.c (.int .i64 2)))])
  (.cond (.t 139) (.seq (.reg [o 140 (.mv (.t 12)), o 141 (.bin .rem (.t 140) (.c (.int .u32 100))), o 142 (.bin .mul (.t 141) (.c (.int .u32 2))), o 16 (.mv (.t 142))])
   (.seq (.reg [o 143 (.mv (.t 12)), o 144 (.bin .quo (.t 143) (.c (.int .u32 100))), o 12 (.mv (.t 144))])
   (.seq (.reg [o 145 (.mv (.t 0)), o 146 (.mv (.t 4)), o 147 (.bin .sub (.t 146) (.c (.int .i64 1))), o 148 (.mv (.t 0)), o 149 (.mv (.t 4)), o 150 (.bin .sub (.t 149) (.c (.int .i64 2))), o 151 (.mv (.t 16)), o 152 (.bin .add (.t 151) (.c (.int .u32 1))), o 153 (.index (.c (.str [48, 48, 48, 49, 48, 50, 48, 51, 48, 52, 48, 53, 48, 54, 48, 55, 48, 56, 48, 57, 49, 48, 49, 49, 49, 50, 49, 51, 49, 52, 49, 53, 49, 54, 49, 55, 49, 56, 49, 57, 50, 48, 50, 49, 50, 50, 50, 51, 50, 52, 50, 53, 50, 54, 50, 55, 50, 56, 50, 57, 51, 48, 51, 49, 51, 50, 51, 51, 51, 52, 51, 53, 51, 54, 51, 55, 51, 56, 51, 57, 52, 48, 52, 49, 52, 50, 52, 51, 52, 52, 52, 53, 52, 54, 52, 55, 52, 56, 52, 57, 53, 48, 53, 49, 53, 50, 53, 51, 53, 52, 53, 53, 53, 54, 53, 55, 53, 56, 53, 57, 54, 48, 54, 49, 54, 50, 54, 51, 54, 52, 54, 53, 54, 54, 54, 55, 54, 56, 54, 57, 55, 48, 55, 49, 55, 50, 55, 51, 55, 52, 55, 53, 55, 54, 55, 55, 55, 56, 55, 57, 56, 48, 56, 49, 56, 50, 56, 51, 56, 52, 56, 53, 56, 54, 56, 55, 56, 56, 56, 57, 57, 48, 57, 49, 57, 50, 57, 51, 57, 52, 57, 53, 57, 54, 57, 55, 57, 56, 57, 57])) (.t 152)), o 154 (.mv (.t 16)), o 155 (.index (.c (.str [48, 48, 48, 49, 48, 50, 48, 51, 48, 52, 48, 53, 48, 54, 48, 55, 48, 56, 48, 57, 49, 48, 49, 49, 49, 50, 49, 51, 49, 52, 49, 53, 49, 54, 49, 55, 49, 56, 49, 57, 50, 48, 50, 49, 50, 50, 50, 51, 50, 52, 50, 53, 50, 54, 50, 55, 50, 56, 50, 57, 51, 48, 51, 49, 51, 50, 51, 51, 51, 52, 51, 53, 51, 54, 51, 55, 51, 56, 51, 57, 52, 48, 52, 49, 52, 50, 52, 51, 52, 52, 52, 53, 52, 54, 52, 55, 52, 56, 52, 57, 53, 48, 53, 49, 53, 50, 53, 51, 53, 52, 53, 53, 53, 54, 53, 55, 53, 56, 53, 57, 54, 48, 54, 49, 54, 50, 54, 51, 54, 52, 54, 53, 54, 54, 54, 55, 54, 56, 54, 57, 55, 48, 55, 49, 55, 50, 55, 51, 55, 52, 55, 53, 55, 54, 55, 55, 55, 56, 55, 57, 56, 48, 56, 49, 56, 50, 56, 51, 56, 52, 56, 53, 56, 54, 56, 55, 56, 56, 56, 57, 57, 48, 57, 49, 57, 50, 57, 51, 57, 52, 57, 53, 57, 54, 57, 55, 57, 56, 57, 57])) (.t 154)), o 156 (.iaddr 1 (.t 145) (.t 147)), st (.store 1 (.t 156) (.t 153)), o 157 (.iaddr 1 (.t 148) (.t 150)), st (.store 1 (.t 157) (.t 155))])
   (.reg [o 158 (.mv (.t 4)), o 159 (.bin .sub (.t 158) (.c (.int .i64 2))), o 4 (.mv (.t 159))])))) (.skip)))
  (.seq (.reg [o 160 (.mv (.t 4)), o 161 (.bin .gtr (.t 160) (.c (.int .i64 0)))])
  (.cond (.t 161) (.reg [o 162 (.mv (.t 0)), o 163 (.mv (.t 12)), o 164 (.bin .add (.c (.int .u32 48)) (.t 163)), o 165 (.toInt .u8 (.t 164)), o 166 (.iaddr 1 (.t 162) (.c (.int .i64 0))), st (.store 1 (.t 166) (.t 165))]) (.skip))))))),
  []⟩
/- internal/bytealg.hashStr[string] -/
def F193 : Fun := ⟨39,
  .seq (.reg [o 2 (.mv (.c (.int .u32 0))), o 3 (.mv (.c (.int .u32 0)))])
  (.seq (.reg [o 4 (.mv (.c (.int .u32 0)))])
  (.seq (.seq (.reg [o 5 (.mv (.c (.int .i64 0)))])
  (.block 0 (.loop (.seq (.seq (.reg [o 9 (.mv (.t 5)), o 10 (.mv (.t 0)), o 11 (.lenS (.t 10)), o 12 (.bin .lss (.t 9) (.t 11))])
    (.cond (.t 12) (.skip) (.exit 0)))
    (.seq (.block 1 (.reg [o 15 (.mv (.t 4)), o 16 (.bin .mul (.t 15) (.c (.int .u32 16777619))), o 17 (.mv (.t 0)), o 18 (.mv (.t 5)), o 19 (.index (.t 17) (.t 18)), o 20 (.toInt .u32 (.t 19)), o 21 (.bin .add (.t 16) (.t 20)), o 4 (.mv (.t 21))]))
    (.reg [o 13 (.mv (.t 5)), o 14 (.bin .add (.t 13) (.c (.int .i64 1))), o 5 (.mv (.t 14))]))))))
  (.seq (.reg [o 6 (.mv (.c (.int .u32 1))), o 7 (.mv (.c (.int .u32 16777619)))])
  (.seq (.seq (.reg [o 22 (.mv (.t 0)), o 23 (.lenS (.t 22)), o 8 (.mv (.t 23))])
  (.block 2 (.loop (.seq (.seq (.reg [o 24 (.mv (.t 8)), o 25 (.bin .gtr (.t 24) (.c (.int .i64 0)))])
    (.cond (.t 25) (.skip) (.exit 2)))
    (.seq (.block 3 (.seq (.seq (.reg [o 28 (.mv (.t 8)), o 29 (.bin .and (.t 28) (.c (.int .i64 1))), o 30 (.bin .neq (.t 29) (.c (.int .i64 0)))])
     (.cond (.t 30) (.reg [o 31 (.mv (.t 6)), o 32 (.mv (.t 7)), o 33 (.bin .mul (.t 31) (.t 32)), o 6 (.mv (.t 33))]) (.skip)))
     (.reg [o 34 (.mv (.t 7)), o 35 (.mv (.t 7)), o 36 (.bin .mul (.t 34) (.t 35)), o 7 (.mv (.t 36))])))
    (.reg [o 26 (.mv (.t 8)), o 27 (.bin .shr (.t 26) (.c (.int .u64 1))), o 8 (.mv (.t 27))]))))))
  (.seq (.reg [o 37 (.mv (.t 4)), o 38 (.mv (.t 6)), o 2 (.mv (.t 37)), o 3 (.mv (.t 38))])
  (.ret)))))),
  [.tmp 2, .tmp 3]⟩
/- strconv.baseError -/
def F200 : Fun := ⟨16,
  .seq (.reg [o 6 (.mv (.c .nptr))])
  (.seq (.reg [o 7 (.mv (.t 0)), o 8 (.mv (.t 1)), o 9 (.call 208 [(.t 8)]), o 10 (.mv (.t 2)), o 11 (.call 120 [(.t 10)]), o 12 (.bin .add (.c (.str [105, 110, 118, 97, 108, 105, 100, 32, 98, 97, 115, 101, 32])) (.t 11)), o 13 (.call 209 [(.t 12)]), o 14 (.build [(.str []), (.str []), (.ifc true)] [(0, 1, (.t 7)), (1, 1, (.t 9)), (2, 1, (.t 13))]), o 15 (.box 3 (.t 14)), o 6 (.mv (.t 15))])
  (.ret)),
  [.tmp 6]⟩
/- strconv.bitSizeError -/
def F201 : Fun := ⟨16,
  .seq (.reg [o 6 (.mv (.c .nptr))])
  (.seq (.reg [o 7 (.mv (.t 0)), o 8 (.mv (.t 1)), o 9 (.call 208 [(.t 8)]), o 10 (.mv (.t 2)), o 11 (.call 120 [(.t 10)]), o 12 (.bin .add (.c (.str [105, 110, 118, 97, 108, 105, 100, 32, 98, 105, 116, 32, 115, 105, 122, 101, 32])) (.t 11)), o 13 (.call 209 [(.t 12)]), o 14 (.build [(.str []), (.str []), (.ifc true)] [(0, 1, (.t 7)), (1, 1, (.t 9)), (2, 1, (.t 13))]), o 15 (.box 3 (.t 14)), o 6 (.mv (.t 15))])
  (.ret)),
  [.tmp 6]⟩
/- internal/strconv.log10Pow2 -/
def F202 : Fun := ⟨6,
  .seq (.reg [o 2 (.mv (.c (.int .i64 0)))])
  (.seq (.reg [o 3 (.mv (.t 0)), o 4 (.bin .mul (.t 3) (.c (.int .i64 78913))), o 5 (.bin .shr (.t 4) (.c (.int .u64 18))), o 2 (.mv (.t 5))])
  (.ret)),
  [.tmp 2]⟩
/- math/bits.Len64 -/
def F203 : Fun := ⟨25,
  .seq (.reg [o 2 (.mv (.c (.int .i64 0)))])
  (.seq (.seq (.reg [o 3 (.mv (.t 0)), o 4 (.bin .geq (.t 3) (.c (.int .u64 4294967296)))])
  (.cond (.t 4) (.seq (.reg [o 5 (.mv (.t 0)), o 6 (.bin .shr (.t 5) (.c (.int .u64 32))), o 0 (.mv (.t 6))])
   (.reg [o 2 (.mv (.c (.int .i64 32)))])) (.skip)))
  (.seq (.seq (.reg [o 7 (.mv (.t 0)), o 8 (.bin .geq (.t 7) (.c (.int .u64 65536)))])
  (.cond (.t 8) (.seq (.reg [o 9 (.mv (.t 0)), o 10 (.bin .shr (.t 9) (.c (.int .u64 16))), o 0 (.mv (.t 10))])
   (.reg [o 11 (.mv (.t 2)), o 12 (.bin .add (.t 11) (.c (.int .i64 16))), o 2 (.mv (.t 12))])) (.skip)))
  (.seq (.seq (.reg [o 13 (.mv (.t 0)), o 14 (.bin .geq (.t 13) (.c (.int .u64 256)))])
  (.cond (.t 14) (.seq (.reg [o 15 (.mv (.t 0)), o 16 (.bin .shr (.t 15) (.c (.int .u64 8))), o 0 (.mv (.t 16))])
   (.reg [o 17 (.mv (.t 2)), o 18 (.bin .add (.t 17) (.c (.int .i64 8))), o 2 (.mv (.t 18))])) (.skip)))
  (.seq (.reg [o 19 (.mv (.t 2)), o 20 (.mv (.t 0)), o 21 (.toInt .u8 (.t 20)), o 22 (.index (.c (.str [0, 1, 2, 2, 3, 3, 3, 3, 4, 4, 4, 4, 4, 4, 4, 4, 5, 5, 5, 5, 5, 5, 5, 5, 5, 5, 5, 5, 5, 5, 5, 5, 6, 6, 6, 6, 6, 6, 6, 6, 6, 6, 6, 6, 6, 6, 6, 6, 6, 6, 6, 6, 6, 6, 6, 6, 6, 6, 6, 6, 6, 6, 6, 6, 7, 7, 7, 7, 7, 7, 7, 7, 7, 7, 7, 7, 7, 7, 7, 7, 7, 7, 7, 7, 7, 7, 7, 7, 7, 7, 7, 7, 7, 7, 7, 7, 7, 7, 7, 7, 7, 7, 7, 7, 7, 7, 7, 7, 7, 7, 7, 7, 7, 7, 7, 7, 7, 7, 7, 7, 7, 7, 7, 7, 7, 7, 7, 7, 8, 8, 8, 8, 8, 8, 8, 8, 8, 8, 8, 8, 8, 8, 8, 8, 8, 8, 8, 8, 8, 8, 8, 8, 8, 8, 8, 8, 8, 8, 8, 8, 8, 8, 8, 8, 8, 8, 8, 8, 8, 8, 8, 8, 8, 8, 8, 8, 8, 8, 8, 8, 8, 8, 8, 8, 8, 8, 8, 8, 8, 8, 8, 8, 8, 8, 8, 8, 8, 8, 8, 8, 8, 8, 8, 8, 8, 8, 8, 8, 8, 8, 8, 8, 8, 8, 8, 8, 8, 8, 8, 8, 8, 8, 8, 8, 8, 8, 8, 8, 8, 8, 8, 8, 8, 8, 8, 8, 8, 8, 8, 8, 8, 8, 8, 8, 8, 8, 8, 8, 8, 8, 8, 8, 8, 8, 8, 8])) (.t 21)), o 23 (.toInt .i64 (.t 22)), o 24 (.bin .add (.t 19) (.t 23)), o 2 (.mv (.t 24))])
  (.ret))))),
  [.tmp 2]⟩
/- internal/strconv.bool2[int] -/
def F204 : Fun := ⟨4,
  .seq (.reg [o 2 (.mv (.c (.int .i64 0)))])
  (.seq (.seq (.reg [o 3 (.mv (.t 0))])
  (.cond (.t 3) (.seq (.reg [o 2 (.mv (.c (.int .i64 1)))])
   (.ret)) (.skip)))
  (.seq (.reg [o 2 (.mv (.c (.int .i64 0)))])
  (.ret))),
  [.tmp 2]⟩
/- internal/strconv.isPowerOfTwo -/
def F205 : Fun := ⟨8,
  .seq (.reg [o 2 (.mv (.c (.bool false)))])
  (.seq (.reg [o 3 (.mv (.t 0)), o 4 (.mv (.t 0)), o 5 (.bin .sub (.t 4) (.c (.int .i64 1))), o 6 (.bin .and (.t 3) (.t 5)), o 7 (.bin .eql (.t 6) (.c (.int .i64 0))), o 2 (.mv (.t 7))])
  (.ret)),
  [.tmp 2]⟩
/- math/bits.TrailingZeros -/
def F206 : Fun := ⟨8,
  .seq (.reg [o 2 (.mv (.c (.int .i64 0)))])
  (.seq (.cond (.c (.bool false)) (.seq (.reg [o 3 (.mv (.t 0)), o 4 (.toInt .u32 (.t 3)), o 5 (.call 210 [(.t 4)]), o 2 (.mv (.t 5))])
   (.ret)) (.skip))
  (.seq (.reg [o 6 (.mv (.t 0)), o 7 (.call 211 [(.t 6)]), o 2 (.mv (.t 7))])
  (.ret))),
  [.tmp 2]⟩
/- internal/strconv.lower -/
def F212 : Fun := ⟨5,
  .seq (.reg [o 2 (.mv (.c (.int .u8 0)))])
  (.seq (.reg [o 3 (.mv (.t 0)), o 4 (.bin .or (.t 3) (.c (.int .u8 32))), o 2 (.mv (.t 4))])
  (.ret)),
  [.tmp 2]⟩
/- internal/strconv.underscoreOK -/
def F213 : Fun := ⟨94,
  .seq (.reg [o 2 (.mv (.c (.bool false)))])
  (.seq (.reg [o 3 (.mv (.c (.int .i32 94)))])
  (.seq (.reg [o 4 (.mv (.c (.int .i64 0)))])
  (.seq (.seq (.reg [o 6 (.mv (.t 0)), o 7 (.lenS (.t 6)), o 8 (.bin .geq (.t 7) (.c (.int .i64 1))), o 9 (.mv (.t 8)), og 10 (.mv (.t 0)) 9 true, og 11 (.index (.t 10) (.c (.int .i64 0))) 9 true, og 12 (.bin .eql (.t 11) (.c (.int .u8 45))) 9 true, og 13 (.mv (.t 12)) 9 true, og 14 (.mv (.t 0)) 13 false, og 15 (.index (.t 14) (.c (.int .i64 0))) 13 false, og 16 (.bin .eql (.t 15) (.c (.int .u8 43))) 13 false, og 17 (.pick (.t 13) (.c (.bool true)) (.t 16)) 9 true, o 18 (.pick (.t 9) (.t 17) (.c (.bool false)))])
  (.cond (.t 18) (.reg [o 19 (.mv (.t 0)), o 20 (.sliceS (.t 19) (some (.c (.int .i64 1))) none), o 0 (.mv (.t 20))]) (.skip)))
  (.seq (.reg [o 5 (.mv (.c (.bool false)))])
  (.seq (.seq (.reg [o 21 (.mv (.t 0)), o 22 (.lenS (.t 21)), o 23 (.bin .geq (.t 22) (.c (.int .i64 2))), o 24 (.mv (.t 23)), og 25 (.mv (.t 0)) 24 true, og 26 (.index (.t 25) (.c (.int .i64 0))) 24 true, og 27 (.bin .eql (.t 26) (.c (.int .u8 48))) 24 true, o 28 (.pick (.t 24) (.t 27) (.c (.bool false))), o 29 (.mv (.t 28)), og 30 (.mv (.t 0)) 29 true, og 31 (.index (.t 30) (.c (.int .i64 1))) 29 true, og 32 (.call 212 [(.t 31)]) 29 true, og 33 (.bin .eql (.t 32) (.c (.int .u8 98))) 29 true, og 34 (.mv (.t 33)) 29 true, og 35 (.mv (.t 0)) 34 false, og 36 (.index (.t 35) (.c (.int .i64 1))) 34 false, og 37 (.call 212 [(.t 36)]) 34 false, og 38 (.bin .eql (.t 37) (.c (.int .u8 111))) 34 false, og 39 (.pick (.t 34) (.c (.bool true)) (.t 38)) 29 true, og 40 (.mv (.t 39)) 29 true, og 41 (.mv (.t 0)) 40 false, og 42 (.index (.t 41) (.c (.int .i64 1))) 40 false, og 43 (.call 212 [(.t 42)]) 40 false, og 44 (.bin .eql (.t 43) (.c (.int .u8 120))) 40 false, og 45 (.pick (.t 40) (.c (.bool true)) (.t 44)) 29 true, o 46 (.pick (.t 29) (.t 45) (.c (.bool false)))])
  (.cond (.t 46) (.seq (.reg [o 4 (.mv (.c (.int .i64 2)))])
   (.seq (.reg [o 3 (.mv (.c (.int .i32 48)))])
   (.reg [o 47 (.mv (.t 0)), o 48 (.index (.t 47) (.c (.int .i64 1))), o 49 (.call 212 [(.t 48)]), o 50 (.bin .eql (.t 49) (.c (.int .u8 120))), o 5 (.mv (.t 50))]))) (.skip)))
  (.seq (.block 0 (.loop (.seq (.seq (.reg [o 51 (.mv (.t 4)), o 52 (.mv (.t 0)), o 53 (.lenS (.t 52)), o 54 (.bin .lss (.t 51) (.t 53))])
    (.cond (.t 54) (.skip) (.exit 0)))
    (.seq (.block 1 (.seq (.seq (.reg [o 57 (.mv (.t 0)), o 58 (.mv (.t 4)), o 59 (.index (.t 57) (.t 58)), o 60 (.bin .leq (.c (.int .u8 48)) (.t 59)), o 61 (.mv (.t 60)), og 62 (.mv (.t 0)) 61 true, og 63 (.mv (.t 4)) 61 true, og 64 (.index (.t 62) (.t 63)) 61 true, og 65 (.bin .leq (.t 64) (.c (.int .u8 57))) 61 true, o 66 (.pick (.t 61) (.t 65) (.c (.bool false))), o 67 (.mv (.t 66)), og 68 (.mv (.t 5)) 67 false, og 69 (.mv (.t 68)) 67 false, og 70 (.mv (.t 0)) 69 true, og 71 (.mv (.t 4)) 69 true, og 72 (.index (.t 70) (.t 71)) 69 true, og 73 (.call 212 [(.t 72)]) 69 true, og 74 (.bin .leq (.c (.int .u8 97)) (.t 73)) 69 true, og 75 (.pick (.t 69) (.t 74) (.c (.bool false))) 67 false, og 76 (.mv (.t 75)) 67 false, og 77 (.mv (.t 0)) 76 true, og 78 (.mv (.t 4)) 76 true, og 79 (.index (.t 77) (.t 78)) 76 true, og 80 (.call 212 [(.t 79)]) 76 true, og 81 (.bin .leq (.t 80) (.c (.int .u8 102))) 76 true, og 82 (.pick (.t 76) (.t 81) (.c (.bool false))) 67 false, o 83 (.pick (.t 67) (.c (.bool true)) (.t 82))])
     (.cond (.t 83) (.seq (.reg [o 3 (.mv (.c (.int .i32 48)))])
      (.exit 1)) (.skip)))
     (.seq (.seq (.reg [o 84 (.mv (.t 0)), o 85 (.mv (.t 4)), o 86 (.index (.t 84) (.t 85)), o 87 (.bin .eql (.t 86) (.c (.int .u8 95)))])
     (.cond (.t 87) (.seq (.seq (.reg [o 88 (.mv (.t 3)), o 89 (.bin .neq (.t 88) (.c (.int .i32 48)))])
      (.cond (.t 89) (.seq (.reg [o 2 (.mv (.c (.bool false)))])
       (.ret)) (.skip)))
      (.seq (.reg [o 3 (.mv (.c (.int .i32 95)))])
      (.exit 1))) (.skip)))
     (.seq (.seq (.reg [o 90 (.mv (.t 3)), o 91 (.bin .eql (.t 90) (.c (.int .i32 95)))])
     (.cond (.t 91) (.seq (.reg [o 2 (.mv (.c (.bool false)))])
      (.ret)) (.skip)))
     (.reg [o 3 (.mv (.c (.int .i32 33)))])))))
    (.reg [o 55 (.mv (.t 4)), o 56 (.bin .add (.t 55) (.c (.int .i64 1))), o 4 (.mv (.t 56))])))))
  (.seq (.reg [o 92 (.mv (.t 3)), o 93 (.bin .neq (.t 92) (.c (.int .i32 95))), o 2 (.mv (.t 93))])
  (.ret)))))))),
  [.tmp 2]⟩

theorem c3 : compF Tryd.prog 3 = some F3 := by kernel_rfl
theorem c4 : compF Tryd.prog 4 = some F4 := by kernel_rfl
theorem c5 : compF Tryd.prog 5 = some F5 := by kernel_rfl
theorem c6 : compF Tryd.prog 6 = some F6 := by kernel_rfl
theorem c7 : compF Tryd.prog 7 = some F7 := by kernel_rfl
theorem c8 : compF Tryd.prog 8 = some F8 := by kernel_rfl
theorem c9 : compF Tryd.prog 9 = some F9 := by kernel_rfl
theorem c10 : compF Tryd.prog 10 = some F10 := by kernel_rfl
theorem c11 : compF Tryd.prog 11 = some F11 := by kernel_rfl
theorem c12 : compF Tryd.prog 12 = some F12 := by kernel_rfl
theorem c13 : compF Tryd.prog 13 = some F13 := by kernel_rfl
theorem c14 : compF Tryd.prog 14 = some F14 := by kernel_rfl
theorem c15 : compF Tryd.prog 15 = some F15 := by kernel_rfl
theorem c16 : compF Tryd.prog 16 = some F16 := by kernel_rfl
theorem c17 : compF Tryd.prog 17 = some F17 := by kernel_rfl
theorem c18 : compF Tryd.prog 18 = some F18 := by kernel_rfl
theorem c19 : compF Tryd.prog 19 = some F19 := by kernel_rfl
theorem c20 : compF Tryd.prog 20 = some F20 := by kernel_rfl
theorem c21 : compF Tryd.prog 21 = some F21 := by kernel_rfl
theorem c22 : compF Tryd.prog 22 = some F22 := by kernel_rfl
theorem c23 : compF Tryd.prog 23 = some F23 := by kernel_rfl
theorem c24 : compF Tryd.prog 24 = some F24 := by kernel_rfl
theorem c25 : compF Tryd.prog 25 = some F25 := by kernel_rfl
theorem c26 : compF Tryd.prog 26 = some F26 := by kernel_rfl
theorem c27 : compF Tryd.prog 27 = some F27 := by kernel_rfl
theorem c28 : compF Tryd.prog 28 = some F28 := by kernel_rfl
theorem c29 : compF Tryd.prog 29 = some F29 := by kernel_rfl
theorem c30 : compF Tryd.prog 30 = some F30 := by kernel_rfl
theorem c31 : compF Tryd.prog 31 = some F31 := by kernel_rfl
theorem c32 : compF Tryd.prog 32 = some F32 := by kernel_rfl
theorem c33 : compF Tryd.prog 33 = some F33 := by kernel_rfl
theorem c34 : compF Tryd.prog 34 = some F34 := by kernel_rfl
theorem c35 : compF Tryd.prog 35 = some F35 := by kernel_rfl
theorem c36 : compF Tryd.prog 36 = some F36 := by kernel_rfl
theorem c37 : compF Tryd.prog 37 = some F37 := by kernel_rfl
theorem c38 : compF Tryd.prog 38 = some F38 := by kernel_rfl
theorem c39 : compF Tryd.prog 39 = some F39 := by kernel_rfl
theorem c40 : compF Tryd.prog 40 = some F40 := by kernel_rfl
theorem c41 : compF Tryd.prog 41 = some F41 := by kernel_rfl
theorem c42 : compF Tryd.prog 42 = some F42 := by kernel_rfl
theorem c43 : compF Tryd.prog 43 = some F43 := by kernel_rfl
theorem c44 : compF Tryd.prog 44 = some F44 := by kernel_rfl
theorem c45 : compF Tryd.prog 45 = some F45 := by kernel_rfl
theorem c46 : compF Tryd.prog 46 = some F46 := by kernel_rfl
theorem c47 : compF Tryd.prog 47 = some F47 := by kernel_rfl
theorem c48 : compF Tryd.prog 48 = some F48 := by kernel_rfl
theorem c49 : compF Tryd.prog 49 = some F49 := by kernel_rfl
theorem c50 : compF Tryd.prog 50 = some F50 := by kernel_rfl
theorem c51 : compF Tryd.prog 51 = some F51 := by kernel_rfl
theorem c52 : compF Tryd.prog 52 = some F52 := by kernel_rfl
theorem c53 : compF Tryd.prog 53 = some F53 := by kernel_rfl
theorem c54 : compF Tryd.prog 54 = some F54 := by kernel_rfl
theorem c55 : compF Tryd.prog 55 = some F55 := by kernel_rfl
theorem c56 : compF Tryd.prog 56 = some F56 := by kernel_rfl
theorem c57 : compF Tryd.prog 57 = some F57 := by kernel_rfl
theorem c58 : compF Tryd.prog 58 = some F58 := by kernel_rfl
theorem c59 : compF Tryd.prog 59 = some F59 := by kernel_rfl
theorem c60 : compF Tryd.prog 60 = some F60 := by kernel_rfl
theorem c61 : compF Tryd.prog 61 = some F61 := by kernel_rfl
theorem c62 : compF Tryd.prog 62 = some F62 := by kernel_rfl
theorem c63 : compF Tryd.prog 63 = some F63 := by kernel_rfl
theorem c64 : compF Tryd.prog 64 = some F64 := by kernel_rfl
theorem c65 : compF Tryd.prog 65 = some F65 := by kernel_rfl
theorem c66 : compF Tryd.prog 66 = some F66 := by kernel_rfl
theorem c67 : compF Tryd.prog 67 = some F67 := by kernel_rfl
theorem c68 : compF Tryd.prog 68 = some F68 := by kernel_rfl
theorem c69 : compF Tryd.prog 69 = some F69 := by kernel_rfl
theorem c70 : compF Tryd.prog 70 = some F70 := by kernel_rfl
theorem c71 : compF Tryd.prog 71 = some F71 := by kernel_rfl
theorem c72 : compF Tryd.prog 72 = some F72 := by kernel_rfl
theorem c73 : compF Tryd.prog 73 = some F73 := by kernel_rfl
theorem c74 : compF Tryd.prog 74 = some F74 := by kernel_rfl
theorem c75 : compF Tryd.prog 75 = some F75 := by kernel_rfl
theorem c76 : compF Tryd.prog 76 = some F76 := by kernel_rfl
theorem c77 : compF Tryd.prog 77 = some F77 := by kernel_rfl
theorem c78 : compF Tryd.prog 78 = some F78 := by kernel_rfl
theorem c79 : compF Tryd.prog 79 = some F79 := by kernel_rfl
theorem c80 : compF Tryd.prog 80 = some F80 := by kernel_rfl
theorem c81 : compF Tryd.prog 81 = some F81 := by kernel_rfl
theorem c82 : compF Tryd.prog 82 = some F82 := by kernel_rfl
theorem c83 : compF Tryd.prog 83 = some F83 := by kernel_rfl
theorem c84 : compF Tryd.prog 84 = some F84 := by kernel_rfl
theorem c85 : compF Tryd.prog 85 = some F85 := by kernel_rfl
theorem c86 : compF Tryd.prog 86 = some F86 := by kernel_rfl
theorem c87 : compF Tryd.prog 87 = some F87 := by kernel_rfl
theorem c88 : compF Tryd.prog 88 = some F88 := by kernel_rfl
theorem c89 : compF Tryd.prog 89 = some F89 := by kernel_rfl
theorem c90 : compF Tryd.prog 90 = some F90 := by kernel_rfl
theorem c91 : compF Tryd.prog 91 = some F91 := by kernel_rfl
theorem c92 : compF Tryd.prog 92 = some F92 := by kernel_rfl
theorem c93 : compF Tryd.prog 93 = some F93 := by kernel_rfl
theorem c94 : compF Tryd.prog 94 = some F94 := by kernel_rfl
theorem c95 : compF Tryd.prog 95 = some F95 := by kernel_rfl
theorem c96 : compF Tryd.prog 96 = some F96 := by kernel_rfl
theorem c97 : compF Tryd.prog 97 = some F97 := by kernel_rfl
theorem c98 : compF Tryd.prog 98 = some F98 := by kernel_rfl
theorem c99 : compF Tryd.prog 99 = some F99 := by kernel_rfl
theorem c100 : compF Tryd.prog 100 = some F100 := by kernel_rfl
theorem c101 : compF Tryd.prog 101 = some F101 := by kernel_rfl
theorem c102 : compF Tryd.prog 102 = some F102 := by kernel_rfl
theorem c103 : compF Tryd.prog 103 = some F103 := by kernel_rfl
theorem c104 : compF Tryd.prog 104 = some F104 := by kernel_rfl
theorem c105 : compF Tryd.prog 105 = some F105 := by kernel_rfl
theorem c106 : compF Tryd.prog 106 = some F106 := by kernel_rfl
theorem c107 : compF Tryd.prog 107 = some F107 := by kernel_rfl
theorem c108 : compF Tryd.prog 108 = some F108 := by kernel_rfl
theorem c109 : compF Tryd.prog 109 = some F109 := by kernel_rfl
theorem c110 : compF Tryd.prog 110 = some F110 := by kernel_rfl
theorem c111 : compF Tryd.prog 111 = some F111 := by kernel_rfl
theorem c112 : compF Tryd.prog 112 = some F112 := by kernel_rfl
theorem c113 : compF Tryd.prog 113 = some F113 := by kernel_rfl
theorem c114 : compF Tryd.prog 114 = some F114 := by kernel_rfl
theorem c115 : compF Tryd.prog 115 = some F115 := by kernel_rfl
theorem c116 : compF Tryd.prog 116 = some F116 := by kernel_rfl
theorem c117 : compF Tryd.prog 117 = some F117 := by kernel_rfl
theorem c118 : compF Tryd.prog 118 = some F118 := by kernel_rfl
theorem c119 : compF Tryd.prog 119 = some F119 := by kernel_rfl
theorem c120 : compF Tryd.prog 120 = some F120 := by kernel_rfl
theorem c121 : compF Tryd.prog 121 = some F121 := by kernel_rfl
theorem c122 : compF Tryd.prog 122 = some F122 := by kernel_rfl
theorem c123 : compF Tryd.prog 123 = some F123 := by kernel_rfl
theorem c124 : compF Tryd.prog 124 = some F124 := by kernel_rfl
theorem c125 : compF Tryd.prog 125 = some F125 := by kernel_rfl
theorem c126 : compF Tryd.prog 126 = some F126 := by kernel_rfl
theorem c127 : compF Tryd.prog 127 = some F127 := by kernel_rfl
theorem c128 : compF Tryd.prog 128 = some F128 := by kernel_rfl
theorem c129 : compF Tryd.prog 129 = some F129 := by kernel_rfl
theorem c130 : compF Tryd.prog 130 = some F130 := by kernel_rfl
theorem c131 : compF Tryd.prog 131 = some F131 := by kernel_rfl
theorem c134 : compF Tryd.prog 134 = some F134 := by kernel_rfl
theorem c135 : compF Tryd.prog 135 = some F135 := by kernel_rfl
theorem c136 : compF Tryd.prog 136 = some F136 := by kernel_rfl
theorem c137 : compF Tryd.prog 137 = some F137 := by kernel_rfl
theorem c138 : compF Tryd.prog 138 = some F138 := by kernel_rfl
theorem c139 : compF Tryd.prog 139 = some F139 := by kernel_rfl
theorem c140 : compF Tryd.prog 140 = some F140 := by kernel_rfl
theorem c141 : compF Tryd.prog 141 = some F141 := by kernel_rfl
theorem c142 : compF Tryd.prog 142 = some F142 := by kernel_rfl
theorem c143 : compF Tryd.prog 143 = some F143 := by kernel_rfl
theorem c144 : compF Tryd.prog 144 = some F144 := by kernel_rfl
theorem c145 : compF Tryd.prog 145 = some F145 := by kernel_rfl
theorem c146 : compF Tryd.prog 146 = some F146 := by kernel_rfl
theorem c147 : compF Tryd.prog 147 = some F147 := by kernel_rfl
theorem c148 : compF Tryd.prog 148 = some F148 := by kernel_rfl
theorem c149 : compF Tryd.prog 149 = some F149 := by kernel_rfl
theorem c150 : compF Tryd.prog 150 = some F150 := by kernel_rfl
theorem c151 : compF Tryd.prog 151 = some F151 := by kernel_rfl
theorem c152 : compF Tryd.prog 152 = some F152 := by kernel_rfl
theorem c153 : compF Tryd.prog 153 = some F153 := by kernel_rfl
theorem c154 : compF Tryd.prog 154 = some F154 := by kernel_rfl
theorem c156 : compF Tryd.prog 156 = some F156 := by kernel_rfl
theorem c157 : compF Tryd.prog 157 = some F157 := by kernel_rfl
theorem c158 : compF Tryd.prog 158 = some F158 := by kernel_rfl
theorem c160 : compF Tryd.prog 160 = some F160 := by kernel_rfl
theorem c162 : compF Tryd.prog 162 = some F162 := by kernel_rfl
theorem c164 : compF Tryd.prog 164 = some F164 := by kernel_rfl
theorem c165 : compF Tryd.prog 165 = some F165 := by kernel_rfl
theorem c166 : compF Tryd.prog 166 = some F166 := by kernel_rfl
theorem c167 : compF Tryd.prog 167 = some F167 := by kernel_rfl
theorem c168 : compF Tryd.prog 168 = some F168 := by kernel_rfl
theorem c169 : compF Tryd.prog 169 = some F169 := by kernel_rfl
theorem c170 : compF Tryd.prog 170 = some F170 := by kernel_rfl
theorem c171 : compF Tryd.prog 171 = some F171 := by kernel_rfl
theorem c172 : compF Tryd.prog 172 = some F172 := by kernel_rfl
theorem c174 : compF Tryd.prog 174 = some F174 := by kernel_rfl
theorem c175 : compF Tryd.prog 175 = some F175 := by kernel_rfl
theorem c176 : compF Tryd.prog 176 = some F176 := by kernel_rfl
theorem c179 : compF Tryd.prog 179 = some F179 := by kernel_rfl
theorem c180 : compF Tryd.prog 180 = some F180 := by kernel_rfl
theorem c184 : compF Tryd.prog 184 = some F184 := by kernel_rfl
theorem c188 : compF Tryd.prog 188 = some F188 := by kernel_rfl
theorem c190 : compF Tryd.prog 190 = some F190 := by kernel_rfl
theorem c193 : compF Tryd.prog 193 = some F193 := by kernel_rfl
theorem c200 : compF Tryd.prog 200 = some F200 := by kernel_rfl
theorem c201 : compF Tryd.prog 201 = some F201 := by kernel_rfl
theorem c202 : compF Tryd.prog 202 = some F202 := by kernel_rfl
theorem c203 : compF Tryd.prog 203 = some F203 := by kernel_rfl
theorem c204 : compF Tryd.prog 204 = some F204 := by kernel_rfl
theorem c205 : compF Tryd.prog 205 = some F205 := by kernel_rfl
theorem c206 : compF Tryd.prog 206 = some F206 := by kernel_rfl
theorem c212 : compF Tryd.prog 212 = some F212 := by kernel_rfl
theorem c213 : compF Tryd.prog 213 = some F213 := by kernel_rfl
end A
end Go.Proofs.YtfcimcoanlgldaaDoor
