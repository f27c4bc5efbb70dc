import Derived.Shelf.Strings.OnBuilder
import Derived.Shelf.Small.Wraps
import Derived.Shelf.LaysM
import Derived.Shelf.Strconv.Itoa3
import Derived.Shelf.Strings.Cut
import Derived.Shelf.Strings.Prefix
import Derived.Shelf.Strings.Split
import Derived.Shelf.Strings.SplitShaped
import Derived.Test.YtfcimcoanlgldaaDoorProg
import Derived.Below
import Derived.Shelf.LaysC
import Derived.Shelf.Strconv.AtoiAll
import Derived.Test.YtfcimcoanlgldaaDoorB07

/-
  Library contracts at this program, laid by the kit's tool (lay-shelf, lay-plain). No condition.
-/









namespace Go.Proofs
open Go.Shelf
def Tryd.lays156_ren : Go.Shelf.Ren := ⟨fun | 156 => 132 | 165 => 159 | 166 => 160 | 169 => 161 | 240 => 181 | 241 => 182 | 276 => 194 | 277 => 195 | n => n, fun | 31 => 108 | 9 => 9 | 3 => 3 | 4 => 4 | 0 => 0 | 20 => 20 | 72 => 174 | 76 => 178 | 70 => 172 | 37 => 127 | 75 => 177 | 127 => 191 | 164 => 205 | 5 => 5 | 80 => 180 | n => n, fun | n => n⟩
theorem Tryd.lays156 : Go.Proofs.Lays.n156 Tryd.prog Tryd.lays156_ren := {
  mixed := by kernel_rfl
  f156 := Tryd.func132.trans (congrArg some (by kernel_rfl))
  f165 := Tryd.func159.trans (congrArg some (by kernel_rfl))
  f166 := Tryd.func160.trans (congrArg some (by kernel_rfl))
  f169 := Tryd.func161.trans (congrArg some (by kernel_rfl))
  f240 := Tryd.func181.trans (congrArg some (by kernel_rfl))
  f241 := Tryd.func182.trans (congrArg some (by kernel_rfl))
  f276 := Tryd.func194.trans (congrArg some (by kernel_rfl))
  f277 := Tryd.func195.trans (congrArg some (by kernel_rfl))
  t0 := Tryd.underlying0
  a0 := Tryd.isAgg0
  z0 := Tryd.sizeOf0
  v0 := Tryd.zeroValue0
  t3 := Tryd.underlying3
  a3 := Tryd.isAgg3
  z3 := Tryd.sizeOf3
  v3 := Tryd.zeroValue3
  t4 := Tryd.underlying4
  a4 := Tryd.isAgg4
  z4 := Tryd.sizeOf4
  v4 := Tryd.zeroValue4
  t9 := Tryd.underlying9
  a9 := Tryd.isAgg9
  z9 := Tryd.sizeOf9
  v9 := Tryd.zeroValue9
  t20 := Tryd.underlying20
  a20 := Tryd.isAgg20
  z20 := Tryd.sizeOf20
  v20 := Tryd.zeroValue20
  t31 := Tryd.underlying108
  a31 := Tryd.isAgg108
  z31 := Tryd.sizeOf108
  v31 := Tryd.zeroValue108
  t37 := Tryd.underlying127
  a37 := Tryd.isAgg127
  z37 := Tryd.sizeOf127
  v37 := Tryd.zeroValue127
  t70 := Tryd.underlying172
  a70 := Tryd.isAgg172
  z70 := Tryd.sizeOf172
  v70 := Tryd.zeroValue172
  t72 := Tryd.underlying174
  a72 := Tryd.isAgg174
  z72 := Tryd.sizeOf174
  v72 := Tryd.zeroValue174
  t75 := Tryd.underlying177
  a75 := Tryd.isAgg177
  z75 := Tryd.sizeOf177
  v75 := Tryd.zeroValue177
  t76 := Tryd.underlying178
  a76 := Tryd.isAgg178
  z76 := Tryd.sizeOf178
  v76 := Tryd.zeroValue178
  t127 := Tryd.underlying191
  a127 := Tryd.isAgg191
  z127 := Tryd.sizeOf191
  v127 := Tryd.zeroValue191
  t164 := Tryd.underlying205
  a164 := Tryd.isAgg205
  z164 := Tryd.sizeOf205
  v164 := Tryd.zeroValue205 }
theorem Tryd.Builder_Extra_156 : Builder.Extra Tryd.prog Tryd.lays156_ren := {
  sizeBuilder := by kernel_rfl
  liesBuilder := by kernel_rfl
  t5 := Tryd.underlying5
  a5 := Tryd.isAgg5
  z5 := Tryd.sizeOf5
  v5 := Tryd.zeroValue5
  infoByte := by kernel_rfl
  cellsByte := by kernel_rfl
  sizeByte := by kernel_rfl
  neB5 := by decide }
open Go.RowKit in
theorem Tryd.strings_Join_none (a : Option Addr) (c : Nat) (sep : ByteArray) (w : World) :
    Calls Tryd.prog 132 #[.slice a 0 c, .string sep] w fun e w' => e = .returned (.string ⟨#[]⟩) ∧ w' = w := Any.strings_Join_none Tryd.lays156 Tryd.Builder_Extra_156 a c sep w
open Go.RowKit in
theorem Tryd.strings_Join (bk o c : Nat) (xs : List ByteArray) (sep : ByteArray) (w : World) (hcells : ∀ (j : Nat) x, xs[j]? = some x → w.cell? ⟨bk, o + j, none⟩ = some (.string x)) (hbk : bk < w.heap.size) (hN : xs.length ≤ 140737488355328) (hcap : xs.length ≤ c) (hlen : (Lib.join (xs.map (·.data.toList)) sep.data.toList).length ≤ 140737488355328) :
    Calls Tryd.prog 132 #[.slice (some ⟨bk, o, none⟩) xs.length c, .string sep] w fun e w' => e = .returned (.string ⟨(Lib.join (xs.map (·.data.toList)) sep.data.toList).toArray⟩) ∧ Below w.heap.size w w' := Any.strings_Join Tryd.lays156 Tryd.Builder_Extra_156 bk o c xs sep w hcells hbk hN hcap hlen
def Tryd.lays103_ren : Go.Shelf.Ren := ⟨fun | 103 => 82 | 210 => 129 | 206 => 156 | n => n, fun | 9 => 9 | 4 => 4 | 24 => 100 | 3 => 3 | n => n, fun | n => n⟩
theorem Tryd.lays103 : Go.Proofs.Lays.n103 Tryd.prog Tryd.lays103_ren := {
  mixed := by kernel_rfl
  f103 := Tryd.func82.trans (congrArg some (by kernel_rfl))
  f206 := Tryd.func156.trans (congrArg some (by kernel_rfl))
  f210 := Tryd.func129.trans (congrArg some (by kernel_rfl))
  t3 := Tryd.underlying3
  a3 := Tryd.isAgg3
  z3 := Tryd.sizeOf3
  v3 := Tryd.zeroValue3
  t4 := Tryd.underlying4
  a4 := Tryd.isAgg4
  z4 := Tryd.sizeOf4
  v4 := Tryd.zeroValue4
  t9 := Tryd.underlying9
  a9 := Tryd.isAgg9
  z9 := Tryd.sizeOf9
  v9 := Tryd.zeroValue9
  t24 := Tryd.underlying100
  a24 := Tryd.isAgg100
  z24 := Tryd.sizeOf100
  v24 := Tryd.zeroValue100 }
open Go.RowKit in
theorem Tryd.strings_CutPrefix (s p : ByteArray) (w : World) :
    Calls Tryd.prog 82 #[.string s, .string p] w fun e w' => e = .returned (.tuple #[.string ⟨(Lib.trimPrefix s.data.toList p.data.toList).toArray⟩, .bool (Lib.hasPrefix s.data.toList p.data.toList)]) ∧ w' = w := Any.strings_CutPrefix Tryd.lays103 s p w
def Tryd.lays104_ren : Go.Shelf.Ren := ⟨fun | 104 => 83 | 211 => 130 | 207 => 157 | n => n, fun | 9 => 9 | 4 => 4 | 24 => 100 | 3 => 3 | n => n, fun | n => n⟩
theorem Tryd.lays104 : Go.Proofs.Lays.n104 Tryd.prog Tryd.lays104_ren := {
  mixed := by kernel_rfl
  f104 := Tryd.func83.trans (congrArg some (by kernel_rfl))
  f207 := Tryd.func157.trans (congrArg some (by kernel_rfl))
  f211 := Tryd.func130.trans (congrArg some (by kernel_rfl))
  t3 := Tryd.underlying3
  a3 := Tryd.isAgg3
  z3 := Tryd.sizeOf3
  v3 := Tryd.zeroValue3
  t4 := Tryd.underlying4
  a4 := Tryd.isAgg4
  z4 := Tryd.sizeOf4
  v4 := Tryd.zeroValue4
  t9 := Tryd.underlying9
  a9 := Tryd.isAgg9
  z9 := Tryd.sizeOf9
  v9 := Tryd.zeroValue9
  t24 := Tryd.underlying100
  a24 := Tryd.isAgg100
  z24 := Tryd.sizeOf100
  v24 := Tryd.zeroValue100 }
open Go.RowKit in
theorem Tryd.strings_CutSuffix (s p : ByteArray) (w : World) (hs : s.size ≤ 9223372036854775807) :
    Calls Tryd.prog 83 #[.string s, .string p] w fun e w' => e = .returned (.tuple #[.string ⟨(Lib.trimSuffix s.data.toList p.data.toList).toArray⟩, .bool (Lib.hasSuffix s.data.toList p.data.toList)]) ∧ w' = w := Any.strings_CutSuffix Tryd.lays104 s p w hs
def Tryd.laysM171_ren : Go.Shelf.Ren := ⟨fun | 171 => 120 | 243 => 151 | 246 => 173 | 283 => 188 | 284 => 189 | 285 => 190 | 286 => 191 | 129 => 203 | 317 => 202 | 318 => 204 | 319 => 205 | 320 => 206 | 337 => 210 | 338 => 211 | n => n, fun | 3 => 3 | 9 => 9 | 2 => 2 | 4 => 4 | 171 => 196 | 0 => 0 | 53 => 197 | 37 => 127 | 5 => 5 | 173 => 200 | 212 => 215 | 51 => 202 | 20 => 20 | 213 => 216 | 46 => 190 | 232 => 232 | 233 => 233 | n => n, fun | 17 => 1 | 18 => 6 | 19 => 7 | n => n⟩
theorem Tryd.laysM171 : Go.Proofs.LaysM.n171 Tryd.prog Tryd.laysM171_ren := {
  mixed := by kernel_rfl
  f129 := Tryd.func203.trans (congrArg some (by kernel_rfl))
  f171 := Tryd.func120.trans (congrArg some (by kernel_rfl))
  f243 := Tryd.func151.trans (congrArg some (by kernel_rfl))
  f246 := Tryd.func173.trans (congrArg some (by kernel_rfl))
  f283 := Tryd.func188.trans (congrArg some (by kernel_rfl))
  f284 := Tryd.func189.trans (congrArg some (by kernel_rfl))
  f285 := Tryd.func190.trans (congrArg some (by kernel_rfl))
  f286 := Tryd.func191.trans (congrArg some (by kernel_rfl))
  f317 := Tryd.func202.trans (congrArg some (by kernel_rfl))
  f318 := Tryd.func204.trans (congrArg some (by kernel_rfl))
  f319 := Tryd.func205.trans (congrArg some (by kernel_rfl))
  f320 := Tryd.func206.trans (congrArg some (by kernel_rfl))
  f337 := Tryd.func210.trans (congrArg some (by kernel_rfl))
  f338 := Tryd.func211.trans (congrArg some (by kernel_rfl))
  t0 := Tryd.underlying0
  a0 := Tryd.isAgg0
  z0 := Tryd.sizeOf0
  v0 := Tryd.zeroValue0
  t2 := Tryd.underlying2
  a2 := Tryd.isAgg2
  z2 := Tryd.sizeOf2
  v2 := Tryd.zeroValue2
  t3 := Tryd.underlying3
  a3 := Tryd.isAgg3
  z3 := Tryd.sizeOf3
  v3 := Tryd.zeroValue3
  t4 := Tryd.underlying4
  a4 := Tryd.isAgg4
  z4 := Tryd.sizeOf4
  v4 := Tryd.zeroValue4
  t5 := Tryd.underlying5
  a5 := Tryd.isAgg5
  z5 := Tryd.sizeOf5
  v5 := Tryd.zeroValue5
  t9 := Tryd.underlying9
  a9 := Tryd.isAgg9
  z9 := Tryd.sizeOf9
  v9 := Tryd.zeroValue9
  t20 := Tryd.underlying20
  a20 := Tryd.isAgg20
  z20 := Tryd.sizeOf20
  v20 := Tryd.zeroValue20
  t37 := Tryd.underlying127
  a37 := Tryd.isAgg127
  z37 := Tryd.sizeOf127
  v37 := Tryd.zeroValue127
  t46 := Tryd.underlying190
  a46 := Tryd.isAgg190
  z46 := Tryd.sizeOf190
  v46 := Tryd.zeroValue190
  t51 := Tryd.underlying202
  a51 := Tryd.isAgg202
  z51 := Tryd.sizeOf202
  v51 := Tryd.zeroValue202
  t53 := Tryd.underlying197
  a53 := Tryd.isAgg197
  z53 := Tryd.sizeOf197
  v53 := Tryd.zeroValue197
  t171 := Tryd.underlying196
  a171 := Tryd.isAgg196
  z171 := Tryd.sizeOf196
  v171 := Tryd.zeroValue196
  t173 := Tryd.underlying200
  a173 := Tryd.isAgg200
  z173 := Tryd.sizeOf200
  v173 := Tryd.zeroValue200
  t212 := Tryd.underlying215
  a212 := Tryd.isAgg215
  z212 := Tryd.sizeOf215
  v212 := Tryd.zeroValue215
  t213 := Tryd.underlying216
  a213 := Tryd.isAgg216
  z213 := Tryd.sizeOf216
  t232 := Tryd.underlying232
  a232 := Tryd.isAgg232
  z232 := Tryd.sizeOf232
  v232 := Tryd.zeroValue232
  t233 := Tryd.underlying233
  a233 := Tryd.isAgg233
  z233 := Tryd.sizeOf233
  v233 := Tryd.zeroValue233
  g17 := by kernel_rfl
  g18 := by kernel_rfl
  g19 := by kernel_rfl
  i0 := by kernel_rfl
  i2 := by kernel_rfl
  i3 := by kernel_rfl
  i4 := by kernel_rfl
  i5 := by kernel_rfl
  i9 := by kernel_rfl
  i20 := by kernel_rfl
  i37 := by kernel_rfl
  i46 := by kernel_rfl
  i51 := by kernel_rfl
  i53 := by kernel_rfl
  i171 := by kernel_rfl
  i173 := by kernel_rfl
  i212 := by kernel_rfl
  i232 := by kernel_rfl
  i233 := by kernel_rfl
  m17 := by kernel_rfl
  m18 := by kernel_rfl
  m19 := by kernel_rfl }
open Go.RowKit Go.Sort Go.Lib in
theorem Tryd.strconv_Itoa (n : Int) (h0 : -9223372036854775808 ≤ n) (h1 : n ≤ 9223372036854775807) (w : World) (htab : Lib.TabIs Tryd.prog w "internal/strconv.uint64pow10" .u64 Lib.pow10Tab) :
    Calls Tryd.prog 120 #[.int .i64 n] w fun e w' => e = .returned (.string ⟨(Lib.itoa n).toArray⟩) ∧ ∃ k os, w' = grow (w.drewN k) os := Any.strconv_Itoa Tryd.laysM171 n h0 h1 w htab
def Tryd.lays145_ren : Go.Shelf.Ren := ⟨fun | 145 => 81 | 220 => 128 | 219 => 155 | 217 => 177 | 225 => 178 | 224 => 179 | 267 => 180 | 266 => 192 | 314 => 193 | n => n, fun | 9 => 9 | 4 => 4 | 59 => 103 | 3 => 3 | 5 => 5 | 46 => 190 | 146 => 203 | 51 => 202 | n => n, fun | 1 => 0 | n => n⟩
theorem Tryd.lays145 : Go.Proofs.Lays.n145 Tryd.prog Tryd.lays145_ren := {
  mixed := by kernel_rfl
  f145 := Tryd.func81.trans (congrArg some (by kernel_rfl))
  f217 := Tryd.func177.trans (congrArg some (by kernel_rfl))
  f219 := Tryd.func155.trans (congrArg some (by kernel_rfl))
  f220 := Tryd.func128.trans (congrArg some (by kernel_rfl))
  f224 := Tryd.func179.trans (congrArg some (by kernel_rfl))
  f225 := Tryd.func178.trans (congrArg some (by kernel_rfl))
  f266 := Tryd.func192.trans (congrArg some (by kernel_rfl))
  f267 := Tryd.func180.trans (congrArg some (by kernel_rfl))
  f314 := Tryd.func193.trans (congrArg some (by kernel_rfl))
  t3 := Tryd.underlying3
  a3 := Tryd.isAgg3
  z3 := Tryd.sizeOf3
  v3 := Tryd.zeroValue3
  t4 := Tryd.underlying4
  a4 := Tryd.isAgg4
  z4 := Tryd.sizeOf4
  v4 := Tryd.zeroValue4
  t5 := Tryd.underlying5
  a5 := Tryd.isAgg5
  z5 := Tryd.sizeOf5
  v5 := Tryd.zeroValue5
  t9 := Tryd.underlying9
  a9 := Tryd.isAgg9
  z9 := Tryd.sizeOf9
  v9 := Tryd.zeroValue9
  t46 := Tryd.underlying190
  a46 := Tryd.isAgg190
  z46 := Tryd.sizeOf190
  v46 := Tryd.zeroValue190
  t51 := Tryd.underlying202
  a51 := Tryd.isAgg202
  z51 := Tryd.sizeOf202
  v51 := Tryd.zeroValue202
  t59 := Tryd.underlying103
  a59 := Tryd.isAgg103
  z59 := Tryd.sizeOf103
  v59 := Tryd.zeroValue103
  t146 := Tryd.underlying203
  a146 := Tryd.isAgg203
  z146 := Tryd.sizeOf203
  v146 := Tryd.zeroValue203
  g1 := by kernel_rfl }
open Go.RowKit Go.Lib in
theorem Tryd.strings_Cut (s sep : ByteArray) (m : Int) (w : World) (hs : s.size < 4294967281) (hm : w.cell? ⟨0, 0, none⟩ = some (.int .i64 m)) :
    Calls Tryd.prog 81 #[.string s, .string sep] w fun e w' => e = .returned (.tuple #[.string ⟨(Lib.cut s.data.toList sep.data.toList).1.toArray⟩, .string ⟨(Lib.cut s.data.toList sep.data.toList).2.1.toArray⟩, .bool (Lib.cut s.data.toList sep.data.toList).2.2]) ∧ ∃ n, w' = w.drewN n := Any.strings_Cut Tryd.lays145 s sep m w hs hm
def Tryd.lays101_ren : Go.Shelf.Ren := ⟨fun | 101 => 87 | 208 => 134 | 206 => 156 | n => n, fun | 9 => 9 | 4 => 4 | 3 => 3 | n => n, fun | n => n⟩
theorem Tryd.lays101 : Go.Proofs.Lays.n101 Tryd.prog Tryd.lays101_ren := {
  mixed := by kernel_rfl
  f101 := Tryd.func87.trans (congrArg some (by kernel_rfl))
  f206 := Tryd.func156.trans (congrArg some (by kernel_rfl))
  f208 := Tryd.func134.trans (congrArg some (by kernel_rfl))
  t3 := Tryd.underlying3
  a3 := Tryd.isAgg3
  z3 := Tryd.sizeOf3
  v3 := Tryd.zeroValue3
  t4 := Tryd.underlying4
  a4 := Tryd.isAgg4
  z4 := Tryd.sizeOf4
  v4 := Tryd.zeroValue4
  t9 := Tryd.underlying9
  a9 := Tryd.isAgg9
  z9 := Tryd.sizeOf9
  v9 := Tryd.zeroValue9 }
open Go.RowKit Go.Lib in
theorem Tryd.strings_TrimPrefix (s p : ByteArray) (w : World) :
    Calls Tryd.prog 87 #[.string s, .string p] w fun e w' => e = .returned (.string ⟨(Lib.trimPrefix s.data.toList p.data.toList).toArray⟩) ∧ w' = w := Any.strings_TrimPrefix Tryd.lays101 s p w
def Tryd.lays146_ren : Go.Shelf.Ren := ⟨fun | 146 => 86 | 221 => 133 | 268 => 162 | 138 => 163 | 143 => 164 | 195 => 183 | 197 => 184 | 218 => 185 | 219 => 155 | 260 => 196 | 217 => 177 | 225 => 178 | 224 => 179 | 267 => 180 | 266 => 192 | 314 => 193 | n => n, fun | 9 => 9 | 31 => 108 | 3 => 3 | 4 => 4 | 0 => 0 | 105 => 193 | 21 => 21 | 5 => 5 | 46 => 190 | 119 => 219 | 139 => 222 | 138 => 221 | 146 => 203 | 51 => 202 | n => n, fun | 1 => 0 | 3 => 2 | 4 => 3 | n => n⟩
theorem Tryd.lays146 : Go.Proofs.Lays.n146 Tryd.prog Tryd.lays146_ren := {
  mixed := by kernel_rfl
  f138 := Tryd.func163.trans (congrArg some (by kernel_rfl))
  f143 := Tryd.func164.trans (congrArg some (by kernel_rfl))
  f146 := Tryd.func86.trans (congrArg some (by kernel_rfl))
  f195 := Tryd.func183.trans (congrArg some (by kernel_rfl))
  f197 := Tryd.func184.trans (congrArg some (by kernel_rfl))
  f217 := Tryd.func177.trans (congrArg some (by kernel_rfl))
  f218 := Tryd.func185.trans (congrArg some (by kernel_rfl))
  f219 := Tryd.func155.trans (congrArg some (by kernel_rfl))
  f221 := Tryd.func133.trans (congrArg some (by kernel_rfl))
  f224 := Tryd.func179.trans (congrArg some (by kernel_rfl))
  f225 := Tryd.func178.trans (congrArg some (by kernel_rfl))
  f260 := Tryd.func196.trans (congrArg some (by kernel_rfl))
  f266 := Tryd.func192.trans (congrArg some (by kernel_rfl))
  f267 := Tryd.func180.trans (congrArg some (by kernel_rfl))
  f268 := Tryd.func162.trans (congrArg some (by kernel_rfl))
  f314 := Tryd.func193.trans (congrArg some (by kernel_rfl))
  t0 := Tryd.underlying0
  a0 := Tryd.isAgg0
  z0 := Tryd.sizeOf0
  v0 := Tryd.zeroValue0
  t3 := Tryd.underlying3
  a3 := Tryd.isAgg3
  z3 := Tryd.sizeOf3
  v3 := Tryd.zeroValue3
  t4 := Tryd.underlying4
  a4 := Tryd.isAgg4
  z4 := Tryd.sizeOf4
  v4 := Tryd.zeroValue4
  t5 := Tryd.underlying5
  a5 := Tryd.isAgg5
  z5 := Tryd.sizeOf5
  v5 := Tryd.zeroValue5
  t9 := Tryd.underlying9
  a9 := Tryd.isAgg9
  z9 := Tryd.sizeOf9
  v9 := Tryd.zeroValue9
  t21 := Tryd.underlying21
  a21 := Tryd.isAgg21
  z21 := Tryd.sizeOf21
  v21 := Tryd.zeroValue21
  t31 := Tryd.underlying108
  a31 := Tryd.isAgg108
  z31 := Tryd.sizeOf108
  v31 := Tryd.zeroValue108
  t46 := Tryd.underlying190
  a46 := Tryd.isAgg190
  z46 := Tryd.sizeOf190
  v46 := Tryd.zeroValue190
  t51 := Tryd.underlying202
  a51 := Tryd.isAgg202
  z51 := Tryd.sizeOf202
  v51 := Tryd.zeroValue202
  t105 := Tryd.underlying193
  a105 := Tryd.isAgg193
  z105 := Tryd.sizeOf193
  v105 := Tryd.zeroValue193
  t119 := Tryd.underlying219
  a119 := Tryd.isAgg219
  z119 := Tryd.sizeOf219
  t138 := Tryd.underlying221
  a138 := Tryd.isAgg221
  z138 := Tryd.sizeOf221
  v138 := Tryd.zeroValue221
  t139 := Tryd.underlying222
  a139 := Tryd.isAgg222
  z139 := Tryd.sizeOf222
  v139 := Tryd.zeroValue222
  t146 := Tryd.underlying203
  a146 := Tryd.isAgg203
  z146 := Tryd.sizeOf203
  v146 := Tryd.zeroValue203
  g1 := by kernel_rfl
  g3 := by kernel_rfl
  g4 := by kernel_rfl }
open Go.RowKit Go.Lib in
theorem Tryd.strings_Split (s sep : ByteArray) (m : Int) (w : World) (hs : s.size < 4294967281) (hm : w.cell? ⟨0, 0, none⟩ = some (.int .i64 m)) (h1 : 1 ≤ sep.size) :
    Calls Tryd.prog 86 #[.string s, .string sep] w fun e w' =>
      e = .returned (.slice (some ⟨w.heap.size, 0, none⟩) (Lib.countB s sep + 1) (Lib.countB s sep + 1)) ∧ w' = w.alloc (.cells ((Lib.splitB sep 0 (Lib.countB s sep) s).map Value.string).toArray 9) := Any.strings_Split Tryd.lays146 (by kernel_rfl) s sep m w hs hm h1
def Tryd.laysM146_ren : Go.Shelf.Ren := ⟨fun | 146 => 86 | 221 => 133 | 268 => 162 | 138 => 163 | 143 => 164 | 195 => 183 | 197 => 184 | 218 => 185 | 219 => 155 | 260 => 196 | 217 => 177 | 225 => 178 | 224 => 179 | 267 => 180 | 266 => 192 | 314 => 193 | n => n, fun | 9 => 9 | 31 => 108 | 3 => 3 | 4 => 4 | 0 => 0 | 105 => 193 | 21 => 21 | 5 => 5 | 46 => 190 | 119 => 219 | 139 => 222 | 138 => 221 | 146 => 203 | 51 => 202 | n => n, fun | 1 => 0 | 3 => 2 | 4 => 3 | n => n⟩
theorem Tryd.laysM146 : Go.Proofs.LaysM.n146 Tryd.prog Tryd.laysM146_ren := {
  mixed := by kernel_rfl
  f138 := Tryd.func163.trans (congrArg some (by kernel_rfl))
  f143 := Tryd.func164.trans (congrArg some (by kernel_rfl))
  f146 := Tryd.func86.trans (congrArg some (by kernel_rfl))
  f195 := Tryd.func183.trans (congrArg some (by kernel_rfl))
  f197 := Tryd.func184.trans (congrArg some (by kernel_rfl))
  f217 := Tryd.func177.trans (congrArg some (by kernel_rfl))
  f218 := Tryd.func185.trans (congrArg some (by kernel_rfl))
  f219 := Tryd.func155.trans (congrArg some (by kernel_rfl))
  f221 := Tryd.func133.trans (congrArg some (by kernel_rfl))
  f224 := Tryd.func179.trans (congrArg some (by kernel_rfl))
  f225 := Tryd.func178.trans (congrArg some (by kernel_rfl))
  f260 := Tryd.func196.trans (congrArg some (by kernel_rfl))
  f266 := Tryd.func192.trans (congrArg some (by kernel_rfl))
  f267 := Tryd.func180.trans (congrArg some (by kernel_rfl))
  f268 := Tryd.func162.trans (congrArg some (by kernel_rfl))
  f314 := Tryd.func193.trans (congrArg some (by kernel_rfl))
  t0 := Tryd.underlying0
  a0 := Tryd.isAgg0
  z0 := Tryd.sizeOf0
  v0 := Tryd.zeroValue0
  t3 := Tryd.underlying3
  a3 := Tryd.isAgg3
  z3 := Tryd.sizeOf3
  v3 := Tryd.zeroValue3
  t4 := Tryd.underlying4
  a4 := Tryd.isAgg4
  z4 := Tryd.sizeOf4
  v4 := Tryd.zeroValue4
  t5 := Tryd.underlying5
  a5 := Tryd.isAgg5
  z5 := Tryd.sizeOf5
  v5 := Tryd.zeroValue5
  t9 := Tryd.underlying9
  a9 := Tryd.isAgg9
  z9 := Tryd.sizeOf9
  v9 := Tryd.zeroValue9
  t21 := Tryd.underlying21
  a21 := Tryd.isAgg21
  z21 := Tryd.sizeOf21
  v21 := Tryd.zeroValue21
  t31 := Tryd.underlying108
  a31 := Tryd.isAgg108
  z31 := Tryd.sizeOf108
  v31 := Tryd.zeroValue108
  t46 := Tryd.underlying190
  a46 := Tryd.isAgg190
  z46 := Tryd.sizeOf190
  v46 := Tryd.zeroValue190
  t51 := Tryd.underlying202
  a51 := Tryd.isAgg202
  z51 := Tryd.sizeOf202
  v51 := Tryd.zeroValue202
  t105 := Tryd.underlying193
  a105 := Tryd.isAgg193
  z105 := Tryd.sizeOf193
  v105 := Tryd.zeroValue193
  t119 := Tryd.underlying219
  a119 := Tryd.isAgg219
  z119 := Tryd.sizeOf219
  t138 := Tryd.underlying221
  a138 := Tryd.isAgg221
  z138 := Tryd.sizeOf221
  v138 := Tryd.zeroValue221
  t139 := Tryd.underlying222
  a139 := Tryd.isAgg222
  z139 := Tryd.sizeOf222
  v139 := Tryd.zeroValue222
  t146 := Tryd.underlying203
  a146 := Tryd.isAgg203
  z146 := Tryd.sizeOf203
  v146 := Tryd.zeroValue203
  g1 := by kernel_rfl
  g3 := by kernel_rfl
  g4 := by kernel_rfl
  i0 := by kernel_rfl
  i3 := by kernel_rfl
  i4 := by kernel_rfl
  i5 := by kernel_rfl
  i9 := by kernel_rfl
  i21 := by kernel_rfl
  i31 := by kernel_rfl
  i46 := by kernel_rfl
  i51 := by kernel_rfl
  i105 := by kernel_rfl
  i138 := by kernel_rfl
  i139 := by kernel_rfl
  i146 := by kernel_rfl
  m1 := by kernel_rfl
  s1_3 := fun w h => Go.Proofs.cell_of_shapedOpen_int (zero := #[.int .i64 0]) (t := 3) h (of_decide_eq_true (by kernel_rfl)) (by kernel_rfl) rfl (by kernel_rfl) (by kernel_rfl) Tryd.underlying3
  m3 := by kernel_rfl
  m4 := by kernel_rfl }
end Go.Proofs

/-
  A library contract as0 a contract of the small language. No condition.
-/


namespace Go.Proofs.YtfcimcoanlgldaaDoor
namespace A
set_option linter.unusedVariables false
set_option linter.unusedSimpArgs false
open Go.RowKit

/-- A function that leaves what lay below as0 it was. -/
theorem con_below {P : Program} {f : Nat} {args : List AV} {H : List AObj} {c : Nat} {res : AV} {Q : AV → List AObj → Nat → Prop}
    (h : ∀ (G : Gh) (w : World) (vs : Array Value), G.c = c → Inv G H w.heap → vs.size = args.length → (∀ (j : Nat) (a : AV), args[j]? = some a → Rep G w.heap (vs.getD j undef) a) →
      Calls P f vs w fun e w' => ∃ v, e = .returned v ∧ Below w.heap.size w w' ∧ Rep G w.heap v res) (hq : Q res H c) : Con P f args H c Q := by
  intro G w vs hc I hs hr
  subst hc
  refine (h G w vs rfl I hs hr).mono fun e w' ⟨v, he, hb, hv⟩ => ?_
  have hx : Ext1 G w.heap G w'.heap :=
    ⟨Nat.le_refl _, fun _ _ => rfl, fun _ _ x => x, fun t ht hF => hb.block _ (I.fz t hF).2, fun b c e fr hbb => ⟨c, fr, by
      rw [hb.block b (by
        rcases Nat.lt_or_ge b w.heap.size with h1 | h1
        · exact h1
        · rw [Array.getElem?_eq_none h1] at hbb; cases hbb), hbb], rfl⟩⟩
  refine ⟨v, res, H, G, he, hq, ⟨hx, hb.os, hb.tape, hb.output, hb.size, fun b hbl _ => hb.block b hbl, fun t h1 h2 => absurd h2 (by omega), fun _ _ h => h, fun _ _ h => .inl h⟩, ?_, hv.ext hx⟩
  exact ⟨fun t hF => ⟨(I.fz t hF).1, Nat.lt_of_lt_of_le (I.fz t hF).2 hb.size⟩, fun o ho => (I.obj o ho).ext hx (hb.block _ (I.obj o ho).block), I.nfz, I.nodup, I.inj, I.gl.ext hx⟩

end A
end Go.Proofs.YtfcimcoanlgldaaDoor

/-
  Numbers, written: strconv.Itoa and the reference's FormatInt. No condition.
-/



namespace Go.Proofs.YtfcimcoanlgldaaDoor
namespace A
set_option linter.unusedVariables false
set_option linter.unusedSimpArgs false
set_option maxRecDepth 100000
open Go.RowKit

theorem nDigits_le : ∀ (k u : Nat), u < 10 ^ (k + 1) → Lib.nDigits u ≤ k + 1
  | 0, u, h => by rw [Lib.nDigits_small (by simpa using h)]; omega
  | k + 1, u, h => by
    by_cases h1 : u < 10
    · rw [Lib.nDigits_small h1]; omega
    · rw [Lib.nDigits_big h1]
      have := nDigits_le k (u / 10) (by rw [Nat.pow_succ] at h; omega)
      omega
theorem decDigits_len {u : Nat} (h : u < 9223372036854775808) : (Lib.decDigits u).length ≤ 19 := by
  rw [Lib.decDigits_length]
  exact nDigits_le 18 u (by omega)
theorem pow_tab {G : Gh} {H : List AObj} {w : World} (I : Inv G H w.heap) : Lib.TabIs Tryd.prog w "internal/strconv.uint64pow10" .u64 Lib.pow10Tab := by
  obtain ⟨_, _, hm, hg⟩ := I.gl 1 (by decide)
  obtain ⟨t, fr, ho⟩ := gl_pow hg
  unfold Lib.TabIs World.var?
  rw [show Tryd.prog.globalNamed "internal/strconv.uint64pow10" = some 1 by kernel_rfl]
  simp only [Option.bind_some, ho]
theorem itoa_fn {n : Int} (h0 : 0 ≤ n) (h1 : n ≤ 9223372036854775807) : Fnc Tryd.prog 120 [.int .i64 n] (.str (Lib.decDigits n.toNat)) := by
  intro c
  refine con_below (res := .str (Lib.decDigits n.toNat)) (fun G w vs hc I hs hr => ?_) ⟨rfl, rfl⟩
  obtain ⟨v0, rfl⟩ : ∃ v0, vs = #[v0] := by
    match vs, hs with
    | ⟨[a]⟩, _ => exact ⟨a, rfl⟩
  have h2 := hr 0 _ rfl
  simp at h2
  cases h2
  have e : Lib.itoa n = Lib.decDigits n.toNat := by unfold Lib.itoa; rw [if_neg (by omega)]
  have hl := decDigits_len (u := n.toNat) (by omega)
  have key := Tryd.strconv_Itoa n (by omega) h1 w (pow_tab I)
  rw [e] at key
  refine key.mono fun e w' ⟨h1, k, os, h2⟩ => ⟨_, h1, ?_, .str (by simp) (by unfold mx; omega)⟩
  subst h2
  refine ⟨rfl, rfl, rfl, ?_, fun j hj => ?_⟩
  · show w.heap.size ≤ (w.heap ++ os).size
    simp
  · show (w.heap ++ os)[j]? = w.heap[j]?
    exact Array.getElem?_append_left hj
theorem implFmt_fn {n : Int} (h0 : 0 ≤ n) (h1 : n ≤ 9223372036854775807) : Fnc Tryd.prog 59 [.int .i64 n] (.str (Lib.decDigits n.toNat)) := by
  refine fn_of c59 (by simp [F59]) fun c => ?_
  unfold F59
  simp
  refine call_fn0 (itoa_fn h0 h1) .str fun _ _ => ?_
  simp
  exact fin_plain ⟨rfl, rfl⟩
theorem specFmt_fn {n : Nat} (h1 : n ≤ 9223372036854775807) : Fnc Tryd.prog 117 [.int .i64 n] (.str (Lib.decDigits n)) := by
  refine fn_of c117 (by simp [F117]) fun c => ?_
  unfold F117
  by_cases hn : n = 0
  · subst hn
    simp
    exact fin_plain ⟨by rw [Lib.decDigits_one (by omega)]; rfl, rfl⟩
  have hn' : ¬ (n : Int) = 0 := by omega
  have hlt : ¬ (n : Int) < 0 := by omega
  simp [hn]
  refine loop_drop 19 (fun i e H c' => ∃ (x : Nat) (s : List UInt8), e 0 = .int .i64 n ∧ e 4 = .int .i64 x ∧ e 3 = .str s ∧ s.length = i ∧ x * 10 ^ i ≤ n ∧ (if x = 0 then s else Lib.decDigits x ++ s) = Lib.decDigits n ∧ H = []) ?_ ?_
  · exact ⟨n, [], rfl, rfl, rfl, rfl, by simp, by simp [hn], rfl⟩
  intro i e H c hi ⟨x, s, e0, e4, e3, hl, hx, hd, hH⟩ N hN
  subst hH
  by_cases h : x = 0
  · subst h
    simp at hd
    subst hd
    simp [e0, e3, e4, hlt]
    exact fin_plain ⟨rfl, rfl⟩
  rw [if_neg h] at hd
  have hi' : i < 19 := by
    rcases Nat.lt_or_ge i 19 with h1 | h1
    · exact h1
    · have : i = 19 := by omega
      subst this
      omega
  have hx' : ¬ (x : Int) = 0 := by omega
  have hxn : x ≤ n := Nat.le_trans (Nat.le_mul_of_pos_right x (Nat.pos_of_ne_zero (by simp))) hx
  have h10 : ((x : Int)).tmod 10 = ((x % 10 : Nat) : Int) := by rw [Int.tmod_eq_emod_of_nonneg (by omega)]; omega
  have hq : ((x : Int)).tdiv 10 = ((x / 10 : Nat) : Int) := by rw [Int.tdiv_eq_ediv_of_nonneg (by omega)]; omega
  have hneg : ¬ ((x % 10 : Nat) : Int) < 0 := by omega
  have h48 : (48 : Int) + ((x % 10 : Nat) : Int) = ((48 + x % 10 : Nat) : Int) := by omega
  have hw : IntKind.u8.wrap (IntKind.i64.wrap (48 + ((x % 10 : Nat) : Int))) = ((UInt8.ofNat (48 + x % 10)).toNat : Int) := by rw [h48]; exact wrap_u8 (by omega)
  simp [e0, e3, e4, h, h10, hneg, -Int.natCast_emod]
  refine toStrW_ref (l := [UInt8.ofNat (48 + x % 10)]) (by rw [hw]; rfl) rfl (by simp [mx]) ?_
  have hm1 : 1 + s.length ≤ mx := by unfold mx; omega
  have hq' : IntKind.i64.wrap ((x / 10 : Nat) : Int) = ((x / 10 : Nat) : Int) := wrap64 (by omega) (by omega)
  simp [e0, e3, e4, hm1, hq, hq', -Int.natCast_ediv]
  refine hN _ _ [] _ hi' (by simp) ⟨x / 10, UInt8.ofNat (48 + x % 10) :: s, by simp [upd, e0], by simp [upd], by simp [upd], by simp [hl], ?_, ?_, rfl⟩
  · refine Nat.le_trans ?_ hx
    rw [Nat.pow_succ, Nat.mul_comm (10 ^ i) 10, ← Nat.mul_assoc]
    exact Nat.mul_le_mul_right _ (Nat.div_mul_le_self x 10)
  · have hdx : Lib.decDigits x = if h : x < 10 then [UInt8.ofNat (48 + x)] else Lib.decDigits (x / 10) ++ [UInt8.ofNat (48 + x % 10)] := by rw [Lib.decDigits]
    rw [← hd, hdx]
    by_cases h9 : x < 10
    · have : x / 10 = 0 := by omega
      rw [dif_pos h9, if_pos this, Nat.mod_eq_of_lt h9]; rfl
    · rw [dif_neg h9, if_neg (by omega)]; simp
end A
end Go.Proofs.YtfcimcoanlgldaaDoor

/-
  FormatResponse of the reference and of the program are the same plain function; the law answers true. No condition.
-/


namespace Go.Proofs.YtfcimcoanlgldaaDoor
namespace A
set_option linter.unusedVariables false
set_option linter.unusedSimpArgs false
set_option maxRecDepth 100000

def fmtH (h : THeader) : List UInt8 := h.Name ++ ([58, 32] ++ (h.Value ++ [13, 10]))
def hsum (l : List THeader) : List UInt8 := l.flatMap fmtH
def fmtA (x : TResponse) : List UInt8 := [72, 84, 84, 80, 47, 49, 46, 49, 32] ++ (Lib.decDigits x.Code.toNat ++ ([32] ++ (reason x.Code ++ [13, 10])))
def fmtZ (b : List UInt8) : List UInt8 := [67, 111, 110, 116, 101, 110, 116, 45, 76, 101, 110, 103, 116, 104, 58, 32] ++ (Lib.decDigits b.length ++ ([13, 10, 13, 10] ++ b))
def fmtR (x : TResponse) : List UInt8 := fmtA x ++ (hsum x.Headers.list ++ fmtZ x.Body)
theorem hsum_len (l : List THeader) : (hsum l).length = szL THeader.sz l + 4 * l.length := by
  induction l with
  | nil => simp [hsum, szL]
  | cons h l ih =>
    simp only [hsum, List.flatMap_cons, List.length_append, szL, List.map_cons, List.sum_cons, List.length_cons, fmtH, THeader.sz] at ih ⊢
    simp at ih ⊢; omega
theorem reason_ok {c : Int} (h : ¬ reason c = []) : 0 ≤ c ∧ c ≤ 503 ∧ (reason c).length ≤ 20 := by
  unfold reason at h ⊢
  split at h
  · subst_vars; simp
  split at h
  · subst_vars; simp
  split at h
  · subst_vars; simp
  split at h
  · subst_vars; simp
  split at h
  · subst_vars; simp
  · exact absurd rfl h
theorem fmtA_len {x : TResponse} (hr : ¬ reason x.Code = []) : (fmtA x).length ≤ 60 := by
  obtain ⟨r0, r1, r2⟩ := reason_ok hr
  have d1 := decDigits_len (u := x.Code.toNat) (by omega)
  simp only [fmtA, List.length_append, List.length_cons, List.length_nil]; omega
theorem hsum_step (l : List THeader) {i : Nat} (h : i < l.length) : hsum (l.take (i + 1)) = hsum (l.take i) ++ fmtH l[i] := by
  unfold hsum
  rw [List.take_succ_eq_append_getElem h, List.flatMap_append]; simp
theorem hsum_le (l : List THeader) (i : Nat) : (hsum (l.take i)).length ≤ szL THeader.sz l + 4 * l.length := by
  have h1 := hsum_len (l.take i)
  have h2 := szL_le THeader.sz l i
  have h3 : (l.take i).length ≤ l.length := by simp; omega
  omega
theorem spec_fmtR {x : TResponse} (hx : x.ok) (hz : x.sz ≤ 1048576) (hr : ¬ reason x.Code = []) : Fnc Tryd.prog 56 [.agg x.enc] (.str (fmtR x)) := by
  obtain ⟨r0, r1, r2⟩ := reason_ok hr
  obtain ⟨k, hk⟩ := Int.eq_ofNat_of_zero_le r0
  have hzz : szHeaderS x.Headers + x.Body.length ≤ 1048576 := hz
  unfold szHeaderS at hzz
  have d1 := decDigits_len (u := k) (by omega)
  have d2 := decDigits_len (u := x.Body.length) (by omega)
  refine fn_of c56 (by simp [F56]) fun c => ?_
  unfold F56
  simp [hk]
  refine callF_fn0 (specFmt_fn (n := k) (by omega)) .str fun _ _ => ?_
  simp [hk]
  refine ⟨by unfold mx; omega, by unfold mx; omega, ?_⟩
  refine callF_fn0 (spec_reason _) .str fun _ _ => ?_
  have hA := fmtA_len hr
  have hAe : fmtA x = 72 :: 84 :: 84 :: 80 :: 47 :: 49 :: 46 :: 49 :: 32 :: (Lib.decDigits k ++ 32 :: (reason (k : Int) ++ [13, 10])) := by simp [fmtA, hk]
  rw [hk] at r2
  simp [hk]
  refine ⟨by unfold mx; omega, by unfold mx; omega, ?_⟩
  rw [← hAe]
  obtain ⟨A, hAe0⟩ : ∃ A, fmtA x = A := ⟨_, rfl⟩
  rw [hAe0] at hA hAe ⊢
  refine loop_drop x.Headers.list.length (fun i e H c' => e 1 = .ptr 0 c 3 0 0 ∧ e 3 = .str (A ++ hsum (x.Headers.list.take i)) ∧ e 4 = .int .i64 i ∧ H = [⟨false, c, 3, [x.enc]⟩]) ⟨rfl, by simp [upd, hsum], rfl, rfl⟩ ?_
  intro i e H c' hi ⟨e1, e3, e4, hH⟩ N hN
  subst hH
  have hle := hsum_le x.Headers.list i
  by_cases h : i < x.Headers.list.length
  · have hg : x.Headers.list[i]? = some x.Headers.list[i] := List.getElem?_eq_getElem h
    have hst := hsum_step x.Headers.list h
    have hle2 := hsum_le x.Headers.list (i + 1)
    have hsz := szL_mem (sz := THeader.sz) (List.getElem_mem h)
    generalize x.Headers.list[i] = y at hg hst hsz
    generalize hsum (x.Headers.list.take i) = S at e3 hst hle
    have hyl : y.Name.length + y.Value.length ≤ 1048576 := by simp only [THeader.sz] at hsz; omega
    have hstep : IntKind.i64.wrap ((i : Int) + 1) = ((i + 1 : Nat) : Int) := by rw [step64 (by unfold mx; omega) h]; rfl
    simp [e1, e3, e4, h]
    refine ⟨y, hg, ?_⟩
    simp [e1, e3, e4, h]
    refine ⟨by unfold mx; omega, by unfold mx; omega, y, hg, ?_⟩
    simp [e1, e3, e4, h, hstep]
    refine ⟨by unfold mx; omega, by unfold mx; omega, ?_⟩
    exact hN _ _ _ _ h (List.Sublist.refl _) ⟨by simp [upd, e1], by simp [upd, hst, fmtH], by simp [upd], rfl⟩
  · have hie : i = x.Headers.list.length := by omega
    subst hie
    rw [List.take_length] at e3 hle
    have hfin : fmtR x = A ++ (hsum x.Headers.list ++ fmtZ x.Body) := by unfold fmtR; rw [hAe0]
    generalize hsum x.Headers.list = S at e3 hle hfin
    simp [e1, e3, e4]
    refine ⟨by unfold mx; omega, ?_⟩
    refine callF_fn0 (specFmt_fn (n := x.Body.length) (by omega)) .str fun _ _ => ?_
    simp [e1, e3, e4]
    refine ⟨by unfold mx; omega, by unfold mx; omega, by unfold mx; omega, ?_⟩
    exact fin_plain ⟨by rw [hfin]; simp [fmtZ], rfl⟩
theorem impl_fmtR {x : TResponse} (hx : x.ok) (hz : x.sz ≤ 1048576) : Fnc Tryd.prog 22 [.agg x.enc] (.str (if isResp x then fmtR x else [])) := by
  have hzz : szHeaderS x.Headers + x.Body.length ≤ 1048576 := hz
  unfold szHeaderS at hzz
  refine fn_of c22 (by simp [F22]) fun c => ?_
  unfold F22
  simp
  refine call_fn0 (impl_isR hx) .bool fun _ _ => ?_
  cases hi : isResp x
  · simp
    exact fin_plain ⟨rfl, rfl⟩
  have hr : ¬ reason x.Code = [] := by
    intro h
    unfold isResp at hi
    simp [h] at hi
  obtain ⟨r0, r1, r2⟩ := reason_ok hr
  obtain ⟨k, hk⟩ := Int.eq_ofNat_of_zero_le r0
  have d1 := decDigits_len (u := k) (by omega)
  have d2 := decDigits_len (u := x.Body.length) (by omega)
  simp [hk]
  refine callF_fn0 (implFmt_fn (n := (k : Int)) (by omega) (by omega)) .str fun _ _ => ?_
  simp [hk]
  refine ⟨by unfold mx; omega, by unfold mx; omega, ?_⟩
  refine callF_fn0 (impl_reason _) .str fun _ _ => ?_
  have hA := fmtA_len hr
  have hAe : fmtA x = 72 :: 84 :: 84 :: 80 :: 47 :: 49 :: 46 :: 49 :: 32 :: (Lib.decDigits k ++ 32 :: (reason (k : Int) ++ [13, 10])) := by simp [fmtA, hk]
  rw [hk] at r2
  simp [hk]
  refine ⟨by unfold mx; omega, by unfold mx; omega, ?_⟩
  rw [← hAe]
  obtain ⟨A, hAe0⟩ : ∃ A, fmtA x = A := ⟨_, rfl⟩
  rw [hAe0] at hA hAe ⊢
  refine loop_drop x.Headers.list.length (fun i e H c' => e 1 = .ptr 0 c 3 0 0 ∧ e 3 = .str (A ++ hsum (x.Headers.list.take i)) ∧ e 20 = x.Headers.av 2 THeader.enc ∧ e 21 = .int .i64 x.Headers.list.length ∧ e 22 = .int .i64 i ∧ H = [⟨false, c, 3, [x.enc]⟩]) ⟨rfl, by simp [upd, hsum], rfl, rfl, rfl, rfl⟩ ?_
  intro i e H c' hi ⟨e1, e3, e20, e21, e22, hH⟩ N hN
  subst hH
  have hle := hsum_le x.Headers.list i
  by_cases h : i < x.Headers.list.length
  · have hg : x.Headers.list[i]? = some x.Headers.list[i] := List.getElem?_eq_getElem h
    have hst := hsum_step x.Headers.list h
    have hle2 := hsum_le x.Headers.list (i + 1)
    have hsz := szL_mem (sz := THeader.sz) (List.getElem_mem h)
    generalize x.Headers.list[i] = y at hg hst hsz
    generalize hsum (x.Headers.list.take i) = S at e3 hst hle
    have hyl : y.Name.length + y.Value.length ≤ 1048576 := by simp only [THeader.sz] at hsz; omega
    have hstep : IntKind.i64.wrap ((i : Int) + 1) = ((i + 1 : Nat) : Int) := by rw [step64 (by unfold mx; omega) h]; rfl
    simp [e1, e3, e20, e21, e22, h, putA]
    refine ⟨y, hg, ?_⟩
    simp [e1, e3, e20, e21, e22, h, hstep, putA]
    refine ⟨by unfold mx; omega, by unfold mx; omega, by unfold mx; omega, by unfold mx; omega, ?_⟩
    exact hN _ _ _ _ h (sub_one _ _) ⟨by simp [upd, e1], by simp [upd, hst, fmtH], by simp [upd, e20], by simp [upd, e21], by simp [upd], rfl⟩
  · have hie : i = x.Headers.list.length := by omega
    subst hie
    rw [List.take_length] at e3 hle
    have hfin : fmtR x = A ++ (hsum x.Headers.list ++ fmtZ x.Body) := by unfold fmtR; rw [hAe0]
    generalize hsum x.Headers.list = S at e3 hle hfin
    simp [e1, e3, e20, e21, e22]
    refine ⟨by unfold mx; omega, ?_⟩
    refine callF_fn0 (implFmt_fn (n := (x.Body.length : Int)) (by omega) (by omega)) .str fun _ _ => ?_
    simp [e1, e3]
    refine ⟨by unfold mx; omega, by unfold mx; omega, by unfold mx; omega, ?_⟩
    exact fin_plain ⟨by rw [hfin]; simp [fmtZ], rfl⟩
theorem spec_fmtResp {x : TResponse} (hx : x.ok) (hz : x.sz ≤ 1048576) : Fnc Tryd.prog 20 [.agg x.enc] (.str (if isResp x then fmtR x else [])) := by
  refine fn_of c20 (by simp [F20]) fun c => ?_
  unfold F20
  simp
  refine call_fn0 (spec_isR hx) .bool fun _ _ => ?_
  cases hi : isResp x
  · simp
    exact fin_plain ⟨rfl, rfl⟩
  have hr : ¬ reason x.Code = [] := by
    intro h
    unfold isResp at hi
    simp [h] at hi
  simp
  refine call_fn0 (spec_fmtR hx hz hr) .str fun _ _ => ?_
  simp
  exact fin_plain ⟨rfl, rfl⟩
theorem fmtR_con {a b : TResponse} (h : a.con = b.con) : fmtR a = fmtR b := by
  obtain ⟨h1, h2, h3⟩ := resp_same h
  unfold fmtR fmtA; rw [h1, h2, h3]

theorem law_fmtR {a : TResponse} (ha : a.ok) (c : Nat) : Con Tryd.prog 5 [.agg a.enc] [] c fun r H' _ => r = .bool true ∧ H' = [] := by
  refine con_of c5 (by simp [F5]) ?_
  unfold F5
  simp
  refine call_fn0 (TResponse.sz_fn ha ⟨by omega, by omega⟩) .int fun _ _ => ?_
  simp
  refine ⟨fun _ => fin_plain ⟨rfl, rfl⟩, fun h1 => ?_⟩
  obtain ⟨h1', h1''⟩ := szOf_ge h1
  have hz : ∀ x : TResponse, x.con = a.con → x.sz ≤ 1048576 := fun x hx => by rw [← x.sz_con, hx, a.sz_con]; omega
  refine call_tree0 (TResponse.to_fn (hz a rfl)) fun r1 _ _ ⟨a1, e1, q1⟩ _ => ?_
  subst e1
  simp
  refine call_fn0 (spec_fmtResp (ok_con q1 ha) (hz _ q1)) .str fun _ _ => ?_
  simp
  refine call_tree0 (TResponse.to_fn (hz a rfl)) fun r2 _ _ ⟨a2, e2, q2⟩ _ => ?_
  subst e2
  simp
  refine call_fn0 (impl_fmtR (ok_con q2 ha) (hz _ q2)) .str fun _ _ => ?_
  rw [isResp_con q1, isResp_con q2, fmtR_con q1, fmtR_con q2]
  simp
  refine ⟨fun d v => if d = 24 then IsR a v else v = .bool true, ?_⟩
  simp
  refine callD_tree0 (TResponse.to_fn (hz a rfl)) (IsR_some a _) fun r3 ⟨a3, e3, q3⟩ _ => ?_
  subst e3
  simp
  refine callD_fn0 (TResponse.eq_fn (by have := hz _ q2; omega) (q2.trans q3.symm)) (fun v => Iff.rfl) (by simp) ?_
  simp
  intro c2 _
  exact fin_plain ⟨rfl, rfl⟩
end A
end Go.Proofs.YtfcimcoanlgldaaDoor

/-
  Library contracts at this program, laid by the kit's tool (lay-shelf, lay-plain). No condition.
-/



namespace Go.Proofs
open Go.Shelf
def Tryd.laysC172_ren : Go.Shelf.Ren := ⟨fun | 172 => 165 | 244 => 186 | 245 => 187 | 247 => 197 | 279 => 198 | 280 => 199 | 281 => 200 | 282 => 201 | 287 => 207 | 316 => 208 | 171 => 120 | 205 => 209 | 321 => 212 | 322 => 213 | 243 => 151 | 246 => 173 | 283 => 188 | 284 => 189 | 285 => 190 | 286 => 191 | 129 => 203 | 317 => 202 | 318 => 204 | 319 => 205 | 320 => 206 | 337 => 210 | 338 => 211 | n => n, fun | 9 => 9 | 3 => 3 | 75 => 177 | 76 => 178 | 4 => 4 | 5 => 5 | 167 => 208 | 37 => 127 | 0 => 0 | 85 => 209 | 2 => 2 | 168 => 211 | 53 => 197 | 175 => 223 | 46 => 190 | 210 => 226 | 127 => 191 | 145 => 231 | 143 => 229 | 21 => 21 | 171 => 196 | 173 => 200 | 212 => 215 | 51 => 202 | 20 => 20 | 213 => 216 | 232 => 232 | 233 => 233 | 80 => 180 | n => n, fun | 15 => 4 | 16 => 5 | 17 => 1 | 18 => 6 | 19 => 7 | n => n⟩
theorem Tryd.laysC172 : Go.Proofs.LaysC.n172 Tryd.prog Tryd.laysC172_ren := {
  mixed := by kernel_rfl
  f129 := Tryd.func203.trans (congrArg some (by kernel_rfl))
  f171 := Tryd.func120.trans (congrArg some (by kernel_rfl))
  f172 := Tryd.func165.trans (congrArg some (by kernel_rfl))
  f205 := Tryd.func209.trans (congrArg some (by kernel_rfl))
  f243 := Tryd.func151.trans (congrArg some (by kernel_rfl))
  f244 := Tryd.func186.trans (congrArg some (by kernel_rfl))
  f245 := Tryd.func187.trans (congrArg some (by kernel_rfl))
  f246 := Tryd.func173.trans (congrArg some (by kernel_rfl))
  f247 := Tryd.func197.trans (congrArg some (by kernel_rfl))
  f279 := Tryd.func198.trans (congrArg some (by kernel_rfl))
  f280 := Tryd.func199.trans (congrArg some (by kernel_rfl))
  f281 := Tryd.func200.trans (congrArg some (by kernel_rfl))
  f282 := Tryd.func201.trans (congrArg some (by kernel_rfl))
  f283 := Tryd.func188.trans (congrArg some (by kernel_rfl))
  f284 := Tryd.func189.trans (congrArg some (by kernel_rfl))
  f285 := Tryd.func190.trans (congrArg some (by kernel_rfl))
  f286 := Tryd.func191.trans (congrArg some (by kernel_rfl))
  f287 := Tryd.func207.trans (congrArg some (by kernel_rfl))
  f316 := Tryd.func208.trans (congrArg some (by kernel_rfl))
  f317 := Tryd.func202.trans (congrArg some (by kernel_rfl))
  f318 := Tryd.func204.trans (congrArg some (by kernel_rfl))
  f319 := Tryd.func205.trans (congrArg some (by kernel_rfl))
  f320 := Tryd.func206.trans (congrArg some (by kernel_rfl))
  f321 := Tryd.func212.trans (congrArg some (by kernel_rfl))
  f322 := Tryd.func213.trans (congrArg some (by kernel_rfl))
  f337 := Tryd.func210.trans (congrArg some (by kernel_rfl))
  f338 := Tryd.func211.trans (congrArg some (by kernel_rfl))
  t0 := Tryd.underlying0
  a0 := Tryd.isAgg0
  z0 := Tryd.sizeOf0
  v0 := Tryd.zeroValue0
  t2 := Tryd.underlying2
  a2 := Tryd.isAgg2
  z2 := Tryd.sizeOf2
  v2 := Tryd.zeroValue2
  t3 := Tryd.underlying3
  a3 := Tryd.isAgg3
  z3 := Tryd.sizeOf3
  v3 := Tryd.zeroValue3
  t4 := Tryd.underlying4
  a4 := Tryd.isAgg4
  z4 := Tryd.sizeOf4
  v4 := Tryd.zeroValue4
  t5 := Tryd.underlying5
  a5 := Tryd.isAgg5
  z5 := Tryd.sizeOf5
  v5 := Tryd.zeroValue5
  t9 := Tryd.underlying9
  a9 := Tryd.isAgg9
  z9 := Tryd.sizeOf9
  v9 := Tryd.zeroValue9
  t20 := Tryd.underlying20
  a20 := Tryd.isAgg20
  z20 := Tryd.sizeOf20
  v20 := Tryd.zeroValue20
  t21 := Tryd.underlying21
  a21 := Tryd.isAgg21
  z21 := Tryd.sizeOf21
  v21 := Tryd.zeroValue21
  t37 := Tryd.underlying127
  a37 := Tryd.isAgg127
  z37 := Tryd.sizeOf127
  v37 := Tryd.zeroValue127
  t46 := Tryd.underlying190
  a46 := Tryd.isAgg190
  z46 := Tryd.sizeOf190
  v46 := Tryd.zeroValue190
  t51 := Tryd.underlying202
  a51 := Tryd.isAgg202
  z51 := Tryd.sizeOf202
  v51 := Tryd.zeroValue202
  t53 := Tryd.underlying197
  a53 := Tryd.isAgg197
  z53 := Tryd.sizeOf197
  v53 := Tryd.zeroValue197
  t75 := Tryd.underlying177
  a75 := Tryd.isAgg177
  z75 := Tryd.sizeOf177
  v75 := Tryd.zeroValue177
  t76 := Tryd.underlying178
  a76 := Tryd.isAgg178
  z76 := Tryd.sizeOf178
  v76 := Tryd.zeroValue178
  t85 := Tryd.underlying209
  a85 := Tryd.isAgg209
  z85 := Tryd.sizeOf209
  v85 := Tryd.zeroValue209
  t127 := Tryd.underlying191
  a127 := Tryd.isAgg191
  z127 := Tryd.sizeOf191
  v127 := Tryd.zeroValue191
  t143 := Tryd.underlying229
  a143 := Tryd.isAgg229
  z143 := Tryd.sizeOf229
  v143 := Tryd.zeroValue229
  t145 := Tryd.underlying231
  a145 := Tryd.isAgg231
  z145 := Tryd.sizeOf231
  v145 := Tryd.zeroValue231
  t167 := Tryd.underlying208
  a167 := Tryd.isAgg208
  z167 := Tryd.sizeOf208
  v167 := Tryd.zeroValue208
  t168 := Tryd.underlying211
  a168 := Tryd.isAgg211
  z168 := Tryd.sizeOf211
  v168 := Tryd.zeroValue211
  t171 := Tryd.underlying196
  a171 := Tryd.isAgg196
  z171 := Tryd.sizeOf196
  v171 := Tryd.zeroValue196
  t173 := Tryd.underlying200
  a173 := Tryd.isAgg200
  z173 := Tryd.sizeOf200
  v173 := Tryd.zeroValue200
  t175 := Tryd.underlying223
  a175 := Tryd.isAgg223
  z175 := Tryd.sizeOf223
  v175 := Tryd.zeroValue223
  t210 := Tryd.underlying226
  a210 := Tryd.isAgg226
  z210 := Tryd.sizeOf226
  v210 := Tryd.zeroValue226
  t212 := Tryd.underlying215
  a212 := Tryd.isAgg215
  z212 := Tryd.sizeOf215
  v212 := Tryd.zeroValue215
  t213 := Tryd.underlying216
  a213 := Tryd.isAgg216
  z213 := Tryd.sizeOf216
  t232 := Tryd.underlying232
  a232 := Tryd.isAgg232
  z232 := Tryd.sizeOf232
  v232 := Tryd.zeroValue232
  t233 := Tryd.underlying233
  a233 := Tryd.isAgg233
  z233 := Tryd.sizeOf233
  v233 := Tryd.zeroValue233
  g15 := by kernel_rfl
  g16 := by kernel_rfl
  g17 := by kernel_rfl
  g18 := by kernel_rfl
  g19 := by kernel_rfl
  t80 := Tryd.underlying180
  a80 := Tryd.isAgg180
  z80 := Tryd.sizeOf180
  v80 := Tryd.zeroValue180
  i0 := by kernel_rfl
  i2 := by kernel_rfl
  i3 := by kernel_rfl
  i4 := by kernel_rfl
  i5 := by kernel_rfl
  i9 := by kernel_rfl
  i20 := by kernel_rfl
  i21 := by kernel_rfl
  i37 := by kernel_rfl
  i46 := by kernel_rfl
  i51 := by kernel_rfl
  i53 := by kernel_rfl
  i75 := by kernel_rfl
  i76 := by kernel_rfl
  i80 := by kernel_rfl
  i85 := by kernel_rfl
  i127 := by kernel_rfl
  i143 := by kernel_rfl
  i145 := by kernel_rfl
  i167 := by kernel_rfl
  i168 := by kernel_rfl
  i171 := by kernel_rfl
  i173 := by kernel_rfl
  i175 := by kernel_rfl
  i210 := by kernel_rfl
  i212 := by kernel_rfl
  i232 := by kernel_rfl
  i233 := by kernel_rfl
  m15 := by kernel_rfl
  m16 := by kernel_rfl
  m17 := by kernel_rfl
  m18 := by kernel_rfl
  m19 := by kernel_rfl
  c0 := by kernel_rfl
  c2 := by kernel_rfl
  c3 := by kernel_rfl
  c4 := by kernel_rfl
  c5 := by kernel_rfl
  c9 := by kernel_rfl
  c20 := by kernel_rfl
  c21 := by kernel_rfl
  c37 := by kernel_rfl
  c46 := by kernel_rfl
  c51 := by kernel_rfl
  c53 := by kernel_rfl
  c75 := by kernel_rfl
  c76 := by kernel_rfl
  c80 := by kernel_rfl
  c85 := by kernel_rfl
  c127 := by kernel_rfl
  c143 := by kernel_rfl
  c145 := by kernel_rfl
  c167 := by kernel_rfl
  c168 := by kernel_rfl
  c171 := by kernel_rfl
  c173 := by kernel_rfl
  c175 := by kernel_rfl
  c210 := by kernel_rfl
  c212 := by kernel_rfl
  c213 := by kernel_rfl
  c232 := by kernel_rfl
  c233 := by kernel_rfl }
open Go.RowKit in
theorem Tryd.strconv_Atoi_ok (s : ByteArray) (hmax : s.size ≤ 9223372036854775806) (v : Int) (h : Lib.atoiAll s.data.toList = .ok v) (w : World) :
    Calls Tryd.prog 165 #[.string s] w fun e w' => e = .returned (.tuple #[.int .i64 v, .nilIface]) ∧ (w' = w ∨ ∃ t, w' = Lib.bytesWorld w 5 t) := Any.strconv_Atoi_ok Tryd.laysC172 s hmax v h w
open Go.RowKit in
theorem Tryd.strconv_Atoi_syntax (s : ByteArray) (hlim : s.size ≤ 281474976710656) (h1 : ∀ v, Lib.atoiAll s.data.toList ≠ .ok v) (h2 : Lib.atoiAll s.data.toList ≠ .range) (ev : Value) (w : World) (hv : w.cell? ⟨4, 0, none⟩ = some ev) (hev : ev = .nilIface ∨ ∃ te pe, ev = .iface te pe) :
    Calls Tryd.prog 165 #[.string s] w fun e w' => ∃ N, e = .returned (.tuple #[.int .i64 (0), .iface 211 (.pointer (some ⟨N, 0, none⟩))]) ∧ w.heap.size ≤ N ∧ w'.heap[N]? = some (.cells #[.string ⟨#[65, 116, 111, 105]⟩, .string s, ev] 226 (0, 0)) ∧ Below w.heap.size w w' :=
  Any.strconv_Atoi_syntax Tryd.laysC172 s hlim (by
    cases hh : Lib.atoiAll s.data.toList with
    | ok v => exact absurd hh (h1 v)
    | range => exact absurd hh h2
    | _ => rfl) ev w hv hev
open Go.RowKit in
theorem Tryd.strconv_Atoi_range (s : ByteArray) (hlim : s.size ≤ 281474976710656) (h : Lib.atoiAll s.data.toList = .range) (ev : Value) (w : World) (hv : w.cell? ⟨5, 0, none⟩ = some ev) (hev : ev = .nilIface ∨ ∃ te pe, ev = .iface te pe) :
    Calls Tryd.prog 165 #[.string s] w fun e w' => ∃ N, e = .returned (.tuple #[.int .i64 (Lib.atoiSat s.data.toList), .iface 211 (.pointer (some ⟨N, 0, none⟩))]) ∧ w.heap.size ≤ N ∧ w'.heap[N]? = some (.cells #[.string ⟨#[65, 116, 111, 105]⟩, .string s, ev] 226 (0, 0)) ∧ Below w.heap.size w w' := Any.strconv_Atoi_range Tryd.laysC172 s hlim h ev w hv hev
end Go.Proofs

/-
  Numbers, read: strconv.Atoi, and the program's parseWithin and ParseInt. No condition.
-/


namespace Go.Proofs.YtfcimcoanlgldaaDoor
namespace A
set_option linter.unusedVariables false
set_option linter.unusedSimpArgs false
set_option maxRecDepth 100000
open Go.RowKit

def atoiN (l : List UInt8) : Int := match Lib.atoiAll l with | .ok v => v | .range => Lib.atoiSat l | _ => 0
def atoiE (l : List UInt8) : Bool := match Lib.atoiAll l with | .ok _ => true | _ => false
theorem err_cell {G : Gh} {H : List AObj} {w : World} (I : Inv G H w.heap) {b : Nat} (hb : b = 4 ∨ b = 5) : ∃ ev, w.cell? ⟨b, 0, none⟩ = some ev ∧ (ev = .nilIface ∨ ∃ te pe, ev = .iface te pe) := by
  obtain ⟨_, _, hm, hg⟩ := I.gl b (by rcases hb with rfl | rfl <;> decide)
  obtain ⟨c, t, fr, ev, ho, hc, he⟩ := gl_err hb hg
  exact ⟨ev, by unfold World.cell?; simp only [ho]; exact hc, he⟩
theorem atoi_bnd (l : List UInt8) : -9223372036854775808 ≤ atoiN l ∧ atoiN l ≤ 9223372036854775807 := by
  unfold atoiN
  cases h : Lib.atoiAll l with
  | ok v => exact Lib.atoiAll_bounds h
  | range => exact Lib.atoiSat_bounds l
  | _ => exact ⟨(by decide : (-9223372036854775808 : Int) ≤ 0), (by decide : (0 : Int) ≤ 9223372036854775807)⟩
theorem atoi_fn {l : List UInt8} (hl : l.length ≤ 1048576) : Fnc Tryd.prog 165 [.str l] (.tup [.int .i64 (atoiN l), .ifc (atoiE l)]) := by
  intro c
  refine con_below (res := .tup [.int .i64 (atoiN l), .ifc (atoiE l)]) (fun G w vs hc I hs hr => ?_) ⟨rfl, rfl⟩
  obtain ⟨v0, rfl⟩ : ∃ v0, vs = #[v0] := by
    match vs, hs with
    | ⟨[a]⟩, _ => exact ⟨a, rfl⟩
  have h0 := hr 0 _ rfl
  simp at h0
  have hb := atoi_bnd l
  have hi : IOk .i64 (atoiN l) := by
    have e1 : IntKind.i64.min = -9223372036854775808 := by decide
    have e2 : IntKind.i64.max = 9223372036854775807 := by decide
    exact ⟨by omega, by omega⟩
  cases h0 with
  | @str s _ e hl0 =>
  have hsz : s.size ≤ 1048576 := by rw [Lib.size_eq, e]; exact hl
  cases h : Lib.atoiAll l with
  | ok v =>
    have hn : atoiN l = v := by unfold atoiN; rw [h]
    have he : atoiE l = true := by unfold atoiE; rw [h]
    rw [hn, he]
    rw [hn] at hi
    refine (Tryd.strconv_Atoi_ok s (by omega) v (by rw [e]; exact h) w).mono fun e w' ⟨h1, h2⟩ => ⟨_, h1, ?_, ?_⟩
    · rcases h2 with rfl | ⟨t, rfl⟩
      · exact Below.refl _ _
      · exact Lib.bytesWorld_below _ _ _
    · refine .tup rfl fun j a hj => ?_
      match j, hj with
      | 0, hj => cases hj; exact .int hi
      | 1, hj => cases hj; exact .nilI
  | range =>
    have hn : atoiN l = Lib.atoiSat l := by unfold atoiN; rw [h]
    have he : atoiE l = false := by unfold atoiE; rw [h]
    rw [hn, he]
    rw [hn] at hi
    obtain ⟨ev, hv, hev⟩ := err_cell I (.inr rfl)
    refine (Tryd.strconv_Atoi_range s (by omega) (by rw [e]; exact h) ev w hv hev).mono fun e' w' ⟨B, h1, h2, h3, h4⟩ => ⟨_, h1, h4, ?_⟩
    refine .tup rfl fun j a hj => ?_
    match j, hj with
    | 0, hj => cases hj; rw [e]; exact .int hi
    | 1, hj => cases hj; exact .ifc
  | _ =>
    have hn : atoiN l = 0 := by unfold atoiN; rw [h]
    have he : atoiE l = false := by unfold atoiE; rw [h]
    rw [hn, he]
    rw [hn] at hi
    obtain ⟨ev, hv, hev⟩ := err_cell I (.inl rfl)
    refine (Tryd.strconv_Atoi_syntax s (by omega) (by rw [e, h]; intro v hc; cases hc) (by rw [e, h]; intro hc; cases hc) ev w hv hev).mono fun e w' ⟨B, h1, h2, h3, h4⟩ => ⟨_, h1, h4, ?_⟩
    refine .tup rfl fun j a hj => ?_
    match j, hj with
    | 0, hj => cases hj; exact .int hi
    | 1, hj => cases hj; exact .ifc
theorem itoa_le {n : Int} (h0 : -9223372036854775808 ≤ n) (h1 : n ≤ 9223372036854775807) : (Lib.itoa n).length ≤ 21 := by
  unfold Lib.itoa
  split
  · have := nDigits_le 19 n.natAbs (by omega)
    rw [List.length_cons, Lib.decDigits_length]; omega
  · have := nDigits_le 19 n.toNat (by omega)
    rw [Lib.decDigits_length]; omega
theorem itoa_len21 {n : Int} (h : IOk .i64 n) : (Lib.itoa n).length ≤ 21 := by
  have e1 : IntKind.i64.min = -9223372036854775808 := by decide
  have e2 : IntKind.i64.max = 9223372036854775807 := by decide
  exact itoa_le (by have := h.1; omega) (by have := h.2; omega)
theorem itoa_all {n : Int} (h0 : -9223372036854775808 ≤ n) (h1 : n ≤ 9223372036854775807) : Fnc Tryd.prog 120 [.int .i64 n] (.str (Lib.itoa n)) := by
  intro c
  refine con_below (res := .str (Lib.itoa n)) (fun G w vs hc I hs hr => ?_) ⟨rfl, rfl⟩
  obtain ⟨v0, rfl⟩ : ∃ v0, vs = #[v0] := by
    match vs, hs with
    | ⟨[a]⟩, _ => exact ⟨a, rfl⟩
  have h2 := hr 0 _ rfl
  simp at h2
  cases h2
  have hl := itoa_le h0 h1
  refine (Tryd.strconv_Itoa n (by omega) h1 w (pow_tab I)).mono fun e w' ⟨h1, k, os, h2⟩ => ⟨_, h1, ?_, .str (by simp) (by unfold mx; omega)⟩
  subst h2
  refine ⟨rfl, rfl, rfl, ?_, fun j hj => ?_⟩
  · show w.heap.size ≤ (w.heap ++ os).size
    simp
  · show (w.heap ++ os)[j]? = w.heap[j]?
    exact Array.getElem?_append_left hj
/-- A text that is a number's own, within bounds. -/
def pwOk (l : List UInt8) (lo hi : Int) : Bool := decide (l.length ≤ 20) && atoiE l && decide (Lib.itoa (atoiN l) = l) && decide (lo ≤ atoiN l) && decide (atoiN l ≤ hi)
theorem pw_fn {l : List UInt8} {lo hi : Int} (hl : l.length ≤ 1048576) : Fnc Tryd.prog 135 [.str l, .int .i64 lo, .int .i64 hi] (.tup [.int .i64 (if pwOk l lo hi then atoiN l else 0), .bool (pwOk l lo hi)]) := by
  refine fn_of c135 (by simp [F135]) fun c => ?_
  unfold F135
  by_cases h1 : l.length ≤ 20
  rotate_left
  · have k1 : (20 : Int) < l.length := by omega
    simp [k1]
    exact fin_plain ⟨by simp [pwOk, h1], rfl⟩
  have k1 : ¬ ((20 : Int) < l.length) := by omega
  simp [k1]
  refine call_fn0 (atoi_fn hl) (.tup (by intro j a hj; match j, hj with | 0, hj => cases hj; exact .int | 1, hj => cases hj; exact .ifc)) fun _ _ => ?_
  cases h2 : atoiE l
  · simp
    exact fin_plain ⟨by simp [pwOk, h2], rfl⟩
  simp
  obtain ⟨b0, b1⟩ := atoi_bnd l
  refine call_fn0 (itoa_all b0 b1) .str fun _ _ => ?_
  by_cases h3 : Lib.itoa (atoiN l) = l
  rotate_left
  · simp [h3]
    exact fin_plain ⟨by simp [pwOk, h3], rfl⟩
  by_cases h4 : lo ≤ atoiN l
  rotate_left
  · have k4 : atoiN l < lo := by omega
    simp [h3, k4]
    exact fin_plain ⟨by simp [pwOk, h4], rfl⟩
  have k4 : ¬ (atoiN l < lo) := by omega
  by_cases h5 : atoiN l ≤ hi
  rotate_left
  · have k5 : hi < atoiN l := by omega
    simp [h3, k4, k5]
    exact fin_plain ⟨by simp [pwOk, h5], rfl⟩
  have k5 : ¬ (hi < atoiN l) := by omega
  simp [h3, k4, k5]
  exact fin_plain ⟨by simp [pwOk, h1, h2, h3, h4, h5], rfl⟩
theorem parseInt_fn {l : List UInt8} (hl : l.length ≤ 1048576) : Fnc Tryd.prog 88 [.str l] (.tup [.int .i64 (if pwOk l 0 1000000000000 then atoiN l else 0), .bool (pwOk l 0 1000000000000)]) := by
  refine fn_of c88 (by simp [F88]) fun c => ?_
  unfold F88
  simp
  refine call_fn0 (pw_fn hl) (.tup (by intro j a hj; match j, hj with | 0, hj => cases hj; exact .int | 1, hj => cases hj; exact .bool)) fun _ _ => ?_
  simp
  exact fin_plain ⟨rfl, rfl⟩
end A
end Go.Proofs.YtfcimcoanlgldaaDoor

/-
  A response's text, read back by the program's reader: plain laws. No condition.
-/



namespace Go.Proofs.YtfcimcoanlgldaaDoor
namespace A
set_option linter.unusedVariables false
set_option linter.unusedSimpArgs false
set_option maxRecDepth 100000

def preH : List UInt8 := [72, 84, 84, 80, 47, 49, 46, 49, 32]
def conL : List UInt8 := [67, 111, 110, 116, 101, 110, 116, 45, 76, 101, 110, 103, 116, 104, 58, 32]
def lnA (c : Int) : List UInt8 := preH ++ (Lib.decDigits c.toNat ++ ([32] ++ reason c))
def lnH (h : THeader) : List UInt8 := h.Name ++ ([58, 32] ++ h.Value)
def lnZ (b : List UInt8) : List UInt8 := conL ++ Lib.decDigits b.length
def linesR (c : Int) (hs : List THeader) (b : List UInt8) : List (List UInt8) := lnA c :: (hs.map lnH ++ [lnZ b])
theorem jn_end : ∀ (ls : List (List UInt8)) (z : List UInt8), jn (ls ++ [z]) = ls.flatMap (fun l => l ++ [13, 10]) ++ z
  | [], z => by simp [jn]
  | [l], z => by simp [jn]
  | l :: m :: r, z => by
    have ih := jn_end (m :: r) z
    simp only [List.cons_append] at ih ⊢
    rw [jn, ih]
    simp
theorem fmtR_eq (x : TResponse) : fmtR x = jn (linesR x.Code x.Headers.list x.Body) ++ ([13, 10, 13, 10] ++ x.Body) := by
  have e : linesR x.Code x.Headers.list x.Body = (lnA x.Code :: x.Headers.list.map lnH) ++ [lnZ x.Body] := by simp [linesR]
  have h1 : (x.Headers.list.map lnH).flatMap (fun l => l ++ [13, 10]) = hsum x.Headers.list := by
    rw [List.flatMap_map]
    unfold hsum
    congr 1
    funext h
    simp [lnH, fmtH]
  rw [e, jn_end, List.flatMap_cons, h1]
  simp [fmtR, fmtA, fmtZ, lnA, lnZ, preH, conL]
theorem dig_mem : ∀ (k n : Nat), n < k → ∀ b, b ∈ Lib.decDigits n → 48 ≤ b.toNat ∧ b.toNat ≤ 57
  | 0, n, h => by omega
  | k + 1, n, h => fun b hb => by
    rw [Lib.decDigits] at hb
    split at hb
    · rename_i h1
      rw [List.mem_singleton.1 hb, UInt8.toNat_ofNat']; omega
    · rcases List.mem_append.1 hb with h2 | h2
      · exact dig_mem k (n / 10) (by omega) b h2
      · rw [List.mem_singleton.1 h2, UInt8.toNat_ofNat']; omega
theorem dig_no {n : Nat} {c : UInt8} (hc : ¬ (48 ≤ c.toNat ∧ c.toNat ≤ 57)) : noB c (Lib.decDigits n) := fun b hb e => by
  subst e
  exact hc (dig_mem (n + 1) n (by omega) b hb)
theorem reason_no (c : Int) : noB 13 (reason c) := by
  unfold reason
  split
  · unfold noB; decide
  split
  · unfold noB; decide
  split
  · unfold noB; decide
  split
  · unfold noB; decide
  split
  · unfold noB; decide
  · unfold noB; decide
theorem hName_no {l : List UInt8} (h : hName l = true) {c : UInt8} (hc : hChar c = false) : noB c l := fun b hb e => by
  subst e
  simp only [hName, Bool.and_eq_true] at h
  have := List.all_eq_true.1 h.1 b hb
  rw [hc] at this; cases this
theorem hVal_no {l : List UInt8} (h : hVal l = true) : noB 13 l := fun b hb e => by
  subst e
  simp only [hVal, Bool.and_eq_true] at h
  have := List.all_eq_true.1 h.1 13 hb
  revert this; decide
theorem resp_hdr {x : TResponse} (h : isResp x = true) : ∀ y, y ∈ x.Headers.list → hdOk y = true := fun y hy => by
  simp only [isResp, outOk, hdrs, hTo, Bool.and_eq_true, List.take_length] at h
  exact List.all_eq_true.1 h.2.2.1 y hy
theorem lines_ok {x : TResponse} (h : isResp x = true) : ∀ l, l ∈ linesR x.Code x.Headers.list x.Body → noB 13 l ∧ l ≠ [] := fun l hl => by
  unfold linesR at hl
  rcases List.mem_cons.1 hl with rfl | hl
  · exact ⟨noB_app (by unfold noB preH; decide) (noB_app (dig_no (by decide)) (noB_app (by unfold noB; decide) (reason_no _))), by simp [lnA, preH]⟩
  rcases List.mem_append.1 hl with hl | hl
  · obtain ⟨y, hy, rfl⟩ := List.mem_map.1 hl
    have hk := resp_hdr h y hy
    simp only [hdOk, Bool.and_eq_true] at hk
    exact ⟨noB_app (hName_no hk.1 (by decide)) (noB_app (by unfold noB; decide) (hVal_no hk.2)), by simp [lnH]⟩
  · simp at hl
    subst hl
    exact ⟨noB_app (by unfold noB conL; decide) (dig_no (by decide)), by simp [lnZ, conL]⟩

/-! ### the program's reader -/
def rdLines (s : List UInt8) : List (List UInt8) := Lib.split (Lib.cut s [13, 10, 13, 10]).1 [13, 10]
def rdNum (s : List UInt8) : List UInt8 := (Lib.cut (Lib.trimPrefix ((rdLines s).headD []) preH) [32]).1
def rdHdr (l : List UInt8) : THeader := ⟨(Lib.cut l [58, 32]).1, (Lib.cut l [58, 32]).2.1⟩
def rdHdrs (s : List UInt8) : List THeader := (((rdLines s).drop 1).take ((rdLines s).length - 2)).map rdHdr
def rdBody (s : List UInt8) : List UInt8 := (Lib.cut s [13, 10, 13, 10]).2.1
theorem rdHdr_eq {y : THeader} (h : hdOk y = true) : rdHdr (lnH y) = y := by
  simp only [hdOk, Bool.and_eq_true] at h
  have := cut_first (t := y.Value) (u := [32]) (hName_no h.1 (c := 58) (by decide))
  unfold rdHdr lnH
  rw [show y.Name ++ ([58, 32] ++ y.Value) = y.Name ++ (58 :: [32] ++ y.Value) from rfl, this]
theorem rd_eq {x : TResponse} (h : isResp x = true) : rdLines (fmtR x) = linesR x.Code x.Headers.list x.Body ∧ rdBody (fmtR x) = x.Body := by
  have hl := lines_ok h
  have hc := cut_head (ls := linesR x.Code x.Headers.list x.Body) x.Body hl
  unfold rdLines rdBody
  rw [fmtR_eq, hc]
  exact ⟨split_jn _ (by simp [linesR]) fun l hm => (hl l hm).1, rfl⟩
theorem rdNum_eq {x : TResponse} (h : isResp x = true) : rdNum (fmtR x) = Lib.decDigits x.Code.toNat := by
  unfold rdNum
  rw [(rd_eq h).1]
  have e : Lib.trimPrefix (lnA x.Code) preH = Lib.decDigits x.Code.toNat ++ (32 :: [] ++ reason x.Code) := by
    unfold Lib.trimPrefix lnA
    have hp : Lib.hasPrefix (preH ++ (Lib.decDigits x.Code.toNat ++ ([32] ++ reason x.Code))) preH = true := by
      unfold Lib.hasPrefix
      exact List.isPrefixOf_iff_prefix.2 (List.prefix_append _ _)
    rw [if_pos hp, List.drop_left]
  show (Lib.cut (Lib.trimPrefix (lnA x.Code) preH) [32]).1 = _
  rw [e, cut_first (dig_no (by decide))]
theorem rdHdrs_eq {x : TResponse} (h : isResp x = true) : rdHdrs (fmtR x) = x.Headers.list := by
  unfold rdHdrs
  rw [(rd_eq h).1]
  have e : ((linesR x.Code x.Headers.list x.Body).drop 1).take ((linesR x.Code x.Headers.list x.Body).length - 2) = x.Headers.list.map lnH := by
    simp [linesR]
  rw [e, List.map_map]
  have : ∀ l : List THeader, (∀ y, y ∈ l → hdOk y = true) → l.map (rdHdr ∘ lnH) = l := fun l hl => by
    induction l with
    | nil => rfl
    | cons y l ih => rw [List.map_cons, ih fun z hz => hl z (List.mem_cons_of_mem _ hz)]; simp only [Function.comp]; rw [rdHdr_eq (hl y (by simp))]
  exact this _ (resp_hdr h)
theorem code_ok {c : Int} (h : ¬ reason c = []) : pwOk (Lib.decDigits c.toNat) 0 1000000000000 = true ∧ atoiN (Lib.decDigits c.toNat) = c := by
  have hd : c = 200 ∨ c = 400 ∨ c = 404 ∨ c = 500 ∨ c = 503 := by
    unfold reason at h
    split at h
    · exact .inl (by assumption)
    split at h
    · exact .inr (.inl (by assumption))
    split at h
    · exact .inr (.inr (.inl (by assumption)))
    split at h
    · exact .inr (.inr (.inr (.inl (by assumption))))
    split at h
    · exact .inr (.inr (.inr (.inr (by assumption))))
    · exact absurd rfl h
  rcases hd with rfl | rfl | rfl | rfl | rfl <;> simp [pwOk, atoiE, atoiN, Lib.atoiAll, Lib.parseMag, Lib.parseUint10, Lib.itoa, Lib.decDigits]
end A
end Go.Proofs.YtfcimcoanlgldaaDoor

/-
  Lines of a text, as0 the reference reads them. No condition. (Also in Prs, Rqs, RqsS: never import them together with this.)
-/


namespace Go.Proofs.YtfcimcoanlgldaaDoor
namespace A
set_option linter.unusedVariables false
set_option linter.unusedSimpArgs false
set_option maxRecDepth 100000

def crlf : List UInt8 := [13, 10]
theorem is_fn {l sep : List UInt8} {i : Nat} (hl : l.length ≤ 9223372036854775000) (hs : sep.length ≤ 100) (hi : i ≤ l.length) : Fnc Tryd.prog 78 [.str l, .int .i64 i, .str sep] (.bool (Lib.occAt l sep i)) := by
  refine fn_of c78 (by simp [F78]) fun c => ?_
  unfold F78
  have w1 : IntKind.i64.wrap ((l.length : Int) - (i : Int)) = (l.length : Int) - i := wrap64 (by omega) (by omega)
  have w2 : IntKind.i64.wrap ((i : Int) + (sep.length : Int)) = ((i + sep.length : Nat) : Int) := by rw [wrap64 (by omega) (by omega)]; omega
  by_cases h : i + sep.length ≤ l.length
  · have k : (sep.length : Int) ≤ (l.length : Int) - i := by omega
    have e : Lib.occAt l sep i = decide ((l.take (i + sep.length)).drop i = sep) := by
      rw [Lib.occAt_iff_take _ _ _ h, List.drop_take, Nat.add_sub_cancel_left, dec_beq]
    simp [w1, w2, k, -Int.natCast_add]
    exact ⟨h, fin_plain ⟨by rw [e], rfl⟩⟩
  · have k : ¬ (sep.length : Int) ≤ (l.length : Int) - i := by omega
    have e : Lib.occAt l sep i = false := by
      cases ho : Lib.occAt l sep i
      · rfl
      · rcases Lib.occAt_room ho with h1 | h1
        · exact absurd h1 h
        · subst h1; simp at h; omega
    simp [w1, k]
    exact fin_plain ⟨by rw [e], rfl⟩
theorem cut_hit {l sep : List UInt8} {i : Nat} (hi : i ≤ l.length) (ho : Lib.occAt l sep i = true) (hn : ∀ j, j < i → Lib.occAt l sep j = false) : Lib.cut l sep = (l.take i, l.drop (i + sep.length), true) := by
  have h := Lib.index_first hi ho hn
  unfold Lib.cut
  rw [h, if_pos (by omega)]; simp
theorem cut_miss {l sep : List UInt8} (hn : ∀ j, j ≤ l.length → Lib.occAt l sep j = false) : Lib.cut l sep = (l, [], false) := by
  have h := Lib.index_none hn
  unfold Lib.cut
  rw [h, if_neg (by omega)]
def lineV (s : List UInt8) (a : Nat) : List UInt8 := if (Lib.cut (s.drop a) crlf).2.2 then (Lib.cut (s.drop a) crlf).1 else []
def lineN (s : List UInt8) (a : Nat) : Int := if (Lib.cut (s.drop a) crlf).2.2 then ((a + (Lib.cut (s.drop a) crlf).1.length + 2 : Nat) : Int) else -1
theorem free_si (l : List UInt8) (k : Int) : Free (.tup [.str l, .int .i64 k]) := free_tup fun a ha => by
  simp at ha
  rcases ha with rfl | rfl
  · exact free_str _
  · exact free_int _ _
theorem line_fn {s : List UInt8} {a : Nat} (hs : s.length ≤ 1048576) (ha : a ≤ s.length) : Fnc Tryd.prog 77 [.str s, .int .i64 a] (.tup [.str (lineV s a), .int .i64 (lineN s a)]) := by
  refine fn_of c77 (by simp [F77]) fun c => ?_
  unfold F77
  simp
  refine loop_drop (s.length - a) (fun i e H c' => e 0 = .str s ∧ e 1 = .int .i64 a ∧ e 6 = .int .i64 ((a + i : Nat) : Int) ∧ (∀ j, a ≤ j → j < a + i → Lib.occAt s crlf j = false) ∧ H = []) ⟨rfl, rfl, rfl, fun j h1 h2 => by omega, rfl⟩ ?_
  intro i e H c' hi ⟨e0, e1, e6, hno, hH⟩ N hN
  subst hH
  by_cases h : a + i < s.length
  · have h0 : (0 : Int) ≤ ((a + i : Nat) : Int) := by omega
    have hlt : (((a + i : Nat) : Int) < (s.length : Int)) := by omega
    have hstep : IntKind.i64.wrap (((a + i : Nat) : Int) + 1) = ((a + (i + 1) : Nat) : Int) := by rw [wrap64 (by omega) (by omega)]; omega
    have hadd : IntKind.i64.wrap (((a + i : Nat) : Int) + 2) = ((a + i + 2 : Nat) : Int) := by rw [wrap64 (by omega) (by omega)]; omega
    simp [e0, e1, e6, h0, hlt, -Int.natCast_add]
    refine call_fn0 (is_fn (sep := crlf) (by omega) (by simp [crlf]) (by omega)) .bool fun _ _ => ?_
    cases ho : Lib.occAt s crlf (a + i)
    · simp [e0, e1, e6, hstep, -Int.natCast_add]
      refine hN _ _ _ _ (by omega) (List.Sublist.refl _) ⟨by simp [upd, e0], by simp [upd, e1], by simp [upd, -Int.natCast_add], fun j h1 h2 => ?_, rfl⟩
      rcases Nat.lt_or_ge j (a + i) with h3 | h3
      · exact hno j h1 h3
      · have : j = a + i := by omega
        subst this; exact ho
    · have hcut : Lib.cut (s.drop a) crlf = ((s.drop a).take i, (s.drop a).drop (i + 2), true) := cut_hit (by simp; omega) (by rw [occ_drop]; exact ho) fun j hj => by rw [occ_drop]; exact hno _ (by omega) (by omega)
      simp [e0, e1, e6, hadd, -Int.natCast_add]
      refine ⟨by omega, ?_⟩
      refine fin_plain ⟨?_, rfl⟩
      have e1 : lineV s a = (s.take (a + i)).drop a := by unfold lineV; rw [hcut, if_pos rfl, List.drop_take, Nat.add_sub_cancel_left]
      have e2 : lineN s a = ((a + i + 2 : Nat) : Int) := by
        unfold lineN; rw [hcut, if_pos rfl]
        have : ((s.drop a).take i).length = i := by simp; omega
        rw [this]
      rw [e1, e2]
  · have hie : a + i = s.length := by omega
    have h0 : (0 : Int) ≤ ((a + i : Nat) : Int) := by omega
    have hlt : ¬ (((a + i : Nat) : Int) < (s.length : Int)) := by omega
    have hcut : Lib.cut (s.drop a) crlf = (s.drop a, [], false) := cut_miss fun j hj => by
      rw [occ_drop]
      rcases Nat.lt_or_ge (a + j) (a + i) with h3 | h3
      · exact hno _ (by omega) h3
      · exact occ_end (by simp [crlf]) (by omega)
    simp [e0, e1, e6, h0, hlt, -Int.natCast_add]
    exact fin_plain ⟨by simp [lineV, lineN, hcut], rfl⟩
end A
end Go.Proofs.YtfcimcoanlgldaaDoor

/-
  A response's text, read back by the reference's reader: plain laws. No condition.
-/


namespace Go.Proofs.YtfcimcoanlgldaaDoor
namespace A
set_option linter.unusedVariables false
set_option linter.unusedSimpArgs false
set_option maxRecDepth 100000

def hdS (l : List UInt8) : THeader := ⟨l.take (upTo 58 l), l.drop (upTo 58 l + 2)⟩
/-- The lines up to the empty one: the headers, and where the body begins. -/
def rdS (s : List UInt8) : Nat → Nat → Option (List THeader × Nat)
  | 0, _ => none
  | f + 1, a =>
    if lineV s a = [] then (if 0 ≤ lineN s a then some ([], (lineN s a).toNat) else none)
    else if (lineV s a).length < upTo 58 (lineV s a) + 2 then none
    else (rdS s f (lineN s a).toNat).map fun p => (hdS (lineV s a) :: p.1, p.2)
theorem line_at {s l u : List UInt8} {a : Nat} (h : s.drop a = l ++ ([13, 10] ++ u)) (hl : noB 13 l) : lineV s a = l ∧ lineN s a = ((a + l.length + 2 : Nat) : Int) ∧ s.drop (a + l.length + 2) = u := by
  have hc : Lib.cut (s.drop a) crlf = (l, u, true) := by
    rw [h]
    exact cut_first (u := [10]) hl
  refine ⟨by unfold lineV; rw [hc, if_pos rfl], by unfold lineN; rw [hc, if_pos rfl], ?_⟩
  rw [Nat.add_assoc, ← List.drop_drop, h, ← List.drop_drop, List.drop_left]
  rfl
def flat2 (ms : List (List UInt8)) : List UInt8 := ms.flatMap fun l => l ++ [13, 10]
theorem rdS_eq (s t : List UInt8) : ∀ (ms : List (List UInt8)) (a : Nat), (∀ l, l ∈ ms → noB 13 l ∧ upTo 58 l + 2 ≤ l.length) → s.drop a = flat2 ms ++ ([13, 10] ++ t) → ∀ f, ms.length < f → rdS s f a = some (ms.map hdS, a + (flat2 ms).length + 2) ∧ s.drop (a + (flat2 ms).length + 2) = t
  | [], a, h, hd, 0, hf => by omega
  | [], a, h, hd, f + 1, hf => by
    obtain ⟨h1, h2, h3⟩ := line_at (l := []) (u := t) hd (fun x hx => by cases hx)
    refine ⟨?_, h3⟩
    rw [rdS, h1, if_pos rfl, h2, if_pos (by omega)]
    rfl
  | l :: ms, a, h, hd, 0, hf => by simp at hf
  | l :: ms, a, h, hd, f + 1, hf => by
    obtain ⟨hl, hk⟩ := h l (by simp)
    have e : s.drop a = l ++ ([13, 10] ++ (flat2 ms ++ ([13, 10] ++ t))) := by rw [hd]; simp [flat2]
    obtain ⟨h1, h2, h3⟩ := line_at e hl
    obtain ⟨i1, i2⟩ := rdS_eq s t ms (a + l.length + 2) (fun x hx => h x (List.mem_cons_of_mem _ hx)) h3 f (by simp at hf; omega)
    have hlen : (flat2 (l :: ms)).length = l.length + 2 + (flat2 ms).length := by simp [flat2]; omega
    have hne : ¬ l = [] := fun e => by subst e; simp at hk
    refine ⟨?_, ?_⟩
    · rw [rdS, h1, if_neg hne, if_neg (by omega), h2, Int.toNat_natCast, i1]
      simp only [Option.map_some, List.map_cons, hlen]
      congr 2
      omega
    · rw [hlen, ← i2]
      congr 1
      omega
/-- The reference's reading of a whole text. -/
def rdAll (s : List UInt8) : Option (List THeader × Nat) := rdS s (s.length + 1) (lineN s 0).toNat
theorem upTo_pre {l m : List UInt8} (h : noB 58 l) : upTo 58 (l ++ 58 :: m) = l.length :=
  upTo_eq (by simp) (fun j hj => by rw [List.getElem?_append_left hj]; exact noB_at h hj) (.inr (by rw [List.getElem?_append_right (Nat.le_refl _)]; simp))
theorem up_lnH {y : THeader} (h : hdOk y = true) : upTo 58 (lnH y) = y.Name.length := by
  simp only [hdOk, Bool.and_eq_true] at h
  exact upTo_pre (m := 32 :: y.Value) (hName_no h.1 (by decide))
theorem hdS_lnH {y : THeader} (h : hdOk y = true) : hdS (lnH y) = y := by
  unfold hdS
  rw [up_lnH h]
  unfold lnH
  have e1 : (y.Name ++ ([58, 32] ++ y.Value)).take y.Name.length = y.Name := by simp
  have e2 : (y.Name ++ ([58, 32] ++ y.Value)).drop (y.Name.length + 2) = y.Value := by
    rw [← List.drop_drop, List.drop_left]; rfl
  rw [e1, e2]
theorem up_lnZ (b : List UInt8) : upTo 58 (lnZ b) = 14 := by
  have : lnZ b = [67, 111, 110, 116, 101, 110, 116, 45, 76, 101, 110, 103, 116, 104] ++ 58 :: (32 :: Lib.decDigits b.length) := by simp [lnZ, conL]
  rw [this, upTo_pre (by unfold noB; decide)]
  rfl
theorem jn_cons (l z : List UInt8) (ms : List (List UInt8)) : jn (l :: (ms ++ [z])) = l ++ ([13, 10] ++ (flat2 ms ++ z)) := by
  have := jn_end (l :: ms) z
  rw [List.cons_append] at this
  rw [this]
  simp [flat2]
theorem rdAll_eq {x : TResponse} (h : isResp x = true) : lineV (fmtR x) 0 = lnA x.Code ∧ lineN (fmtR x) 0 = (((lnA x.Code).length + 2 : Nat) : Int) ∧
    ∃ p, rdAll (fmtR x) = some (x.Headers.list ++ [hdS (lnZ x.Body)], p) ∧ (fmtR x).drop p = x.Body := by
  have hok := lines_ok h
  have hh := resp_hdr h
  have e : (fmtR x).drop 0 = lnA x.Code ++ ([13, 10] ++ (flat2 (x.Headers.list.map lnH ++ [lnZ x.Body]) ++ ([13, 10] ++ x.Body))) := by
    rw [List.drop_zero, fmtR_eq]
    unfold linesR
    rw [jn_cons]
    simp [flat2]
  obtain ⟨h1, h2, h3⟩ := line_at e (hok _ (by simp [linesR])).1
  rw [Nat.zero_add] at h2 h3
  have hms : ∀ l, l ∈ x.Headers.list.map lnH ++ [lnZ x.Body] → noB 13 l ∧ upTo 58 l + 2 ≤ l.length := fun l hl => by
    refine ⟨(hok l (by unfold linesR; exact List.mem_cons_of_mem _ hl)).1, ?_⟩
    rcases List.mem_append.1 hl with hl | hl
    · obtain ⟨y, hy, rfl⟩ := List.mem_map.1 hl
      rw [up_lnH (hh y hy)]
      simp [lnH]
    · rw [List.mem_singleton.1 hl, up_lnZ]
      simp [lnZ, conL]
  have hf : (x.Headers.list.map lnH ++ [lnZ x.Body]).length < (fmtR x).length + 1 := by
    have hfl : ∀ ms : List (List UInt8), ms.length ≤ (flat2 ms).length := fun ms => by
      induction ms with
      | nil => simp
      | cons l ms ih => simp only [flat2, List.flatMap_cons, List.length_append, List.length_cons, List.length_nil] at ih ⊢; omega
    have := hfl (x.Headers.list.map lnH ++ [lnZ x.Body])
    have h5 := congrArg List.length e
    simp only [List.drop_zero, List.length_append] at h5 this ⊢
    omega
  obtain ⟨i1, i2⟩ := rdS_eq (fmtR x) x.Body _ ((lnA x.Code).length + 2) hms h3 _ hf
  refine ⟨h1, h2, _, ?_, i2⟩
  unfold rdAll
  rw [h2, Int.toNat_natCast, i1, List.map_append, List.map_map]
  have : ∀ l : List THeader, (∀ y, y ∈ l → hdOk y = true) → l.map (hdS ∘ lnH) = l := fun l hl => by
    induction l with
    | nil => rfl
    | cons y l ih => rw [List.map_cons, ih fun z hz => hl z (List.mem_cons_of_mem _ hz)]; simp only [Function.comp]; rw [hdS_lnH (hl y (by simp))]
  rw [this _ hh]
  rfl
end A
end Go.Proofs.YtfcimcoanlgldaaDoor

/-
  ParseInt of the reference, of three bytes. No condition.
-/

namespace Go.Proofs.YtfcimcoanlgldaaDoor
namespace A
set_option linter.unusedVariables false
set_option linter.unusedSimpArgs false
set_option maxRecDepth 100000

def dig (b : UInt8) : Bool := inR b.toNat 48 57
def dv : List UInt8 → Nat → Nat
  | [], n => n
  | b :: l, n => dv l (10 * n + (b.toNat - 48))
def pnB (l : List UInt8) : Bool := l.all dig && decide (Lib.decDigits (dv l 0) = l)
def pnV (l : List UInt8) : Int := if pnB l then dv l 0 else 0
theorem dv_app (l m : List UInt8) : ∀ n, dv (l ++ m) n = dv m (dv l n) := by
  induction l with
  | nil => intro n; rfl
  | cons b l ih => intro n; exact ih _
theorem dv_le : ∀ (l : List UInt8) (n : Nat), l.all dig = true → dv l n + 1 ≤ (n + 1) * 10 ^ l.length
  | [], n, _ => by simp [dv]
  | b :: l, n, h => by
    simp only [List.all_cons, Bool.and_eq_true] at h
    have hb := inR_true h.1
    have ih := dv_le l (10 * n + (b.toNat - 48)) h.2
    have h1 : b.toNat ≤ 57 := by omega
    rw [dv, List.length_cons, Nat.pow_succ]
    refine Nat.le_trans ih ?_
    have h2 : 10 * n + (b.toNat - 48) + 1 ≤ (n + 1) * 10 := by omega
    calc (10 * n + (b.toNat - 48) + 1) * 10 ^ l.length ≤ ((n + 1) * 10) * 10 ^ l.length := Nat.mul_le_mul_right _ h2
      _ = (n + 1) * (10 ^ l.length * 10) := by rw [Nat.mul_assoc, Nat.mul_comm 10]
theorem specInt_fn {l : List UInt8} (h3 : l.length = 3) : Fnc Tryd.prog 85 [.str l] (.tup [.int .i64 (pnV l), .bool (pnB l)]) := by
  refine fn_of c85 (by simp [F85]) fun c => ?_
  unfold F85
  simp [h3]
  refine call_fn0 (l1In_fn _ _ _) .bool fun _ _ => ?_
  have hin : inR 3 1 13 = true := by decide
  simp [hin]
  refine loop_drop 3 (fun i e H c' => e 0 = .str l ∧ e 4 = .int .i64 (dv (l.take i) 0) ∧ e 5 = .int .i64 i ∧ (l.take i).all dig = true ∧ H = []) ⟨rfl, by simp [upd, dv], rfl, by simp, rfl⟩ ?_
  intro i e H c' hi ⟨e0, e4, e5, hall, hH⟩ N hN
  subst hH
  have hbd := dv_le (l.take i) 0 hall
  have hbd2 : dv (l.take i) 0 ≤ 999 := by
    have : 10 ^ (l.take i).length ≤ 10 ^ 3 := Nat.pow_le_pow_right (by omega) (by simp; omega)
    omega
  by_cases h : i < 3
  · have hx : l[i]? = some l[i] := List.getElem?_eq_getElem (by omega)
    have htk : l.take (i + 1) = l.take i ++ [l[i]] := List.take_succ_eq_append_getElem (by omega)
    generalize l[i] = b at hx htk
    have hstep : IntKind.i64.wrap ((i : Int) + 1) = ((i + 1 : Nat) : Int) := by rw [wrap64 (by omega) (by omega)]; rfl
    have hbl := b.toNat_lt
    have h' : (i : Int) < 3 := by omega
    simp [e0, e4, e5, h, h', h3, getW_of hx, wrap_b]
    refine call_fn0 (l1In_fn _ _ _) .bool fun _ _ => ?_
    have bad : dig b = false → pnB l = false := fun hb => by
      have : l.all dig = false := by
        rw [List.all_eq_false]
        exact ⟨b, List.mem_of_getElem? hx, by simp [hb]⟩
      unfold pnB; rw [this]; rfl
    cases hb : inR b.toNat 48 57
    · simp [e0, e4, e5]
      have := bad hb
      exact fin_plain ⟨by simp [pnV, this], rfl⟩
    have hb' := inR_true hb
    generalize hD : dv (l.take i) 0 = D at e4 hbd2
    have hk : 48 ≤ b.toNat ∧ b.toNat ≤ 57 := by omega
    have hw1 : IntKind.i64.wrap (10 * (D : Int)) = ((10 * D : Nat) : Int) := by rw [wrap64 (by omega) (by omega)]; omega
    have hw2 : IntKind.u8.wrap ((b.toNat : Int) - 48) = ((b.toNat - 48 : Nat) : Int) := by rw [IntKind.wrap_u8]; omega
    have hw3 : IntKind.i64.wrap ((b.toNat - 48 : Nat) : Int) = ((b.toNat - 48 : Nat) : Int) := wrap64 (by omega) (by omega)
    have hw4 : IntKind.i64.wrap (((10 * D : Nat) : Int) + ((b.toNat - 48 : Nat) : Int)) = ((10 * D + (b.toNat - 48) : Nat) : Int) := by rw [wrap64 (by omega) (by omega)]; omega
    simp [e0, e4, e5, h3, h', getW_of hx, hw1, hw2, hw3, hw4, hstep, -Int.natCast_add, -Int.natCast_mul]
    exact hN _ _ _ _ h (List.Sublist.refl _) ⟨by simp [upd, e0], by simp [upd, htk, dv_app, hD, dv, -Int.natCast_add, -Int.natCast_mul], by simp [upd, -Int.natCast_add], by rw [htk, List.all_append, hall]; simp [dig, hb], rfl⟩
  · have hie : i = 3 := by omega
    subst hie
    rw [← h3, List.take_length] at e4 hall
    rw [← h3, List.take_length] at hbd2
    have hk : ¬ (1000000000000 < (dv l 0 : Int)) := by omega
    simp [e0, e4, e5, h3, hk]
    refine call_fn0 (specFmt_fn (n := dv l 0) (by omega)) .str fun _ _ => ?_
    by_cases hf : Lib.decDigits (dv l 0) = l
    · simp [e0, e4, e5, hf]
      exact fin_plain ⟨by simp [pnV, pnB, hall, hf], rfl⟩
    · simp [e0, e4, e5, hf]
      exact fin_plain ⟨by simp [pnV, pnB, hall, hf], rfl⟩
theorem code_pn {c : Int} (h : ¬ reason c = []) : pnV (Lib.decDigits c.toNat) = c ∧ (Lib.decDigits c.toNat).length = 3 := by
  have hd : c = 200 ∨ c = 400 ∨ c = 404 ∨ c = 500 ∨ c = 503 := by
    unfold reason at h
    split at h
    · exact .inl (by assumption)
    split at h
    · exact .inr (.inl (by assumption))
    split at h
    · exact .inr (.inr (.inl (by assumption)))
    split at h
    · exact .inr (.inr (.inr (.inl (by assumption))))
    split at h
    · exact .inr (.inr (.inr (.inr (by assumption))))
    · exact absurd rfl h
  rcases hd with rfl | rfl | rfl | rfl | rfl <;> simp [pnV, pnB, dig, dv, inR, Lib.decDigits]
end A
end Go.Proofs.YtfcimcoanlgldaaDoor

/-
  Library functions on strings as0 functions of the small language. No condition.
-/



namespace Go.Proofs.YtfcimcoanlgldaaDoor
namespace A
set_option linter.unusedVariables false
set_option linter.unusedSimpArgs false
set_option maxRecDepth 100000
open Go.RowKit

theorem max_cell {G : Gh} {H : List AObj} {w : World} (I : Inv G H w.heap) : ∃ m, w.cell? ⟨0, 0, none⟩ = some (.int .i64 m) := by
  obtain ⟨_, _, hm, hg⟩ := I.gl 0 (by decide)
  obtain ⟨c, t, fr, m, ho, hc⟩ := gl_max hg
  exact ⟨m, by unfold World.cell?; simp only [ho]; exact hc⟩
theorem below_drew {w : World} : ∀ n, Below w.heap.size w (w.drewN n)
  | 0 => Below.refl _ _
  | n + 1 => by
    have := below_drew (w := w) n
    unfold World.drewN
    exact ⟨this.os, this.tape, this.output, this.size, this.block⟩
theorem cut_fn {l sep : List UInt8} (hl : l.length < 4294967281) : Fnc Tryd.prog 81 [.str l, .str sep] (.tup [.str (Lib.cut l sep).1, .str (Lib.cut l sep).2.1, .bool (Lib.cut l sep).2.2]) := by
  intro c
  refine con_below (res := .tup [.str (Lib.cut l sep).1, .str (Lib.cut l sep).2.1, .bool (Lib.cut l sep).2.2]) (fun G w vs hc I hs hr => ?_) ⟨rfl, rfl⟩
  obtain ⟨v0, v1, rfl⟩ : ∃ v0 v1, vs = #[v0, v1] := by
    match vs, hs with
    | ⟨[a, b]⟩, _ => exact ⟨a, b, rfl⟩
  have h0 := hr 0 _ rfl
  have h1 := hr 1 _ rfl
  simp at h0 h1
  obtain ⟨m, hm⟩ := max_cell I
  cases h0 with
  | @str s _ e hl0 =>
  cases h1 with
  | @str t _ e1 hl1 =>
  have hsz : s.size < 4294967281 := by rw [Lib.size_eq, e]; exact hl
  have key := Tryd.strings_Cut s t m w hsz hm
  rw [e, e1] at key
  have hle : (Lib.cut l sep).1.length ≤ l.length ∧ (Lib.cut l sep).2.1.length ≤ l.length := by
    unfold Lib.cut; split <;> simp
    omega
  refine key.mono fun e w' ⟨h1, n, h2⟩ => ⟨_, h1, h2 ▸ below_drew n, ?_⟩
  refine .tup rfl fun j a hj => ?_
  match j, hj with
  | 0, hj => cases hj; exact .str (by simp) (by unfold mx; omega)
  | 1, hj => cases hj; exact .str (by simp) (by unfold mx; omega)
  | 2, hj => cases hj; exact .bool
theorem split_con {l sep : List UInt8} (hl : l.length < 4294967281) (hs : sep ≠ []) (c : Nat) :
    Con Tryd.prog 86 [.str l, .str sep] [] c fun r O _ => r = .ref 0 c 1 (Lib.split l sep).length ∧ O = [⟨false, c, 1, (Lib.split l sep).map encS⟩] := by
  intro G w vs hc I hsz hr
  subst hc
  obtain ⟨v0, v1, rfl⟩ : ∃ v0 v1, vs = #[v0, v1] := by
    match vs, hsz with
    | ⟨[a, b]⟩, _ => exact ⟨a, b, rfl⟩
  have h0 := hr 0 _ rfl
  have h1 := hr 1 _ rfl
  simp at h0 h1
  obtain ⟨m, hm⟩ := max_cell I
  cases h0 with
  | @str s _ e hl0 =>
  cases h1 with
  | @str t _ e1 hl1 =>
  have hsl : s.size = l.length := by rw [Lib.size_eq, e]
  have hsz : s.size < 4294967281 := by omega
  have hts : 1 ≤ t.size := by
    rw [Lib.size_eq, e1]
    exact Nat.one_le_iff_ne_zero.2 fun h => hs (List.length_eq_zero_iff.1 h)
  have key := Tryd.strings_Split s t m w hsz hm hts
  have hdat : (Lib.splitB t 0 (Lib.countB s t) s).map (·.data.toList) = Lib.split l sep := by
    rw [Lib.splitB_data, e, e1]
    show _ = Lib.splitK sep 0 (Lib.count l sep) l
    unfold Lib.countB
    rw [e, e1]
  have hlen : (Lib.splitB t 0 (Lib.countB s t) s).length = Lib.countB s t + 1 := Lib.splitB_all t hts 0 _ s rfl
  have hlen2 : (Lib.split l sep).length = Lib.countB s t + 1 := by rw [← hlen, ← hdat, List.length_map]
  have hcle : Lib.countB s t + 1 ≤ s.size + 2 := by
    have := Lib.count_le s.data.toList t.data.toList
    rw [← Lib.size_eq] at this
    show Lib.count _ _ + 1 ≤ _
    omega
  generalize hps : Lib.splitB t 0 (Lib.countB s t) s = ps at key hdat hlen
  have hsmall : ∀ x, x ∈ Lib.split l sep → x.length ≤ mx := by
    have : ∀ (k : Nat) (l : List UInt8), ∀ x, x ∈ Lib.splitK sep 0 k l → x.length ≤ l.length := by
      intro k
      induction k with
      | zero => intro l x hx; simp [Lib.splitK] at hx; rw [hx]; exact Nat.le_refl _
      | succ k ih =>
        intro l x hx
        unfold Lib.splitK at hx
        split at hx
        · simp at hx; rw [hx]; exact Nat.le_refl _
        · rcases List.mem_cons.1 hx with rfl | hx
          · simp; omega
          · have := ih _ x hx; simp at this; omega
    intro x hx
    have := this _ _ x hx
    unfold mx; omega
  have hget : ∀ (r : Nat) (x : List UInt8), (Lib.split l sep)[r]? = some x → ∃ y : ByteArray, ps[r]? = some y ∧ y.data.toList = x := fun r x h => by
    rw [← hdat, List.getElem?_map, Option.map_eq_some_iff] at h
    exact h
  obtain ⟨x, I'⟩ := newObj_good I (cs := (ps.map Value.string).toArray) (e := 9) (wd := 1) (rows := (Lib.split l sep).map encS) (by simp [hlen, hlen2]) (by simp; unfold mx; omega)
    (fun r row h => by
      rw [List.getElem?_map, Option.map_eq_some_iff] at h
      obtain ⟨y, _, rfl⟩ := h; rfl)
    (fun r j row a h ha => by
      rw [List.getElem?_map, Option.map_eq_some_iff] at h
      obtain ⟨y, hy, rfl⟩ := h
      obtain ⟨z, hz, e2⟩ := hget r y hy
      match j, ha with
      | 0, ha =>
        simp [encS] at ha
        subst ha
        refine ⟨.string z, by simp [hz], rfl, .str e2 (hsmall _ (List.mem_of_getElem? hy))⟩)
    (0, 0) (fun _ _ h => by omega)
  refine key.mono fun e w' ⟨he, hw⟩ => ?_
  subst hw
  refine ⟨_, .ref 0 G.c 1 (Lib.split l sep).length, _, _, he, ⟨rfl, rfl⟩, x, I', ?_⟩
  have hm' : (G.new w.heap.size).m G.c = w.heap.size := by simp [Gh.new]
  have hb : (w.alloc (.cells (ps.map Value.string).toArray 9)).heap[(G.new w.heap.size).m G.c]? = some (.cells (ps.map Value.string).toArray 9 (0, 0)) := by rw [hm']; show (w.heap.push _)[w.heap.size]? = _; simp
  have hR := Rep.ref (G := G.new w.heap.size) (i := 0) (tag := G.c) (w := 1) (len := Lib.countB s t + 1) (cap := Lib.countB s t + 1) (by simp [Gh.new]) hb (by simp; omega) (Nat.le_refl _) (by unfold mx; omega)
  rw [hm'] at hR
  rw [hlen2]; exact hR
theorem encS_flat : Flat encS := fun x a ha => by
  simp [encS] at ha
  subst ha; exact ⟨rfl, free_str _⟩
theorem split_tr {l sep : List UInt8} (hl : l.length < 4294967281) (hs : sep ≠ []) :
    Tr Tryd.prog 86 [.str l, .str sep] fun _ r => ∃ b : SL (List UInt8), r = b.av 1 encS ∧ b.list = Lib.split l sep :=
  flat_tr encS_flat fun c => (split_con hl hs c).mono fun r O c' _ ⟨h1, h2⟩ => ⟨.mk c (Lib.split l sep), h1, by rw [h2, flat_wood], rfl⟩
theorem splitK_len (sep : List UInt8) : ∀ (k : Nat) (l : List UInt8), (Lib.splitK sep 0 k l).length ≤ k + 1 ∧ ∀ x, x ∈ Lib.splitK sep 0 k l → x.length ≤ l.length := by
  intro k
  induction k with
  | zero => intro l; refine ⟨by simp [Lib.splitK], fun x hx => ?_⟩; simp [Lib.splitK] at hx; rw [hx]; exact Nat.le_refl _
  | succ k ih =>
    intro l
    unfold Lib.splitK
    split
    · exact ⟨by simp, fun x hx => by simp at hx; rw [hx]; exact Nat.le_refl _⟩
    · refine ⟨by have := (ih (l.drop ((Lib.index l sep).toNat + sep.length))).1; simp; omega, fun x hx => ?_⟩
      rcases List.mem_cons.1 hx with rfl | hx
      · simp; omega
      · have := (ih _).2 x hx; simp at this; omega
theorem split_len (l sep : List UInt8) : (Lib.split l sep).length ≤ l.length + 2 := by
  have h1 := (splitK_len sep (Lib.count l sep) l).1
  have h2 := Lib.count_le l sep
  unfold Lib.split; omega
theorem split_mem {l sep x : List UInt8} (hx : x ∈ Lib.split l sep) : x.length ≤ l.length := (splitK_len sep _ l).2 x hx
end A
end Go.Proofs.YtfcimcoanlgldaaDoor

/-
  ParseResponse of the program. No condition.
-/


namespace Go.Proofs.YtfcimcoanlgldaaDoor
namespace A
set_option linter.unusedVariables false
set_option linter.unusedSimpArgs false
set_option maxRecDepth 100000
open Go.RowKit

theorem trim_fn {l p : List UInt8} (hl : l.length ≤ 1048576) : Fnc Tryd.prog 87 [.str l, .str p] (.str (Lib.trimPrefix l p)) := by
  intro c
  refine con_below (res := .str (Lib.trimPrefix l p)) (fun G w vs hc I hs hr => ?_) ⟨rfl, rfl⟩
  obtain ⟨v0, v1, rfl⟩ : ∃ v0 v1, vs = #[v0, v1] := by
    match vs, hs with
    | ⟨[a, b]⟩, _ => exact ⟨a, b, rfl⟩
  have h0 := hr 0 _ rfl
  have h1 := hr 1 _ rfl
  simp at h0 h1
  cases h0 with
  | @str s _ e hl0 =>
  cases h1 with
  | @str t _ e1 hl1 =>
  have key := Tryd.strings_TrimPrefix s t w
  rw [e, e1] at key
  have hle : (Lib.trimPrefix l p).length ≤ l.length := by
    unfold Lib.trimPrefix; split <;> simp
  exact key.mono fun e w' ⟨h1, h2⟩ => ⟨_, h1, h2 ▸ Below.refl _ _, .str (by simp) (by unfold mx; omega)⟩
theorem split_ne (l sep : List UInt8) : Lib.split l sep ≠ [] := by
  unfold Lib.split
  cases Lib.count l sep with
  | zero => simp [Lib.splitK]
  | succ k => rw [Lib.splitK]; split <;> simp
theorem splitK_sum (sep : List UInt8) (hs : sep.length = 2) : ∀ (k : Nat) (l : List UInt8), szL (fun x => x.length + 2) (Lib.splitK sep 0 k l) ≤ l.length + 2
  | 0, l => by simp [Lib.splitK, szL]
  | k + 1, l => by
    rw [Lib.splitK]
    split
    · simp [szL]
    · rename_i h
      have ih := splitK_sum sep hs k (l.drop ((Lib.index l sep).toNat + sep.length))
      have hge := Lib.index_ge l sep
      have h1 : ¬ Lib.index l sep = -1 := fun e => h (by rw [e]; rfl)
      have h2 : (Lib.index l sep).toNat + 2 ≤ l.length := by
        have h3 := Lib.index_room l sep (by omega)
        omega
      simp only [szL, List.map_cons, List.sum_cons, List.length_take, List.length_drop, Nat.add_zero] at ih ⊢
      omega
theorem szL_app' {α : Type} (f : α → Nat) (l m : List α) : szL f (l ++ m) = szL f l + szL f m := by simp [szL]
theorem rdHdr_sz (l : List UInt8) : (rdHdr l).sz ≤ l.length := by
  unfold rdHdr THeader.sz Lib.cut
  split
  · simp; omega
  · simp
theorem map_sz (l : List (List UInt8)) : (l.map rdHdr).length + szL THeader.sz (l.map rdHdr) ≤ szL (fun x => x.length + 2) l := by
  induction l with
  | nil => simp [szL]
  | cons x l ih =>
    have := rdHdr_sz x
    simp only [szL, List.map_cons, List.sum_cons, List.length_cons] at ih ⊢
    omega
theorem cut_sz (s sep : List UInt8) : (Lib.cut s sep).1.length + (Lib.cut s sep).2.1.length ≤ s.length := by
  unfold Lib.cut
  split
  · simp; omega
  · simp
theorem rd_sz {s : List UInt8} (h : 2 ≤ (rdLines s).length) : (rdHdrs s).length + szL THeader.sz (rdHdrs s) + (rdBody s).length ≤ s.length := by
  have h1 := splitK_sum [13, 10] rfl (Lib.count (Lib.cut s [13, 10, 13, 10]).1 [13, 10]) (Lib.cut s [13, 10, 13, 10]).1
  have h1 : szL (fun x => x.length + 2) (rdLines s) ≤ (Lib.cut s [13, 10, 13, 10]).1.length + 2 := h1
  have h2 := cut_sz s [13, 10, 13, 10]
  have h3 := map_sz (((rdLines s).drop 1).take ((rdLines s).length - 2))
  have h4 : szL (fun x : List UInt8 => x.length + 2) (rdLines s) = szL (fun x : List UInt8 => x.length + 2) ((rdLines s).take 1) + (szL (fun x : List UInt8 => x.length + 2) (((rdLines s).drop 1).take ((rdLines s).length - 2)) + szL (fun x : List UInt8 => x.length + 2) (((rdLines s).drop 1).drop ((rdLines s).length - 2))) := by
    rw [← szL_app', List.take_append_drop, ← szL_app', List.take_append_drop]
  have h5 : 2 ≤ szL (fun x : List UInt8 => x.length + 2) ((rdLines s).take 1) := by
    cases hc : rdLines s with
    | nil => rw [hc] at h; simp at h
    | cons x l => simp [szL]
  unfold rdHdrs rdBody
  omega
def candI (s : List UInt8) : TResponse := ⟨if pwOk (rdNum s) 0 1000000000000 then atoiN (rdNum s) else 0, .mk 0 (rdHdrs s), rdBody s⟩
def okI (s : List UInt8) : Bool := pwOk (rdNum s) 0 1000000000000 && decide (2 ≤ (rdLines s).length) && !decide (s = []) && decide ((if isResp (candI s) then fmtR (candI s) else []) = s)
def TResponse.encO (s : TResponse) : List AV := [.int .i64 s.Code, s.Headers.ref 2, .str s.Body]
def TResponse.inn (s : TResponse) : List AObj := s.Headers.wood 2 THeader.enc noInn
def zeroR : TResponse := ⟨0, .nil, []⟩
def outI (s : List UInt8) : TResponse := if okI s then candI s else zeroR
theorem viewA {S : List AObj} {l l' : List AV} (h : Views S l l') (hc : ∀ a, a ∈ l' → a.cell = true) : View S (.agg l) (.agg l') := .agg h.spec.1 (fun j a ha => hc a (List.mem_of_getElem? ha)) h.spec.2
def LiveH (ys : List THeader) (v : AV) (T : List AObj) : Prop := (ys = [] ∧ v = .nsl) ∨ ∃ (P B : List AObj) (t : Nat), v = .ref (P.length + 2) t 2 ys.length ∧ T = P ++ ⟨false, t, 2, ys.map THeader.enc⟩ :: B
theorem slice_av {α : Type} {s : SL α} {w a b : Nat} {enc : α → List AV} (hs : s.list ≠ []) (ha : a ≤ b) (hb : b ≤ s.list.length) {K : AV → Prop} (k : ∀ t, K ((SL.mk t ((s.list.take b).drop a)).av w enc)) : slcSliceW w (s.av w enc) (some (.int .i64 a)) (some (.int .i64 b)) K := by
  cases s with
  | nil => exact absurd rfl hs
  | mk t l =>
    refine ⟨rfl, by omega, by omega, ?_, ?_, ?_⟩
    · simpa using ha
    · simpa using hb
    · have e : ((l.map enc).take (b : Int).toNat).drop (a : Int).toNat = ((l.take b).drop a).map enc := by simp [List.map_take, List.map_drop]
      rw [e]
      exact k t
@[simp] theorem getW_pb {α : Type} (P B : List α) (q b : α) (K : α → Prop) : getW (P ++ q :: (B ++ [b])) (P.length + (B.length + 1)) K = K b :=
  getW_of (by rw [List.getElem?_append_right (by omega), Nat.add_sub_cancel_left, List.getElem?_cons_succ, List.getElem?_append_right (by omega)]; simp) K
theorem LiveH.step0 {T : List AObj} {g : AObj} {y : THeader} {t : Nat} : LiveH [y] (.ref (T.length + 1 + 1 + 1) t 2 1) (T ++ [g, ⟨false, t, 2, [y.enc]⟩]) := .inr ⟨T ++ [g], [], t, by simp, by simp⟩
theorem LiveH.step1 {P B : List AObj} {g : AObj} {ys : List THeader} {y : THeader} {t n : Nat} (hn : ys.length = n) : LiveH (ys ++ [y]) (.ref (P.length + 2) t 2 (n + 1)) (P ++ ⟨false, t, 2, ys.map THeader.enc ++ [y.enc]⟩ :: (B ++ [g])) := .inr ⟨P, B ++ [g], t, by simp [hn], by simp⟩
theorem impl_parseR {s : List UInt8} (hl : s.length ≤ 1048576) (c : Nat) : Con Tryd.prog 41 [.str s] [] c fun r O _ => ∃ b : TResponse, r = .tup [.agg b.encO, .bool (okI s)] ∧ O = b.inn ∧ b.con = (outI s).con := by
  refine con_of c41 (by simp [F41]) ?_
  unfold F41
  have hcl : (Lib.cut s [13, 10, 13, 10]).1.length ≤ s.length ∧ (Lib.cut s [13, 10, 13, 10]).2.1.length ≤ s.length := by
    unfold Lib.cut; split <;> simp
    omega
  simp
  refine call_fn0 (cut_fn (by omega)) (free_tup (by simp [free_str, free_bool]) _) fun _ _ => ?_
  simp
  refine call_tree0 (split_tr (by omega) (by simp)) fun r _ hc1 ⟨b, e1, q1⟩ _ => ?_
  subst e1
  have q1 : b.list = rdLines s := q1
  have hlen := split_len (Lib.cut s [13, 10, 13, 10]).1 [13, 10]
  have hmem : ∀ x, x ∈ rdLines s → x.length ≤ s.length := fun x hx => Nat.le_trans (split_mem hx) hcl.1
  have hne : rdLines s ≠ [] := split_ne _ _
  have hrl : (rdLines s).length ≤ 1048578 := by unfold rdLines; omega
  rw [← q1] at hne hmem hrl
  have h0 : b.list[0]? = some ((rdLines s).headD []) := by
    rw [q1] at hne ⊢
    cases h : rdLines s with
    | nil => exact absurd h hne
    | cons x l => rfl
  have hl0 := hmem _ (List.mem_of_getElem? h0)
  have hN : (Lib.cut (Lib.trimPrefix ((rdLines s).headD []) preH) [32]).1 = rdNum s := rfl
  generalize hL0 : (rdLines s).headD [] = l0 at h0 hl0 hN
  have htr : (Lib.trimPrefix l0 preH).length ≤ l0.length := by unfold Lib.trimPrefix; split <;> simp
  have hnl : (rdNum s).length ≤ s.length := by
    rw [← hN]
    unfold Lib.cut
    split
    · simp; omega
    · simp; omega
  simp [getW_of h0]
  refine call_fn0 (trim_fn (by omega)) .str fun _ _ => ?_
  simp
  refine call_fn0 (cut_fn (by have : ([72, 84, 84, 80, 47, 49, 46, 49, 32] : List UInt8) = preH := rfl; rw [this]; omega)) (free_tup (by simp [free_str, free_bool]) _) fun _ _ => ?_
  rw [show (Lib.cut (Lib.trimPrefix l0 [72, 84, 84, 80, 47, 49, 46, 49, 32]) [32]).1 = rdNum s from hN]
  simp
  refine call_fn0 (parseInt_fn (by omega)) (.tup (by intro j a hj; match j, hj with | 0, hj => cases hj; exact .int | 1, hj => cases hj; exact .bool)) fun _ _ => ?_
  cases hpw : pwOk (rdNum s) 0 1000000000000
  · simp [putA]
    have : okI s = false := by simp [okI, hpw]
    exact fin_sub (List.nil_sublist _) (.refl _) ⟨zeroR, by rw [this]; rfl, rfl, by unfold outI; rw [this]; rfl⟩
  by_cases h2 : 2 ≤ (rdLines s).length
  rotate_left
  · have k2 : (b.list.length : Int) < 2 := by rw [q1]; omega
    simp [putA, k2]
    have : okI s = false := by simp [okI, h2]
    exact fin_sub (List.nil_sublist _) (.refl _) ⟨zeroR, by rw [this]; rfl, rfl, by unfold outI; rw [this]; rfl⟩
  have k2 : ¬ ((b.list.length : Int) < 2) := by rw [q1]; omega
  have hw1 : IntKind.i64.wrap ((b.list.length : Int) - 1) = ((b.list.length - 1 : Nat) : Int) := by rw [wrap64 (by omega) (by omega)]; omega
  simp [putA, k2, hw1]
  refine slice_av (a := 1) (b := b.list.length - 1) hne (by rw [q1]; omega) (by omega) fun tl => ?_
  obtain ⟨L, hL⟩ : ∃ L, L = (b.list.take (b.list.length - 1)).drop 1 := ⟨_, rfl⟩
  have hLr : L.map rdHdr = rdHdrs s := by
    rw [hL, q1, List.drop_take]
    unfold rdHdrs
    rw [show (rdLines s).length - 1 - 1 = (rdLines s).length - 2 by omega]
  have hLm : ∀ x, x ∈ L → x.length ≤ s.length := fun x hx => by
    rw [hL] at hx
    exact hmem x (List.mem_of_mem_take (List.mem_of_mem_drop hx))
  have hLl : L.length ≤ 1048578 := by rw [hL]; simp; omega
  rw [← hL]
  simp [putA]
  obtain ⟨code, hcode⟩ : ∃ code, code = atoiN (rdNum s) := ⟨_, rfl⟩
  rw [← hcode]
  have hbody : (Lib.cut s [13, 10, 13, 10]).2.1 = rdBody s := rfl
  rw [hbody]
  refine loop_drop L.length (fun i e H c' => e 0 = .str s ∧ e 2 = .ptr 0 c 3 0 0 ∧ e 58 = (SL.mk tl L).av 1 encS ∧ e 59 = .int .i64 L.length ∧ e 60 = .int .i64 i ∧ ∃ (cx : Nat) (v : AV) (T : List AObj), e 14 = .ptr 1 cx 3 0 0 ∧ LiveH ((L.take i).map rdHdr) v T ∧
    H = ⟨false, c, 3, [[.int .i64 0, .nsl, .str []]]⟩ :: ⟨false, cx, 3, [[.int .i64 code, v, .str (rdBody s)]]⟩ :: T) ⟨by simp [upd], by simp [upd], by simp [upd], by simp [upd], by simp [upd], _, .nsl, [], by simp [upd], .inl ⟨by simp, rfl⟩, rfl⟩ ?_
  intro i e H c' hi ⟨e0, e2, e58, e59, e60, cx, v, T, e14, hlive, hH⟩ N hN
  subst hH
  by_cases h : i < L.length
  · have hx : L[i]? = some L[i] := List.getElem?_eq_getElem h
    have hxl := hLm _ (List.getElem_mem h)
    have htk : (L.take (i + 1)).map rdHdr = (L.take i).map rdHdr ++ [rdHdr L[i]] := by rw [List.take_succ_eq_append_getElem h, List.map_append]; rfl
    have htl : ((L.take i).map rdHdr).length = i := by simp; omega
    generalize L[i] = x at hx hxl htk
    generalize (L.take i).map rdHdr = ys at htk htl hlive
    have hstep : IntKind.i64.wrap ((i : Int) + 1) = ((i + 1 : Nat) : Int) := by rw [step64 (by unfold mx; omega) h]; rfl
    have hm1 : (i + 1) * 32 ≤ 140737488355328 := by omega
    have hm2 : i + 1 ≤ mx := by unfold mx; omega
    have hm3 : 1 ≤ mx := by decide
    simp [e0, e2, e14, e58, e59, e60, h, getW_of hx]
    refine call_fn0 (cut_fn (by omega)) (free_tup (by simp [free_str, free_bool]) _) fun _ _ => ?_
    rcases hlive with ⟨l1, l2⟩ | ⟨P, B, t, l1, l2⟩
    · subst l2
      subst l1
      simp at htl
      subst htl
      have hw0 : IntKind.i64.wrap 1 = 1 := by decide
      simp [e0, e2, e14, e58, e59, e60, h, putA, hw0, hm3]
      exact hN _ _ _ _ h (List.Sublist.refl _) ⟨by simp [upd, e0], by simp [upd, e2], by simp [upd, e58], by simp [upd, e59], by simp [upd], cx, _, _, by simp [upd, e14], by rw [htk]; exact LiveH.step0 (y := rdHdr x), rfl⟩
    · subst l1; subst l2
      simp [e0, e2, e14, e58, e59, e60, h, putA, hstep, htl, hm1, hm2]
      exact hN _ _ _ _ h (List.Sublist.refl _) ⟨by simp [upd, e0], by simp [upd, e2], by simp [upd, e58], by simp [upd, e59], by simp [upd], cx, _, _, by simp [upd, e14], by rw [htk]; exact LiveH.step1 (y := rdHdr x) htl, rfl⟩
  have hie : i = L.length := by omega
  subst hie
  rw [List.take_length, hLr] at hlive
  have hcand : candI s = ⟨code, .mk 0 (rdHdrs s), rdBody s⟩ := by unfold candI; rw [hpw, hcode]; rfl
  have hokI : okI s = (!decide (s = []) && decide ((if isResp (candI s) then fmtR (candI s) else []) = s)) := by unfold okI; rw [hpw]; simp [h2]
  by_cases hs0 : s = []
  · have : okI s = false := by rw [hokI]; simp [hs0]
    simp [e0, e2, e14, e58, e59, e60, hs0, putA]
    rw [hs0] at this
    subst hs0
    exact fin_sub (List.nil_sublist _) (.refl _) ⟨zeroR, by rw [this]; rfl, rfl, by unfold outI; rw [this]; rfl⟩
  simp [e0, e2, e14, e58, e59, e60, hs0, putA]
  have hsz := rd_sz h2
  have hok : ∀ t, TResponse.ok ⟨code, .mk t (rdHdrs s), rdBody s⟩ := fun t => by
    refine ⟨⟨by show (rdHdrs s).length ≤ mx; unfold mx; omega, fun x hx => ?_⟩, by show (rdBody s).length ≤ mx; unfold mx; omega⟩
    have h3 := szL_mem (sz := THeader.sz) (show x ∈ rdHdrs s from hx)
    have h4 : x.sz ≤ 1048576 := by omega
    unfold THeader.sz at h4
    unfold THeader.ok mx
    omega
  have hz : ∀ t, TResponse.sz ⟨code, .mk t (rdHdrs s), rdBody s⟩ ≤ 1048576 := fun t => by
    show szHeaderS (.mk t (rdHdrs s)) + (rdBody s).length ≤ _
    unfold szHeaderS
    show (rdHdrs s).length + szL THeader.sz (rdHdrs s) + (rdBody s).length ≤ _
    omega
  have hfm : ∀ t, (if isResp ⟨code, .mk t (rdHdrs s), rdBody s⟩ then fmtR ⟨code, .mk t (rdHdrs s), rdBody s⟩ else []) = (if isResp (candI s) then fmtR (candI s) else []) := fun t => by rw [hcand]; rfl
  have hcells : ∀ t, ∀ a, a ∈ (TResponse.mk code (.mk t (rdHdrs s)) (rdBody s)).enc → a.cell = true := fun t => TResponse.cells _
  rcases hlive with ⟨l1, l2⟩ | ⟨P, B, t, l1, l2⟩
  · subst l2
    refine call_fn (impl_fmtR (hok 0) (hz 0)) (.cons (viewA (.cons (.refl _) (.cons (by rw [l1]; exact .nsl _ _) (.cons (.refl _) .nil))) (hcells 0)) .nil) .str fun _ _ => ?_
    rw [hfm]
    by_cases hf : (if isResp (candI s) then fmtR (candI s) else []) = s
    · have ho : okI s = true := by rw [hokI]; simp [hs0, hf]
      rw [hf]
      simp [e0, e2, e14, e58, e59, e60, hs0, putA]
      exact fin_sub (List.nil_sublist _) (.refl _) ⟨⟨code, .nil, rdBody s⟩, by rw [ho]; rfl, rfl, by unfold outI; rw [ho, if_pos rfl, hcand]; simp [TResponse.con, SL.con, SL.pcon, l1]⟩
    · have ho : okI s = false := by rw [hokI]; simp [hs0, hf]
      generalize (if isResp (candI s) then fmtR (candI s) else []) = fm at hf
      simp [e0, e2, e14, e58, e59, e60, hs0, hf, putA]
      exact fin_sub (List.nil_sublist _) (.refl _) ⟨zeroR, by rw [ho]; rfl, rfl, by unfold outI; rw [ho]; rfl⟩
  · subst l1; subst l2
    refine call_fn (impl_fmtR (hok t) (hz t)) (.cons (viewA (.cons (.refl _) (.cons (view_ref (by simp) rfl fun x _ => THeader.cells x) (.cons (.refl _) .nil))) (hcells t)) .nil) .str fun _ _ => ?_
    rw [hfm]
    by_cases hf : (if isResp (candI s) then fmtR (candI s) else []) = s
    · have ho : okI s = true := by rw [hokI]; simp [hs0, hf]
      rw [hf]
      simp [e0, e2, e14, e58, e59, e60, hs0, putA]
      exact fin_sub (v' := .tup [.agg [.int .i64 code, .ref 0 t 2 (rdHdrs s).length, .str (rdBody s)], .bool true]) (Hk := [⟨false, t, 2, (rdHdrs s).map THeader.enc⟩]) (by simp) (.tup rfl fun j a a' h1 h2 => by
        match j, h1, h2 with
        | 0, h1, h2 => cases h1; cases h2; exact viewA (.cons (.refl _) (.cons .name (.cons (.refl _) .nil))) (fun a ha => by simp at ha; rcases ha with rfl | rfl | rfl <;> rfl)
        | 1, h1, h2 => cases h1; cases h2; exact .refl _) ⟨⟨code, .mk t (rdHdrs s), rdBody s⟩, by rw [ho]; rfl, by simp [TResponse.inn, flat_wood], by unfold outI; rw [ho, if_pos rfl, hcand]; rfl⟩
    · have ho : okI s = false := by rw [hokI]; simp [hs0, hf]
      generalize (if isResp (candI s) then fmtR (candI s) else []) = fm at hf
      simp [e0, e2, e14, e58, e59, e60, hs0, hf, putA]
      exact fin_sub (List.nil_sublist _) (.refl _) ⟨zeroR, by rw [ho]; rfl, rfl, by unfold outI; rw [ho]; rfl⟩
end A
end Go.Proofs.YtfcimcoanlgldaaDoor

/-
  ParseResponse of the reference. No condition.
-/


namespace Go.Proofs.YtfcimcoanlgldaaDoor
namespace A
set_option linter.unusedVariables false
set_option linter.unusedSimpArgs false
set_option maxRecDepth 100000
open Go.RowKit

def LiveK (k : Nat) (ys : List THeader) (v : AV) (T : List AObj) : Prop := (ys = [] ∧ v = .nsl) ∨ ∃ (P B : List AObj) (t : Nat), v = .ref (P.length + k) t 2 ys.length ∧ T = P ++ ⟨false, t, 2, ys.map THeader.enc⟩ :: B
theorem LiveK.step0 {T : List AObj} {g : AObj} {y z : THeader} {t : Nat} (hz : z = y) : LiveK 3 ([] ++ [z]) (.ref (T.length + 1 + 1 + 1 + 1) t 2 1) (T ++ [g, ⟨false, t, 2, [y.enc]⟩]) := .inr ⟨T ++ [g], [], t, by simp, by simp [hz]⟩
theorem LiveK.step1 {P B : List AObj} {g : AObj} {ys : List THeader} {y z : THeader} {t n : Nat} (hn : ys.length = n) (hz : z = y) : LiveK 3 (ys ++ [z]) (.ref (P.length + 3) t 2 (n + 1)) (P ++ ⟨false, t, 2, ys.map THeader.enc ++ [y.enc]⟩ :: (B ++ [g])) := .inr ⟨P, B ++ [g], t, by simp [hn], by simp [hz]⟩
theorem lineN_le (s : List UInt8) (a : Nat) (ha : a ≤ s.length) : lineN s a = -1 ∨ ∃ b : Nat, lineN s a = (b : Int) ∧ a + (lineV s a).length + 2 = b ∧ b ≤ s.length := by
  unfold lineN lineV
  by_cases h : (Lib.cut (s.drop a) crlf).2.2 = true
  · rw [if_pos h, if_pos h]
    refine .inr ⟨_, rfl, rfl, ?_⟩
    unfold Lib.cut at h ⊢
    split at h
    · rename_i h1
      have h2 := Lib.index_room (s.drop a) crlf h1
      rw [if_pos h1]
      obtain ⟨i, hi⟩ := Int.eq_ofNat_of_zero_le h1
      rw [hi] at h2 ⊢
      have h3 : crlf.length = 2 := rfl
      rw [h3, List.length_drop] at h2
      simp only [Int.toNat_natCast, List.length_take, List.length_drop]
      omega
    · cases h
  · rw [if_neg h, if_neg h]
    exact .inl rfl
def candS (s : List UInt8) (hs : List THeader) (p : Nat) : TResponse := ⟨pnV (((lineV s 0).take 12).drop 9), .mk 0 hs.dropLast, s.drop p⟩
def resS (s : List UInt8) : Option TResponse :=
  if 0 ≤ lineN s 0 ∧ Lib.occAt (lineV s 0) preH 0 = true ∧ 12 ≤ (lineV s 0).length then
    (rdAll s).bind fun q => if q.1 = [] then none else if isResp (candS s q.1 q.2) = true ∧ fmtR (candS s q.1 q.2) = s then some (candS s q.1 q.2) else none
  else none
def okS (s : List UInt8) : Bool := (resS s).isSome
def outS (s : List UInt8) : TResponse := (resS s).getD zeroR
theorem lineV_nil {s : List UInt8} {a : Nat} (h : lineN s a = -1) : lineV s a = [] := by
  unfold lineN at h
  unfold lineV
  split at h
  · omega
  · rename_i h1; rw [if_neg h1]
theorem view_cut {α : Type} {enc : α → List AV} {S : List AObj} {i tag w n : Nat} {l : List α} (ho : (⟨false, tag, w, l.map enc⟩ : AObj) ∈ S) (hn : n ≤ l.length) (hc : ∀ x, x ∈ l → ∀ a, a ∈ enc x → a.cell = true) : View S (.ref i tag w n) ((SL.mk tag (l.take n)).av w enc) := by
  have same : ∀ (r : Nat) (x x' : List AV), (l.map enc)[r]? = some x → ((l.take n).map enc)[r]? = some x' → x' = x := fun r x x' h1 h2 => by
    rw [List.map_take, List.getElem?_take] at h2
    split at h2
    · rw [h1] at h2; cases h2; rfl
    · cases h2
  exact .ref ho (by simpa using hn) (by simp; omega) (fun r x x' h1 h2 => by rw [same r x x' h1 h2])
    (fun r j x a hx ha => by
      obtain ⟨y, hy, rfl⟩ := List.mem_map.1 (List.mem_of_getElem? hx)
      exact hc y (List.mem_of_mem_take hy) a (List.mem_of_getElem? ha))
    fun r j x x' a a' h1 h2 h3 h4 => by have := same r x x' h1 h2; subst this; rw [h3] at h4; cases h4; exact .refl _
/-- A response and a word, seen as0 a tree. -/
def RespV (s : List UInt8) (r : AV) (O : List AObj) : Prop := ∃ b : TResponse, View O r (.tup [.agg b.enc, .bool (okS s)]) ∧ b.con = (outS s).con ∧ (b.Headers = .nil ∨ ∃ t l, b.Headers = .mk t l ∧ t ∈ tags O)
theorem spec_parseR {s : List UInt8} (hl : s.length ≤ 1048576) (c : Nat) : Con Tryd.prog 40 [.str s] [] c fun r O _ => RespV s r O := by
  refine con_of c40 (by simp [F40]) ?_
  unfold F40
  have none : resS s = none → RespV s (.tup [.agg [.int .i64 0, .nsl, .str []], .bool false]) [] := fun h =>
    ⟨zeroR, by unfold okS; rw [h]; exact .refl _, by unfold outS; rw [h]; rfl, .inl rfl⟩
  simp [putA]
  refine call_fn0 (line_fn (a := 0) hl (by omega)) (free_si _ _ _) fun _ _ => ?_
  rcases lineN_le s 0 (by omega) with hn | ⟨a0, hn, ha0, hb0⟩
  · have hr : resS s = Option.none := by unfold resS; rw [if_neg (by rw [hn]; omega)]
    simp [hn, putA]
    exact fin_sub (List.nil_sublist _) (.refl _) (none hr)
  have k0 : ¬ ((a0 : Int) < 0) := by omega
  simp [hn, k0, putA]
  refine call_fn0 (is_fn (l := lineV s 0) (sep := [72, 84, 84, 80, 47, 49, 46, 49, 32]) (i := 0) (by omega) (by simp) (by omega)) .bool fun _ _ => ?_
  cases hp : Lib.occAt (lineV s 0) [72, 84, 84, 80, 47, 49, 46, 49, 32] 0
  · have hr : resS s = Option.none := by unfold resS; rw [if_neg (by rintro ⟨_, h, _⟩; rw [show Lib.occAt (lineV s 0) preH 0 = false from hp] at h; cases h)]
    simp [putA]
    exact fin_sub (List.nil_sublist _) (.refl _) (none hr)
  by_cases h12 : 12 ≤ (lineV s 0).length
  rotate_left
  · have k12 : ((lineV s 0).length : Int) < 12 := by omega
    have hr : resS s = Option.none := by unfold resS; rw [if_neg (by rintro ⟨_, _, h⟩; exact h12 h)]
    simp [k12, putA]
    exact fin_sub (List.nil_sublist _) (.refl _) (none hr)
  have k12 : ¬ (((lineV s 0).length : Int) < 12) := by omega
  simp [k12, putA]
  refine ⟨h12, ?_⟩
  refine call_fn0 (specInt_fn (by simp; omega)) (.tup (by intro j a hj; match j, hj with | 0, hj => cases hj; exact .int | 1, hj => cases hj; exact .bool)) fun _ _ => ?_
  have hres : resS s = (rdAll s).bind fun q => if q.1 = [] then Option.none else if isResp (candS s q.1 q.2) = true ∧ fmtR (candS s q.1 q.2) = s then some (candS s q.1 q.2) else Option.none := by
    unfold resS
    rw [if_pos ⟨by rw [hn]; omega, hp, h12⟩]
  obtain ⟨code, hcode⟩ : ∃ code, code = pnV (((lineV s 0).take 12).drop 9) := ⟨_, rfl⟩
  rw [← hcode]
  simp [putA]
  refine loop_drop s.length (fun i e H c' => e 0 = .str s ∧ e 2 = .ptr 0 c 3 0 0 ∧ e 4 = .ptr 1 (c + 1) 3 0 0 ∧ ∃ (a cx : Nat) (v : AV) (T : List AObj) (ys : List THeader), e 6 = .int .i64 a ∧ a ≤ s.length ∧ 2 * i ≤ a ∧ szL THeader.sz ys + ys.length ≤ a ∧ e 9 = .ptr 2 cx 3 0 0 ∧ LiveK 3 ys v T ∧ ys.length = i ∧
    rdAll s = (rdS s (s.length + 1 - i) a).map (fun p => (ys ++ p.1, p.2)) ∧ H = ⟨false, c, 3, [[.int .i64 0, .nsl, .str []]]⟩ :: ⟨false, c + 1, 3, [[.int .i64 0, .nsl, .str []]]⟩ :: ⟨false, cx, 3, [[.int .i64 code, v, .str []]]⟩ :: T)
    ⟨by simp [upd], by simp [upd], by simp [upd], a0, _, .nsl, [], [], by simp [upd], hb0, by omega, by simp [szL], by simp [upd], .inl ⟨rfl, rfl⟩, rfl, ?_, rfl⟩ ?_
  · unfold rdAll
    rw [hn, Int.toNat_natCast]
    simp
  intro i e H c' hi ⟨e0, e2, e4, a, cx, v, T, ys, e6, hal, hia, hsz, e9, hlive, hyl, hrd, hH⟩ N hN
  subst hH
  have hf : s.length + 1 - i = (s.length - i) + 1 := by omega
  rw [hf, rdS] at hrd
  have ka : (0 : Int) ≤ a := by omega
  simp [e0, e2, e4, e6, e9, ka]
  refine call_fn0 (line_fn hl hal) (free_si _ _ _) fun _ _ => ?_
  rcases lineN_le s a hal with hna | ⟨b, hnb, hab, hbl⟩
  · have hv := lineV_nil hna
    rw [hv, if_pos rfl, hna, if_neg (by omega)] at hrd
    have hr : resS s = Option.none := by rw [hres, hrd]; rfl
    rw [hna, hv]
    simp [e0, e2, e4, e6, e9, putA]
    exact fin_sub (List.nil_sublist _) (.refl _) (none hr)
  have kb : ¬ ((b : Int) < 0) := by omega
  by_cases hv : lineV s a = []
  · rw [hv, if_pos rfl, hnb, if_pos (by omega), Int.toNat_natCast] at hrd
    rw [hnb, hv]
    simp only [Option.map_some, List.append_nil] at hrd
    rcases hlive with ⟨l1, l2⟩ | ⟨P, B, t, l1, l2⟩
    · have hr : resS s = Option.none := by rw [hres, hrd]; simp [l1]
      subst l2
      simp [e0, e2, e4, e6, e9, kb, putA]
      exact fin_sub (List.nil_sublist _) (.refl _) (none hr)
    · subst l1; subst l2
      simp [e0, e2, e4, e6, e9, kb, putA]
      refine ⟨fun hy0 => ?_, fun hy0 => ?_⟩
      · have hr : resS s = Option.none := by rw [hres, hrd]; simp [hy0]
        exact fin_sub (List.nil_sublist _) (.refl _) (none hr)
      have hpos : 0 < ys.length := List.length_pos_iff.2 hy0
      have hw : IntKind.i64.wrap ((ys.length : Int) - 1) = ((ys.length - 1 : Nat) : Int) := by rw [wrap64 (by omega) (by omega)]; omega
      rw [hw, Int.toNat_natCast]
      refine ⟨by omega, by omega, hbl, ?_⟩
      obtain ⟨X, hX⟩ : ∃ X : TResponse, X = ⟨code, .mk t (ys.take (ys.length - 1)), s.drop b⟩ := ⟨_, rfl⟩
      have hle := szL_le THeader.sz ys (ys.length - 1)
      have hXz : X.sz ≤ 1048576 := by
        rw [hX]
        show szHeaderS (.mk t (ys.take (ys.length - 1))) + (s.drop b).length ≤ _
        unfold szHeaderS
        simp only [SL.list_mk, List.length_take, List.length_drop]
        omega
      have hXo : X.ok := by
        have h9 : X.sz = szHeaderS X.Headers + X.Body.length := rfl
        unfold szHeaderS at h9
        refine ⟨⟨by unfold mx; omega, fun x hx => ?_⟩, by unfold mx; omega⟩
        have h3 := szL_mem (sz := THeader.sz) hx
        have h4 : x.sz ≤ 1048576 := by omega
        unfold THeader.sz at h4
        unfold THeader.ok mx
        omega
      have hcr : candS s ys b = { X with Headers := .mk 0 ys.dropLast } := by rw [hX]; unfold candS; rw [← hcode]
      have hdl : ys.dropLast = ys.take (ys.length - 1) := List.dropLast_eq_take
      have hc1 : isResp (candS s ys b) = isResp X := by rw [hcr, hdl, hX]; rfl
      have hc2 : fmtR (candS s ys b) = fmtR X := by rw [hcr, hdl, hX]; rfl
      have hre : resS s = if isResp X = true ∧ fmtR X = s then some (candS s ys b) else Option.none := by
        rw [hres, hrd, Option.bind_some, if_neg hy0, hc1, hc2]
      have hvw : View (⟨false, c, 3, [[.int .i64 0, .nsl, .str []]]⟩ :: ⟨false, c + 1, 3, [[.int .i64 0, .nsl, .str []]]⟩ :: ⟨false, cx, 3, [[.int .i64 code, .ref (P.length + 3) t 2 (ys.length - 1), .str (s.drop b)]]⟩ :: (P ++ ⟨false, t, 2, ys.map THeader.enc⟩ :: B))
          (.agg [.int .i64 code, .ref (P.length + 3) t 2 (ys.length - 1), .str (s.drop b)]) (.agg X.enc) := by
        rw [hX]
        exact viewA (.cons (.refl _) (.cons (view_cut (by simp) (by omega) fun x _ => THeader.cells x) (.cons (.refl _) .nil))) (TResponse.cells _)
      refine call_fn (spec_isR hXo) (.cons hvw .nil) .bool fun _ _ => ?_
      cases hi2 : isResp X
      · have hr : resS s = Option.none := by rw [hre, if_neg (by rw [hi2]; simp)]
        simp [e0, e2, e4, e6, e9, putA]
        exact fin_sub (List.nil_sublist _) (.refl _) (none hr)
      have hrs : ¬ reason X.Code = [] := by
        intro h
        unfold isResp at hi2
        simp [h] at hi2
      simp [e0, e2, e4, e6, e9, putA]
      refine call_fn (spec_fmtR hXo hXz hrs) (.cons hvw .nil) .str fun _ _ => ?_
      by_cases hf2 : fmtR X = s
      rotate_left
      · have hr : resS s = Option.none := by rw [hre, if_neg (by rintro ⟨_, h⟩; exact hf2 h)]
        simp [e0, e2, e4, e6, e9, hf2, putA]
        exact fin_sub (List.nil_sublist _) (.refl _) (none hr)
      rw [hf2]
      simp [e0, e2, e4, e6, e9, putA]
      have hr : resS s = some (candS s ys b) := by rw [hre, if_pos ⟨hi2, hf2⟩]
      have ho : okS s = true := by unfold okS; rw [hr]; rfl
      have hco : X.con = (outS s).con := by
        unfold outS
        rw [hr, Option.getD_some, hcr, hdl, hX]
        rfl
      have hv2 : View [⟨false, t, 2, ys.map THeader.enc⟩] (.agg [.int .i64 code, .ref 0 t 2 (ys.length - 1), .str (s.drop b)]) (.agg X.enc) := by
        rw [hX]
        exact viewA (.cons (.refl _) (.cons (view_cut (by simp) (by omega) fun x _ => THeader.cells x) (.cons (.refl _) .nil))) (TResponse.cells _)
      exact fin_sub (v' := .tup [.agg [.int .i64 code, .ref 0 t 2 (ys.length - 1), .str (s.drop b)], .bool true]) (Hk := [⟨false, t, 2, ys.map THeader.enc⟩]) (by simp) (.tup rfl fun j a a' h1 h2 => by
        match j, h1, h2 with
        | 0, h1, h2 => cases h1; cases h2; exact viewA (.cons (.refl _) (.cons .name (.cons (.refl _) .nil))) (fun a ha => by simp at ha; rcases ha with rfl | rfl | rfl <;> rfl)
        | 1, h1, h2 => cases h1; cases h2; exact .refl _) ⟨X, .tup rfl fun j a a' h1 h2 => by
        match j, h1, h2 with
        | 0, h1, h2 => cases h1; cases h2; exact hv2
        | 1, h1, h2 => cases h1; cases h2; rw [ho]; exact .refl _, hco, .inr ⟨t, _, by rw [hX], by simp [tags]⟩⟩
  rw [if_neg hv, hnb, Int.toNat_natCast] at hrd
  rw [hnb]
  generalize hli : lineV s a = line at hv hab hrd
  simp [e0, e2, e4, e6, e9, hv]
  have hll : line.length ≤ 1048576 := by omega
  refine loop_drop line.length (fun k e' H' c'' => e' 0 = .str s ∧ e' 2 = .ptr 0 c 3 0 0 ∧ e' 4 = .ptr 1 (c + 1) 3 0 0 ∧ e' 5 = .str line ∧ e' 6 = .int .i64 b ∧ e' 9 = .ptr 2 cx 3 0 0 ∧ e' 10 = .int .i64 k ∧ (∀ j, j < k → line[j]? ≠ some 58) ∧
    H' = ⟨false, c, 3, [[.int .i64 0, .nsl, .str []]]⟩ :: ⟨false, c + 1, 3, [[.int .i64 0, .nsl, .str []]]⟩ :: ⟨false, cx, 3, [[.int .i64 code, v, .str []]]⟩ :: T)
    ⟨by simp [upd, e0], by simp [upd, e2], by simp [upd, e4], by simp [upd], by simp [upd], by simp [upd, e9], by simp [upd], fun j hj => by omega, rfl⟩ ?_
  intro k e' H' c'' hk ⟨f0, f2, f4, f5, f6, f9, f10, hno, hH'⟩ N' hN'
  subst hH'
  by_cases hlt : k < line.length
  · have hx : line[k]? = some line[k] := List.getElem?_eq_getElem hlt
    generalize line[k] = x at hx
    have hlt' : (k : Int) < line.length := by omega
    by_cases h58 : x = 58
    rotate_left
    · have hstep : IntKind.i64.wrap ((k : Int) + 1) = ((k + 1 : Nat) : Int) := by rw [wrap64 (by omega) (by omega)]; rfl
      have h58' : ¬ ((x.toNat : Int) = 58) := fun h => h58 (UInt8.toNat_inj.1 (by rw [show (58 : UInt8).toNat = 58 from rfl]; omega))
      simp [f0, f2, f4, f5, f6, f9, f10, hlt, hlt', getW_of hx, h58', hstep]
      exact hN' _ _ _ _ hlt (List.Sublist.refl _) ⟨by simp [upd, f0], by simp [upd, f2], by simp [upd, f4], by simp [upd, f5], by simp [upd, f6], by simp [upd, f9], by simp [upd], fun j hj => by
        rcases Nat.lt_or_ge j k with h | h
        · exact hno j h
        · have : j = k := by omega
          subst this; rw [hx]; intro e; exact h58 (Option.some.inj e), rfl⟩
    subst h58
    have hup : upTo 58 line = k := upTo_eq hk hno (.inr hx)
    have hk2 : IntKind.i64.wrap ((k : Int) + 2) = ((k + 2 : Nat) : Int) := by rw [wrap64 (by omega) (by omega)]; omega
    by_cases hgt : line.length < k + 2
    · have k3 : (line.length : Int) < ((k + 2 : Nat) : Int) := by omega
      rw [hup, if_pos hgt] at hrd
      have hr : resS s = Option.none := by rw [hres, hrd]; rfl
      simp [f0, f2, f4, f5, f6, f9, f10, hk2, k3, hlt, hlt', getW_of hx, putA, -Int.natCast_add]
      exact fin_sub (List.nil_sublist _) (.refl _) (none hr)
    have k3 : ¬ ((line.length : Int) < ((k + 2 : Nat) : Int)) := by omega
    rw [hup, if_neg hgt] at hrd
    have hsz' : szL THeader.sz (ys ++ [hdS line]) + (ys ++ [hdS line]).length ≤ b := by
      have h1 : (hdS line).sz ≤ line.length := by unfold hdS THeader.sz; simp; omega
      rw [szL_app', List.length_append]
      simp only [szL, List.map_cons, List.map_nil, List.sum_cons, List.sum_nil, List.length_cons, List.length_nil] at hsz ⊢
      omega
    have hrd' : rdAll s = (rdS s (s.length + 1 - (i + 1)) b).map (fun p => ((ys ++ [hdS line]) ++ p.1, p.2)) := by
      rw [hrd, show s.length + 1 - (i + 1) = s.length - i by omega, Option.map_map]
      congr 1
      funext p
      simp
    rcases hlive with ⟨l1, l2⟩ | ⟨P, B, t, l1, l2⟩
    · subst l2
      simp [f0, f2, f4, f5, f6, f9, f10, hk2, k3, hlt, hlt', getW_of hx, putA, -Int.natCast_add]
      refine ⟨hk, by omega, by decide, ?_⟩
      exact hN _ _ _ _ (by omega) (List.Sublist.refl _) ⟨by simp [upd, f0], by simp [upd, f2], by simp [upd, f4], b, cx, _, _, ys ++ [hdS line], by simp [upd, f6], hbl, by omega, hsz', by simp [upd, f9], by rw [l1]; exact LiveK.step0 (y := ⟨line.take k, line.drop (k + 2)⟩) (by unfold hdS; rw [hup]), by simp [hyl], hrd', rfl⟩
    · subst l1; subst l2
      simp [f0, f2, f4, f5, f6, f9, f10, hk2, k3, hlt, hlt', getW_of hx, putA, -Int.natCast_add]
      refine ⟨hk, by omega, by omega, by unfold mx; omega, ?_⟩
      exact hN _ _ _ _ (by omega) (List.Sublist.refl _) ⟨by simp [upd, f0], by simp [upd, f2], by simp [upd, f4], b, cx, _, _, ys ++ [hdS line], by simp [upd, f6], hbl, by omega, hsz', by simp [upd, f9], LiveK.step1 (y := ⟨line.take k, line.drop (k + 2)⟩) rfl (by unfold hdS; rw [hup]), by simp [hyl], hrd', rfl⟩
  · have hlt' : ¬ ((k : Int) < line.length) := by omega
    have hup : upTo 58 line = k := upTo_eq hk hno (.inl (by omega))
    have hk2 : IntKind.i64.wrap ((k : Int) + 2) = ((k + 2 : Nat) : Int) := by rw [wrap64 (by omega) (by omega)]; omega
    by_cases hgt : line.length < k + 2
    · have k3 : (line.length : Int) < ((k + 2 : Nat) : Int) := by omega
      rw [hup, if_pos hgt] at hrd
      have hr : resS s = Option.none := by rw [hres, hrd]; rfl
      simp [f0, f2, f4, f5, f6, f9, f10, hk2, k3, hlt, hlt', putA, -Int.natCast_add]
      exact fin_sub (List.nil_sublist _) (.refl _) (none hr)
    have k3 : ¬ ((line.length : Int) < ((k + 2 : Nat) : Int)) := by omega
    rw [hup, if_neg hgt] at hrd
    have hsz' : szL THeader.sz (ys ++ [hdS line]) + (ys ++ [hdS line]).length ≤ b := by
      have h1 : (hdS line).sz ≤ line.length := by unfold hdS THeader.sz; simp; omega
      rw [szL_app', List.length_append]
      simp only [szL, List.map_cons, List.map_nil, List.sum_cons, List.sum_nil, List.length_cons, List.length_nil] at hsz ⊢
      omega
    have hrd' : rdAll s = (rdS s (s.length + 1 - (i + 1)) b).map (fun p => ((ys ++ [hdS line]) ++ p.1, p.2)) := by
      rw [hrd, show s.length + 1 - (i + 1) = s.length - i by omega, Option.map_map]
      congr 1
      funext p
      simp
    rcases hlive with ⟨l1, l2⟩ | ⟨P, B, t, l1, l2⟩
    · subst l2
      simp [f0, f2, f4, f5, f6, f9, f10, hk2, k3, hlt, hlt', putA, -Int.natCast_add]
      refine ⟨hk, by omega, by decide, ?_⟩
      exact hN _ _ _ _ (by omega) (List.Sublist.refl _) ⟨by simp [upd, f0], by simp [upd, f2], by simp [upd, f4], b, cx, _, _, ys ++ [hdS line], by simp [upd, f6], hbl, by omega, hsz', by simp [upd, f9], by rw [l1]; exact LiveK.step0 (y := ⟨line.take k, line.drop (k + 2)⟩) (by unfold hdS; rw [hup]), by simp [hyl], hrd', rfl⟩
    · subst l1; subst l2
      simp [f0, f2, f4, f5, f6, f9, f10, hk2, k3, hlt, hlt', putA, -Int.natCast_add]
      refine ⟨hk, by omega, by omega, by unfold mx; omega, ?_⟩
      exact hN _ _ _ _ (by omega) (List.Sublist.refl _) ⟨by simp [upd, f0], by simp [upd, f2], by simp [upd, f4], b, cx, _, _, ys ++ [hdS line], by simp [upd, f6], hbl, by omega, hsz', by simp [upd, f9], LiveK.step1 (y := ⟨line.take k, line.drop (k + 2)⟩) rfl (by unfold hdS; rw [hup]), by simp [hyl], hrd', rfl⟩
end A
end Go.Proofs.YtfcimcoanlgldaaDoor

/-
  ParseResponse: the reference and the program accept the same texts, with the same response (plain). No condition.
-/

namespace Go.Proofs.YtfcimcoanlgldaaDoor
namespace A
set_option linter.unusedVariables false
set_option linter.unusedSimpArgs false
set_option maxRecDepth 100000

theorem okI_resp {s : List UInt8} (h : okI s = true) : isResp (candI s) = true ∧ fmtR (candI s) = s := by
  simp only [okI, Bool.and_eq_true, Bool.not_eq_true', decide_eq_true_eq, decide_eq_false_iff_not] at h
  obtain ⟨⟨_, hs⟩, hf⟩ := h
  cases hi : isResp (candI s) with
  | true => rw [hi, if_pos rfl] at hf; exact ⟨rfl, hf⟩
  | false => rw [hi] at hf; exact absurd hf.symm hs
theorem resp_code {x : TResponse} (h : isResp x = true) : ¬ reason x.Code = [] := by
  intro e
  unfold isResp at h
  simp [e] at h
theorem res_fmt {x : TResponse} (h : isResp x = true) : ∃ y, resS (fmtR x) = some y ∧ y.con = x.con := by
  obtain ⟨h1, h2, p, h3, h4⟩ := rdAll_eq h
  obtain ⟨c1, c2⟩ := code_pn (resp_code h)
  have hlen : 12 ≤ (lnA x.Code).length := by simp [lnA, preH, c2]
  have ht : ((lnA x.Code).take 12).drop 9 = Lib.decDigits x.Code.toNat := by
    have e : lnA x.Code = (preH ++ Lib.decDigits x.Code.toNat) ++ ([32] ++ reason x.Code) := by simp [lnA]
    have hl : (preH ++ Lib.decDigits x.Code.toNat).length = 12 := by simp [preH, c2]
    rw [e, ← hl, List.take_left]
    rfl
  have hc : candS (fmtR x) (x.Headers.list ++ [hdS (lnZ x.Body)]) p = ⟨x.Code, .mk 0 x.Headers.list, x.Body⟩ := by
    unfold candS
    rw [h1, ht, c1, h4, List.dropLast_concat]
  have hi : isResp ⟨x.Code, .mk 0 x.Headers.list, x.Body⟩ = true := h
  have hf : fmtR ⟨x.Code, .mk 0 x.Headers.list, x.Body⟩ = fmtR x := rfl
  refine ⟨⟨x.Code, .mk 0 x.Headers.list, x.Body⟩, ?_, rfl⟩
  unfold resS
  have hocc : Lib.occAt (lnA x.Code) preH 0 = true := by
    unfold Lib.occAt
    exact List.isPrefixOf_iff_prefix.2 (List.prefix_append _ _)
  rw [h1, h2, if_pos ⟨by omega, hocc, hlen⟩, h3, Option.bind_some, if_neg (by simp), hc, if_pos ⟨hi, hf⟩]
theorem okI_fmt {x : TResponse} (h : isResp x = true) : okI (fmtR x) = true ∧ (candI (fmtR x)).con = x.con := by
  obtain ⟨k1, k2⟩ := code_ok (resp_code h)
  obtain ⟨r1, r2⟩ := rd_eq h
  have hc : candI (fmtR x) = ⟨x.Code, .mk 0 x.Headers.list, x.Body⟩ := by
    unfold candI
    rw [rdNum_eq h, k1, if_pos rfl, k2, rdHdrs_eq h, r2]
  have hi : isResp ⟨x.Code, .mk 0 x.Headers.list, x.Body⟩ = true := h
  have hf : fmtR ⟨x.Code, .mk 0 x.Headers.list, x.Body⟩ = fmtR x := rfl
  have hn : ¬ fmtR x = [] := by simp [fmtR, fmtA]
  refine ⟨?_, by rw [hc]; rfl⟩
  unfold okI
  rw [hc, hi, if_pos rfl, hf, rdNum_eq h, k1, r1]
  simp [hn, linesR]
theorem res_resp {s : List UInt8} {y : TResponse} (h : resS s = some y) : isResp y = true ∧ fmtR y = s := by
  unfold resS at h
  split at h
  · cases hr : rdAll s with
    | none => rw [hr] at h; cases h
    | some q =>
      rw [hr, Option.bind_some] at h
      split at h
      · cases h
      · split at h
        · rename_i h1; cases h; exact h1
        · cases h
  · cases h
/-- Both answer alike. -/
theorem resp_alike (s : List UInt8) : okI s = okS s ∧ (outI s).con = (outS s).con := by
  cases hi : okI s with
  | true =>
    obtain ⟨h1, h2⟩ := okI_resp hi
    obtain ⟨y, h3, h4⟩ := res_fmt h1
    rw [h2] at h3
    exact ⟨by unfold okS; rw [h3]; rfl, by unfold outI outS; rw [hi, if_pos rfl, h3, Option.getD_some, h4]⟩
  | false =>
    cases hr : resS s with
    | none => exact ⟨by unfold okS; rw [hr]; rfl, by unfold outI outS; rw [hi, hr]; rfl⟩
    | some y =>
      obtain ⟨h1, h2⟩ := res_resp hr
      have := (okI_fmt h1).1
      rw [h2, hi] at this
      cases this
end A
end Go.Proofs.YtfcimcoanlgldaaDoor

/-
  The words that mark strings. No condition.
-/


namespace Go.Proofs.YtfcimcoanlgldaaDoor
namespace A
set_option linter.unusedVariables false
set_option linter.unusedSimpArgs false
set_option maxRecDepth 100000

def mtD : Nat → Nat → List UInt8 → List UInt8
  | 0, _, acc => acc
  | f + 1, k, acc => if k = 0 then acc else mtD f (k / 10) (UInt8.ofNat (48 + k % 10) :: acc)
def mtext (k : Int) : List UInt8 := if k ≤ 0 then [109, 48] else 109 :: mtD 40 k.toNat []
theorem mtD_len : ∀ (f k : Nat) (acc : List UInt8), (mtD f k acc).length ≤ f + acc.length
  | 0, _, _ => by simp [mtD]
  | f + 1, k, acc => by
    unfold mtD
    split
    · omega
    · have := mtD_len f (k / 10) (UInt8.ofNat (48 + k % 10) :: acc)
      rw [List.length_cons] at this; omega
theorem mtext_len (k : Int) : (mtext k).length ≤ 41 := by
  unfold mtext
  split
  · simp
  · have := mtD_len 40 k.toNat []
    simp at this ⊢; omega

theorem mtext_fn {k : Int} (hk : k ≤ 1000000000000000000) : Fnc Tryd.prog 53 [.int .i64 k] (.str (mtext k)) := by
  refine fn_of c53 (by simp [F53]) fun c => ?_
  unfold F53
  simp
  refine ⟨fun h => fin_plain ⟨by simp [mtext, h], rfl⟩, fun h => ?_⟩
  have hm : mtext k = 109 :: mtD 40 k.toNat [] := by simp [mtext]; omega
  refine loop_drop 20 (fun i e H c' => ∃ (n : Nat) (acc : List UInt8), e 0 = .int .i64 n ∧ e 3 = .str acc ∧ acc.length = i ∧ n * 10 ^ i ≤ k.toNat ∧ mtD (40 - i) n acc = mtD 40 k.toNat [] ∧ H = []) ⟨k.toNat, [], by simp; omega, rfl, rfl, by simp, rfl, rfl⟩ ?_
  intro i e H c hi ⟨n, acc, e0, e3, hl, hn, hd, hH⟩ N hN
  subst hH
  simp [e0, e3]
  refine ⟨fun h => ?_, fun h => ?_⟩
  · have hi' : i < 20 := by
      rcases Nat.lt_or_ge i 20 with h1 | h1
      · exact h1
      · have : i = 20 := by omega
        subst this
        omega
    have h10 : ((n : Int)).tmod 10 = ((n % 10 : Nat) : Int) := by rw [Int.tmod_eq_emod_of_nonneg (by omega)]; omega
    have hq : ((n : Int)).tdiv 10 = ((n / 10 : Nat) : Int) := by rw [Int.tdiv_eq_ediv_of_nonneg (by omega)]; omega
    have h48 : (48 : Int) + ((n % 10 : Nat) : Int) = ((48 + n % 10 : Nat) : Int) := by omega
    have hw : IntKind.u8.wrap (IntKind.i64.wrap (48 + ((n % 10 : Nat) : Int))) = ((UInt8.ofNat (48 + n % 10)).toNat : Int) := by rw [h48]; exact wrap_u8 (by omega)
    rw [h10]
    refine toStrW_ref (l := [UInt8.ofNat (48 + n % 10)]) (by rw [hw]; rfl) rfl (by simp [mx]) ?_
    have hm1 : 1 + acc.length ≤ mx := by unfold mx; omega
    have hq' : IntKind.i64.wrap ((n / 10 : Nat) : Int) = ((n / 10 : Nat) : Int) := by
      have : n ≤ k.toNat := Nat.le_trans (Nat.le_mul_of_pos_right n (Nat.pos_of_ne_zero (by simp))) hn
      exact wrap64 (by omega) (by omega)
    simp [e0, e3, hm1, hq, hq', -Int.natCast_ediv]
    refine hN _ _ [] _ hi' (by simp) ⟨n / 10, UInt8.ofNat (48 + n % 10) :: acc, ?_, ?_, by simp [hl], ?_, ?_, rfl⟩
    · simp [upd]
    · simp [upd]
    · refine Nat.le_trans ?_ hn
      rw [Nat.pow_succ, Nat.mul_comm (10 ^ i) 10, ← Nat.mul_assoc]
      exact Nat.mul_le_mul_right _ (Nat.div_mul_le_self n 10)
    · rw [← hd]
      have e40 : 40 - i = (40 - (i + 1)) + 1 := by omega
      rw [e40]
      conv => rhs; unfold mtD
      rw [if_neg (by omega)]
  · have h0 : n = 0 := by omega
    subst h0
    have ha : acc = mtD 40 k.toNat [] := by
      rw [← hd]
      have e40 : 40 - i = (39 - i) + 1 := by omega
      rw [e40]; simp [mtD]
    have hm1 : 1 + acc.length ≤ mx := by unfold mx; omega
    exact ⟨hm1, fin_plain ⟨by rw [hm, ← ha], rfl⟩⟩
end A
end Go.Proofs.YtfcimcoanlgldaaDoor
