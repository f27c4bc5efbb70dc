import Derived.Shelf.Strings.OnBuilder
import Derived.Shelf.LaysM
import Derived.Shelf.Strings.Split
import Derived.Test.YtkcilmkienlnoaaGreatDoorProg
import Derived.Below
import Derived.WalkKit
import Derived.Deep.RegionLaw
import Derived.Lib.Walk
import Derived.Lib.SliceRun
import Derived.Lib.JoinLaws
import Derived.Lib.AppendZeros
import Derived.Lib.AppendZerosOnto
import Derived.Lib.Overlaps
import Derived.Laws.Externs
import Derived.Laws.IdiomCopy
import Derived.Laws.NewBlocks
import Derived.Shelf.RegionOpenPlain
import Derived.Test.YtkcilmkienlnoaaGreatDoorB10

/-
  Library contracts at this program, laid by the kit's tool (lay-shelf, lay-plain). No condition.
-/




namespace Go.Proofs
open Go.Shelf
def Tryz.lays156_ren : Go.Shelf.Ren := ⟨fun | 156 => 107 | 165 => 120 | 166 => 121 | 169 => 122 | 240 => 134 | 241 => 135 | 276 => 141 | 277 => 142 | n => n, fun | 31 => 147 | 9 => 9 | 3 => 3 | 4 => 4 | 0 => 0 | 20 => 20 | 72 => 170 | 76 => 174 | 70 => 168 | 37 => 161 | 75 => 173 | 127 => 187 | 164 => 192 | 5 => 5 | 80 => 176 | n => n, fun | n => n⟩
theorem Tryz.lays156 : Go.Proofs.Lays.n156 Tryz.prog Tryz.lays156_ren := {
  mixed := by kernel_rfl
  f156 := Tryz.func107.trans (congrArg some (by kernel_rfl))
  f165 := Tryz.func120.trans (congrArg some (by kernel_rfl))
  f166 := Tryz.func121.trans (congrArg some (by kernel_rfl))
  f169 := Tryz.func122.trans (congrArg some (by kernel_rfl))
  f240 := Tryz.func134.trans (congrArg some (by kernel_rfl))
  f241 := Tryz.func135.trans (congrArg some (by kernel_rfl))
  f276 := Tryz.func141.trans (congrArg some (by kernel_rfl))
  f277 := Tryz.func142.trans (congrArg some (by kernel_rfl))
  t0 := Tryz.underlying0
  a0 := Tryz.isAgg0
  z0 := Tryz.sizeOf0
  v0 := Tryz.zeroValue0
  t3 := Tryz.underlying3
  a3 := Tryz.isAgg3
  z3 := Tryz.sizeOf3
  v3 := Tryz.zeroValue3
  t4 := Tryz.underlying4
  a4 := Tryz.isAgg4
  z4 := Tryz.sizeOf4
  v4 := Tryz.zeroValue4
  t9 := Tryz.underlying9
  a9 := Tryz.isAgg9
  z9 := Tryz.sizeOf9
  v9 := Tryz.zeroValue9
  t20 := Tryz.underlying20
  a20 := Tryz.isAgg20
  z20 := Tryz.sizeOf20
  v20 := Tryz.zeroValue20
  t31 := Tryz.underlying147
  a31 := Tryz.isAgg147
  z31 := Tryz.sizeOf147
  v31 := Tryz.zeroValue147
  t37 := Tryz.underlying161
  a37 := Tryz.isAgg161
  z37 := Tryz.sizeOf161
  v37 := Tryz.zeroValue161
  t70 := Tryz.underlying168
  a70 := Tryz.isAgg168
  z70 := Tryz.sizeOf168
  v70 := Tryz.zeroValue168
  t72 := Tryz.underlying170
  a72 := Tryz.isAgg170
  z72 := Tryz.sizeOf170
  v72 := Tryz.zeroValue170
  t75 := Tryz.underlying173
  a75 := Tryz.isAgg173
  z75 := Tryz.sizeOf173
  v75 := Tryz.zeroValue173
  t76 := Tryz.underlying174
  a76 := Tryz.isAgg174
  z76 := Tryz.sizeOf174
  v76 := Tryz.zeroValue174
  t127 := Tryz.underlying187
  a127 := Tryz.isAgg187
  z127 := Tryz.sizeOf187
  v127 := Tryz.zeroValue187
  t164 := Tryz.underlying192
  a164 := Tryz.isAgg192
  z164 := Tryz.sizeOf192
  v164 := Tryz.zeroValue192 }
theorem Tryz.Builder_Extra_156 : Builder.Extra Tryz.prog Tryz.lays156_ren := {
  sizeBuilder := by kernel_rfl
  liesBuilder := by kernel_rfl
  t5 := Tryz.underlying5
  a5 := Tryz.isAgg5
  z5 := Tryz.sizeOf5
  v5 := Tryz.zeroValue5
  infoByte := by kernel_rfl
  cellsByte := by kernel_rfl
  sizeByte := by kernel_rfl
  neB5 := by decide }
open Go.RowKit in
theorem Tryz.strings_Join_none (a : Option Addr) (c : Nat) (sep : ByteArray) (w : World) :
    Calls Tryz.prog 107 #[.slice a 0 c, .string sep] w fun e w' => e = .returned (.string ⟨#[]⟩) ∧ w' = w := Any.strings_Join_none Tryz.lays156 Tryz.Builder_Extra_156 a c sep w
open Go.RowKit in
theorem Tryz.strings_Join (bk o c : Nat) (xs : List ByteArray) (sep : ByteArray) (w : World) (hcells : ∀ (j : Nat) x, xs[j]? = some x → w.cell? ⟨bk, o + j, none⟩ = some (.string x)) (hbk : bk < w.heap.size) (hN : xs.length ≤ 140737488355328) (hcap : xs.length ≤ c) (hlen : (Lib.join (xs.map (·.data.toList)) sep.data.toList).length ≤ 140737488355328) :
    Calls Tryz.prog 107 #[.slice (some ⟨bk, o, none⟩) xs.length c, .string sep] w fun e w' => e = .returned (.string ⟨(Lib.join (xs.map (·.data.toList)) sep.data.toList).toArray⟩) ∧ Below w.heap.size w w' := Any.strings_Join Tryz.lays156 Tryz.Builder_Extra_156 bk o c xs sep w hcells hbk hN hcap hlen
def Tryz.lays146_ren : Go.Shelf.Ren := ⟨fun | 146 => 118 | 221 => 131 | 268 => 138 | 138 => 139 | 143 => 140 | 195 => 143 | 197 => 144 | 218 => 145 | 219 => 146 | 260 => 147 | 217 => 148 | 225 => 149 | 224 => 150 | 267 => 151 | 266 => 152 | 314 => 153 | n => n, fun | 9 => 9 | 31 => 147 | 3 => 3 | 4 => 4 | 0 => 0 | 105 => 196 | 21 => 21 | 5 => 5 | 46 => 200 | 119 => 201 | 139 => 204 | 138 => 203 | 146 => 206 | 51 => 205 | n => n, fun | 1 => 0 | 3 => 1 | 4 => 2 | n => n⟩
theorem Tryz.lays146 : Go.Proofs.Lays.n146 Tryz.prog Tryz.lays146_ren := {
  mixed := by kernel_rfl
  f138 := Tryz.func139.trans (congrArg some (by kernel_rfl))
  f143 := Tryz.func140.trans (congrArg some (by kernel_rfl))
  f146 := Tryz.func118.trans (congrArg some (by kernel_rfl))
  f195 := Tryz.func143.trans (congrArg some (by kernel_rfl))
  f197 := Tryz.func144.trans (congrArg some (by kernel_rfl))
  f217 := Tryz.func148.trans (congrArg some (by kernel_rfl))
  f218 := Tryz.func145.trans (congrArg some (by kernel_rfl))
  f219 := Tryz.func146.trans (congrArg some (by kernel_rfl))
  f221 := Tryz.func131.trans (congrArg some (by kernel_rfl))
  f224 := Tryz.func150.trans (congrArg some (by kernel_rfl))
  f225 := Tryz.func149.trans (congrArg some (by kernel_rfl))
  f260 := Tryz.func147.trans (congrArg some (by kernel_rfl))
  f266 := Tryz.func152.trans (congrArg some (by kernel_rfl))
  f267 := Tryz.func151.trans (congrArg some (by kernel_rfl))
  f268 := Tryz.func138.trans (congrArg some (by kernel_rfl))
  f314 := Tryz.func153.trans (congrArg some (by kernel_rfl))
  t0 := Tryz.underlying0
  a0 := Tryz.isAgg0
  z0 := Tryz.sizeOf0
  v0 := Tryz.zeroValue0
  t3 := Tryz.underlying3
  a3 := Tryz.isAgg3
  z3 := Tryz.sizeOf3
  v3 := Tryz.zeroValue3
  t4 := Tryz.underlying4
  a4 := Tryz.isAgg4
  z4 := Tryz.sizeOf4
  v4 := Tryz.zeroValue4
  t5 := Tryz.underlying5
  a5 := Tryz.isAgg5
  z5 := Tryz.sizeOf5
  v5 := Tryz.zeroValue5
  t9 := Tryz.underlying9
  a9 := Tryz.isAgg9
  z9 := Tryz.sizeOf9
  v9 := Tryz.zeroValue9
  t21 := Tryz.underlying21
  a21 := Tryz.isAgg21
  z21 := Tryz.sizeOf21
  v21 := Tryz.zeroValue21
  t31 := Tryz.underlying147
  a31 := Tryz.isAgg147
  z31 := Tryz.sizeOf147
  v31 := Tryz.zeroValue147
  t46 := Tryz.underlying200
  a46 := Tryz.isAgg200
  z46 := Tryz.sizeOf200
  v46 := Tryz.zeroValue200
  t51 := Tryz.underlying205
  a51 := Tryz.isAgg205
  z51 := Tryz.sizeOf205
  v51 := Tryz.zeroValue205
  t105 := Tryz.underlying196
  a105 := Tryz.isAgg196
  z105 := Tryz.sizeOf196
  v105 := Tryz.zeroValue196
  t119 := Tryz.underlying201
  a119 := Tryz.isAgg201
  z119 := Tryz.sizeOf201
  t138 := Tryz.underlying203
  a138 := Tryz.isAgg203
  z138 := Tryz.sizeOf203
  v138 := Tryz.zeroValue203
  t139 := Tryz.underlying204
  a139 := Tryz.isAgg204
  z139 := Tryz.sizeOf204
  v139 := Tryz.zeroValue204
  t146 := Tryz.underlying206
  a146 := Tryz.isAgg206
  z146 := Tryz.sizeOf206
  v146 := Tryz.zeroValue206
  g1 := by kernel_rfl
  g3 := by kernel_rfl
  g4 := by kernel_rfl }
open Go.RowKit Go.Lib in
theorem Tryz.strings_Split (s sep : ByteArray) (m : Int) (w : World) (hs : s.size < 4294967281) (hm : w.cell? ⟨0, 0, none⟩ = some (.int .i64 m)) (h1 : 1 ≤ sep.size) :
    Calls Tryz.prog 118 #[.string s, .string sep] w fun e w' =>
      e = .returned (.slice (some ⟨w.heap.size, 0, none⟩) (Lib.countB s sep + 1) (Lib.countB s sep + 1)) ∧ w' = w.alloc (.cells ((Lib.splitB sep 0 (Lib.countB s sep) s).map Value.string).toArray 9) := Any.strings_Split Tryz.lays146 (by kernel_rfl) s sep m w hs hm h1
def Tryz.laysM146_ren : Go.Shelf.Ren := ⟨fun | 146 => 118 | 221 => 131 | 268 => 138 | 138 => 139 | 143 => 140 | 195 => 143 | 197 => 144 | 218 => 145 | 219 => 146 | 260 => 147 | 217 => 148 | 225 => 149 | 224 => 150 | 267 => 151 | 266 => 152 | 314 => 153 | n => n, fun | 9 => 9 | 31 => 147 | 3 => 3 | 4 => 4 | 0 => 0 | 105 => 196 | 21 => 21 | 5 => 5 | 46 => 200 | 119 => 201 | 139 => 204 | 138 => 203 | 146 => 206 | 51 => 205 | n => n, fun | 1 => 0 | 3 => 1 | 4 => 2 | n => n⟩
theorem Tryz.laysM146 : Go.Proofs.LaysM.n146 Tryz.prog Tryz.laysM146_ren := {
  mixed := by kernel_rfl
  f138 := Tryz.func139.trans (congrArg some (by kernel_rfl))
  f143 := Tryz.func140.trans (congrArg some (by kernel_rfl))
  f146 := Tryz.func118.trans (congrArg some (by kernel_rfl))
  f195 := Tryz.func143.trans (congrArg some (by kernel_rfl))
  f197 := Tryz.func144.trans (congrArg some (by kernel_rfl))
  f217 := Tryz.func148.trans (congrArg some (by kernel_rfl))
  f218 := Tryz.func145.trans (congrArg some (by kernel_rfl))
  f219 := Tryz.func146.trans (congrArg some (by kernel_rfl))
  f221 := Tryz.func131.trans (congrArg some (by kernel_rfl))
  f224 := Tryz.func150.trans (congrArg some (by kernel_rfl))
  f225 := Tryz.func149.trans (congrArg some (by kernel_rfl))
  f260 := Tryz.func147.trans (congrArg some (by kernel_rfl))
  f266 := Tryz.func152.trans (congrArg some (by kernel_rfl))
  f267 := Tryz.func151.trans (congrArg some (by kernel_rfl))
  f268 := Tryz.func138.trans (congrArg some (by kernel_rfl))
  f314 := Tryz.func153.trans (congrArg some (by kernel_rfl))
  t0 := Tryz.underlying0
  a0 := Tryz.isAgg0
  z0 := Tryz.sizeOf0
  v0 := Tryz.zeroValue0
  t3 := Tryz.underlying3
  a3 := Tryz.isAgg3
  z3 := Tryz.sizeOf3
  v3 := Tryz.zeroValue3
  t4 := Tryz.underlying4
  a4 := Tryz.isAgg4
  z4 := Tryz.sizeOf4
  v4 := Tryz.zeroValue4
  t5 := Tryz.underlying5
  a5 := Tryz.isAgg5
  z5 := Tryz.sizeOf5
  v5 := Tryz.zeroValue5
  t9 := Tryz.underlying9
  a9 := Tryz.isAgg9
  z9 := Tryz.sizeOf9
  v9 := Tryz.zeroValue9
  t21 := Tryz.underlying21
  a21 := Tryz.isAgg21
  z21 := Tryz.sizeOf21
  v21 := Tryz.zeroValue21
  t31 := Tryz.underlying147
  a31 := Tryz.isAgg147
  z31 := Tryz.sizeOf147
  v31 := Tryz.zeroValue147
  t46 := Tryz.underlying200
  a46 := Tryz.isAgg200
  z46 := Tryz.sizeOf200
  v46 := Tryz.zeroValue200
  t51 := Tryz.underlying205
  a51 := Tryz.isAgg205
  z51 := Tryz.sizeOf205
  v51 := Tryz.zeroValue205
  t105 := Tryz.underlying196
  a105 := Tryz.isAgg196
  z105 := Tryz.sizeOf196
  v105 := Tryz.zeroValue196
  t119 := Tryz.underlying201
  a119 := Tryz.isAgg201
  z119 := Tryz.sizeOf201
  t138 := Tryz.underlying203
  a138 := Tryz.isAgg203
  z138 := Tryz.sizeOf203
  v138 := Tryz.zeroValue203
  t139 := Tryz.underlying204
  a139 := Tryz.isAgg204
  z139 := Tryz.sizeOf204
  v139 := Tryz.zeroValue204
  t146 := Tryz.underlying206
  a146 := Tryz.isAgg206
  z146 := Tryz.sizeOf206
  v146 := Tryz.zeroValue206
  g1 := by kernel_rfl
  g3 := by kernel_rfl
  g4 := by kernel_rfl
  i0 := by kernel_rfl
  i3 := by kernel_rfl
  i4 := by kernel_rfl
  i5 := by kernel_rfl
  i9 := by kernel_rfl
  i21 := by kernel_rfl
  i31 := by kernel_rfl
  i46 := by kernel_rfl
  i51 := by kernel_rfl
  i105 := by kernel_rfl
  i138 := by kernel_rfl
  i139 := by kernel_rfl
  i146 := by kernel_rfl
  m1 := by kernel_rfl
  s1_3 := fun w h => Go.Proofs.cell_of_shapedOpen_int (zero := #[.int .i64 0]) (t := 3) h (of_decide_eq_true (by kernel_rfl)) (by kernel_rfl) rfl (by kernel_rfl) (by kernel_rfl) Tryz.underlying3
  m3 := by kernel_rfl
  m4 := by kernel_rfl }
end Go.Proofs

/-
  A library contract as0 a contract of the small language. No condition.
-/


namespace Go.Proofs.YtkcilmkienlnoaaGreatDoor
namespace A
set_option linter.unusedVariables false
set_option linter.unusedSimpArgs false
open Go.RowKit

/-- A function that leaves what lay below as0 it was. -/
theorem con_below {P : Program} {f : Nat} {args : List AV} {H : List AObj} {c : Nat} {res : AV} {Q : AV → List AObj → Nat → Prop}
    (h : ∀ (G : Gh) (w : World) (vs : Array Value), G.c = c → Inv G H w.heap → vs.size = args.length → (∀ (j : Nat) (a : AV), args[j]? = some a → Rep G w.heap (vs.getD j undef) a) →
      Calls P f vs w fun e w' => ∃ v, e = .returned v ∧ Below w.heap.size w w' ∧ Rep G w.heap v res) (hq : Q res H c) : Con P f args H c Q := by
  intro G w vs hc I hs hr
  subst hc
  refine (h G w vs rfl I hs hr).mono fun e w' ⟨v, he, hb, hv⟩ => ?_
  have hx : Ext1 G w.heap G w'.heap :=
    ⟨Nat.le_refl _, fun _ _ => rfl, fun _ _ x => x, fun t ht hF => hb.block _ (I.fz t hF).2, fun b c e fr hbb => ⟨c, fr, by
      rw [hb.block b (by
        rcases Nat.lt_or_ge b w.heap.size with h1 | h1
        · exact h1
        · rw [Array.getElem?_eq_none h1] at hbb; cases hbb), hbb], rfl⟩⟩
  refine ⟨v, res, H, G, he, hq, ⟨hx, hb.os, hb.tape, hb.output, hb.size, fun b hbl _ => hb.block b hbl, fun t h1 h2 => absurd h2 (by omega), fun _ _ h => h, fun _ _ h => .inl h⟩, ?_, hv.ext hx⟩
  exact ⟨fun t hF => ⟨(I.fz t hF).1, Nat.lt_of_lt_of_le (I.fz t hF).2 hb.size⟩, fun o ho => (I.obj o ho).ext hx (hb.block _ (I.obj o ho).block), I.nfz, I.nodup, I.inj, I.gl.ext hx⟩

end A
end Go.Proofs.YtkcilmkienlnoaaGreatDoor

/-
  Library functions on strings as0 functions of the small language. No condition.
-/



namespace Go.Proofs.YtkcilmkienlnoaaGreatDoor
namespace A
set_option linter.unusedVariables false
set_option linter.unusedSimpArgs false
set_option maxRecDepth 100000
open Go.RowKit

theorem max_cell {G : Gh} {H : List AObj} {w : World} (I : Inv G H w.heap) : ∃ m, w.cell? ⟨0, 0, none⟩ = some (.int .i64 m) := by
  obtain ⟨_, _, hm, hg⟩ := I.gl 0 (by decide)
  obtain ⟨c, t, fr, m, ho, hc⟩ := gl_max hg
  exact ⟨m, by unfold World.cell?; simp only [ho]; exact hc⟩
theorem below_drew {w : World} : ∀ n, Below w.heap.size w (w.drewN n)
  | 0 => Below.refl _ _
  | n + 1 => by
    have := below_drew (w := w) n
    unfold World.drewN
    exact ⟨this.os, this.tape, this.output, this.size, this.block⟩
theorem split_con {l sep : List UInt8} (hl : l.length < 4294967281) (hs : sep ≠ []) (c : Nat) :
    Con Tryz.prog 118 [.str l, .str sep] [] c fun r O _ => r = .ref 0 c 1 (Lib.split l sep).length ∧ O = [⟨false, c, 1, (Lib.split l sep).map encS⟩] := by
  intro G w vs hc I hsz hr
  subst hc
  obtain ⟨v0, v1, rfl⟩ : ∃ v0 v1, vs = #[v0, v1] := by
    match vs, hsz with
    | ⟨[a, b]⟩, _ => exact ⟨a, b, rfl⟩
  have h0 := hr 0 _ rfl
  have h1 := hr 1 _ rfl
  simp at h0 h1
  obtain ⟨m, hm⟩ := max_cell I
  cases h0 with
  | @str s _ e hl0 =>
  cases h1 with
  | @str t _ e1 hl1 =>
  have hsl : s.size = l.length := by rw [Lib.size_eq, e]
  have hsz : s.size < 4294967281 := by omega
  have hts : 1 ≤ t.size := by
    rw [Lib.size_eq, e1]
    exact Nat.one_le_iff_ne_zero.2 fun h => hs (List.length_eq_zero_iff.1 h)
  have key := Tryz.strings_Split s t m w hsz hm hts
  have hdat : (Lib.splitB t 0 (Lib.countB s t) s).map (·.data.toList) = Lib.split l sep := by
    rw [Lib.splitB_data, e, e1]
    show _ = Lib.splitK sep 0 (Lib.count l sep) l
    unfold Lib.countB
    rw [e, e1]
  have hlen : (Lib.splitB t 0 (Lib.countB s t) s).length = Lib.countB s t + 1 := Lib.splitB_all t hts 0 _ s rfl
  have hlen2 : (Lib.split l sep).length = Lib.countB s t + 1 := by rw [← hlen, ← hdat, List.length_map]
  have hcle : Lib.countB s t + 1 ≤ s.size + 2 := by
    have := Lib.count_le s.data.toList t.data.toList
    rw [← Lib.size_eq] at this
    show Lib.count _ _ + 1 ≤ _
    omega
  generalize hps : Lib.splitB t 0 (Lib.countB s t) s = ps at key hdat hlen
  have hsmall : ∀ x, x ∈ Lib.split l sep → x.length ≤ mx := by
    have : ∀ (k : Nat) (l : List UInt8), ∀ x, x ∈ Lib.splitK sep 0 k l → x.length ≤ l.length := by
      intro k
      induction k with
      | zero => intro l x hx; simp [Lib.splitK] at hx; rw [hx]; exact Nat.le_refl _
      | succ k ih =>
        intro l x hx
        unfold Lib.splitK at hx
        split at hx
        · simp at hx; rw [hx]; exact Nat.le_refl _
        · rcases List.mem_cons.1 hx with rfl | hx
          · simp; omega
          · have := ih _ x hx; simp at this; omega
    intro x hx
    have := this _ _ x hx
    unfold mx; omega
  have hget : ∀ (r : Nat) (x : List UInt8), (Lib.split l sep)[r]? = some x → ∃ y : ByteArray, ps[r]? = some y ∧ y.data.toList = x := fun r x h => by
    rw [← hdat, List.getElem?_map, Option.map_eq_some_iff] at h
    exact h
  obtain ⟨x, I'⟩ := newObj_good I (cs := (ps.map Value.string).toArray) (e := 9) (wd := 1) (rows := (Lib.split l sep).map encS) (by simp [hlen, hlen2]) (by simp; unfold mx; omega)
    (fun r row h => by
      rw [List.getElem?_map, Option.map_eq_some_iff] at h
      obtain ⟨y, _, rfl⟩ := h; rfl)
    (fun r j row a h ha => by
      rw [List.getElem?_map, Option.map_eq_some_iff] at h
      obtain ⟨y, hy, rfl⟩ := h
      obtain ⟨z, hz, e2⟩ := hget r y hy
      match j, ha with
      | 0, ha =>
        simp [encS] at ha
        subst ha
        refine ⟨.string z, by simp [hz], rfl, .str e2 (hsmall _ (List.mem_of_getElem? hy))⟩)
    (0, 0) (fun _ _ h => by omega)
  refine key.mono fun e w' ⟨he, hw⟩ => ?_
  subst hw
  refine ⟨_, .ref 0 G.c 1 (Lib.split l sep).length, _, _, he, ⟨rfl, rfl⟩, x, I', ?_⟩
  have hm' : (G.new w.heap.size).m G.c = w.heap.size := by simp [Gh.new]
  have hb : (w.alloc (.cells (ps.map Value.string).toArray 9)).heap[(G.new w.heap.size).m G.c]? = some (.cells (ps.map Value.string).toArray 9 (0, 0)) := by rw [hm']; show (w.heap.push _)[w.heap.size]? = _; simp
  have hR := Rep.ref (G := G.new w.heap.size) (i := 0) (tag := G.c) (w := 1) (len := Lib.countB s t + 1) (cap := Lib.countB s t + 1) (by simp [Gh.new]) hb (by simp; omega) (Nat.le_refl _) (by unfold mx; omega)
  rw [hm'] at hR
  rw [hlen2]; exact hR
theorem encS_flat : Flat encS := fun x a ha => by
  simp [encS] at ha
  subst ha; exact ⟨rfl, free_str _⟩
theorem split_tr {l sep : List UInt8} (hl : l.length < 4294967281) (hs : sep ≠ []) :
    Tr Tryz.prog 118 [.str l, .str sep] fun _ r => ∃ b : SL (List UInt8), r = b.av 1 encS ∧ b.list = Lib.split l sep :=
  flat_tr encS_flat fun c => (split_con hl hs c).mono fun r O c' _ ⟨h1, h2⟩ => ⟨.mk c (Lib.split l sep), h1, by rw [h2, flat_wood], rfl⟩
theorem splitK_len (sep : List UInt8) : ∀ (k : Nat) (l : List UInt8), (Lib.splitK sep 0 k l).length ≤ k + 1 ∧ ∀ x, x ∈ Lib.splitK sep 0 k l → x.length ≤ l.length := by
  intro k
  induction k with
  | zero => intro l; refine ⟨by simp [Lib.splitK], fun x hx => ?_⟩; simp [Lib.splitK] at hx; rw [hx]; exact Nat.le_refl _
  | succ k ih =>
    intro l
    unfold Lib.splitK
    split
    · exact ⟨by simp, fun x hx => by simp at hx; rw [hx]; exact Nat.le_refl _⟩
    · refine ⟨by have := (ih (l.drop ((Lib.index l sep).toNat + sep.length))).1; simp; omega, fun x hx => ?_⟩
      rcases List.mem_cons.1 hx with rfl | hx
      · simp; omega
      · have := (ih _).2 x hx; simp at this; omega
theorem split_len (l sep : List UInt8) : (Lib.split l sep).length ≤ l.length + 2 := by
  have h1 := (splitK_len sep (Lib.count l sep) l).1
  have h2 := Lib.count_le l sep
  unfold Lib.split; omega
theorem split_mem {l sep x : List UInt8} (hx : x ∈ Lib.split l sep) : x.length ≤ l.length := (splitK_len sep _ l).2 x hx
end A
end Go.Proofs.YtkcilmkienlnoaaGreatDoor

/-
  strings.Join as0 a function of the small language. No condition.
-/



namespace Go.Proofs.YtkcilmkienlnoaaGreatDoor
namespace A
set_option linter.unusedVariables false
set_option linter.unusedSimpArgs false
open Go.RowKit

def joinL (sep : List UInt8) (l : List (List UInt8)) : List UInt8 := Lib.join l sep
theorem joinL_nil (sep : List UInt8) : joinL sep [] = [] := rfl
theorem joinL_snoc (sep x : List UInt8) (l : List (List UInt8)) : joinL sep (l ++ [x]) = (if 0 < l.length then joinL sep l ++ sep else []) ++ x := by
  cases l with
  | nil => simp [joinL, Lib.join_one]
  | cons a l => simp [joinL, Lib.join_cons, Lib.joinTail]
theorem joinL_len {sep : List UInt8} (hs : sep.length ≤ 2) (l : List (List UInt8)) : (joinL sep l).length ≤ szL (fun x => x.length + 2) l := by
  cases l with
  | nil => simp [joinL_nil, szL]
  | cons a l =>
    have : (Lib.joinTail sep l).length ≤ szL (fun x => x.length + 2) l := by
      induction l with
      | nil => simp [Lib.joinTail, szL]
      | cons b l ih => simp [Lib.joinTail, szL] at ih ⊢; omega
    simp [joinL, Lib.join_cons, szL] at this ⊢; omega
theorem join_fn {t : Nat} {l : List (List UInt8)} {sep : List UInt8} (hl : (joinL sep l).length ≤ 140737488355328) (hn : l.length ≤ 140737488355328) :
    Fnc Tryz.prog 107 [.slc t 1 (l.map encS), .str sep] (.str (joinL sep l)) := by
  intro c
  refine con_below (res := .str (joinL sep l)) (fun G w vs hc I hs hr => ?_) ⟨rfl, rfl⟩
  obtain ⟨v0, v1, rfl⟩ : ∃ v0 v1, vs = #[v0, v1] := by
    match vs, hs with
    | ⟨[a, b]⟩, _ => exact ⟨a, b, rfl⟩
  have h0 := hr 0 _ rfl
  have h1 := hr 1 _ rfl
  simp at h0 h1
  have hres : Rep G w.heap (.string ⟨(joinL sep l).toArray⟩) (.str (joinL sep l)) := .str (by simp) (by unfold mx; omega)
  cases h1 with
  | @str s _ e hl1 =>
  generalize hrows : l.map encS = rows at h0
  cases h0 with
  | slc0 =>
    have : l = [] := by simpa using hrows
    subst this
    exact (Tryz.strings_Join_none _ _ _ _).mono fun e w' ⟨h1, h2⟩ => ⟨_, h1, h2 ▸ Below.refl _ _, hres⟩
  | @slc _ _ off cap _ f hF hc' hlen hcap hw hcell hcl hrep =>
    subst hrows
    have hx : ∀ (j : Nat) (x : List UInt8), l[j]? = some x → ∃ s : ByteArray, f j 0 = .string s ∧ s.data.toList = x := fun j x hj => by
      have h2 := hrep j 0 (encS x) (.str x) (by simp [hj]) rfl
      cases hf : f j 0 <;> rw [hf] at h2 <;> cases h2
      exact ⟨_, rfl, by assumption⟩
    have hcells : ∀ (j : Nat) (x : ByteArray), (l.map fun x => (⟨x.toArray⟩ : ByteArray))[j]? = some x → w.cell? ⟨G.m t, _ + j, none⟩ = some (.string x) := fun j x hj => by
      rw [List.getElem?_map, Option.map_eq_some_iff] at hj
      obtain ⟨y, hy, rfl⟩ := hj
      obtain ⟨s', hs', e'⟩ := hx j y hy
      have hc2 := hcell j 0 (encS y) (.str y) (by simp [hy]) rfl
      rw [cell?_eq]
      simp only [Nat.mul_one, Nat.add_zero] at hc2
      rw [hc2, hs']
      subst e'
      simp
    have key := Tryz.strings_Join _ _ _ _ s w hcells (I.fz t hF).2 (by simp; omega) (by simpa using hcap) (by simp [Function.comp_def, e]; exact hl)
    have key2 : Calls Tryz.prog 107 #[.slice (some ⟨G.m t, off, none⟩) (l.map encS).length cap, .string s] w fun e w' => e = .returned (.string ⟨(joinL sep l).toArray⟩) ∧ Below w.heap.size w w' := by
      simpa [Function.comp_def, e, joinL] using key
    exact key2.mono fun e w' ⟨h1, h2⟩ => ⟨_, h1, h2, hres⟩
theorem join_nil_fn (sep : List UInt8) : Fnc Tryz.prog 107 [.nsl, .str sep] (.str (joinL sep [])) := by
  intro c
  refine con_below (res := .str (joinL sep [])) (fun G w vs hc I hs hr => ?_) ⟨rfl, rfl⟩
  obtain ⟨v0, v1, rfl⟩ : ∃ v0 v1, vs = #[v0, v1] := by
    match vs, hs with
    | ⟨[a, b]⟩, _ => exact ⟨a, b, rfl⟩
  have h0 := hr 0 _ rfl
  have h1 := hr 1 _ rfl
  simp at h0 h1
  have hres : Rep G w.heap (.string ⟨(joinL sep []).toArray⟩) (.str (joinL sep [])) := .str (by simp) (by simp [joinL_nil])
  cases h0
  cases h1 with
  | @str s _ e hl1 =>
  exact (Tryz.strings_Join_none _ _ _ _).mono fun e w' ⟨h1, h2⟩ => ⟨_, h1, h2 ▸ Below.refl _ _, hres⟩
end A
end Go.Proofs.YtkcilmkienlnoaaGreatDoor

/-
  Paths, brought into their plain form by the reference and by the program: the same plain function. No condition.
-/




namespace Go.Proofs.YtkcilmkienlnoaaGreatDoor
namespace A
set_option linter.unusedVariables false
set_option linter.unusedSimpArgs false
set_option maxRecDepth 100000

/-! ### the plain function -/
def pC (b : UInt8) : Bool := isA b || isD b || decide (b.toNat = 95) || decide (b.toNat = 45) || decide (b.toNat = 46)
def pPart (l : List UInt8) : Bool := l.all pC && decide (l.length ≤ 20)
def pstep (o : List (List UInt8)) (x : List UInt8) : Option (List (List UInt8)) :=
  if x = [] ∨ x = [46] then some o else if x = [46, 46] then (if o = [] then none else some o.dropLast) else if pPart x then some (o ++ [x]) else none
def pfold : List (List UInt8) → List (List UInt8) → Option (List (List UInt8))
  | o, [] => some o
  | o, x :: r => (pstep o x).bind fun o' => pfold o' r
def splitP (l : List UInt8) : Option (List (List UInt8)) := pfold [] (Lib.split l [47])
def normP (l : List UInt8) : Option (List UInt8) := if 400 < l.length then none else (splitP l).bind fun o => if inR (joinL [47] o).length 1 60 then some (joinL [47] o) else none
def isN (l : List UInt8) : Bool := decide (normP l = some l)
theorem pstep_ok {o o' : List (List UInt8)} {x : List UInt8} (h : pstep o x = some o') (ho : ∀ y, y ∈ o → pPart y = true) : (∀ y, y ∈ o' → pPart y = true) ∧ o'.length ≤ o.length + 1 := by
  unfold pstep at h
  split at h
  · cases h; exact ⟨ho, by omega⟩
  · split at h
    · split at h
      · cases h
      · cases h; exact ⟨fun y hy => ho y ((List.dropLast_sublist o).subset hy), by simp; omega⟩
    · split at h
      · cases h
        refine ⟨fun y hy => ?_, by simp⟩
        rcases List.mem_append.1 hy with hy | hy
        · exact ho y hy
        · simp at hy; subst hy; assumption
      · cases h
theorem pfold_ok : ∀ {r o o' : List (List UInt8)}, pfold o r = some o' → (∀ y, y ∈ o → pPart y = true) → (∀ y, y ∈ o' → pPart y = true) ∧ o'.length ≤ o.length + r.length
  | [], o, o', h, ho => by simp [pfold] at h; subst h; exact ⟨ho, by simp⟩
  | x :: r, o, o', h, ho => by
    simp only [pfold] at h
    cases hp : pstep o x with
    | none => rw [hp] at h; cases h
    | some o1 =>
      rw [hp] at h
      obtain ⟨h1, h2⟩ := pstep_ok hp ho
      obtain ⟨h3, h4⟩ := pfold_ok h h1
      exact ⟨h3, by simp; omega⟩
theorem pPart_len {l : List UInt8} (h : pPart l = true) : l.length ≤ 20 := by
  simp only [pPart, Bool.and_eq_true, decide_eq_true_eq] at h; exact h.2
theorem splitP_ok {l : List UInt8} {o : List (List UInt8)} (h : splitP l = some o) : (∀ y, y ∈ o → pPart y = true) ∧ o.length ≤ l.length + 2 := by
  obtain ⟨h1, h2⟩ := pfold_ok h (by simp)
  have := split_len l [47]
  exact ⟨h1, by simp at h2; omega⟩
theorem szL_mul {α : Type} (f : α → Nat) (k : Nat) : ∀ (l : List α), (∀ x, x ∈ l → f x ≤ k) → szL f l ≤ k * l.length
  | [], _ => by simp [szL]
  | x :: l, h => by
    have := szL_mul f k l fun y hy => h y (List.mem_cons_of_mem _ hy)
    have hx := h x (List.mem_cons_self ..)
    simp [szL, Nat.mul_add] at this ⊢; omega
theorem join_short {l : List UInt8} {o : List (List UInt8)} (h : splitP l = some o) (i : Nat) : (joinL [47] (o.take i)).length ≤ 22 * (l.length + 2) := by
  obtain ⟨h1, h2⟩ := splitP_ok h
  have h3 := joinL_len (sep := [47]) (by simp) (o.take i)
  have h4 := szL_mul (fun x : List UInt8 => x.length + 2) 22 (o.take i) fun x hx => by have := pPart_len (h1 x (List.mem_of_mem_take hx)); omega
  have h5 : (o.take i).length ≤ o.length := by simp; omega
  have h6 : 22 * (o.take i).length ≤ 22 * (l.length + 2) := Nat.mul_le_mul_left _ (by omega)
  omega

/-! ### a part -/
theorem spec_part {l : List UInt8} (hl : l.length ≤ mx) : Fnc Tryz.prog 114 [.str l] (.bool (l.all pC && inR l.length 1 20)) := by
  refine fn_of c114 (by simp [F114]) fun c => ?_
  unfold F114
  simp
  refine loop_drop l.length (fun i e H c' => e 0 = .str l ∧ e 3 = .int .i64 i ∧ (l.take i).all pC = true ∧ H = []) ⟨rfl, rfl, by simp, rfl⟩ ?_
  intro i e H c hi ⟨e0, e3, ha, hH⟩ N hN
  subst hH
  by_cases h : i < l.length
  · have hb : l[i]? = some l[i] := List.getElem?_eq_getElem h
    have bad : pC l[i] = false → (l.all pC && inR l.length 1 20) = false := fun hb => by
      have : l.all pC = false := by rw [List.all_eq_false]; exact ⟨_, List.getElem_mem h, by simp [hb]⟩
      rw [this]; rfl
    have good : pC l[i] = true → (l.take (i + 1)).all pC = true := fun hx => all_step ha h hx
    have hstep : IntKind.i64.wrap ((i : Int) + 1) = ((i + 1 : Nat) : Int) := by rw [step64 hl h]; rfl
    generalize l[i] = b at hb bad good
    have hLA := isL_A b
    have hpc : pC b = (isL b || isD b || decide (b.toNat = 45) || decide (b.toNat = 46)) := by
      rw [hLA]; unfold pC; cases isA b <;> cases isD b <;> cases decide (b.toNat = 95) <;> rfl
    simp [e0, e3, h, getW_of hb]
    refine call_fn0 (letter_fn b) .bool fun _ _ => ?_
    cases hL : isL b
    · simp [e0, e3, h, getW_of hb]
      refine call_fn0 (digit_fn b) .bool fun _ _ => ?_
      cases hD : isD b
      · by_cases h45 : b.toNat = 45
        · have k45 : (b.toNat : Int) = 45 := by omega
          simp [e0, e3, h, getW_of hb, k45, hstep]
          exact hN _ _ _ _ h (List.Sublist.refl _) ⟨by simp [upd, e0], by simp [upd], good (by simp [hpc, h45]), rfl⟩
        · have k45 : ¬ (b.toNat : Int) = 45 := by omega
          by_cases h46 : b.toNat = 46
          · have k46 : (b.toNat : Int) = 46 := by omega
            simp [e0, e3, h, getW_of hb, k45, k46, hstep]
            exact hN _ _ _ _ h (List.Sublist.refl _) ⟨by simp [upd, e0], by simp [upd], good (by simp [hpc, h46]), rfl⟩
          · have k46 : ¬ (b.toNat : Int) = 46 := by omega
            simp [e0, e3, h, getW_of hb, k45, k46, hstep]
            exact fin_plain ⟨by rw [bad (by simp [hpc, hL, hD, h45, h46])], rfl⟩
      · simp [e0, e3, h, getW_of hb, hstep]
        exact hN _ _ _ _ h (List.Sublist.refl _) ⟨by simp [upd, e0], by simp [upd], good (by simp [hpc, hD]), rfl⟩
    · simp [e0, e3, h, getW_of hb, hstep]
      exact hN _ _ _ _ h (List.Sublist.refl _) ⟨by simp [upd, e0], by simp [upd], good (by simp [hpc, hL]), rfl⟩
  · have h1 : i = l.length := by omega
    subst h1
    rw [List.take_length] at ha
    simp [e0, e3]
    refine call_fn0 (l1In_fn _ _ _) .bool fun _ _ => ?_
    simp
    exact fin_plain ⟨by simp [ha], rfl⟩
theorem impl_part {l : List UInt8} (hl : l.length ≤ mx) : Fnc Tryz.prog 119 [.str l] (.bool (pPart l)) := by
  refine fn_of c119 (by simp [F119]) fun c => ?_
  unfold F119
  simp
  refine loop_drop l.length (fun i e H c' => e 0 = .str l ∧ e 3 = .int .i64 i ∧ (l.take i).all pC = true ∧ H = []) ⟨rfl, rfl, by simp, rfl⟩ ?_
  intro i e H c hi ⟨e0, e3, ha, hH⟩ N hN
  subst hH
  by_cases h : i < l.length
  · have hb : l[i]? = some l[i] := List.getElem?_eq_getElem h
    have bad : pC l[i] = false → pPart l = false := fun hb => by
      have : l.all pC = false := by rw [List.all_eq_false]; exact ⟨_, List.getElem_mem h, by simp [hb]⟩
      unfold pPart; rw [this]; rfl
    have good : pC l[i] = true → (l.take (i + 1)).all pC = true := fun hx => all_step ha h hx
    have hstep : IntKind.i64.wrap ((i : Int) + 1) = ((i + 1 : Nat) : Int) := by rw [step64 hl h]; rfl
    generalize l[i] = b at hb bad good
    simp [e0, e3, h, getW_of hb]
    refine call_fn0 (isLetter_fn b) .bool fun _ _ => ?_
    cases hL : isA b
    · simp [e0, e3, h, getW_of hb]
      refine call_fn0 (isDigit_fn b) .bool fun _ _ => ?_
      cases hD : isD b
      · by_cases h95 : b.toNat = 95
        · have k95 : (b.toNat : Int) = 95 := by omega
          simp [e0, e3, h, getW_of hb, k95, hstep]
          exact hN _ _ _ _ h (List.Sublist.refl _) ⟨by simp [upd, e0], by simp [upd], good (by simp [pC, h95]), rfl⟩
        have k95 : ¬ (b.toNat : Int) = 95 := by omega
        by_cases h45 : b.toNat = 45
        · have k45 : (b.toNat : Int) = 45 := by omega
          simp [e0, e3, h, getW_of hb, k45, k95, hstep]
          exact hN _ _ _ _ h (List.Sublist.refl _) ⟨by simp [upd, e0], by simp [upd], good (by simp [pC, h45]), rfl⟩
        · have k45 : ¬ (b.toNat : Int) = 45 := by omega
          by_cases h46 : b.toNat = 46
          · have k46 : (b.toNat : Int) = 46 := by omega
            simp [e0, e3, h, getW_of hb, k45, k46, k95, hstep]
            exact hN _ _ _ _ h (List.Sublist.refl _) ⟨by simp [upd, e0], by simp [upd], good (by simp [pC, h46]), rfl⟩
          · have k46 : ¬ (b.toNat : Int) = 46 := by omega
            simp [e0, e3, h, getW_of hb, k45, k46, k95, hstep]
            exact fin_plain ⟨by rw [bad (by simp [pC, hL, hD, h45, h46, h95])], rfl⟩
      · simp [e0, e3, h, getW_of hb, hstep]
        exact hN _ _ _ _ h (List.Sublist.refl _) ⟨by simp [upd, e0], by simp [upd], good (by simp [pC, hD]), rfl⟩
    · simp [e0, e3, h, getW_of hb, hstep]
      exact hN _ _ _ _ h (List.Sublist.refl _) ⟨by simp [upd, e0], by simp [upd], good (by simp [pC, hL]), rfl⟩
  · have h1 : i = l.length := by omega
    subst h1
    rw [List.take_length] at ha
    have k : ((l.length : Int) ≤ 20) = (l.length ≤ 20) := by simp only [eq_iff_iff]; omega
    simp [e0, e3]
    exact fin_plain ⟨by simp [pPart, ha, k], rfl⟩

/-! ### the parts -/
def SplQ (l : List UInt8) (r : AV) (O : List AObj) : Prop :=
  (splitP l = none ∧ r = .tup [.nsl, .bool false] ∧ O = []) ∨
  ∃ (t : Nat) (rows : List (List AV)), r = .tup [.ref 0 t 1 ((splitP l).getD []).length, .bool (splitP l).isSome] ∧ O = [⟨false, t, 1, rows⟩] ∧ rows.take ((splitP l).getD []).length = ((splitP l).getD []).map encS
theorem cut_le {rows : List (List AV)} {o : List (List UInt8)} (h : rows.take o.length = o.map encS) : o.length ≤ rows.length := by
  have := congrArg List.length h
  simp at this; omega
theorem cut_view {i t : Nat} {rows : List (List AV)} {o : List (List UInt8)} {S : List AObj} (h : rows.take o.length = o.map encS) (hS : (⟨false, t, 1, rows⟩ : AObj) ∈ S) : View S (.ref i t 1 o.length) ((SL.mk t o).av 1 encS) := by
  have hx : ∀ (r : Nat) (x' : List AV), (o.map encS)[r]? = some x' → rows[r]? = some x' := fun r x' hr => by
    have hlt : r < o.length := by have := (List.getElem?_eq_some_iff.1 hr).1; simpa using this
    rw [← h, List.getElem?_take_of_lt hlt] at hr; exact hr
  refine .ref hS (cut_le h) (by simp) (fun r x x' h1 h2 => ?_) (fun r j x a h1 h2 => ?_) fun r j x x' a a' h1 h2 h3 h4 => ?_
  · rw [hx r x' h2] at h1; cases h1; rfl
  · obtain ⟨y, _, rfl⟩ := List.mem_map.1 (List.mem_of_getElem? h1)
    exact (encS_flat y a (List.mem_of_getElem? h2)).1
  · rw [hx r x' h2] at h1; cases h1; rw [h3] at h4; cases h4; exact .refl _
theorem cut_last {rows : List (List AV)} {o : List (List UInt8)} (h : rows.take o.length = o.map encS) : rows.take o.dropLast.length = o.dropLast.map encS := by
  rw [List.length_dropLast, List.dropLast_eq_take, List.map_take, ← h, List.take_take]
  congr 1; omega
theorem spl_tr {f : Nat} {l : List UInt8} (h : ∀ c, Con Tryz.prog f [.str l] [] c fun r O _ => SplQ l r O) :
    Tr Tryz.prog f [.str l] fun _ r => ∃ b : SL (List UInt8), r = .tup [b.av 1 encS, .bool (splitP l).isSome] ∧ b.list = (splitP l).getD [] :=
  tr_of h fun c r O c' _ hq ht => by
    rcases hq with ⟨h1, h2, h3⟩ | ⟨t, rows, h2, h3, h4⟩
    · exact ⟨.tup [.nsl, .bool false], by rw [h2]; exact .refl _, ⟨.nil, by rw [h1]; rfl, by rw [h1]; rfl⟩, from_tup (by simp)⟩
    · refine ⟨.tup [(SL.mk t ((splitP l).getD [])).av 1 encS, .bool (splitP l).isSome], by rw [h2]; exact view_tup (.cons (cut_view h4 (by rw [h3]; simp)) (Views.refl _ _)), ⟨_, rfl, rfl⟩, from_tup fun a ha => ?_⟩
      rcases List.mem_cons.1 ha with rfl | ha
      · refine flat_from encS_flat fun u hu => ht u ?_
        rw [flat_wood] at hu
        rw [h3]; simpa [tags] using hu
      · simp at ha; subst ha; simp
theorem spec_splitP {l : List UInt8} (hl : l.length ≤ 1048576) (c : Nat) : Con Tryz.prog 97 [.str l] [] c fun r O _ => SplQ l r O := by
  refine con_of c97 (by simp [F97]) ?_
  unfold F97
  simp
  refine loop_drop (l.length + 1) (fun i e H c' => e 0 = .str l ∧ e 6 = .int .i64 i ∧ ∃ (a : Nat) (o : List (List UInt8)) (t : Nat) (rows : List (List AV)), e 5 = .int .i64 a ∧ e 4 = .ref 0 t 1 o.length ∧ H = [⟨false, t, 1, rows⟩] ∧ rows.take o.length = o.map encS ∧ o.length ≤ i ∧
      (i ≤ l.length → a ≤ i ∧ (∀ j, a ≤ j → j < i → Lib.occAt l [47] j = false) ∧ splitP l = pfold o (Lib.split (l.drop a) [47])) ∧ (l.length < i → splitP l = some o)) ?_ ?_
  · exact ⟨rfl, rfl, 0, [], c, [], rfl, rfl, rfl, rfl, by simp, fun _ => ⟨by omega, fun j h1 h2 => by omega, by simp [splitP]⟩, fun h => by omega⟩
  intro i e H c' hi ⟨e0, e6, a, o, t, rows, e5, e4, hH, hrows, hoi, hinv, hend⟩ N hN
  subst hH
  have hcl := cut_le hrows
  have hm1 : (o.length + 1) * 16 ≤ 140737488355328 := by omega
  have hm2 : o.length + 1 ≤ mx := by unfold mx; omega
  by_cases hle : i ≤ l.length
  case neg =>
    have ho := hend (by omega)
    simp [e0, e4, e6, hle]
    exact fin_all (.inr ⟨t, rows, by simp [ho], rfl, by simp [ho, hrows]⟩)
  obtain ⟨ha, hno, hsp⟩ := hinv hle
  have hstep : IntKind.i64.wrap ((i : Int) + 1) = ((i + 1 : Nat) : Int) := by rw [wrap64 (by omega) (by omega)]; rfl
  by_cases hA : i < l.length ∧ l[i]? ≠ some 47
  · obtain ⟨h, hx⟩ := hA
    have hb : l[i]? = some l[i] := List.getElem?_eq_getElem h
    generalize l[i] = b at hb
    have hb47 : ¬ (b.toNat : Int) = 47 := fun e => hx (by rw [hb]; congr 1; exact UInt8.toNat_inj.1 (by have : (47 : UInt8).toNat = 47 := rfl; omega))
    simp [e0, e6, hle, h, getW_of hb, hb47, hstep]
    refine hN _ _ _ _ (by omega) (List.Sublist.refl _) ⟨by simp [upd, e0], by simp [upd], a, o, t, rows, by simp [upd, e5], by simp [upd, e4], rfl, hrows, by omega, fun _ => ⟨by omega, fun j h1 h2 => ?_, hsp⟩, fun h2 => by omega⟩
    rcases Nat.lt_or_ge j i with h3 | h3
    · exact hno j h1 h3
    · have : j = i := by omega
      subst this; rw [occ_one]; simp [hx]
  have hocc : i < l.length → l[i]? = some 47 := fun h => Classical.byContradiction fun hx => hA ⟨h, hx⟩
  obtain ⟨x, hx⟩ : ∃ x, (l.take i).drop a = x := ⟨_, rfl⟩
  obtain ⟨R, hR⟩ : ∃ R, (if i < l.length then Lib.split (l.drop (i + 1)) [47] else []) = R := ⟨_, rfl⟩
  have hcons : Lib.split (l.drop a) [47] = x :: R := by
    rw [← hx, ← hR]
    by_cases h : i < l.length
    · rw [if_pos h]
      exact split_at (by simp) ha hle hno (by rw [occ_one]; simp [hocc h])
    · have hie : i = l.length := by omega
      subst hie
      rw [if_neg h, List.take_length]; exact split_end (by simp) hno
  rw [hcons] at hsp
  simp only [pfold] at hsp
  have hxl : x.length ≤ mx := by rw [← hx]; simp; unfold mx; omega
  have next : ∀ (o' : List (List UInt8)), pstep o x = some o' → (i + 1 ≤ l.length → i + 1 ≤ i + 1 ∧ (∀ j, i + 1 ≤ j → j < i + 1 → Lib.occAt l [47] j = false) ∧ splitP l = pfold o' (Lib.split (l.drop (i + 1)) [47])) ∧ (l.length < i + 1 → splitP l = some o') := fun o' ho' => by
    rw [ho'] at hsp
    simp only [Option.bind_some] at hsp
    refine ⟨fun h2 => ⟨Nat.le_refl _, fun j h3 h4 => by omega, ?_⟩, fun h2 => ?_⟩
    · rw [hsp, ← hR, if_pos (by omega)]
    · rw [hsp, ← hR, if_neg (by omega)]; rfl
  have fails : pstep o x = none → splitP l = none := fun h => by rw [hsp, h]; rfl
  have hsl : ∀ K : AV → Prop, strSliceW (.str l) (some (.int .i64 a)) (some (.int .i64 i)) K = K (.str x) := fun K => by rw [← hx]; simp [ha, hle]
  rcases Nat.lt_or_ge i l.length with h | h
  focus
    simp [e0, e5, e6, hle, h, getW_of (hocc h), hstep, hsl, -strSliceW_str]
  rotate_left
  focus
    have h' : ¬ i < l.length := by omega
    simp [e0, e5, e6, hle, h', hstep, hsl, -strSliceW_str]
  rotate_left
  all_goals
    by_cases x0 : x = []
    · have hp : pstep o x = some o := by simp [pstep, x0]
      obtain ⟨n1, n2⟩ := next o hp
      simp [x0, e6, hstep]
      exact hN _ _ _ _ (by omega) (List.Sublist.refl _) ⟨by simp [upd, e0], by simp [upd], i + 1, o, t, rows, by simp [upd], by simp [upd, e4], rfl, hrows, by omega, n1, n2⟩
    by_cases x1 : x = [46]
    · have hp : pstep o x = some o := by simp [pstep, x1]
      obtain ⟨n1, n2⟩ := next o hp
      simp [x1, e6, hstep]
      exact hN _ _ _ _ (by omega) (List.Sublist.refl _) ⟨by simp [upd, e0], by simp [upd], i + 1, o, t, rows, by simp [upd], by simp [upd, e4], rfl, hrows, by omega, n1, n2⟩
    by_cases x2 : x = [46, 46]
    · by_cases o0 : o = []
      · have hp := fails (by simp [pstep, x2, o0])
        simp [x2, e4, o0]
        exact fin_sub (Hk := [⟨false, _, 1, []⟩]) ((List.Sublist.refl _).cons _) (view_tup (.cons .name (Views.refl _ _))) (.inr ⟨_, [], by rw [hp]; rfl, rfl, by rw [hp]; rfl⟩)
      · have hp : pstep o x = some o.dropLast := by simp [pstep, x2, o0]
        obtain ⟨n1, n2⟩ := next _ hp
        have hol : 0 < o.length := List.length_pos_iff.2 o0
        have hw : IntKind.i64.wrap ((o.length : Int) - 1) = ((o.length - 1 : Nat) : Int) := by rw [wrap64 (by omega) (by omega)]; omega
        have hol' : ¬ ((o.length : Int) = 0) := by omega
        simp [x2, e4, e6, o0, hw, hstep]
        exact hN _ _ _ _ (by omega) (List.Sublist.refl _) ⟨by simp [upd, e0], by simp [upd], i + 1, o.dropLast, t, rows, by simp [upd], by simp [upd], rfl, cut_last hrows, by simp; omega, n1, n2⟩
    simp [x0, x1, x2]
    refine call_fn0 (spec_part hxl) .bool fun _ _ => ?_
    have hlen : 0 < x.length := List.length_pos_iff.2 x0
    have hpp : (x.all pC && inR x.length 1 20) = pPart x := by
      unfold pPart inR
      have : ((1 : Int) ≤ x.length) := by omega
      have k : ((x.length : Int) ≤ 20) = (x.length ≤ 20) := by simp only [eq_iff_iff]; omega
      simp [this, k]
    rw [hpp]
    cases hP : pPart x
    · have hp := fails (by simp [pstep, x0, x1, x2, hP])
      simp
      exact fin_sub (Hk := [⟨false, _, 1, []⟩]) ((List.Sublist.refl _).cons _) (view_tup (.cons .name (Views.refl _ _))) (.inr ⟨_, [], by rw [hp]; rfl, rfl, by rw [hp]; rfl⟩)
    · have hp : pstep o x = some (o ++ [x]) := by simp [pstep, x0, x1, x2, hP]
      obtain ⟨n1, n2⟩ := next _ hp
      simp [e4, e6, hm1, hm2, cutW, hcl, hrows, hstep]
      exact hN _ _ _ _ (by omega) (sub_one _ _) ⟨by simp [upd, e0], by simp [upd], i + 1, o ++ [x], _, _, by simp [upd], by simp [upd] <;> rfl, rfl, by rw [List.map_append]; exact List.take_of_length_le (by simp), by simp; omega, n1, n2⟩
theorem impl_splitP {l : List UInt8} (hl : l.length ≤ 1048576) (c : Nat) : Con Tryz.prog 106 [.str l] [] c fun r O _ => SplQ l r O := by
  refine con_of c106 (by simp [F106]) ?_
  unfold F106
  simp
  refine call_tree0 (split_tr (by omega) (by simp)) fun r _ hc1 ⟨b, e1, q1⟩ _ => ?_
  subst e1
  simp
  have hpl := split_len l [47]
  have hpm := fun x => split_mem (l := l) (sep := [47]) (x := x)
  have hspl : splitP l = pfold [] b.list := by unfold splitP; rw [q1]
  rw [← q1] at hpl hpm
  refine loop_drop b.list.length (fun i e H c' => e 9 = b.av 1 encS ∧ e 10 = .int .i64 b.list.length ∧ e 11 = .int .i64 i ∧ ∃ (o : List (List UInt8)) (t : Nat) (rows : List (List AV)), e 4 = .ref 0 t 1 o.length ∧ H = [⟨false, t, 1, rows⟩] ∧ rows.take o.length = o.map encS ∧ o.length ≤ i ∧ splitP l = pfold o (b.list.drop i)) ?_ ?_
  · exact ⟨rfl, rfl, rfl, [], c, [], rfl, rfl, rfl, by simp, by simpa using hspl⟩
  intro i e H c' hi ⟨e9, e10, e11, o, t, rows, e4, hH, hrows, hoi, hsp⟩ N hN
  subst hH
  have hcl := cut_le hrows
  have hm1 : (o.length + 1) * 16 ≤ 140737488355328 := by omega
  have hm2 : o.length + 1 ≤ mx := by unfold mx; omega
  by_cases h : i < b.list.length
  case neg =>
    have hie : i = b.list.length := by omega
    subst hie
    rw [List.drop_length] at hsp
    have ho : splitP l = some o := hsp
    simp [e4, e9, e10, e11]
    exact fin_all (.inr ⟨t, rows, by simp [ho], rfl, by simp [ho, hrows]⟩)
  have hg : b.list[i]? = some b.list[i] := List.getElem?_eq_getElem h
  have hstep : IntKind.i64.wrap ((i : Int) + 1) = ((i + 1 : Nat) : Int) := by rw [step64 (by unfold mx; omega) h]; rfl
  have hxl := hpm _ (List.getElem_mem h)
  rw [List.drop_eq_getElem_cons h] at hsp
  simp only [pfold] at hsp
  generalize b.list[i] = x at hg hxl hsp
  have hxm : x.length ≤ mx := by unfold mx; omega
  have next : ∀ (o' : List (List UInt8)), pstep o x = some o' → splitP l = pfold o' (b.list.drop (i + 1)) := fun o' ho' => by
    rw [ho'] at hsp; exact hsp
  have fails : pstep o x = none → splitP l = none := fun h => by rw [hsp, h]; rfl
  simp [e9, e10, e11, h, getW_of hg]
  by_cases x0 : x = []
  · have hp : pstep o x = some o := by simp [pstep, x0]
    simp [x0, e11, hstep]
    exact hN _ _ _ _ (by omega) (List.Sublist.refl _) ⟨by simp [upd, e9], by simp [upd, e10], by simp [upd], o, t, rows, by simp [upd, e4], rfl, hrows, by omega, next o hp⟩
  by_cases x1 : x = [46]
  · have hp : pstep o x = some o := by simp [pstep, x1]
    simp [x1, e11, hstep]
    exact hN _ _ _ _ (by omega) (List.Sublist.refl _) ⟨by simp [upd, e9], by simp [upd, e10], by simp [upd], o, t, rows, by simp [upd, e4], rfl, hrows, by omega, next o hp⟩
  by_cases x2 : x = [46, 46]
  · by_cases o0 : o = []
    · have hp := fails (by simp [pstep, x2, o0])
      simp [x2, e4, o0]
      exact fin_sub (List.nil_sublist _) (.refl _) (.inl ⟨hp, rfl, rfl⟩)
    · have hp : pstep o x = some o.dropLast := by simp [pstep, x2, o0]
      have hol : 0 < o.length := List.length_pos_iff.2 o0
      have hw : IntKind.i64.wrap ((o.length : Int) - 1) = ((o.length - 1 : Nat) : Int) := by rw [wrap64 (by omega) (by omega)]; omega
      have hol' : ¬ ((o.length : Int) = 0) := by omega
      simp [x2, e4, e11, o0, hw, hstep]
      exact hN _ _ _ _ (by omega) (List.Sublist.refl _) ⟨by simp [upd, e9], by simp [upd, e10], by simp [upd], o.dropLast, t, rows, by simp [upd], rfl, cut_last hrows, by simp; omega, next _ hp⟩
  simp [x0, x1, x2]
  refine call_fn0 (impl_part hxm) .bool fun _ _ => ?_
  cases hP : pPart x
  · have hp := fails (by simp [pstep, x0, x1, x2, hP])
    simp
    exact fin_sub (List.nil_sublist _) (.refl _) (.inl ⟨hp, rfl, rfl⟩)
  · have hp : pstep o x = some (o ++ [x]) := by simp [pstep, x0, x1, x2, hP]
    simp [e4, e11, hm1, hm2, cutW, hcl, hrows, hstep]
    exact hN _ _ _ _ (by omega) (sub_one _ _) ⟨by simp [upd, e9], by simp [upd, e10], by simp [upd], o ++ [x], _, _, by simp [upd] <;> rfl, rfl, by rw [List.map_append]; exact List.take_of_length_le (by simp), by simp; omega, next _ hp⟩

/-! ### the plain form -/
def normA (l : List UInt8) : List AV := [.str ((normP l).getD []), .bool (normP l).isSome]
theorem free_norm (l : List UInt8) : Free (.tup (normA l)) := free_tup fun a ha => by
  simp [normA] at ha
  rcases ha with rfl | rfl
  · exact free_str _
  · exact free_bool _
theorem joinL_step (l : List (List UInt8)) {i : Nat} (h : i < l.length) : joinL [47] (l.take (i + 1)) = (if 0 < i then joinL [47] (l.take i) ++ [47] else joinL [47] (l.take i)) ++ l[i] := by
  rw [List.take_succ_eq_append_getElem h, joinL_snoc]
  simp only [List.length_take, Nat.min_eq_left (Nat.le_of_lt h)]
  by_cases h0 : 0 < i
  · rw [if_pos h0, if_pos h0]
  · have : i = 0 := by omega
    subst this; simp [joinL_nil]
theorem join_part {l : List UInt8} (i : Nat) : (joinL [47] (((splitP l).getD []).take i)).length ≤ 22 * (l.length + 2) := by
  cases h : splitP l with
  | none => simp [joinL_nil]
  | some o => exact join_short h i
theorem part_len {l x : List UInt8} (h : x ∈ (splitP l).getD []) : x.length ≤ 20 := by
  cases hs : splitP l with
  | none => rw [hs] at h; cases h
  | some o => rw [hs] at h; exact pPart_len ((splitP_ok hs).1 x h)
theorem parts_len (l : List UInt8) : ((splitP l).getD []).length ≤ l.length + 2 := by
  cases hs : splitP l with
  | none => simp
  | some o => exact (splitP_ok hs).2
theorem norm_eq {l : List UInt8} (h : ¬ 400 < l.length) : normP l = if (splitP l).isSome && inR (joinL [47] ((splitP l).getD [])).length 1 60 then some (joinL [47] ((splitP l).getD [])) else none := by
  unfold normP
  rw [if_neg h]
  cases splitP l <;> simp
theorem spec_norm {l : List UInt8} (hl : l.length ≤ mx) : Fnc Tryz.prog 62 [.str l] (.tup (normA l)) := by
  refine fn_of c62 (by simp [F62]) fun c => ?_
  unfold F62
  by_cases h400 : 400 < l.length
  · have k : (400 : Int) < l.length := by omega
    simp [k]
    exact fin_plain ⟨by simp [normA, normP, h400], rfl⟩
  have k : ¬ (400 : Int) < l.length := by omega
  simp [k]
  refine call_tree0 (spl_tr fun c => spec_splitP (by omega) c) fun r _ hc1 ⟨b, e1, q1⟩ _ => ?_
  subst e1
  simp
  have hj := fun i => join_part (l := l) i
  have hpl := parts_len l
  have hpm := fun x => part_len (l := l) (x := x)
  have hne := norm_eq h400
  rw [← q1] at hj hpl hpm hne
  refine loop_drop b.list.length (fun i e H c' => e 4 = b.av 1 encS ∧ e 5 = .bool (splitP l).isSome ∧ e 6 = .str (joinL [47] (b.list.take i)) ∧ e 7 = .int .i64 i ∧ H = []) ⟨rfl, rfl, by simp [upd, joinL_nil], rfl, rfl⟩ ?_
  intro i e H c' hi ⟨e4, e5, e6, e7, hH⟩ N hN
  subst hH
  by_cases h : i < b.list.length
  · have hg : b.list[i]? = some b.list[i] := List.getElem?_eq_getElem h
    have hstep : IntKind.i64.wrap ((i : Int) + 1) = ((i + 1 : Nat) : Int) := by rw [step64 (by unfold mx; omega) h]; rfl
    have hxl := hpm _ (List.getElem_mem h)
    have hjs := joinL_step b.list h
    have hji := hj i
    generalize b.list[i] = x at hg hxl hjs
    generalize joinL [47] (b.list.take i) = J at e6 hjs hji
    by_cases h0 : 0 < i
    · rw [if_pos h0] at hjs
      simp [e4, e6, e7, h, h0, getW_of hg, hstep]
      refine ⟨by unfold mx; omega, by unfold mx; omega, ?_⟩
      exact hN _ _ _ _ h (List.Sublist.refl _) ⟨by simp [upd, e4], by simp [upd, e5], by simp [upd, hjs], by simp [upd], rfl⟩
    · rw [if_neg h0] at hjs
      simp [e4, e6, e7, h, h0, getW_of hg, hstep]
      refine ⟨by unfold mx; omega, ?_⟩
      exact hN _ _ _ _ h (List.Sublist.refl _) ⟨by simp [upd, e4], by simp [upd, e5], by simp [upd, hjs], by simp [upd], rfl⟩
  · have h1 : i = b.list.length := by omega
    subst h1
    rw [List.take_length] at e6
    generalize joinL [47] b.list = J at e6 hne
    cases hs : (splitP l).isSome
    · rw [hs] at hne e5
      simp at hne
      simp [e4, e5, e6, e7]
      exact fin_plain ⟨by simp [normA, hne], rfl⟩
    · rw [hs] at hne e5
      simp [e4, e5, e6, e7]
      refine call_fn0 (l1In_fn _ _ _) .bool fun _ _ => ?_
      cases hr : inR J.length 1 60
      · rw [hr] at hne
        simp at hne
        simp
        exact fin_plain ⟨by simp [normA, hne], rfl⟩
      · rw [hr] at hne
        simp at hne
        simp [e6]
        exact fin_plain ⟨by simp [normA, hne], rfl⟩
theorem impl_norm {l : List UInt8} (hl : l.length ≤ mx) : Fnc Tryz.prog 78 [.str l] (.tup (normA l)) := by
  refine fn_of c78 (by simp [F78]) fun c => ?_
  unfold F78
  by_cases h400 : 400 < l.length
  · have k : (400 : Int) < l.length := by omega
    simp [k]
    exact fin_plain ⟨by simp [normA, normP, h400], rfl⟩
  have k : ¬ (400 : Int) < l.length := by omega
  simp [k]
  refine call_tree0 (spl_tr fun c => impl_splitP (by omega) c) fun r _ hc1 ⟨b, e1, q1⟩ _ => ?_
  subst e1
  simp
  have hj := join_part (l := l) ((splitP l).getD []).length
  have hpl := parts_len l
  have hne := norm_eq h400
  rw [List.take_length] at hj
  rw [← q1] at hj hpl hne
  have hjn : Fnc Tryz.prog 107 [b.av 1 encS, .str [47]] (.str (joinL [47] b.list)) := by
    cases b with
    | nil => exact join_nil_fn _
    | mk t xs => exact join_fn (by simp at hj ⊢; omega) (by simp at hpl ⊢; omega)
  refine call_fn0 hjn .str fun _ _ => ?_
  generalize joinL [47] b.list = J at hne
  cases hs : (splitP l).isSome
  · rw [hs] at hne
    simp at hne
    simp
    exact fin_plain ⟨by simp [normA, hne], rfl⟩
  · rw [hs] at hne
    simp
    refine call_fn0 (inRange_fn _ _ _) .bool fun _ _ => ?_
    cases hr : inR J.length 1 60
    · rw [hr] at hne
      simp at hne
      simp
      exact fin_plain ⟨by simp [normA, hne], rfl⟩
    · rw [hr] at hne
      simp at hne
      simp
      exact fin_plain ⟨by simp [normA, hne], rfl⟩
theorem isN_norm (l : List UInt8) : isN l = ((normP l).isSome && decide ((normP l).getD [] = l)) := by
  unfold isN
  cases normP l <;> simp
theorem spec_isN {l : List UInt8} (hl : l.length ≤ mx) : Fnc Tryz.prog 98 [.str l] (.bool (isN l)) := by
  refine fn_of c98 (by simp [F98]) fun c => ?_
  unfold F98
  simp
  refine call_fn0 (spec_norm hl) (free_norm _ _) fun _ _ => ?_
  rw [isN_norm]
  cases h : (normP l).isSome <;> simp [normA, h]
  · exact fin_plain ⟨rfl, rfl⟩
  · exact fin_plain ⟨rfl, rfl⟩
theorem impl_isN {l : List UInt8} (hl : l.length ≤ mx) : Fnc Tryz.prog 108 [.str l] (.bool (isN l)) := by
  refine fn_of c108 (by simp [F108]) fun c => ?_
  unfold F108
  simp
  refine call_fn0 (impl_norm hl) (free_norm _ _) fun _ _ => ?_
  rw [isN_norm]
  cases h : (normP l).isSome <;> simp [normA, h]
  · exact fin_plain ⟨rfl, rfl⟩
  · exact fin_plain ⟨rfl, rfl⟩
end A
end Go.Proofs.YtkcilmkienlnoaaGreatDoor

/-
  Sites: IsSite and SiteStamp of the reference and of the program are the same plain functions; the law of SiteStamp answers true. No condition.
-/


namespace Go.Proofs.YtkcilmkienlnoaaGreatDoor
namespace A
set_option linter.unusedVariables false
set_option linter.unusedSimpArgs false
set_option maxRecDepth 100000

/-- where a path stands first -/
def findF (p : List UInt8) : List TFile → Nat → Int
  | [], _ => -1
  | x :: l, i => if x.Path = p then i else findF p l (i + 1)
theorem findF_hit {id : List UInt8} {l : List TFile} {i : Nat} (h : i < l.length) (e : l[i].Path = id) : findF id (l.drop i) i = i := by
  rw [List.drop_eq_getElem_cons h, findF, if_pos e]
theorem findF_miss {id : List UInt8} {l : List TFile} {i : Nat} (h : i < l.length) (e : l[i].Path ≠ id) : findF id (l.drop i) i = findF id (l.drop (i + 1)) (i + 1) := by
  rw [List.drop_eq_getElem_cons h, findF, if_neg e]
def findP (p : List UInt8) (l : List TFile) : Int := match normP p with | some q => findF q l 0 | none => -1
theorem spec_findP {s : SL TFile} {p : List UInt8} (hn : s.list.length ≤ mx) (hp : p.length ≤ mx) : Fnc Tryz.prog 20 [s.av 3 TFile.enc, .str p] (.int .i64 (findP p s.list)) := by
  refine fn_of c20 (by simp [F20]) fun c => ?_
  unfold F20
  simp
  refine call_fn0 (spec_norm hp) (free_norm _ _) fun _ _ => ?_
  cases hq : normP p with
  | none =>
    simp [normA, hq]
    refine loop_drop 0 (fun i e H c' => e 6 = .bool false ∧ H = []) ⟨rfl, rfl⟩ ?_
    intro i e H c hi ⟨e6, hH⟩ N hN
    subst hH
    simp [e6]
    exact fin_plain ⟨by simp [findP, hq], rfl⟩
  | some q =>
    simp [normA, hq]
    refine loop_drop s.list.length (fun i e H c' => e 0 = s.av 3 TFile.enc ∧ e 5 = .str q ∧ e 6 = .bool true ∧ e 7 = .int .i64 i ∧ findF q s.list 0 = findF q (s.list.drop i) i ∧ H = []) ⟨rfl, rfl, rfl, rfl, rfl, rfl⟩ ?_
    intro i e H c hi ⟨e0, e5, e6, e7, hf, hH⟩ N hN
    subst hH
    have hP : findP p s.list = findF q s.list 0 := by unfold findP; rw [hq]
    by_cases h : i < s.list.length
    · have hg : s.list[i]? = some s.list[i] := List.getElem?_eq_getElem h
      have hhit := fun e => findF_hit (id := q) h e
      have hmiss := fun e => findF_miss (id := q) h e
      have hstep : IntKind.i64.wrap ((i : Int) + 1) = ((i + 1 : Nat) : Int) := by rw [step64 hn h]; rfl
      generalize s.list[i] = x at hg hhit hmiss
      by_cases hx : x.Path = q
      · simp [e0, e5, e6, e7, h, getW_of hg, hx]
        exact fin_plain ⟨by rw [hP, hf, hhit hx], rfl⟩
      · simp [e0, e5, e6, e7, h, getW_of hg, hx, hstep]
        exact hN _ _ _ _ h (List.Sublist.refl _) ⟨by simp [upd, e0], by simp [upd, e5], by simp [upd, e6], by simp [upd], by rw [hf, hmiss hx], rfl⟩
    · have hie : i = s.list.length := by omega
      subst hie
      simp [e0, e5, e6, e7]
      exact fin_plain ⟨by rw [hP, hf, List.drop_length]; rfl, rfl⟩
theorem findP_norm {p : List UInt8} (h : isN p = true) (l : List TFile) : findP p l = findF p l 0 := by
  unfold findP; rw [of_decide_eq_true h]
/-- One file by itself. -/
def fileOk (x : TFile) : Bool := isN x.Path && decide (x.Source.length ≤ 4000) && inR x.Version 1 1000000000
/-- No name stands twice. -/
def onceF : List TFile → Bool
  | [] => true
  | x :: l => !(l.map (·.Path)).contains x.Path && onceF l
def isSite (l : List TFile) : Bool := l.all fileOk && onceF l.reverse && decide (l.length ≤ 8)

theorem findF_miss_iff (id : List UInt8) : ∀ (l : List TFile) (i : Nat), (l.map (·.Path)).contains id = false → findF id l i = -1
  | [], i, _ => rfl
  | x :: l, i, h => by
    simp only [List.map_cons, List.contains_cons, Bool.or_eq_false_iff] at h
    unfold findF
    rw [if_neg (by intro e; simp [e] at h)]
    exact findF_miss_iff id l (i + 1) h.2
theorem findF_app {id : List UInt8} (m : List TFile) : ∀ (l : List TFile) (i : Nat), (l.map (·.Path)).contains id = false → findF id (l ++ m) i = findF id m (i + l.length)
  | [], i, _ => by simp
  | x :: l, i, h => by
    simp only [List.map_cons, List.contains_cons, Bool.or_eq_false_iff] at h
    rw [List.cons_append, findF, if_neg (by intro e; simp [e] at h), findF_app m l (i + 1) h.2]
    simp only [List.length_cons]; congr 1; omega
theorem findF_hit_lt {id : List UInt8} (m : List TFile) : ∀ (l : List TFile) (i : Nat), (l.map (·.Path)).contains id = true → findF id (l ++ m) i < i + l.length
  | [], i, h => by simp at h
  | x :: l, i, h => by
    rw [List.cons_append, findF]
    by_cases e : x.Path = id
    · rw [if_pos e]; simp; omega
    · rw [if_neg e]
      have h' : (l.map (·.Path)).contains id = true := by
        simp only [List.map_cons, List.contains_cons, Bool.or_eq_true] at h
        rcases h with h | h
        · exact absurd (by simpa using h : id = x.Path).symm e
        · exact h
      have := findF_hit_lt m l (i + 1) h'
      simp; omega
/-- The first of its name is it itself just if none before has it. -/
theorem find_selfF {l : List TFile} {i : Nat} (h : i < l.length) : (findF l[i].Path l 0 = i) ↔ ((l.take i).map (·.Path)).contains l[i].Path = false := by
  have e : l = l.take i ++ l.drop i := (List.take_append_drop i l).symm
  have hl : (l.take i).length = i := by simp; omega
  constructor
  · intro hf
    cases hc : ((l.take i).map (·.Path)).contains l[i].Path with
    | false => rfl
    | true =>
      have := findF_hit_lt (l.drop i) (l.take i) 0 hc
      rw [← e, hf, hl] at this
      omega
  · intro hc
    have := findF_app (l.drop i) (l.take i) 0 hc
    rw [← e, hl] at this
    rw [this, List.drop_eq_getElem_cons h, findF, if_pos rfl]
    simp
theorem once_stepF {l : List TFile} {i : Nat} (h : i < l.length) : onceF (l.take (i + 1)).reverse = (!((l.take i).map (·.Path)).contains l[i].Path && onceF (l.take i).reverse) := by
  rw [List.take_succ_eq_append_getElem h, List.reverse_append]
  simp only [List.reverse_cons, List.reverse_nil, List.nil_append, List.singleton_append, onceF, List.map_reverse]
  congr 2
  rw [Bool.eq_iff_iff]
  simp
/-- Up to an index. -/
def okToF (l : List TFile) (i : Nat) : Bool := (l.take i).all fileOk && onceF (l.take i).reverse
theorem okTo_stepF {l : List TFile} {i : Nat} (h : i < l.length) : okToF l (i + 1) = (okToF l i && fileOk l[i] && !((l.take i).map (·.Path)).contains l[i].Path) := by
  unfold okToF
  rw [once_stepF h, List.take_succ_eq_append_getElem h, List.all_append]
  simp only [List.all_cons, List.all_nil, Bool.and_true]
  cases (l.take i).all fileOk <;> cases fileOk l[i] <;> cases onceF (l.take i).reverse <;> simp
theorem okTo_monoF {l : List TFile} {i : Nat} (h : okToF l i = false) : isSite l = false := by
  have key : ∀ j, i ≤ j → j ≤ l.length → okToF l j = false := by
    intro j hj
    induction hj with
    | refl => exact fun _ => h
    | step hj ih => intro hl; rw [okTo_stepF (by omega), ih (by omega)]; simp
  rcases Nat.lt_or_ge i l.length with h1 | h1
  · have := key l.length (Nat.le_of_lt h1) (Nat.le_refl _)
    unfold okToF at this
    rw [List.take_length] at this
    unfold isSite
    rw [this]; rfl
  · unfold okToF at h
    rw [List.take_of_length_le h1] at h
    unfold isSite
    rw [h]; rfl
theorem okTo_allF {l : List TFile} (h : okToF l l.length = true) : isSite l = decide (l.length ≤ 8) := by
  unfold okToF at h
  rw [List.take_length] at h
  unfold isSite
  rw [h]; rfl

theorem spec_site {s : SL TFile} (hs : okFileS s) : Fnc Tryz.prog 63 [s.av 3 TFile.enc] (.bool (isSite s.list)) := by
  have hn := hs.1
  refine fn_of c63 (by simp [F63]) fun c => ?_
  unfold F63
  simp
  refine loop_drop s.list.length (fun i e H c' => e 0 = s.av 3 TFile.enc ∧ e 3 = .int .i64 i ∧ okToF s.list i = true ∧ H = []) ⟨rfl, rfl, rfl, rfl⟩ ?_
  intro i e H c hi ⟨e0, e3, hall, hH⟩ N hN
  subst hH
  simp [e0, e3]
  refine ⟨fun h => ⟨s.list[i], List.getElem?_eq_getElem h, ?_⟩, fun h => ?_⟩
  · have hst := okTo_stepF h
    have hself := find_selfF h
    have hok := hs.2 _ (List.getElem_mem h)
    rw [hall] at hst
    have hg : s.list[i]? = some s.list[i] := List.getElem?_eq_getElem h
    generalize hx : s.list[i] = x at hst hself hok hg
    have bad : (fileOk x && !((s.list.take i).map (·.Path)).contains x.Path) = false → isSite s.list = false := fun hb => okTo_monoF (i := i + 1) (by rw [hst]; simpa using hb)
    simp [e0, e3, getW_of hg]
    refine call_fn0 (spec_isN hok.1) .bool fun _ _ => ?_
    cases h1 : isN x.Path
    · simp [e0, e3, getW_of hg]; exact fin_plain ⟨by rw [bad (by simp [fileOk, h1])], rfl⟩
    simp [e0, e3, getW_of hg]
    refine call_fn0 (spec_findP hn hok.1) .int fun _ _ => ?_
    rw [findP_norm h1]
    by_cases h2 : findF x.Path s.list 0 = i
    rotate_left
    · simp [e0, e3, getW_of hg, h2]
      have hc : ((s.list.take i).map (·.Path)).contains x.Path = true := by
        cases hc : ((s.list.take i).map (·.Path)).contains x.Path with
        | true => rfl
        | false => exact absurd (hself.2 hc) h2
      exact fin_plain ⟨by rw [bad (by rw [hc]; simp)], rfl⟩
    have hc := hself.1 h2
    simp [e0, e3, getW_of hg, h2]
    by_cases h3 : (4000 : Int) < x.Source.length
    · simp [e0, e3, getW_of hg, h3]; exact fin_plain ⟨by rw [bad (by simp [fileOk]; intros; omega)], rfl⟩
    simp [e0, e3, getW_of hg, h3]
    refine call_fn0 (l1In_fn _ _ _) .bool fun _ _ => ?_
    cases h5 : inR x.Version 1 1000000000
    · simp [e0, e3, getW_of hg, h3]; exact fin_plain ⟨by rw [bad (by simp [fileOk, h5])], rfl⟩
    simp [e0, e3, getW_of hg, h3]
    exact hN _ _ _ _ h (List.nil_sublist _) ⟨by simp [upd, e0], by simp [upd]; exact step64 hn h, by rw [hst]; simp only [fileOk, h1, h5, hc]; simp; omega, rfl⟩
  · have : i = s.list.length := by omega
    subst this
    refine fin_plain ⟨?_, rfl⟩
    rw [okTo_allF hall]; simp; omega
def seenRowF (x : TFile) : List AV := [.str x.Path, .bool true]
theorem mfind_noF {id : List UInt8} : ∀ (l : List TFile) (k : Nat), (l.map (·.Path)).contains id = false → mfind (.str id) (l.map seenRowF) k = some none
  | [], k, _ => rfl
  | x :: l, k, h => by
    simp only [List.map_cons, List.contains_cons, Bool.or_eq_false_iff] at h
    have e : keyEq (.str id) (.str x.Path) = some false := by simp only [keyEq]; rw [h.1]
    simp only [List.map_cons, seenRowF, mfind, e]
    exact mfind_noF l (k + 1) h.2
theorem mfind_yesF {id : List UInt8} : ∀ (l : List TFile) (k : Nat), (l.map (·.Path)).contains id = true → ∃ j, mfind (.str id) (l.map seenRowF) k = some (some (j, .bool true))
  | [], k, h => by simp at h
  | x :: l, k, h => by
    cases e : (id == x.Path) with
    | true =>
      have e' : keyEq (.str id) (.str x.Path) = some true := by simp only [keyEq]; rw [e]
      exact ⟨k, by simp only [List.map_cons, seenRowF, mfind, e']⟩
    | false =>
      have e' : keyEq (.str id) (.str x.Path) = some false := by simp only [keyEq]; rw [e]
      simp only [List.map_cons, List.contains_cons, e, Bool.false_or] at h
      obtain ⟨j, hj⟩ := mfind_yesF l (k + 1) h
      exact ⟨j, by simp only [List.map_cons, seenRowF, mfind, e']; exact hj⟩
theorem lookup_noF {H : List AObj} {d : TypeDesc} {z k : AV} {i tag : Nat} {rows : List (List AV)} {w : Nat} {K : AV → Prop} (hd : keyFits d k = true) (ho : H[i]? = some ⟨true, tag, w, rows⟩) (hm : mfind k rows 0 = some none) (h : K z) : lookupW d z false (.mref i tag) k H K :=
  ⟨hd, _, ho, rfl, rfl, by rw [hm]; exact h⟩
theorem lookup_yesF {H : List AObj} {d : TypeDesc} {z k v : AV} {i tag j : Nat} {rows : List (List AV)} {w : Nat} {K : AV → Prop} (hd : keyFits d k = true) (ho : H[i]? = some ⟨true, tag, w, rows⟩) (hm : mfind k rows 0 = some (some (j, v))) (h : K v) : lookupW d z false (.mref i tag) k H K :=
  ⟨hd, _, ho, rfl, rfl, by rw [hm]; exact h⟩
theorem mupd_noF {H : List AObj} {c : Nat} {d : TypeDesc} {k v : AV} {i tag : Nat} {rows : List (List AV)} {w : Nat} {K : AV → List AObj → Nat → Prop} (hd : keyFits d k = true) (ho : H[i]? = some ⟨true, tag, w, rows⟩) (hm : mfind k rows 0 = some none) (hl : rows.length < mx) (h : K .und (H.set i ⟨true, tag, w, rows ++ [[k, v]]⟩) c) : mupdW d (.mref i tag) k v H c K :=
  ⟨hd, _, ho, rfl, rfl, by rw [hm]; exact ⟨hl, h⟩⟩

def seenRowsF (l : List TFile) (i : Nat) : List (List AV) := (l.take i).map seenRowF
theorem seenRows_stepF {l : List TFile} {i : Nat} (h : i < l.length) : seenRowsF l (i + 1) = seenRowsF l i ++ [seenRowF l[i]] := by
  unfold seenRowsF; rw [List.take_succ_eq_append_getElem h, List.map_append]; rfl
theorem seenRows_lenF {l : List TFile} {i : Nat} : (seenRowsF l i).length ≤ i := by unfold seenRowsF; simp; omega
theorem impl_site {s : SL TFile} (hs : okFileS s) : Fnc Tryz.prog 79 [s.av 3 TFile.enc] (.bool (isSite s.list)) := by
  have hn := hs.1
  refine fn_of c79 (by simp [F79]) fun c => ?_
  unfold F79
  simp
  refine loop_drop s.list.length (fun i e H c' => e 0 = s.av 3 TFile.enc ∧ e 3 = .mref 0 c ∧ e 7 = s.av 3 TFile.enc ∧ e 8 = .int .i64 s.list.length ∧ e 9 = .int .i64 i ∧ okToF s.list i = true ∧ H = [⟨true, c, 0, seenRowsF s.list i⟩]) ⟨rfl, rfl, rfl, rfl, rfl, rfl, rfl⟩ ?_
  intro i e H c' hi ⟨e0, e3, e7, e8, e9, hall, hH⟩ N hN
  subst hH
  simp [e0, e3, e7, e8, e9]
  refine ⟨fun h => ⟨s.list[i], List.getElem?_eq_getElem h, ?_⟩, fun h => ?_⟩
  · have hst := okTo_stepF h
    have hok := hs.2 _ (List.getElem_mem h)
    rw [hall] at hst
    have htk := seenRows_stepF h
    generalize hx : s.list[i] = x at hst hok htk
    have bad : (fileOk x && !((s.list.take i).map (·.Path)).contains x.Path) = false → isSite s.list = false := fun hb => okTo_monoF (i := i + 1) (by rw [hst]; simpa using hb)
    simp [e0, e3, e7, e8, e9]
    cases hc : ((s.list.take i).map (·.Path)).contains x.Path
    rotate_left
    · obtain ⟨j, hj⟩ : ∃ j, mfind (.str x.Path) (seenRowsF s.list i) 0 = some (some (j, .bool true)) := mfind_yesF _ 0 hc
      refine lookup_yesF rfl rfl hj ?_
      simp [e0, e3, e7, e8, e9]
      exact fin_plain ⟨by rw [bad (by rw [hc]; simp)], rfl⟩
    have hm : mfind (.str x.Path) (seenRowsF s.list i) 0 = some none := mfind_noF _ 0 hc
    refine lookup_noF rfl rfl hm ?_
    simp [e0, e3, e7, e8, e9]
    refine call_fn0 (impl_isN hok.1) .bool fun _ _ => ?_
    cases h1 : isN x.Path
    · simp [e0, e3, e7, e8, e9]; exact fin_plain ⟨by rw [bad (by simp [fileOk, h1])], rfl⟩
    simp [e0, e3, e7, e8, e9]
    by_cases h3 : (4000 : Int) < x.Source.length
    · simp [e0, e3, e7, e8, e9, h3]; exact fin_plain ⟨by rw [bad (by simp [fileOk]; intros; omega)], rfl⟩
    simp [e0, e3, e7, e8, e9, h3]
    refine call_fn0 (inRange_fn _ _ _) .bool fun _ _ => ?_
    cases h5 : inR x.Version 1 1000000000
    · simp [e0, e3, e7, e8, e9, h3]; exact fin_plain ⟨by rw [bad (by simp [fileOk, h5])], rfl⟩
    simp [e0, e3, e7, e8, e9, h3]
    refine mupd_noF rfl rfl hm (by have := seenRows_lenF (l := s.list) (i := i); omega) ?_
    simp [e0, e3, e7, e8, e9, h3]
    exact hN _ _ _ _ h (sub_one _ _) ⟨by simp [upd, e0], by simp [upd, e3], by simp [upd, e7], by simp [upd, e8], by simp [upd]; exact step64 hn h, by rw [hst]; simp only [fileOk, h1, h5, hc]; simp; omega, by rw [htk]; rfl⟩
  · have : i = s.list.length := by omega
    subst this
    refine fin_plain ⟨?_, rfl⟩
    rw [okTo_allF hall]; simp; omega


/-! ### the stamp -/
def verSum (l : List TFile) : Int := (l.map (·.Version)).sum
theorem verSum_step (l : List TFile) {i : Nat} (h : i < l.length) : verSum (l.take (i + 1)) = verSum (l.take i) + l[i].Version := by
  unfold verSum; rw [List.take_succ_eq_append_getElem h, List.map_append, List.sum_append]; simp
theorem site_ver {l : List TFile} (h : isSite l = true) : ∀ x, x ∈ l → 1 ≤ x.Version ∧ x.Version ≤ 1000000000 := fun x hx => by
  simp only [isSite, Bool.and_eq_true, List.all_eq_true] at h
  have := h.1.1 x hx
  simp only [fileOk, Bool.and_eq_true] at this
  exact inR_true this.2
theorem site_len {l : List TFile} (h : isSite l = true) : l.length ≤ 8 := by
  simp only [isSite, Bool.and_eq_true, decide_eq_true_eq] at h; exact h.2
theorem verSum_le {l : List TFile} (h : isSite l = true) (i : Nat) : 0 ≤ verSum (l.take i) ∧ verSum (l.take i) ≤ 1000000000 * l.length := by
  have key : ∀ m : List TFile, (∀ x, x ∈ m → 1 ≤ x.Version ∧ x.Version ≤ 1000000000) → 0 ≤ verSum m ∧ verSum m ≤ 1000000000 * m.length := by
    intro m
    induction m with
    | nil => intro _; simp [verSum]
    | cons x m ih =>
      intro hm
      have h1 := ih fun y hy => hm y (List.mem_cons_of_mem _ hy)
      have h2 := hm x (List.mem_cons_self ..)
      simp only [verSum, List.map_cons, List.sum_cons, List.length_cons] at h1 ⊢
      omega
  have := key (l.take i) fun x hx => site_ver h x (List.mem_of_mem_take hx)
  have hl : (l.take i).length ≤ l.length := by simp; omega
  have h2 : (1000000000 : Int) * (l.take i).length ≤ 1000000000 * l.length := by omega
  omega
def stamp (l : List TFile) : Int := if isSite l then verSum l else 0
theorem spec_stamp {s : SL TFile} (hs : okFileS s) : Fnc Tryz.prog 21 [s.av 3 TFile.enc] (.int .i64 (stamp s.list)) := by
  have hn := hs.1
  refine fn_of c21 (by simp [F21]) fun c => ?_
  unfold F21
  simp
  refine loop_drop s.list.length (fun i e H c' => e 0 = s.av 3 TFile.enc ∧ e 4 = .int .i64 i ∧ e 3 = .int .i64 (verSum (s.list.take i)) ∧ (0 < i → isSite s.list = true) ∧ H = []) ⟨rfl, rfl, rfl, by simp, rfl⟩ ?_
  intro i e H c hi ⟨e0, e4, e3, hpos, hH⟩ N hN
  subst hH
  by_cases h : i < s.list.length
  · have hg : s.list[i]? = some s.list[i] := List.getElem?_eq_getElem h
    have hst := verSum_step s.list h
    have hstep : IntKind.i64.wrap ((i : Int) + 1) = ((i + 1 : Nat) : Int) := by rw [step64 hn h]; rfl
    simp [e0, e4, h]
    refine call_fn0 (spec_site hs) .bool fun _ _ => ?_
    cases hS : isSite s.list
    · have hi0 : i = 0 := by
        rcases Nat.eq_zero_or_pos i with h0 | h0
        · exact h0
        · rw [hpos h0] at hS; cases hS
      subst hi0
      simp [e3]
      exact fin_plain ⟨by simp [stamp, hS, verSum], rfl⟩
    · have hv := verSum_le hS i
      have hx := site_ver hS _ (List.getElem_mem h)
      have hl8 := site_len hS
      generalize s.list[i] = x at hg hst hx
      generalize verSum (s.list.take i) = v at e3 hst hv
      have hw : IntKind.i64.wrap (v + x.Version) = v + x.Version := wrap64 (by omega) (by omega)
      simp [e0, e3, e4, h, getW_of hg, hw, hstep]
      exact hN _ _ _ _ h (List.Sublist.refl _) ⟨by simp [upd, e0], by simp [upd], by simp [upd, hst], fun _ => hS, rfl⟩
  · have hie : i = s.list.length := by omega
    subst hie
    rw [List.take_length] at e3
    simp [e0, e3, e4]
    refine fin_plain ⟨?_, rfl⟩
    unfold stamp
    rcases Nat.eq_zero_or_pos s.list.length with h0 | h0
    · have : s.list = [] := List.length_eq_zero_iff.1 h0
      rw [this]; rfl
    · rw [hpos h0]; rfl
theorem impl_stamp {s : SL TFile} (hs : okFileS s) : Fnc Tryz.prog 33 [s.av 3 TFile.enc] (.int .i64 (stamp s.list)) := by
  have hn := hs.1
  refine fn_of c33 (by simp [F33]) fun c => ?_
  unfold F33
  simp
  refine call_fn0 (impl_site hs) .bool fun _ _ => ?_
  cases hS : isSite s.list
  · simp
    exact fin_plain ⟨by simp [stamp, hS], rfl⟩
  simp
  refine loop_drop s.list.length (fun i e H c' => e 9 = s.av 3 TFile.enc ∧ e 10 = .int .i64 s.list.length ∧ e 11 = .int .i64 i ∧ e 3 = .int .i64 (verSum (s.list.take i)) ∧ H = []) ⟨rfl, rfl, rfl, rfl, rfl⟩ ?_
  intro i e H c hi ⟨e9, e10, e11, e3, hH⟩ N hN
  subst hH
  by_cases h : i < s.list.length
  · have hg : s.list[i]? = some s.list[i] := List.getElem?_eq_getElem h
    have hst := verSum_step s.list h
    have hstep : IntKind.i64.wrap ((i : Int) + 1) = ((i + 1 : Nat) : Int) := by rw [step64 hn h]; rfl
    have hv := verSum_le hS i
    have hx := site_ver hS _ (List.getElem_mem h)
    have hl8 := site_len hS
    generalize s.list[i] = x at hg hst hx
    generalize verSum (s.list.take i) = v at e3 hst hv
    have hw : IntKind.i64.wrap (v + x.Version) = v + x.Version := wrap64 (by omega) (by omega)
    simp [e3, e9, e10, e11, h, getW_of hg, hw, hstep, putA]
    exact hN _ _ _ _ h (List.nil_sublist _) ⟨by simp [upd, e9], by simp [upd, e10], by simp [upd], by simp [upd, hst], rfl⟩
  · have hie : i = s.list.length := by omega
    subst hie
    rw [List.take_length] at e3
    simp [e3, e9, e10, e11]
    exact fin_plain ⟨by simp [stamp, hS], rfl⟩
theorem fileCon {l m : List TFile} (h : l.map TFile.con = m.map TFile.con) : l = m := by
  have e : ∀ l : List TFile, l.map TFile.con = l := fun l => List.map_id' l
  rwa [e, e] at h
end A
end Go.Proofs.YtkcilmkienlnoaaGreatDoor

/-
  CrashWork as0 a plain function. No condition.
-/




namespace Go.Proofs.YtkcilmkienlnoaaGreatDoor
namespace A
set_option linter.unusedVariables false
set_option linter.unusedSimpArgs false
set_option maxRecDepth 100000

def zJob0 : TJob := ⟨0, ⟨[], .nil, .nil⟩, []⟩
def deadW (x : TWorker) : TWorker := ⟨2, zJob0, [], .nil, x.Served⟩
def craOk (s : TServer) (w : Int) : Bool := inR w 0 ((s.Workers.list.length : Int) - 1) && (match s.Workers.list[w.toNat]? with | some x => !decide (x.State = 2) | none => false)
/-- The line that the worker left half written. -/
def lockL (w : Int) (fs : List TFile) (p : List UInt8) (ls : List TLine) : List TLine :=
  if inR (findP p fs) 0 ((ls.length : Int) - 1) then
    match ls[(findP p fs).toNat]? with
    | some y => if y.Seq.tmod 2 = 0 then ls.set (findP p fs).toNat ⟨IntKind.i64.wrap (y.Seq + 1), w + 1, stamp fs, .nil⟩ else ls
    | none => ls
  else ls
def crash (s : TServer) (w : Int) : TServer :=
  match craOk s w, s.Workers.list[w.toNat]? with
  | true, some x =>
    if x.State = 1 then { s with Workers := .mk 0 (s.Workers.list.set w.toNat (deadW x)), Queue := .mk 0 (x.Job :: s.Queue.list), Sessions := .mk 0 (s.Sessions.list.map (dropH (w + 1))), Lines := .mk 0 (lockL w x.Files.list x.Job.Request.Path s.Lines.list) }
    else { s with Workers := .mk 0 (s.Workers.list.set w.toNat (deadW x)) }
  | _, _ => s
theorem lockL_con (w : Int) (fs : List TFile) (p : List UInt8) {l m : List TLine} (h : l.map TLine.con = m.map TLine.con) : (lockL w fs p l).map TLine.con = (lockL w fs p m).map TLine.con := by
  have hl : l.length = m.length := by simpa using congrArg List.length h
  unfold lockL
  rw [hl]
  split
  · have hg : (l[(findP p fs).toNat]?).map TLine.con = (m[(findP p fs).toNat]?).map TLine.con := by
      have := congrArg (fun l : List TLine => l[(findP p fs).toNat]?) h
      simpa only [List.getElem?_map] using this
    cases h1 : l[(findP p fs).toNat]? with
    | none =>
      cases h2 : m[(findP p fs).toNat]? with
      | none => exact h
      | some y => rw [h1, h2] at hg; cases hg
    | some x =>
      cases h2 : m[(findP p fs).toNat]? with
      | none => rw [h1, h2] at hg; cases hg
      | some y =>
        rw [h1, h2] at hg
        simp only [Option.map_some, Option.some.injEq] at hg
        have hs : x.Seq = y.Seq := by have := congrArg (fun t : TLine => t.Seq) hg; exact this
        simp only [hs]
        split
        · rw [List.map_set, List.map_set, h]
        · exact h
  · exact h
theorem craOk_con {a b : TServer} (h : a.con = b.con) (w : Int) : craOk a w = craOk b w := by
  have qW : a.Workers.list.map TWorker.con = b.Workers.list.map TWorker.con := congrArg (fun t : TServer => t.Workers.list) h
  have qWl : a.Workers.list.length = b.Workers.list.length := by simpa using congrArg List.length qW
  unfold craOk
  rw [qWl]
  congr 1
  have hg : (a.Workers.list[w.toNat]?).map TWorker.con = (b.Workers.list[w.toNat]?).map TWorker.con := by
    have := congrArg (fun l : List TWorker => l[w.toNat]?) qW
    simpa only [List.getElem?_map] using this
  cases h1 : a.Workers.list[w.toNat]? with
  | none =>
    cases h2 : b.Workers.list[w.toNat]? with
    | none => rfl
    | some y => rw [h1, h2] at hg; cases hg
  | some x =>
    cases h2 : b.Workers.list[w.toNat]? with
    | none => rw [h1, h2] at hg; cases hg
    | some y =>
      rw [h1, h2] at hg
      simp only [Option.map_some, Option.some.injEq] at hg
      have : x.State = y.State := by have := congrArg (fun t : TWorker => t.State) hg; exact this
      simp only [this]
theorem deadW_con {x y : TWorker} (h : x.con = y.con) : (deadW x).con = (deadW y).con := by
  have : x.Served = y.Served := by have := congrArg (fun t : TWorker => t.Served) h; exact this
  unfold deadW
  rw [this]
theorem crash_con {a b : TServer} (h : a.con = b.con) (w : Int) : (crash a w).con = (crash b w).con := by
  have qQ : a.Queue.list.map TJob.con = b.Queue.list.map TJob.con := congrArg (fun t : TServer => t.Queue.list) h
  have qS : a.Sessions.list = b.Sessions.list := sessCon (congrArg (fun t : TServer => t.Sessions.list) h)
  have qL : a.Lines.list.map TLine.con = b.Lines.list.map TLine.con := congrArg (fun t : TServer => t.Lines.list) h
  have qW : a.Workers.list.map TWorker.con = b.Workers.list.map TWorker.con := congrArg (fun t : TServer => t.Workers.list) h
  have cF : a.Files.con TFile.con = b.Files.con TFile.con := congrArg TServer.Files h
  have cL : a.Lines.con TLine.con = b.Lines.con TLine.con := congrArg TServer.Lines h
  have cS : a.Sessions.con TSession.con = b.Sessions.con TSession.con := congrArg TServer.Sessions h
  have cQ : a.Queue.con TJob.con = b.Queue.con TJob.con := congrArg TServer.Queue h
  have cD : a.Done.con TAnswer.con = b.Done.con TAnswer.con := congrArg TServer.Done h
  have cN : a.Next = b.Next := by have := congrArg (fun t : TServer => t.Next) h; exact this
  have cT : a.Now = b.Now := by have := congrArg (fun t : TServer => t.Now) h; exact this
  have hg : (a.Workers.list[w.toNat]?).map TWorker.con = (b.Workers.list[w.toNat]?).map TWorker.con := by
    have := congrArg (fun l : List TWorker => l[w.toNat]?) qW
    simpa only [List.getElem?_map] using this
  unfold crash
  rw [craOk_con h w]
  cases hb : craOk b w with
  | false => exact h
  | true =>
    cases h3 : a.Workers.list[w.toNat]? with
    | none =>
      cases h4 : b.Workers.list[w.toNat]? with
      | none => exact h
      | some y => rw [h3, h4] at hg; cases hg
    | some x =>
      cases h4 : b.Workers.list[w.toNat]? with
      | none => rw [h3, h4] at hg; cases hg
      | some y =>
        rw [h3, h4] at hg
        simp only [Option.map_some, Option.some.injEq] at hg
        have e1 : x.State = y.State := by have := congrArg (fun t : TWorker => t.State) hg; exact this
        have e2 : x.Files.list = y.Files.list := fileCon (by have := congrArg (fun t : TWorker => t.Files.list) hg; exact this)
        have e3 : x.Job.con = y.Job.con := by have := congrArg (fun t : TWorker => t.Job) hg; exact this
        have e4 : x.Job.Request.Path = y.Job.Request.Path := by have := congrArg (fun t : TJob => t.Request.Path) e3; exact this
        have e5 := deadW_con hg
        simp only
        rw [e1]
        split
        · have e6 := lockL_con w y.Files.list y.Job.Request.Path qL
          simp only [TServer.con, SL.con, SL.list_mk, List.map_cons, List.map_set, e2, e3, e4, e5, e6, qQ, qS, qW, cN, cT] at cF cD ⊢
          rw [cF, cD]
        · simp only [TServer.con, SL.con, SL.list_mk, List.map_set, e5, qW, cN, cT] at cF cL cS cQ cD ⊢
          rw [cF, cL, cS, cQ, cD]
theorem crash_no {s : TServer} {w : Int} (h : craOk s w = false) : crash s w = s := by
  unfold crash
  rw [h]
theorem szL_consX {α : Type} (f : α → Nat) (x : α) (l : List α) : szL f (x :: l) = f x + szL f l := by simp [szL]
theorem szL_setX {α : Type} (f : α → Nat) : ∀ (l : List α) (i : Nat) (z : α), szL f (l.set i z) ≤ szL f l + f z := by
  intro l
  induction l with
  | nil => intro i z; simp [szL]
  | cons x l ih =>
    intro i z
    cases i with
    | zero => simp [szL]; omega
    | succ i => have := ih i z; simp [szL] at this ⊢; omega
theorem szL_drop (w : Int) (l : List TSession) : szL TSession.sz (l.map (dropH w)) = szL TSession.sz l := by
  induction l with
  | nil => rfl
  | cons x l ih =>
    have e : (dropH w x).sz = x.sz := by unfold dropH; split <;> rfl
    simp [szL] at ih ⊢
    rw [ih, e]
theorem lockL_sz (w : Int) (fs : List TFile) (p : List UInt8) (l : List TLine) : szL TLine.sz (lockL w fs p l) ≤ szL TLine.sz l := by
  unfold lockL
  split
  · split
    · split
      · refine Nat.le_trans (szL_setX _ _ _ _) ?_
        simp [TLine.sz, szIntS]
      · exact Nat.le_refl _
    · exact Nat.le_refl _
  · exact Nat.le_refl _
theorem lockL_len (w : Int) (fs : List TFile) (p : List UInt8) (l : List TLine) : (lockL w fs p l).length = l.length := by
  unfold lockL
  split
  · split
    · split
      · simp
      · rfl
    · rfl
  · rfl
theorem crash_sz {s : TServer} {w : Int} (h : s.sz ≤ 1048576) : (crash s w).sz ≤ 16777216 := by
  unfold crash
  split
  · rename_i x h1 h2
    have hx := szL_mem (sz := TWorker.sz) (List.mem_of_getElem? h2)
    have c1 := szL_setX TWorker.sz s.Workers.list w.toNat (deadW x)
    have c2 : (deadW x).sz = 0 := rfl
    have c3 := lockL_sz w x.Files.list x.Job.Request.Path s.Lines.list
    have c4 := lockL_len w x.Files.list x.Job.Request.Path s.Lines.list
    have c5 : x.sz = x.Job.sz + x.Data.length + szFileS x.Files := rfl
    have c6 := szL_drop (w + 1) s.Sessions.list
    split
    · simp only [TServer.sz, szFileS, szLineS, szSessionS, szJobS, szWorkerS, szAnswerS, SL.list_mk, List.length_set, List.length_map, List.length_cons, szL_consX, c6, c4] at h c5 ⊢
      omega
    · simp only [TServer.sz, szFileS, szLineS, szSessionS, szJobS, szWorkerS, szAnswerS, SL.list_mk, List.length_set] at h c5 ⊢
      omega
  · omega
end A
end Go.Proofs.YtkcilmkienlnoaaGreatDoor

/-
  slices.Insert at []Job, one element ahead of all: walked in the model (its own text), and as0 a contract. No condition.
-/














namespace Go.Proofs.YtkcilmkienlnoaaGreatDoor
open Go.RowKit Go.Lib
namespace A
set_option linter.unusedVariables false
set_option linter.unusedSimpArgs false
set_option maxRecDepth 100000

theorem infoJobI : (Tryz.prog.info? 57).map (fun i => (i.zero, i.size, i.bytes)) = some (some (.agg #[.int .i64 0, .string ⟨#[]⟩, .slice none 0 0, .slice none 0 0, .string ⟨#[]⟩]), 5, 88) := by kernel_rfl
def zJobI : Value := .agg #[.int .i64 0, .string ⟨#[]⟩, .slice none 0 0, .slice none 0 0, .string ⟨#[]⟩]

/-- copy of rows of s cells. -/
theorem run_copy_w {P : Program} (w : World) (dT sT ty elem : TypeId) (s b o dLen dCap : Nat) (a : Addr) (sLen sCap : Nat) (cs : List Value)
    (hu : P.underlying dT = some (.slice elem)) (hs : (P.info? elem).map (·.size) = some s) (hn : cs.length = Nat.min sLen dLen * s)
    (hsrc : ∀ j v, cs[j]? = some v → w.cell? (a.add j) = some v) (hc : ∀ j, j < cs.length → (w.cell? ⟨b, o + j, none⟩).isSome = true) (hf : ∀ j, j < cs.length → w.frozen? ⟨b, o + j, none⟩ = false) (h1 : ∀ v ∈ cs, v.oneCell' = true) :
    (Builtin.copy_ #[dT, sT] ty #[.slice (some ⟨b, o, none⟩) dLen dCap, .slice (some a) sLen sCap]).run P w = .ok (goInt (Nat.min sLen dLen)) (w.setCells b o cs) := by
  have hl := run_loadCells_list (P := P) w a cs hsrc
  have hst := run_storeCells_cells (P := P) b o cs 0 w (by simpa using hc) (by simpa using hf) h1
  cases hq : P.info? elem with
  | none => simp [hq] at hs
  | some i =>
    have hi : i.size = s := by simpa [hq] using hs
    simp [Builtin.copy_, run_underlying hu, Builtin.lenOf, Builtin.firstCells, sizeOf, typeInfo, hq, hi, ← hn, hl, hst]

theorem wp_copy_runI {P : Program} (w : World) {o : Oper} {a : Act} {K : Act → World → Prop} {Q : Exit → Act → World → Prop} (d s : Operand) (t t' : TypeId)
    (ho : o.op = .call { callee := .builtin .copy, args := #[d, s], argTypes := #[t, t'] }) (v u : Value) (hd : a.eval d = v) (hs : a.eval s = u) {v' : Value} {w' : World}
    (hr : (Builtin.copy_ #[t, t'] o.type #[v, u]).run P w = .ok v' w') (h : K (a.put o.dst v') w') : o.wp P a w K Q := by
  unfold Oper.wp execOp
  simp only [ho, resolve, invoke, builtin, Sem.run_bind, Sem.run_pure, Result.andThen_ok, List.map_toArray, List.map_cons, List.map_nil, hd, hs, hr]
  exact h
theorem wpList_copy_runI {P : Program} (w : World) {ops : Array Oper} {rest : List Oper} {o : Oper} {a : Act} {Q : Exit → Act → World → Prop} (hgd : o.guard = none) (d s : Operand) (t t' : TypeId)
    (ho : o.op = .call { callee := .builtin .copy, args := #[d, s], argTypes := #[t, t'] }) (v u : Value) (hd : a.eval d = v) (hs : a.eval s = u) {v' : Value} {w' : World}
    (hr : (Builtin.copy_ #[t, t'] o.type #[v, u]).run P w = .ok v' w') (h : wpList P ops Q rest (a.put o.dst v') w') : wpList P ops Q (o :: rest) a w :=
  wpList_plain hgd fun _ hK => wp_copy_runI w d s t t' ho v u hd hs hr (hK _ _ h)
theorem step_copy_runI {P : Program} {ops : Array Oper} {o : Oper} {a : Act} {w : World} {K : Act → World → Prop} {Q : Exit → Act → World → Prop} {E : Prop}
    (hg : o.guard = none) (d x : Operand) (dT sT : TypeId) (hop : o.op = Op.call { callee := Callee.builtin Builtin.copy, args := #[d, x], argTypes := #[dT, sT] })
    (v u : Value) (hd : a.eval d = v) (hx : a.eval x = u) {v' : Value} {w' : World} (hr : (Builtin.copy_ #[dT, sT] o.type #[v, u]).run P w = .ok v' w') (hK : K (a.put o.dst v') w') :
    if Region.wanted o (yielded ops a.tmps) = true then Oper.wp P o a w K Q else E := by
  have hw : Region.wanted o (yielded ops a.tmps) = true := by simp [Region.wanted, hg]
  rw [if_pos hw]
  unfold Oper.wp
  simp [execOp, hop, resolve, invoke, builtin, hd, hx, hr, Result.andThen]
  exact hK
theorem isSome_setCells (b : Nat) (vs : List Value) (o : Nat) (w : World) (h : ∀ j, j < vs.length → (w.cell? ⟨b, o + j, none⟩).isSome = true) (k : Nat) (hk : (w.cell? ⟨b, k, none⟩).isSome = true) : ((w.setCells b o vs).cell? ⟨b, k, none⟩).isSome = true := by
  by_cases hin : o ≤ k ∧ k < o + vs.length
  · have := World.cell?_setCells_in b vs o w h (k - o) (by omega)
    rw [show o + (k - o) = k by omega] at this
    rw [this]; rfl
  · rw [World.cell?_setCells_out b vs o w ⟨b, k, none⟩ (fun _ _ => by show k < o ∨ o + vs.length ≤ k; omega)]
    exact hk

set_option maxHeartbeats 4000000 in
set_option maxRecDepth 1000000 in
/-- Room: in place. -/
theorem ins_shift (b n c vb vc : Nat) (cs vs : List Value) (w : World) (hi : 0 < n) (hroom : n + 1 ≤ c) (hc63 : c ≤ 9223372036854775807) (hvb : vb ≠ b)
    (hcl : cs.length = n * 5) (hvl : vs.length = 5)
    (hcs : ∀ j v, cs[j]? = some v → w.cell? ⟨b, j, none⟩ = some v) (hsp : ∀ j, j < (n + 1) * 5 → (w.cell? ⟨b, j, none⟩).isSome = true) (hfz : ∀ j, j < (n + 1) * 5 → w.frozen? ⟨b, j, none⟩ = false)
    (hvs : ∀ j v, vs[j]? = some v → w.cell? ⟨vb, j, none⟩ = some v) (h1c : ∀ v ∈ cs, v.oneCell' = true) (h1v : ∀ v ∈ vs, v.oneCell' = true)
    (tA tB : TypeId) (kA kB : Nat) (hsa : w.shape? vb = some (tA, kA)) (hsb : w.shape? b = some (tB, kB)) (hkB : kB ≠ 0) (hfa : w.frozen? ⟨vb, 0, none⟩ = false) (hfe : w.frozen? ⟨vb, kA, none⟩ = false) :
    Calls Tryz.prog 30 #[.slice (some ⟨b, 0, none⟩) n c, .int .i64 0, .slice (some ⟨vb, 0, none⟩) 1 vc] w fun e w' =>
      e = .returned (.slice (some ⟨b, 0, none⟩) (n + 1) c) ∧ w' = (w.drew.setCells b 5 cs).setCells b 0 vs := by
  have hz2 : ¬ ((0 : Int) = (n : Int)) := by omega
  have hw1 : IntKind.i64.wrap (1 : Int) = 1 := by decide
  have hw0 : (1 : Int).toNat = 1 := rfl
  have hb3 : (1 : Int) ≤ (n : Int) + 1 := by omega
  have hb6 : (0 : Int) ≤ (n : Int) + 1 := by omega
  have hsz : (Tryz.prog.info? 57).map (·.size) = some 5 := by
    obtain ⟨i0, hi0, h0, h1, h2⟩ := info_parts infoJobI
    rw [hi0]; simp [h1]
  have hov : ∀ lb cb, (callFunc 76 #[.slice (some ⟨vb, 0, none⟩) 1 vc, .slice (some ⟨b, 5, none⟩) lb cb]).run Tryz.prog w = .ok (.value (.bool false)) w := fun lb cb => by
    rw [run_callFunc_extern Tryz.func76 (by kernel_rfl) (by kernel_rfl) (by kernel_rfl) (e := Extern.SlicesOverlaps.overlaps #[34, 34] #[4]) (by kernel_rfl),
      Lib.run_overlaps_apart w 34 4 57 Tryz.underlying34 5 Tryz.sizeOf57 ⟨vb, 0, none⟩ ⟨b, 5, none⟩ 1 vc lb cb hvb tA tB kA kB hsa hsb hkB hfa hfe]
    rfl
  have mixed : Tryz.prog.follows Departure.mixedOrders = true := by kernel_rfl
  have hb2 : ¬ (c = 1) := by omega
  have hb4 : ¬ (c = 0) := by omega
  have hb5 : (n : Int) + 1 ≤ (c : Int) := by omega
  have hb7 : ¬ ((c : Int) < (n : Int) + 1) := by omega
  have hcp1 : ∀ ty dc sc, (Builtin.copy_ #[34, 34] ty #[.slice (some ⟨b, 5, none⟩) n dc, .slice (some ⟨b, 0, none⟩) (n + 1) sc]).run Tryz.prog w.drew = .ok (goInt (Nat.min (n + 1) n)) (w.drew.setCells b 5 cs) := fun ty dc sc =>
    run_copy_w w.drew _ _ ty 57 5 b 5 n dc ⟨b, 0, none⟩ (n + 1) sc cs Tryz.underlying34 hsz (by rw [hcl]; congr 1; simp only [Nat.min_def]; split <;> omega)
      (fun j v hj => by rw [Addr.add_lit, Nat.zero_add]; exact hcs j v hj)
      (fun j hj => hsp _ (by omega)) (fun j hj => hfz _ (by omega)) h1c
  obtain ⟨W1, hW1⟩ : ∃ W1, W1 = w.drew.setCells b 5 cs := ⟨_, rfl⟩
  have hsp1 : ∀ k, k < (n + 1) * 5 → (W1.cell? ⟨b, k, none⟩).isSome = true := fun k hk => by
    rw [hW1]
    exact isSome_setCells b cs 5 w.drew (fun j hj => hsp _ (by omega)) _ (hsp k hk)
  have hcp2 : ∀ (W : World), (∀ x, W.cell? x = W1.cell? x) → (∀ x, W.frozen? x = W1.frozen? x) → ∀ ty dc, (Builtin.copy_ #[34, 34] ty #[.slice (some ⟨b, 0, none⟩) (n + 1) dc, .slice (some ⟨vb, 0, none⟩) 1 vc]).run Tryz.prog W = .ok (goInt (Nat.min 1 (n + 1))) (W.setCells b 0 vs) := fun W hWc hWf ty dc =>
    run_copy_w W _ _ ty 57 5 b 0 (n + 1) dc ⟨vb, 0, none⟩ 1 vc vs Tryz.underlying34 hsz (by rw [hvl]; simp only [Nat.min_def]; split <;> omega)
      (fun j v hj => by
        rw [Addr.add_lit, hWc, hW1, World.cell?_setCells_out b _ _ _ _ (fun h _ => absurd h hvb), Nat.zero_add]
        exact hvs j v hj)
      (fun j hj => by rw [hWc, Nat.zero_add]; exact hsp1 _ (by omega)) (fun j hj => by rw [hWf, hW1, World.frozen?_setCells, Nat.zero_add]; exact hfz _ (by omega)) h1v
  rw [← hW1] at hcp1
  go_enter Tryz.func30, Tryz.ntmps30
  go_wp2_with (simp only [hov])
  go_region_law_o (refine step_copy_runI rfl _ _ 34 34 rfl _ _ (by simp [Act.eval, Act.put]) (by simp [Act.eval, Act.put]) (hcp1 _ _ _) ?_)
  go_wp2_with (at_builtin; refine wpList_copy_runI _ rfl _ _ 34 34 rfl _ _ rfl rfl (hcp2 _ (fun _ => rfl) (fun _ => rfl) _ _) ?_)
  go_ret
  first | exact ⟨rfl, rfl⟩ | exact ⟨rfl, by rw [hW1]⟩

set_option maxHeartbeats 4000000 in
set_option maxRecDepth 1000000 in
/-- No element, room: in place. -/
theorem ins_end_room (b c vb vc : Nat) (vs : List Value) (w : World) (hroom : 1 ≤ c) (hc63 : c ≤ 9223372036854775807)
    (hvl : vs.length = 5) (hsp : ∀ j, j < 5 → (w.cell? ⟨b, j, none⟩).isSome = true) (hfz : ∀ j, j < 5 → w.frozen? ⟨b, j, none⟩ = false)
    (hvs : ∀ j v, vs[j]? = some v → w.cell? ⟨vb, j, none⟩ = some v) (h1v : ∀ v ∈ vs, v.oneCell' = true) :
    Calls Tryz.prog 30 #[.slice (some ⟨b, 0, none⟩) 0 c, .int .i64 0, .slice (some ⟨vb, 0, none⟩) 1 vc] w fun e w' =>
      e = .returned (.slice (some ⟨b, 0, none⟩) 1 c) ∧ w' = w.setCells b 0 vs := by
  obtain ⟨i0, hi0, hz0, hzs, hzb⟩ := info_parts infoJobI
  have mixed : Tryz.prog.follows Departure.mixedOrders = true := by kernel_rfl
  have hsrc : Src Tryz.prog i0.size 34 (.slice (some ⟨vb, 0, none⟩) 1 vc) 1 vs w := by
    rw [hzs]
    exact Src.ofSlice w Tryz.underlying34 ⟨vb, 0, none⟩ 1 vc vs (by omega) (fun j u hj => by rw [Addr.add_lit, Nat.zero_add]; exact hvs j u hj) h1v
  have hrun : ∀ ty, (Builtin.append_ #[34, 34] ty #[.slice (some ⟨b, 0, none⟩) 0 c, .slice (some ⟨vb, 0, none⟩) 1 vc]).run Tryz.prog w = .ok (.slice (some ⟨b, 0, none⟩) 1 c) (w.setCells b 0 vs) := fun ty => by
    have := run_append_room_src w 34 34 ty 57 i0 Tryz.underlying34 hi0 b 0 0 c _ 1 vs hsrc (by omega) (fun j hj => by simpa using hsp j (by omega)) (fun j hj => by simpa using hfz j (by omega))
    simpa using this
  go_enter Tryz.func30, Tryz.ntmps30
  go_wp2_with (at_builtin; refine Lib.wpList_append_run _ rfl _ _ _ _ rfl _ _ rfl rfl _ _ (hrun _) ?_)
  go_ret
  exact ⟨rfl, rfl⟩

set_option maxHeartbeats 4000000 in
set_option maxRecDepth 1000000 in
/-- No element, no room: a new row. -/
theorem ins_end_grow (base : Option Addr) (vb vc : Nat) (vs : List Value) (w : World)
    (hvl : vs.length = 5) (hvs : ∀ j v, vs[j]? = some v → w.cell? ⟨vb, j, none⟩ = some v) (h1v : ∀ v ∈ vs, v.oneCell' = true) :
    Calls Tryz.prog 30 #[.slice base 0 0, .int .i64 0, .slice (some ⟨vb, 0, none⟩) 1 vc] w fun e w' =>
      e = .returned (.slice (some ⟨w.heap.size, 0, none⟩) 1 (grownCap w 1 0 57)) ∧
      w' = w.drew.alloc (.cells (vs.toArray ++ Builtin.zeroCells zJobI.cells (grownCap w 1 0 57 - 1)) 57) := by
  obtain ⟨i0, hi0, hz0, hzs, hzb⟩ := info_parts infoJobI
  have mixed : Tryz.prog.follows Departure.mixedOrders = true := by kernel_rfl
  have hsrc : Src Tryz.prog i0.size 34 (.slice (some ⟨vb, 0, none⟩) 1 vc) 1 vs w := by
    rw [hzs]
    exact Src.ofSlice w Tryz.underlying34 ⟨vb, 0, none⟩ 1 vc vs (by omega) (fun j u hj => by rw [Addr.add_lit, Nat.zero_add]; exact hvs j u hj) h1v
  have hold : (Builtin.firstCells i0.size 0 (.slice base 0 0)).run Tryz.prog w.drew = .ok ([] : List Value).toArray w.drew := by
    cases base with
    | none => exact run_firstCells_none w.drew _ 0 0 0
    | some a => exact run_firstCells_some w.drew _ 0 a 0 0 [] (by simp) (fun j v hj => by simp at hj)
  have hrun : ∀ ty, (Builtin.append_ #[34, 34] ty #[.slice base 0 0, .slice (some ⟨vb, 0, none⟩) 1 vc]).run Tryz.prog w = .ok (.slice (some ⟨w.heap.size, 0, none⟩) 1 (grownCap w 1 0 57)) (w.drew.alloc (.cells (vs.toArray ++ Builtin.zeroCells zJobI.cells (grownCap w 1 0 57 - 1)) 57)) := fun ty => by
    have := run_append_grow_src w 34 34 ty 57 i0 _ Tryz.underlying34 hi0 hz0 base 0 0 [] hold _ 1 vs hsrc (by omega) (by omega) (by rw [hzb]; exact growslice_fits (by omega) (by omega))
    simpa [zJobI] using this
  obtain ⟨G, hG⟩ : ∃ G, G = grownCap w 1 0 57 := ⟨_, rfl⟩
  obtain ⟨ROW, hROW⟩ : ∃ ROW : Array Value, ROW = vs.toArray ++ Builtin.zeroCells zJobI.cells (G - 1) := ⟨_, rfl⟩
  rw [← hG] at hrun ⊢
  rw [← hROW] at hrun ⊢
  clear hROW hG
  go_enter Tryz.func30, Tryz.ntmps30
  cases base with
  | none =>
    go_wp2_with (at_builtin; refine Lib.wpList_append_run _ rfl _ _ _ _ rfl _ _ rfl rfl _ _ (hrun _) ?_)
    go_ret
    exact ⟨rfl, rfl⟩
  | some a =>
    obtain ⟨ab, ao, asp⟩ := a
    go_wp2_with (at_builtin; refine Lib.wpList_append_run _ rfl _ _ _ _ rfl _ _ rfl rfl _ _ (hrun _) ?_)
    all_goals (go_ret; exact ⟨rfl, rfl⟩)

set_option maxHeartbeats 4000000 in
set_option maxRecDepth 1000000 in
/-- Elements, no room: a new row. -/
theorem ins_grow (b n vb vc : Nat) (cs vs : List Value) (w : World) (hi : 0 < n) (hbig : n ≤ 1048576)
    (hcl : cs.length = n * 5) (hvl : vs.length = 5)
    (hcs : ∀ j v, cs[j]? = some v → w.cell? ⟨b, j, none⟩ = some v)
    (hvs : ∀ j v, vs[j]? = some v → w.cell? ⟨vb, j, none⟩ = some v) (h1c : ∀ v ∈ cs, v.oneCell' = true) (h1v : ∀ v ∈ vs, v.oneCell' = true) :
    Calls Tryz.prog 30 #[.slice (some ⟨b, 0, none⟩) n n, .int .i64 0, .slice (some ⟨vb, 0, none⟩) 1 vc] w fun e w' =>
      ∃ G ROW, n + 1 ≤ G ∧ G ≤ 9223372036854775807 ∧ ROW.size = G * 5 ∧ e = .returned (.slice (some ⟨w.heap.size, 0, none⟩) (n + 1) G) ∧
      w' = (((w.alloc (.cells ROW 57)).drew.setCells w.heap.size 0 vs).drew).setCells w.heap.size 5 cs := by
  have hz2 : ¬ ((0 : Int) = (n : Int)) := by omega
  have hw1 : IntKind.i64.wrap (1 : Int) = 1 := by decide
  have hw0 : (1 : Int).toNat = 1 := rfl
  have hb3 : (1 : Int) ≤ (n : Int) + 1 := by omega
  have hb6 : (0 : Int) ≤ (n : Int) + 1 := by omega
  have hz3 : (n : Int) < (n : Int) + 1 := by omega
  have mixed : Tryz.prog.follows Departure.mixedOrders = true := by kernel_rfl
  obtain ⟨i0, hi0, hz0, hzs, hzb⟩ := info_parts infoJobI
  have hsz : (Tryz.prog.info? 57).map (·.size) = some 5 := by rw [hi0]; simp [hzs]
  have hbw : b < w.heap.size := block_lt_of_cell (hcs 0 _ (List.getElem?_eq_getElem (by omega)))
  have hvw : vb < w.heap.size := block_lt_of_cell (hvs 0 _ (List.getElem?_eq_getElem (by omega)))
  have hold : (Builtin.firstCells i0.size 0 (.slice (some ⟨b, 0, none⟩) 0 n)).run Tryz.prog w.drew = .ok ([] : List Value).toArray w.drew :=
    run_firstCells_some w.drew _ 0 ⟨b, 0, none⟩ 0 n [] (by simp) (fun j v hj => by simp at hj)
  have hrz : ∀ ty, (Builtin.append_ #[34, 3] ty #[.slice (some ⟨b, 0, none⟩) 0 n, .int .i64 ((n : Int) + 1)]).run Tryz.prog w =
      .ok (.slice (some ⟨w.heap.size, 0, none⟩) (n + 1) (grownCap w (n + 1) n 57)) (w.drew.alloc (.cells ((([] : List Value).toArray) ++ Builtin.zeroCells zJobI.cells (n + 1) ++ Builtin.zeroCells zJobI.cells (grownCap w (n + 1) n 57 - (n + 1))) 57)) := fun ty => by
    have h := Lib.run_append_grow_zeros w 34 3 ty 57 i0 _ .i64 .i64 Tryz.underlying34 Tryz.underlying3 hi0 hz0 (some ⟨b, 0, none⟩) 0 n [] hold (n + 1) (by omega) (by omega) (by omega) (by omega) (by rw [hzb]; omega) (by rw [hzb, Nat.zero_add]; exact growslice_fits (by omega) (by omega))
    rw [Nat.zero_add] at h
    exact h
  obtain ⟨G, hG⟩ : ∃ G, G = grownCap w (n + 1) n 57 := ⟨_, rfl⟩
  have hGn : n + 1 ≤ G := by rw [hG]; exact grownCap_ge w _ _ _
  have hG63 : G ≤ 9223372036854775807 := by
    have := grownCap_le_maxLen w (n + 1) n 57 (by unfold maxLen; omega)
    rw [← hG] at this
    unfold maxLen at this
    omega
  obtain ⟨ROW, hROW⟩ : ∃ ROW : Array Value, ROW = ([] : List Value).toArray ++ Builtin.zeroCells zJobI.cells (n + 1) ++ Builtin.zeroCells zJobI.cells (G - (n + 1)) := ⟨_, rfl⟩
  rw [← hG] at hrz
  rw [← hROW] at hrz
  have hRl : ROW.size = G * 5 := by
    rw [hROW]
    simp [Builtin.zeroCells, Value.cells, zJobI]
    omega
  obtain ⟨W1, hW1⟩ : ∃ W1, W1 = w.drew.alloc (.cells ROW 57) := ⟨_, rfl⟩
  rw [← hW1] at hrz
  have hN : ∀ j, j < (n + 1) * 5 → (W1.cell? ⟨w.heap.size, j, none⟩).isSome = true := fun j hj => by
    rw [hW1, World.cell?_alloc_at (w := w.drew) ROW _ w.heap.size j rfl, Array.getElem?_eq_getElem (by omega)]; rfl
  have hNf : ∀ j, W1.frozen? ⟨w.heap.size, j, none⟩ = false := fun j => by rw [hW1]; exact World.frozen?_alloc_at (w := w.drew) ROW _ w.heap.size j rfl
  have hOb : ∀ j v, w.cell? ⟨b, j, none⟩ = some v → W1.cell? ⟨b, j, none⟩ = some v := fun j v h => by rw [hW1, World.cell?_alloc_past (w := w.drew) _ b j hbw]; exact h
  have hOv : ∀ j v, w.cell? ⟨vb, j, none⟩ = some v → W1.cell? ⟨vb, j, none⟩ = some v := fun j v h => by rw [hW1, World.cell?_alloc_past (w := w.drew) _ vb j hvw]; exact h
  have hcpA : ∀ (W : World), (∀ x, W.cell? x = W1.cell? x) → (∀ x, W.frozen? x = W1.frozen? x) → ∀ ty dc, (Builtin.copy_ #[34, 34] ty #[.slice (some ⟨w.heap.size, 0, none⟩) (n + 1) dc, .slice (some ⟨vb, 0, none⟩) 1 vc]).run Tryz.prog W = .ok (goInt (Nat.min 1 (n + 1))) (W.setCells w.heap.size 0 vs) := fun W hWc hWf ty dc =>
    run_copy_w W _ _ ty 57 5 w.heap.size 0 (n + 1) dc ⟨vb, 0, none⟩ 1 vc vs Tryz.underlying34 hsz (by rw [hvl]; simp only [Nat.min_def]; split <;> omega)
      (fun j v hj => by rw [Addr.add_lit, hWc, Nat.zero_add]; exact hOv _ v (hvs j v hj))
      (fun j hj => by rw [hWc]; exact hN _ (by omega)) (fun j hj => by rw [hWf]; exact hNf _) h1v
  have hGi : ¬ (G = 0) := by omega
  have hGim : ¬ (G = 1) := by omega
  have hci : ¬ (n = 0) := by omega
  have hbN : b ≠ w.heap.size := by omega
  have hcpB : ∀ (W : World), (∀ x, W.cell? x = (W1.setCells w.heap.size 0 vs).cell? x) → (∀ x, W.frozen? x = (W1.setCells w.heap.size 0 vs).frozen? x) → ∀ ty dc sc, (Builtin.copy_ #[34, 34] ty #[.slice (some ⟨w.heap.size, 5, none⟩) n dc, .slice (some ⟨b, 0, none⟩) n sc]).run Tryz.prog W = .ok (goInt (Nat.min n n)) (W.setCells w.heap.size 5 cs) := fun W hWc hWf ty dc sc =>
    run_copy_w W _ _ ty 57 5 w.heap.size 5 n dc ⟨b, 0, none⟩ n sc cs Tryz.underlying34 hsz (by rw [hcl]; congr 1; simp only [Nat.min_def]; split <;> omega)
      (fun j v hj => by
        rw [Addr.add_lit, hWc, World.cell?_setCells_out _ _ _ _ _ (fun h _ => absurd h hbN), Nat.zero_add]
        exact hOb _ v (hcs j v hj))
      (fun j hj => by rw [hWc]; exact isSome_setCells _ vs 0 W1 (fun t ht => hN _ (by omega)) _ (hN _ (by omega)))
      (fun j hj => by rw [hWf, World.frozen?_setCells]; exact hNf _) h1c
  subst hW1
  have hE1 : ∀ x, ((w.alloc (.cells ROW 57)).drew).cell? x = (w.drew.alloc (.cells ROW 57)).cell? x := fun x => rfl
  have hE2 : ∀ x, ((w.alloc (.cells ROW 57)).drew).frozen? x = (w.drew.alloc (.cells ROW 57)).frozen? x := fun x => rfl
  have hF1 : ∀ x, (((w.alloc (.cells ROW 57)).drew.setCells w.heap.size 0 vs).drew).cell? x = ((w.drew.alloc (.cells ROW 57)).setCells w.heap.size 0 vs).cell? x := fun x => rfl
  have hF2 : ∀ x, (((w.alloc (.cells ROW 57)).drew.setCells w.heap.size 0 vs).drew).frozen? x = ((w.drew.alloc (.cells ROW 57)).setCells w.heap.size 0 vs).frozen? x := fun x => rfl
  clear hold hROW hG
  go_enter Tryz.func30, Tryz.ntmps30
  go_wp2_with (first
    | (at_builtin; refine Lib.wpList_append_run _ rfl _ _ _ _ rfl _ _ rfl rfl _ _ (hrz _) ?_)
    | (at_builtin; refine wpList_copy_runI _ rfl _ _ 34 34 rfl _ _ rfl rfl (hcpA _ hE1 hE2 _ _) ?_)
    | (at_builtin; refine wpList_copy_runI _ rfl _ _ 34 34 rfl _ _ rfl rfl (hcpB _ (fun _ => rfl) (fun _ => rfl) _ _ _) ?_))
  go_region_law_o (refine step_copy_runI rfl _ _ 34 34 rfl (.slice (some ⟨w.heap.size, 5, none⟩) n (G - 1)) (.slice (some ⟨b, 0, none⟩) n n) (by simp [Act.eval, Act.put]) (by simp [Act.eval, Act.put]) (hcpB _ hF1 hF2 3 (G - 1) n) ?_)
  go_wp2
  go_ret
  exact ⟨G, ROW, hGn, hG63, hRl, rfl, rfl⟩

theorem setCells_eq : ∀ (vs : List Value) (w : World) (x p : Nat) (c : Array Value) (t : TypeId) (fr : Nat × Nat), w.heap[x]? = some (.cells c t fr) → w.setCells x p vs = wset w x (.cells (putCells c p vs) t fr)
  | [], w, x, p, c, t, fr, hb => by
    show w = wset w x (.cells c t fr)
    have e : w.heap.setIfInBounds x (.cells c t fr) = w.heap := by
      apply Array.ext_getElem?
      intro i
      rw [Array.getElem?_setIfInBounds]
      by_cases h : x = i
      · subst h; rw [if_pos rfl, if_pos (lt_of_get hb), hb]
      · rw [if_neg h]
    unfold wset
    rw [e]
  | v :: r, w, x, p, c, t, fr, hb => by
    have h1 := setCell_eq (p := p) hb v
    show (w.setCell ⟨x, p, none⟩ v).setCells x (p + 1) r = _
    rw [h1, setCells_eq r (wset w x (.cells (c.setIfInBounds p v) t fr)) x (p + 1) (c.setIfInBounds p v) t fr (by rw [wset_get, if_pos rfl, if_pos (lt_of_get hb)]), wset_wset]
    rfl
/-- The rows of an object, cell by cell. -/
theorem obj_cells {G : Gh} {h : Array Obj} {t n : Nat} {rows : List (List AV)} (k : ObjOk G h ⟨false, t, 5, rows⟩) (hn : rows.length = n) :
    ∃ (c : Array Value) (e : TypeId) (fr : Nat × Nat) (vs : List Value), h[G.m t]? = some (.cells c e fr) ∧ (∀ i : Nat, i < c.size + 4 → ¬ (fr.1 ≤ i ∧ i < fr.2)) ∧ n * 5 ≤ c.size ∧ vs.length = n * 5 ∧ (∀ (j : Nat) (v : Value), vs[j]? = some v → c[j]? = some v) ∧ (∀ v, v ∈ vs → v.oneCell' = true) ∧
      (∀ (r : Nat) (row : List AV), rows[r]? = some row → row.length = 5) ∧ ∀ (r j : Nat) (row : List AV) (a : AV), rows[r]? = some row → row[j]? = some a → ∃ v, vs[r * 5 + j]? = some v ∧ a.cell = true ∧ Rep G h v a := by
  obtain ⟨c, e, fr, l1, l2, l3, l4, l5, l6⟩ := k.lies rfl
  simp only at l1 l2 l3 l4 l5 l6
  rw [hn] at l3
  have vget : ∀ k, k < n * 5 → ((List.range (n * 5)).map fun k => c.getD k undef)[k]? = c[k]? := by
    intro k hk
    rw [List.getElem?_map, List.getElem?_range hk]
    have : k < c.size := by omega
    simp [Array.getD_eq_getD_getElem?, Array.getElem?_eq_getElem this]
  have vlt : ∀ {k : Nat} {v : Value}, ((List.range (n * 5)).map fun k => c.getD k undef)[k]? = some v → k < n * 5 := fun h => by have := (List.getElem?_eq_some_iff.1 h).1; simpa using this
  refine ⟨c, e, fr, (List.range (n * 5)).map (fun k => c.getD k undef), l1, l2, l3, by simp, fun j v h => ?_, fun v hv => ?_, l5, fun r j row a hr ha => ?_⟩
  · rw [← vget j (vlt h)]; exact h
  · obtain ⟨k, hk⟩ := List.mem_iff_getElem?.1 hv
    have hkl := vlt hk
    rw [vget k hkl] at hk
    obtain ⟨f1, f2, f3⟩ := flat_div hkl
    have hrow : rows[k / 5]? = some (rows[k / 5]'(by omega)) := List.getElem?_eq_getElem (by omega)
    have hlr := l5 _ _ hrow
    have ha : (rows[k / 5]'(by omega))[k % 5]? = some ((rows[k / 5]'(by omega))[k % 5]'(by omega)) := List.getElem?_eq_getElem (by omega)
    obtain ⟨v', hv', hcl, hrep⟩ := l6 _ _ _ _ hrow ha
    rw [← f3] at hv'
    rw [hv'] at hk
    cases hk
    exact hrep.oneCell hcl
  · obtain ⟨v, hv, hcl, hrep⟩ := l6 r j row a hr ha
    refine ⟨v, ?_, hcl, hrep⟩
    have hrl := (List.getElem?_eq_some_iff.1 hr).1
    have hj : j < 5 := by rw [← l5 r row hr]; exact (List.getElem?_eq_some_iff.1 ha).1
    rw [vget _ (by omega)]; exact hv
/-- The new object: the row, then the rows. -/
theorem ins_obj {G : Gh} {h h' : Array Obj} {t u n b : Nat} {rows : List (List AV)} {row : List AV} {c2 : Array Value} {e : TypeId} {fr : Nat × Nat} {cs vs : List Value}
    (x : Ext1 G h (G.new b) h') (hb : h'[b]? = some (.cells c2 e fr)) (hf : ∀ i : Nat, i < c2.size + 4 → ¬ (fr.1 ≤ i ∧ i < fr.2)) (hs : (n + 1) * 5 ≤ c2.size) (hn : rows.length = n) (hnm : n + 1 ≤ mx)
    (hv : ∀ (j : Nat) (v : Value), vs[j]? = some v → c2[j]? = some v) (hc : ∀ (j : Nat) (v : Value), cs[j]? = some v → c2[5 + j]? = some v)
    (w1 : row.length = 5) (r1 : ∀ (j : Nat) (a : AV), row[j]? = some a → ∃ v, vs[j]? = some v ∧ a.cell = true ∧ Rep G h v a)
    (w2 : ∀ (r : Nat) (row : List AV), rows[r]? = some row → row.length = 5) (r2 : ∀ (r j : Nat) (row : List AV) (a : AV), rows[r]? = some row → row[j]? = some a → ∃ v, cs[r * 5 + j]? = some v ∧ a.cell = true ∧ Rep G h v a) :
    ObjOk (G.new b) h' ⟨false, G.c, 5, row :: rows⟩ := by
  refine ⟨by simp [Gh.new], fun _ => ⟨c2, e, fr, by simp [Gh.new, hb], hf, ?_, ?_, fun r rw_ hr => ?_, fun r j rw_ a hr ha => ?_⟩, fun h => by cases h⟩
  · show (row :: rows).length * 5 ≤ c2.size
    rw [List.length_cons, hn]; exact hs
  · show (row :: rows).length ≤ mx
    rw [List.length_cons, hn]; exact hnm
  · show rw_.length = 5
    cases r with
    | zero => simp at hr; rw [← hr]; exact w1
    | succ r => exact w2 r rw_ (by simpa using hr)
  · show ∃ v, c2[r * 5 + j]? = some v ∧ _
    cases r with
    | zero =>
      simp at hr
      subst hr
      obtain ⟨v, h1, h2, h3⟩ := r1 j a ha
      exact ⟨v, by rw [Nat.zero_mul, Nat.zero_add]; exact hv j v h1, h2, h3.ext x⟩
    | succ r =>
      obtain ⟨v, h1, h2, h3⟩ := r2 r j rw_ a (by simpa using hr) ha
      exact ⟨v, by rw [show (r + 1) * 5 + j = 5 + (r * 5 + j) by omega]; exact hc _ v h1, h2, h3.ext x⟩
theorem grow_one (w : World) : 1 ≤ grownCap w 1 0 57 ∧ grownCap w 1 0 57 ≤ mx :=
  ⟨grownCap_ge w _ _ _, by have := grownCap_le_maxLen w 1 0 57 (by unfold maxLen; omega); unfold maxLen at this; unfold mx; omega⟩
theorem arg3 {vs : Array Value} (h3 : vs.size = 3) : vs = #[vs.getD 0 undef, vs.getD 1 undef, vs.getD 2 undef] := by
  apply Array.ext
  · simp [h3]
  · intro k h1 h2
    match k, h1 with
    | 0, h1 => simp [Array.getD, h3]
    | 1, h1 => simp [Array.getD, h3]
    | 2, h1 => simp [Array.getD, h3]
    | k + 3, h1 => omega
theorem ref_inv {G : Gh} {h : Array Obj} {v : Value} {i t w len : Nat} (r : Rep G h v (.ref i t w len)) : ∃ (cap : Nat) (c : Array Value) (e : TypeId) (fr : Nat × Nat), v = .slice (some ⟨G.m t, 0, none⟩) len cap ∧ t < G.c ∧ h[G.m t]? = some (.cells c e fr) ∧ cap * w ≤ c.size ∧ len ≤ cap ∧ cap ≤ mx := by
  cases r with
  | ref hc hb h1 h2 h3 => exact ⟨_, _, _, _, rfl, hc, hb, h1, h2, h3⟩
theorem insJob_con {t u n c : Nat} {rows : List (List AV)} {row : List AV} (hn : rows.length = n) (hnb : n ≤ 1048576) :
    Con Tryz.prog 30 [.ref 0 t 5 n, .int .i64 0, .ref 1 u 5 1] [⟨false, t, 5, rows⟩, ⟨false, u, 5, [row]⟩] c fun r O _ => r = .ref 0 c 5 (n + 1) ∧ O = [⟨false, c, 5, row :: rows⟩, ⟨false, u, 5, [row]⟩] := by
  intro G w vs hc I hs hr
  have r0 := hr 0 _ rfl
  have r1 := hr 1 _ rfl
  have r2 := hr 2 _ rfl
  have hvs := arg3 hs
  generalize vs.getD 0 undef = v0 at r0 hvs
  generalize vs.getD 1 undef = v1 at r1 hvs
  generalize vs.getD 2 undef = v2 at r2 hvs
  subst hvs
  cases r1
  obtain ⟨vcap, ucs, ue, ufr, rfl, uc0, ub, u1, u2, u3⟩ := ref_inv r2
  obtain ⟨cap, cs0, e, fr, rfl, hc0, hb, h1, h2, h3⟩ := ref_inv r0
  subst hc
  have ho := I.obj _ List.mem_cons_self
  have hou := I.obj _ (List.mem_cons_of_mem _ List.mem_cons_self)
  obtain ⟨ca, e', fr', cl, a1, a2, a3, a4, a5, a6, a7, a8⟩ := obj_cells ho hn
  obtain ⟨cu, eu, fu, vl, b1, b2, b3, b4, b5, b6, b7, b8⟩ := obj_cells (n := 1) hou rfl
  rw [hb] at a1
  cases a1
  rw [ub] at b1
  cases b1
  have hne : G.m u ≠ G.m t := fun e => by
    have := I.inj u t (.inr (by simp [tags])) (.inr (by simp [tags])) e
    have nd := I.nodup
    subst this
    simp [tags] at nd
  have cget : ∀ (W : World) (b : Nat) (cc : Array Value) (e : TypeId) (fr : Nat × Nat) (k : Nat), W.heap[b]? = some (.cells cc e fr) → W.cell? ⟨b, k, none⟩ = cc[k]? := fun W b cc e fr k h => by simp [World.cell?, h]
  have w1 : row.length = 5 := b7 0 row rfl
  have r1 : ∀ (j : Nat) (a : AV), row[j]? = some a → ∃ v, vl[j]? = some v ∧ a.cell = true ∧ Rep G w.heap v a := fun j a ha => by
    have := b8 0 j row a rfl ha
    simpa using this
  have hnm : n + 1 ≤ mx := by unfold mx; omega
  have hvc : ∀ j v, vl[j]? = some v → w.cell? ⟨G.m u, j, none⟩ = some v := fun j v h => by rw [cget w _ _ _ _ _ ub]; exact b5 j v h
  have hcc : ∀ j v, cl[j]? = some v → w.cell? ⟨G.m t, j, none⟩ = some v := fun j v h => by rw [cget w _ _ _ _ _ hb]; exact a5 j v h
  by_cases hroom : n + 1 ≤ cap
  · -- in place
    have hcap : (n + 1) * 5 ≤ cs0.size := Nat.le_trans (Nat.mul_le_mul_right 5 hroom) h1
    have hbd : w.drew.heap[G.m t]? = some (.cells cs0 e fr) := hb
    have fin : ∀ w' : World, w'.heap = w.heap.setIfInBounds (G.m t) (.cells (putCells (putCells cs0 5 cl) 0 vl) e fr) → w'.os = w.os → w'.tape = w.tape → w'.output = w.output →
        ∃ v res H' G', Ending.returned (.slice (some ⟨G.m t, 0, none⟩) (n + 1) cap) = Ending.returned v ∧ (res = .ref 0 G.c 5 (n + 1) ∧ H' = [⟨false, G.c, 5, row :: rows⟩, ⟨false, u, 5, [row]⟩]) ∧ Ext G [⟨false, t, 5, rows⟩, ⟨false, u, 5, [row]⟩] w G' H' w' ∧ Inv G' H' w'.heap ∧ Rep G' w'.heap v res := by
      intro w' hw hos htp hout
      have hh : w'.heap[G.m t]? = some (.cells (putCells (putCells cs0 5 cl) 0 vl) e fr) := by rw [hw, Array.getElem?_setIfInBounds, if_pos rfl, if_pos (lt_of_get hb)]
      have sz2 : (putCells (putCells cs0 5 cl) 0 vl).size = cs0.size := by rw [putCells_size, putCells_size]
      have x0 : Ext1 G w.heap G w'.heap := by
        rw [hw]
        exact Ext1.write (fun v hF => I.nfz_m (mem_tags (o := ⟨false, t, 5, rows⟩) List.mem_cons_self) hF) fun _ _ _ hb' => by rw [hb] at hb'; cases hb'; exact ⟨_, _, rfl, sz2⟩
      have x1 := x0.trans (Ext1.new G _ (G.m t))
      have hob := ins_obj (t := t) (u := u) (n := n) (rows := rows) (row := row) (cs := cl) (vs := vl) x1 hh (by rw [sz2]; exact a2) (by rw [sz2]; exact hcap) hn hnm
        (fun j v h => by
          have hj : j < 5 := by have := (List.getElem?_eq_some_iff.1 h).1; omega
          have := putCells_in vl (putCells cs0 5 cl) 0 j v (by rw [putCells_size, b4]; omega) h
          rwa [Nat.zero_add] at this)
        (fun j v h => by
          rw [putCells_out _ _ _ _ (.inr (by omega))]
          exact putCells_in _ _ _ _ _ (by omega) h) w1 r1 a7 a8
      have hsz : w.heap.size ≤ w'.heap.size := by rw [hw]; simp
      have hfr : ∀ k, k ≠ G.m t → w'.heap[k]? = w.heap[k]? := fun k hk => by rw [hw]; exact Array.getElem?_setIfInBounds_ne (Ne.symm hk)
      refine ⟨_, .ref 0 G.c 5 (n + 1), _, G.new (G.m t), rfl, ⟨rfl, rfl⟩, Ext.grow (i := 0) (ob' := ⟨false, G.c, 5, row :: rows⟩) I rfl rfl (.inl rfl) x1 hos htp hout hsz fun k _ hk => hfr k hk, Inv.grow (i := 0) (ob' := ⟨false, G.c, 5, row :: rows⟩) I rfl rfl (lt_of_get hh) (.inl rfl) x1 (fun v hv hne2 => hfr _ fun e2 => hne2 (I.inj v t (.inr hv) (.inr (by simp [tags])) e2)) hsz hob, ?_⟩
      have hm : (G.new (G.m t)).m G.c = G.m t := by simp [Gh.new]
      have hrep : Rep (G.new (G.m t)) w'.heap (.slice (some ⟨(G.new (G.m t)).m G.c, 0, none⟩) (n + 1) cap) (.ref 0 G.c 5 (n + 1)) := .ref (by simp [Gh.new]) (by rw [hm]; exact hh) (by rw [sz2]; exact h1) hroom h3
      rwa [hm] at hrep
    rcases Nat.eq_zero_or_pos n with hz | hpos
    · subst hz
      have hcl : cl = [] := List.length_eq_zero_iff.1 (by omega)
      refine (ins_end_room (G.m t) cap (G.m u) vcap vl w hroom h3 b4 (fun j hj => ?_) (fun j hj => ?_) hvc b6).mono ?_
      · rw [cget w _ _ _ _ _ hb, Array.getElem?_eq_getElem (by omega)]; rfl
      · exact frozen_false hb (a2 j (by omega))
      · rintro en w' ⟨rfl, rfl⟩
        have e1 := setCells_eq vl w (G.m t) 0 cs0 e fr hb
        have := fin (w.setCells (G.m t) 0 vl) (by rw [e1, hcl]; rfl) (by rw [e1]; rfl) (by rw [e1]; rfl) (by rw [e1]; rfl)
        exact this
    · have e1 := setCells_eq cl w.drew (G.m t) 5 cs0 e fr hbd
      have hb1 : (w.drew.setCells (G.m t) 5 cl).heap[G.m t]? = some (.cells (putCells cs0 5 cl) e fr) := by rw [e1, wset_get, if_pos rfl, if_pos (lt_of_get hbd)]
      have e2 := setCells_eq vl _ (G.m t) 0 _ e fr hb1
      refine (ins_shift (G.m t) n cap (G.m u) vcap cl vl w hpos hroom h3 hne a4 b4 hcc (fun j hj => ?_) (fun j hj => ?_) hvc a6 b6 ue e ucs.size cs0.size (by simp [World.shape?, ub]) (by simp [World.shape?, hb]) (by omega) (frozen_false ub (b2 0 (by omega))) (frozen_false ub (b2 _ (by omega)))).mono ?_
      · rw [cget w _ _ _ _ _ hb, Array.getElem?_eq_getElem (by omega)]; rfl
      · exact frozen_false hb (a2 j (by omega))
      · rintro en w' ⟨rfl, rfl⟩
        have e3 : ((w.drew.setCells (G.m t) 5 cl).setCells (G.m t) 0 vl).heap = w.heap.setIfInBounds (G.m t) (.cells (putCells (putCells cs0 5 cl) 0 vl) e fr) := by
          rw [e2, e1, wset_wset]; rfl
        exact fin _ e3 (by rw [e2, e1]; rfl) (by rw [e2, e1]; rfl) (by rw [e2, e1]; rfl)
  · have hcap : cap = n := by omega
    subst hcap
    -- a new row
    have fin : ∀ (w' : World) (Gc : Nat) (c2 : Array Value), w'.heap = w.heap.push (.cells c2 57 (0, 0)) → w'.os = w.os → w'.tape = w.tape → w'.output = w.output → cap + 1 ≤ Gc → Gc ≤ mx → Gc * 5 ≤ c2.size →
        (∀ (j : Nat) (v : Value), vl[j]? = some v → c2[j]? = some v) → (∀ (j : Nat) (v : Value), cl[j]? = some v → c2[5 + j]? = some v) →
        ∃ v res H' G', Ending.returned (.slice (some ⟨w.heap.size, 0, none⟩) (cap + 1) Gc) = Ending.returned v ∧ (res = .ref 0 G.c 5 (cap + 1) ∧ H' = [⟨false, G.c, 5, row :: rows⟩, ⟨false, u, 5, [row]⟩]) ∧ Ext G [⟨false, t, 5, rows⟩, ⟨false, u, 5, [row]⟩] w G' H' w' ∧ Inv G' H' w'.heap ∧ Rep G' w'.heap v res := by
      intro w' Gc c2 hw hos htp hout hG1 hG2 hs2 hv2 hc2
      have hh : w'.heap[w.heap.size]? = some (.cells c2 57 (0, 0)) := by rw [hw]; simp
      have x1 : Ext1 G w.heap (G.new w.heap.size) w'.heap := by rw [hw]; exact Ext1.push I _ _
      have hob := ins_obj (t := t) (u := u) (n := cap) (rows := rows) (row := row) (cs := cl) (vs := vl) x1 hh (fun _ _ h => by omega) (Nat.le_trans (Nat.mul_le_mul_right 5 hG1) hs2) hn hnm hv2 hc2 w1 r1 a7 a8
      have hsz : w.heap.size ≤ w'.heap.size := by rw [hw]; simp
      have hfr : ∀ k, k < w.heap.size → w'.heap[k]? = w.heap[k]? := fun k hk => by rw [hw]; exact push_old hk
      refine ⟨_, .ref 0 G.c 5 (cap + 1), _, G.new w.heap.size, rfl, ⟨rfl, rfl⟩, Ext.grow (i := 0) (ob' := ⟨false, G.c, 5, row :: rows⟩) I rfl rfl (.inr (Nat.le_refl _)) x1 hos htp hout hsz fun k hk _ => hfr k hk, Inv.grow (i := 0) (ob' := ⟨false, G.c, 5, row :: rows⟩) I rfl rfl (lt_of_get hh) (.inr (Nat.le_refl _)) x1 (fun v hv _ => hfr _ (by obtain ⟨o', ho', rfl⟩ := of_mem_tags hv; exact (I.obj o' ho').block)) hsz hob, ?_⟩
      have hm : (G.new w.heap.size).m G.c = w.heap.size := by simp [Gh.new]
      have hrep : Rep (G.new w.heap.size) w'.heap (.slice (some ⟨(G.new w.heap.size).m G.c, 0, none⟩) (cap + 1) Gc) (.ref 0 G.c 5 (cap + 1)) := .ref (by simp [Gh.new]) (by rw [hm]; exact hh) hs2 hG1 hG2
      rwa [hm] at hrep
    rcases Nat.eq_zero_or_pos cap with hz | hpos
    · subst hz
      have hcl : cl = [] := List.length_eq_zero_iff.1 (by omega)
      refine (ins_end_grow (some ⟨G.m t, 0, none⟩) (G.m u) vcap vl w b4 hvc b6).mono ?_
      rintro en w' ⟨rfl, rfl⟩
      obtain ⟨q1, q2⟩ := grow_one w
      exact fin _ _ _ rfl rfl rfl rfl q1 q2 (by simp [b4, Builtin.zeroCells, zJobI, Value.cells]; omega) (fun j v h => by
        have hj := (List.getElem?_eq_some_iff.1 h).1
        rw [Array.getElem?_append_left (by simpa using hj)]; simpa using h) (fun j v h => by rw [hcl] at h; simp at h)
    · refine (ins_grow (G.m t) cap (G.m u) vcap cl vl w hpos hnb a4 b4 hcc hvc a6 b6).mono ?_
      rintro en w' ⟨Gc, ROW, g1, g2, g3, rfl, rfl⟩
      have hb0 : ((w.alloc (.cells ROW 57)).drew).heap[w.heap.size]? = some (.cells ROW 57 (0, 0)) := by show (w.heap.push _)[w.heap.size]? = _; simp
      have e1 := setCells_eq vl _ w.heap.size 0 _ _ _ hb0
      have hb1 : (((w.alloc (.cells ROW 57)).drew.setCells w.heap.size 0 vl).drew).heap[w.heap.size]? = some (.cells (putCells ROW 0 vl) 57 (0, 0)) := by
        show ((w.alloc (.cells ROW 57)).drew.setCells w.heap.size 0 vl).heap[w.heap.size]? = _
        rw [e1, wset_get, if_pos rfl, if_pos (lt_of_get hb0)]
      have e2 := setCells_eq cl _ w.heap.size 5 _ _ _ hb1
      refine fin _ Gc (putCells (putCells ROW 0 vl) 5 cl) ?_ ?_ ?_ ?_ g1 g2 (by rw [putCells_size, putCells_size]; omega) (fun j v h => ?_) (fun j v h => ?_)
      · rw [e2]
        show (((w.alloc (.cells ROW 57)).drew.setCells w.heap.size 0 vl).heap).setIfInBounds w.heap.size _ = _
        rw [e1]
        show (((w.heap.push _).setIfInBounds w.heap.size _).setIfInBounds w.heap.size _) = _
        apply Array.ext_getElem?
        intro k
        simp only [Array.getElem?_setIfInBounds, Array.getElem?_push, Array.size_push, Array.size_setIfInBounds]
        by_cases hk : w.heap.size = k
        · subst hk; simp
        · rw [if_neg hk, if_neg hk, if_neg (Ne.symm hk), if_neg (Ne.symm hk)]
      · rw [e2]; show ((w.alloc (.cells ROW 57)).drew.setCells w.heap.size 0 vl).os = _; rw [e1]; rfl
      · rw [e2]; show ((w.alloc (.cells ROW 57)).drew.setCells w.heap.size 0 vl).tape = _; rw [e1]; rfl
      · rw [e2]; show ((w.alloc (.cells ROW 57)).drew.setCells w.heap.size 0 vl).output = _; rw [e1]; rfl
      · have hj := (List.getElem?_eq_some_iff.1 h).1
        rw [putCells_out _ _ _ _ (.inl (by omega))]
        have := putCells_in vl ROW 0 j v (by omega) h
        rwa [Nat.zero_add] at this
      · exact putCells_in _ _ _ _ _ (by rw [putCells_size]; omega) h
theorem insJob_nil {u c : Nat} {row : List AV} :
    Con Tryz.prog 30 [.nsl, .int .i64 0, .ref 0 u 5 1] [⟨false, u, 5, [row]⟩] c fun r O _ => r = .ref 1 c 5 1 ∧ O = [⟨false, u, 5, [row]⟩, ⟨false, c, 5, [row]⟩] := by
  intro G w vs hc I hs hr
  have r0 := hr 0 _ rfl
  have r1 := hr 1 _ rfl
  have r2 := hr 2 _ rfl
  have hvs := arg3 hs
  generalize vs.getD 0 undef = v0 at r0 hvs
  generalize vs.getD 1 undef = v1 at r1 hvs
  generalize vs.getD 2 undef = v2 at r2 hvs
  subst hvs
  cases r1
  obtain ⟨vcap, ucs, ue, ufr, rfl, uc0, ub, u1, u2, u3⟩ := ref_inv r2
  cases r0
  subst hc
  have hou := I.obj _ List.mem_cons_self
  obtain ⟨cu, eu, fu, vl, b1, b2, b3, b4, b5, b6, b7, b8⟩ := obj_cells (n := 1) hou rfl
  rw [ub] at b1
  cases b1
  have hvc : ∀ j v, vl[j]? = some v → w.cell? ⟨G.m u, j, none⟩ = some v := fun j v h => by simp [World.cell?, ub]; exact b5 j v h
  refine (ins_end_grow none (G.m u) vcap vl w b4 hvc b6).mono ?_
  rintro en w' ⟨rfl, rfl⟩
  obtain ⟨q1, q2⟩ := grow_one w
  obtain ⟨x, I'⟩ := newObj_good (w := w.drew) I (cs := vl.toArray ++ Builtin.zeroCells zJobI.cells (grownCap w 1 0 57 - 1)) (e := 57) (wd := 5) (rows := [row]) (by simp [b4]) (by unfold mx; simp)
    (fun r row_ h => b7 r row_ h) (fun r j row_ a h ha => by
      obtain ⟨v, hv, hcl, hrp⟩ := b8 r j row_ a h ha
      have hj := (List.getElem?_eq_some_iff.1 hv).1
      exact ⟨v, by rw [Array.getElem?_append_left (by simpa using hj)]; simpa using hv, hcl, hrp⟩) (0, 0) (fun _ _ h => by omega)
  refine ⟨_, _, _, _, rfl, ⟨?_, rfl⟩, { x with }, I', ref_new (w := w.drew) (i := 1) (wd := 5) (len := 1) ?_ q1 q2⟩
  · rfl
  · simp [b4, Builtin.zeroCells, zJobI, Value.cells]; omega
end A
end Go.Proofs.YtkcilmkienlnoaaGreatDoor

/-
  FindFile of the program is the plain function. No condition.
-/

namespace Go.Proofs.YtkcilmkienlnoaaGreatDoor
namespace A
set_option linter.unusedVariables false
set_option linter.unusedSimpArgs false
set_option maxRecDepth 100000
theorem impl_findP {s : SL TFile} {p : List UInt8} (hn : s.list.length ≤ mx) (hp : p.length ≤ mx) : Fnc Tryz.prog 32 [s.av 3 TFile.enc, .str p] (.int .i64 (findP p s.list)) := by
  refine fn_of c32 (by simp [F32]) fun c => ?_
  unfold F32
  simp
  refine call_fn0 (impl_norm hp) (free_norm _ _) fun _ _ => ?_
  cases hq : normP p with
  | none =>
    simp [normA, hq]
    exact fin_plain ⟨by simp [findP, hq], rfl⟩
  | some q =>
    simp [normA, hq]
    refine loop_drop s.list.length (fun i e H c' => e 5 = .str q ∧ e 16 = s.av 3 TFile.enc ∧ e 17 = .int .i64 s.list.length ∧ e 18 = .int .i64 i ∧ findF q s.list 0 = findF q (s.list.drop i) i ∧ H = []) ⟨rfl, rfl, rfl, rfl, rfl, rfl⟩ ?_
    intro i e H c hi ⟨e5, e16, e17, e18, hf, hH⟩ N hN
    subst hH
    have hP : findP p s.list = findF q s.list 0 := by unfold findP; rw [hq]
    by_cases h : i < s.list.length
    · have hg : s.list[i]? = some s.list[i] := List.getElem?_eq_getElem h
      have hhit := fun e => findF_hit (id := q) h e
      have hmiss := fun e => findF_miss (id := q) h e
      have hstep : IntKind.i64.wrap ((i : Int) + 1) = ((i + 1 : Nat) : Int) := by rw [step64 hn h]; rfl
      generalize s.list[i] = x at hg hhit hmiss
      by_cases hx : x.Path = q
      · simp [e5, e16, e17, e18, h, getW_of hg, hx, putA]
        exact fin_plain ⟨by rw [hP, hf, hhit hx], rfl⟩
      · simp [e5, e16, e17, e18, h, getW_of hg, hx, hstep, putA]
        exact hN _ _ _ _ h (List.nil_sublist _) ⟨by simp [upd, e5], by simp [upd, e16], by simp [upd, e17], by simp [upd], by rw [hf, hmiss hx], rfl⟩
    · have hie : i = s.list.length := by omega
      subst hie
      simp [e5, e16, e17, e18]
      exact fin_plain ⟨by rw [hP, hf, List.drop_length]; rfl, rfl⟩
end A
end Go.Proofs.YtkcilmkienlnoaaGreatDoor
