import Derived.Shelf.Strings.OnBuilder
import Derived.Shelf.LaysM
import Derived.Shelf.Strings.Split
import Derived.Test.YtknpgemlpbclkaaGreatDoorProg
import Derived.Below
import Derived.Handed
import Derived.Test.YtknpgemlpbclkaaGreatDoorB09

/-
  Library contracts at this program, laid by the kit's tool (lay-shelf, lay-plain). No condition.
-/




namespace Go.Proofs
open Go.Shelf
def Tryz.lays156_ren : Go.Shelf.Ren := ⟨fun | 156 => 149 | 165 => 159 | 166 => 160 | 169 => 161 | 240 => 166 | 241 => 167 | 276 => 171 | 277 => 172 | n => n, fun | 31 => 183 | 9 => 9 | 3 => 3 | 4 => 4 | 0 => 0 | 20 => 20 | 72 => 194 | 76 => 198 | 70 => 192 | 37 => 182 | 75 => 197 | 127 => 206 | 164 => 209 | 5 => 5 | 80 => 200 | n => n, fun | n => n⟩
theorem Tryz.lays156 : Go.Proofs.Lays.n156 Tryz.prog Tryz.lays156_ren := {
  mixed := by kernel_rfl
  f156 := Tryz.func149.trans (congrArg some (by kernel_rfl))
  f165 := Tryz.func159.trans (congrArg some (by kernel_rfl))
  f166 := Tryz.func160.trans (congrArg some (by kernel_rfl))
  f169 := Tryz.func161.trans (congrArg some (by kernel_rfl))
  f240 := Tryz.func166.trans (congrArg some (by kernel_rfl))
  f241 := Tryz.func167.trans (congrArg some (by kernel_rfl))
  f276 := Tryz.func171.trans (congrArg some (by kernel_rfl))
  f277 := Tryz.func172.trans (congrArg some (by kernel_rfl))
  t0 := Tryz.underlying0
  a0 := Tryz.isAgg0
  z0 := Tryz.sizeOf0
  v0 := Tryz.zeroValue0
  t3 := Tryz.underlying3
  a3 := Tryz.isAgg3
  z3 := Tryz.sizeOf3
  v3 := Tryz.zeroValue3
  t4 := Tryz.underlying4
  a4 := Tryz.isAgg4
  z4 := Tryz.sizeOf4
  v4 := Tryz.zeroValue4
  t9 := Tryz.underlying9
  a9 := Tryz.isAgg9
  z9 := Tryz.sizeOf9
  v9 := Tryz.zeroValue9
  t20 := Tryz.underlying20
  a20 := Tryz.isAgg20
  z20 := Tryz.sizeOf20
  v20 := Tryz.zeroValue20
  t31 := Tryz.underlying183
  a31 := Tryz.isAgg183
  z31 := Tryz.sizeOf183
  v31 := Tryz.zeroValue183
  t37 := Tryz.underlying182
  a37 := Tryz.isAgg182
  z37 := Tryz.sizeOf182
  v37 := Tryz.zeroValue182
  t70 := Tryz.underlying192
  a70 := Tryz.isAgg192
  z70 := Tryz.sizeOf192
  v70 := Tryz.zeroValue192
  t72 := Tryz.underlying194
  a72 := Tryz.isAgg194
  z72 := Tryz.sizeOf194
  v72 := Tryz.zeroValue194
  t75 := Tryz.underlying197
  a75 := Tryz.isAgg197
  z75 := Tryz.sizeOf197
  v75 := Tryz.zeroValue197
  t76 := Tryz.underlying198
  a76 := Tryz.isAgg198
  z76 := Tryz.sizeOf198
  v76 := Tryz.zeroValue198
  t127 := Tryz.underlying206
  a127 := Tryz.isAgg206
  z127 := Tryz.sizeOf206
  v127 := Tryz.zeroValue206
  t164 := Tryz.underlying209
  a164 := Tryz.isAgg209
  z164 := Tryz.sizeOf209
  v164 := Tryz.zeroValue209 }
theorem Tryz.Builder_Extra_156 : Builder.Extra Tryz.prog Tryz.lays156_ren := {
  sizeBuilder := by kernel_rfl
  liesBuilder := by kernel_rfl
  t5 := Tryz.underlying5
  a5 := Tryz.isAgg5
  z5 := Tryz.sizeOf5
  v5 := Tryz.zeroValue5
  infoByte := by kernel_rfl
  cellsByte := by kernel_rfl
  sizeByte := by kernel_rfl
  neB5 := by decide }
open Go.RowKit in
theorem Tryz.strings_Join_none (a : Option Addr) (c : Nat) (sep : ByteArray) (w : World) :
    Calls Tryz.prog 149 #[.slice a 0 c, .string sep] w fun e w' => e = .returned (.string ⟨#[]⟩) ∧ w' = w := Any.strings_Join_none Tryz.lays156 Tryz.Builder_Extra_156 a c sep w
open Go.RowKit in
theorem Tryz.strings_Join (bk o c : Nat) (xs : List ByteArray) (sep : ByteArray) (w : World) (hcells : ∀ (j : Nat) x, xs[j]? = some x → w.cell? ⟨bk, o + j, none⟩ = some (.string x)) (hbk : bk < w.heap.size) (hN : xs.length ≤ 140737488355328) (hcap : xs.length ≤ c) (hlen : (Lib.join (xs.map (·.data.toList)) sep.data.toList).length ≤ 140737488355328) :
    Calls Tryz.prog 149 #[.slice (some ⟨bk, o, none⟩) xs.length c, .string sep] w fun e w' => e = .returned (.string ⟨(Lib.join (xs.map (·.data.toList)) sep.data.toList).toArray⟩) ∧ Below w.heap.size w w' := Any.strings_Join Tryz.lays156 Tryz.Builder_Extra_156 bk o c xs sep w hcells hbk hN hcap hlen
def Tryz.lays146_ren : Go.Shelf.Ren := ⟨fun | 146 => 157 | 221 => 165 | 268 => 168 | 138 => 169 | 143 => 170 | 195 => 173 | 197 => 174 | 218 => 175 | 219 => 176 | 260 => 177 | 217 => 178 | 225 => 179 | 224 => 180 | 267 => 181 | 266 => 182 | 314 => 183 | n => n, fun | 9 => 9 | 31 => 183 | 3 => 3 | 4 => 4 | 0 => 0 | 105 => 212 | 21 => 21 | 5 => 5 | 46 => 216 | 119 => 217 | 139 => 220 | 138 => 219 | 146 => 222 | 51 => 221 | n => n, fun | 1 => 0 | 3 => 1 | 4 => 2 | n => n⟩
theorem Tryz.lays146 : Go.Proofs.Lays.n146 Tryz.prog Tryz.lays146_ren := {
  mixed := by kernel_rfl
  f138 := Tryz.func169.trans (congrArg some (by kernel_rfl))
  f143 := Tryz.func170.trans (congrArg some (by kernel_rfl))
  f146 := Tryz.func157.trans (congrArg some (by kernel_rfl))
  f195 := Tryz.func173.trans (congrArg some (by kernel_rfl))
  f197 := Tryz.func174.trans (congrArg some (by kernel_rfl))
  f217 := Tryz.func178.trans (congrArg some (by kernel_rfl))
  f218 := Tryz.func175.trans (congrArg some (by kernel_rfl))
  f219 := Tryz.func176.trans (congrArg some (by kernel_rfl))
  f221 := Tryz.func165.trans (congrArg some (by kernel_rfl))
  f224 := Tryz.func180.trans (congrArg some (by kernel_rfl))
  f225 := Tryz.func179.trans (congrArg some (by kernel_rfl))
  f260 := Tryz.func177.trans (congrArg some (by kernel_rfl))
  f266 := Tryz.func182.trans (congrArg some (by kernel_rfl))
  f267 := Tryz.func181.trans (congrArg some (by kernel_rfl))
  f268 := Tryz.func168.trans (congrArg some (by kernel_rfl))
  f314 := Tryz.func183.trans (congrArg some (by kernel_rfl))
  t0 := Tryz.underlying0
  a0 := Tryz.isAgg0
  z0 := Tryz.sizeOf0
  v0 := Tryz.zeroValue0
  t3 := Tryz.underlying3
  a3 := Tryz.isAgg3
  z3 := Tryz.sizeOf3
  v3 := Tryz.zeroValue3
  t4 := Tryz.underlying4
  a4 := Tryz.isAgg4
  z4 := Tryz.sizeOf4
  v4 := Tryz.zeroValue4
  t5 := Tryz.underlying5
  a5 := Tryz.isAgg5
  z5 := Tryz.sizeOf5
  v5 := Tryz.zeroValue5
  t9 := Tryz.underlying9
  a9 := Tryz.isAgg9
  z9 := Tryz.sizeOf9
  v9 := Tryz.zeroValue9
  t21 := Tryz.underlying21
  a21 := Tryz.isAgg21
  z21 := Tryz.sizeOf21
  v21 := Tryz.zeroValue21
  t31 := Tryz.underlying183
  a31 := Tryz.isAgg183
  z31 := Tryz.sizeOf183
  v31 := Tryz.zeroValue183
  t46 := Tryz.underlying216
  a46 := Tryz.isAgg216
  z46 := Tryz.sizeOf216
  v46 := Tryz.zeroValue216
  t51 := Tryz.underlying221
  a51 := Tryz.isAgg221
  z51 := Tryz.sizeOf221
  v51 := Tryz.zeroValue221
  t105 := Tryz.underlying212
  a105 := Tryz.isAgg212
  z105 := Tryz.sizeOf212
  v105 := Tryz.zeroValue212
  t119 := Tryz.underlying217
  a119 := Tryz.isAgg217
  z119 := Tryz.sizeOf217
  t138 := Tryz.underlying219
  a138 := Tryz.isAgg219
  z138 := Tryz.sizeOf219
  v138 := Tryz.zeroValue219
  t139 := Tryz.underlying220
  a139 := Tryz.isAgg220
  z139 := Tryz.sizeOf220
  v139 := Tryz.zeroValue220
  t146 := Tryz.underlying222
  a146 := Tryz.isAgg222
  z146 := Tryz.sizeOf222
  v146 := Tryz.zeroValue222
  g1 := by kernel_rfl
  g3 := by kernel_rfl
  g4 := by kernel_rfl }
open Go.RowKit Go.Lib in
theorem Tryz.strings_Split (s sep : ByteArray) (m : Int) (w : World) (hs : s.size < 4294967281) (hm : w.cell? ⟨0, 0, none⟩ = some (.int .i64 m)) (h1 : 1 ≤ sep.size) :
    Calls Tryz.prog 157 #[.string s, .string sep] w fun e w' =>
      e = .returned (.slice (some ⟨w.heap.size, 0, none⟩) (Lib.countB s sep + 1) (Lib.countB s sep + 1)) ∧ w' = w.alloc (.cells ((Lib.splitB sep 0 (Lib.countB s sep) s).map Value.string).toArray 9) := Any.strings_Split Tryz.lays146 (by kernel_rfl) s sep m w hs hm h1
def Tryz.laysM146_ren : Go.Shelf.Ren := ⟨fun | 146 => 157 | 221 => 165 | 268 => 168 | 138 => 169 | 143 => 170 | 195 => 173 | 197 => 174 | 218 => 175 | 219 => 176 | 260 => 177 | 217 => 178 | 225 => 179 | 224 => 180 | 267 => 181 | 266 => 182 | 314 => 183 | n => n, fun | 9 => 9 | 31 => 183 | 3 => 3 | 4 => 4 | 0 => 0 | 105 => 212 | 21 => 21 | 5 => 5 | 46 => 216 | 119 => 217 | 139 => 220 | 138 => 219 | 146 => 222 | 51 => 221 | n => n, fun | 1 => 0 | 3 => 1 | 4 => 2 | n => n⟩
theorem Tryz.laysM146 : Go.Proofs.LaysM.n146 Tryz.prog Tryz.laysM146_ren := {
  mixed := by kernel_rfl
  f138 := Tryz.func169.trans (congrArg some (by kernel_rfl))
  f143 := Tryz.func170.trans (congrArg some (by kernel_rfl))
  f146 := Tryz.func157.trans (congrArg some (by kernel_rfl))
  f195 := Tryz.func173.trans (congrArg some (by kernel_rfl))
  f197 := Tryz.func174.trans (congrArg some (by kernel_rfl))
  f217 := Tryz.func178.trans (congrArg some (by kernel_rfl))
  f218 := Tryz.func175.trans (congrArg some (by kernel_rfl))
  f219 := Tryz.func176.trans (congrArg some (by kernel_rfl))
  f221 := Tryz.func165.trans (congrArg some (by kernel_rfl))
  f224 := Tryz.func180.trans (congrArg some (by kernel_rfl))
  f225 := Tryz.func179.trans (congrArg some (by kernel_rfl))
  f260 := Tryz.func177.trans (congrArg some (by kernel_rfl))
  f266 := Tryz.func182.trans (congrArg some (by kernel_rfl))
  f267 := Tryz.func181.trans (congrArg some (by kernel_rfl))
  f268 := Tryz.func168.trans (congrArg some (by kernel_rfl))
  f314 := Tryz.func183.trans (congrArg some (by kernel_rfl))
  t0 := Tryz.underlying0
  a0 := Tryz.isAgg0
  z0 := Tryz.sizeOf0
  v0 := Tryz.zeroValue0
  t3 := Tryz.underlying3
  a3 := Tryz.isAgg3
  z3 := Tryz.sizeOf3
  v3 := Tryz.zeroValue3
  t4 := Tryz.underlying4
  a4 := Tryz.isAgg4
  z4 := Tryz.sizeOf4
  v4 := Tryz.zeroValue4
  t5 := Tryz.underlying5
  a5 := Tryz.isAgg5
  z5 := Tryz.sizeOf5
  v5 := Tryz.zeroValue5
  t9 := Tryz.underlying9
  a9 := Tryz.isAgg9
  z9 := Tryz.sizeOf9
  v9 := Tryz.zeroValue9
  t21 := Tryz.underlying21
  a21 := Tryz.isAgg21
  z21 := Tryz.sizeOf21
  v21 := Tryz.zeroValue21
  t31 := Tryz.underlying183
  a31 := Tryz.isAgg183
  z31 := Tryz.sizeOf183
  v31 := Tryz.zeroValue183
  t46 := Tryz.underlying216
  a46 := Tryz.isAgg216
  z46 := Tryz.sizeOf216
  v46 := Tryz.zeroValue216
  t51 := Tryz.underlying221
  a51 := Tryz.isAgg221
  z51 := Tryz.sizeOf221
  v51 := Tryz.zeroValue221
  t105 := Tryz.underlying212
  a105 := Tryz.isAgg212
  z105 := Tryz.sizeOf212
  v105 := Tryz.zeroValue212
  t119 := Tryz.underlying217
  a119 := Tryz.isAgg217
  z119 := Tryz.sizeOf217
  t138 := Tryz.underlying219
  a138 := Tryz.isAgg219
  z138 := Tryz.sizeOf219
  v138 := Tryz.zeroValue219
  t139 := Tryz.underlying220
  a139 := Tryz.isAgg220
  z139 := Tryz.sizeOf220
  v139 := Tryz.zeroValue220
  t146 := Tryz.underlying222
  a146 := Tryz.isAgg222
  z146 := Tryz.sizeOf222
  v146 := Tryz.zeroValue222
  g1 := by kernel_rfl
  g3 := by kernel_rfl
  g4 := by kernel_rfl
  i0 := by kernel_rfl
  i3 := by kernel_rfl
  i4 := by kernel_rfl
  i5 := by kernel_rfl
  i9 := by kernel_rfl
  i21 := by kernel_rfl
  i31 := by kernel_rfl
  i46 := by kernel_rfl
  i51 := by kernel_rfl
  i105 := by kernel_rfl
  i138 := by kernel_rfl
  i139 := by kernel_rfl
  i146 := by kernel_rfl
  m1 := by kernel_rfl
  s1_3 := fun w h => Go.Proofs.cell_of_shapedOpen_int (zero := #[.int .i64 0]) (t := 3) h (of_decide_eq_true (by kernel_rfl)) (by kernel_rfl) rfl (by kernel_rfl) (by kernel_rfl) Tryz.underlying3
  m3 := by kernel_rfl
  m4 := by kernel_rfl }
end Go.Proofs

/-
  A library contract as0 a contract of the small language. No condition.
-/


namespace Go.Proofs.YtknpgemlpbclkaaGreatDoor
namespace A
set_option linter.unusedVariables false
set_option linter.unusedSimpArgs false
open Go.RowKit

/-- A function that leaves what lay below as0 it was. -/
theorem con_below {P : Program} {f : Nat} {args : List AV} {H : List AObj} {c : Nat} {res : AV} {Q : AV → List AObj → Nat → Prop}
    (h : ∀ (G : Gh) (w : World) (vs : Array Value), G.c = c → Inv G H w.heap → vs.size = args.length → (∀ (j : Nat) (a : AV), args[j]? = some a → Rep G w.heap (vs.getD j undef) a) →
      Calls P f vs w fun e w' => ∃ v, e = .returned v ∧ Below w.heap.size w w' ∧ Rep G w.heap v res) (hq : Q res H c) : Con P f args H c Q := by
  intro G w vs hc I hs hr
  subst hc
  refine (h G w vs rfl I hs hr).mono fun e w' ⟨v, he, hb, hv⟩ => ?_
  have hx : Ext1 G w.heap G w'.heap :=
    ⟨Nat.le_refl _, fun _ _ => rfl, fun _ _ x => x, fun t ht hF => hb.block _ (I.fz t hF).2, fun b c e fr hbb => ⟨c, fr, by
      rw [hb.block b (by
        rcases Nat.lt_or_ge b w.heap.size with h1 | h1
        · exact h1
        · rw [Array.getElem?_eq_none h1] at hbb; cases hbb), hbb], rfl⟩⟩
  refine ⟨v, res, H, G, he, hq, ⟨hx, hb.os, hb.tape, hb.output, hb.size, fun b hbl _ => hb.block b hbl, fun t h1 h2 => absurd h2 (by omega), fun _ _ h => h, fun _ _ h => .inl h⟩, ?_, hv.ext hx⟩
  exact ⟨fun t hF => ⟨(I.fz t hF).1, Nat.lt_of_lt_of_le (I.fz t hF).2 hb.size⟩, fun o ho => (I.obj o ho).ext hx (hb.block _ (I.obj o ho).block), I.nfz, I.nodup, I.inj, I.gl.ext hx⟩

end A
end Go.Proofs.YtknpgemlpbclkaaGreatDoor

/-
  Library functions on strings as0 functions of the small language. No condition.
-/



namespace Go.Proofs.YtknpgemlpbclkaaGreatDoor
namespace A
set_option linter.unusedVariables false
set_option linter.unusedSimpArgs false
set_option maxRecDepth 100000
open Go.RowKit

theorem max_cell {G : Gh} {H : List AObj} {w : World} (I : Inv G H w.heap) : ∃ m, w.cell? ⟨0, 0, none⟩ = some (.int .i64 m) := by
  obtain ⟨_, _, hm, hg⟩ := I.gl 0 (by decide)
  obtain ⟨c, t, fr, m, ho, hc⟩ := hg
  exact ⟨m, by unfold World.cell?; simp only [ho]; exact hc⟩
theorem below_drew {w : World} : ∀ n, Below w.heap.size w (w.drewN n)
  | 0 => Below.refl _ _
  | n + 1 => by
    have := below_drew (w := w) n
    unfold World.drewN
    exact ⟨this.os, this.tape, this.output, this.size, this.block⟩
theorem split_con {l sep : List UInt8} (hl : l.length < 4294967281) (hs : sep ≠ []) (c : Nat) :
    Con Tryz.prog 157 [.str l, .str sep] [] c fun r O _ => r = .ref 0 c 1 (Lib.split l sep).length ∧ O = [⟨false, c, 1, (Lib.split l sep).map encS⟩] := by
  intro G w vs hc I hsz hr
  subst hc
  obtain ⟨v0, v1, rfl⟩ : ∃ v0 v1, vs = #[v0, v1] := by
    match vs, hsz with
    | ⟨[a, b]⟩, _ => exact ⟨a, b, rfl⟩
  have h0 := hr 0 _ rfl
  have h1 := hr 1 _ rfl
  simp at h0 h1
  obtain ⟨m, hm⟩ := max_cell I
  cases h0 with
  | @str s _ e hl0 =>
  cases h1 with
  | @str t _ e1 hl1 =>
  have hsl : s.size = l.length := by rw [Lib.size_eq, e]
  have hsz : s.size < 4294967281 := by omega
  have hts : 1 ≤ t.size := by
    rw [Lib.size_eq, e1]
    exact Nat.one_le_iff_ne_zero.2 fun h => hs (List.length_eq_zero_iff.1 h)
  have key := Tryz.strings_Split s t m w hsz hm hts
  have hdat : (Lib.splitB t 0 (Lib.countB s t) s).map (·.data.toList) = Lib.split l sep := by
    rw [Lib.splitB_data, e, e1]
    show _ = Lib.splitK sep 0 (Lib.count l sep) l
    unfold Lib.countB
    rw [e, e1]
  have hlen : (Lib.splitB t 0 (Lib.countB s t) s).length = Lib.countB s t + 1 := Lib.splitB_all t hts 0 _ s rfl
  have hlen2 : (Lib.split l sep).length = Lib.countB s t + 1 := by rw [← hlen, ← hdat, List.length_map]
  have hcle : Lib.countB s t + 1 ≤ s.size + 2 := by
    have := Lib.count_le s.data.toList t.data.toList
    rw [← Lib.size_eq] at this
    show Lib.count _ _ + 1 ≤ _
    omega
  generalize hps : Lib.splitB t 0 (Lib.countB s t) s = ps at key hdat hlen
  have hsmall : ∀ x, x ∈ Lib.split l sep → x.length ≤ mx := by
    have : ∀ (k : Nat) (l : List UInt8), ∀ x, x ∈ Lib.splitK sep 0 k l → x.length ≤ l.length := by
      intro k
      induction k with
      | zero => intro l x hx; simp [Lib.splitK] at hx; rw [hx]; exact Nat.le_refl _
      | succ k ih =>
        intro l x hx
        unfold Lib.splitK at hx
        split at hx
        · simp at hx; rw [hx]; exact Nat.le_refl _
        · rcases List.mem_cons.1 hx with rfl | hx
          · simp; omega
          · have := ih _ x hx; simp at this; omega
    intro x hx
    have := this _ _ x hx
    unfold mx; omega
  have hget : ∀ (r : Nat) (x : List UInt8), (Lib.split l sep)[r]? = some x → ∃ y : ByteArray, ps[r]? = some y ∧ y.data.toList = x := fun r x h => by
    rw [← hdat, List.getElem?_map, Option.map_eq_some_iff] at h
    exact h
  obtain ⟨x, I'⟩ := newObj_good I (cs := (ps.map Value.string).toArray) (e := 9) (wd := 1) (rows := (Lib.split l sep).map encS) (by simp [hlen, hlen2]) (by simp; unfold mx; omega)
    (fun r row h => by
      rw [List.getElem?_map, Option.map_eq_some_iff] at h
      obtain ⟨y, _, rfl⟩ := h; rfl)
    (fun r j row a h ha => by
      rw [List.getElem?_map, Option.map_eq_some_iff] at h
      obtain ⟨y, hy, rfl⟩ := h
      obtain ⟨z, hz, e2⟩ := hget r y hy
      match j, ha with
      | 0, ha =>
        simp [encS] at ha
        subst ha
        refine ⟨.string z, by simp [hz], rfl, .str e2 (hsmall _ (List.mem_of_getElem? hy))⟩)
    (0, 0) (fun _ _ h => by omega)
  refine key.mono fun e w' ⟨he, hw⟩ => ?_
  subst hw
  refine ⟨_, .ref 0 G.c 1 (Lib.split l sep).length, _, _, he, ⟨rfl, rfl⟩, x, I', ?_⟩
  have hm' : (G.new w.heap.size).m G.c = w.heap.size := by simp [Gh.new]
  have hb : (w.alloc (.cells (ps.map Value.string).toArray 9)).heap[(G.new w.heap.size).m G.c]? = some (.cells (ps.map Value.string).toArray 9 (0, 0)) := by rw [hm']; show (w.heap.push _)[w.heap.size]? = _; simp
  have hR := Rep.ref (G := G.new w.heap.size) (i := 0) (tag := G.c) (w := 1) (len := Lib.countB s t + 1) (cap := Lib.countB s t + 1) (by simp [Gh.new]) hb (by simp; omega) (Nat.le_refl _) (by unfold mx; omega)
  rw [hm'] at hR
  rw [hlen2]; exact hR
theorem encS_flat : Flat encS := fun x a ha => by
  simp [encS] at ha
  subst ha; exact ⟨rfl, free_str _⟩
theorem split_tr {l sep : List UInt8} (hl : l.length < 4294967281) (hs : sep ≠ []) :
    Tr Tryz.prog 157 [.str l, .str sep] fun _ r => ∃ b : SL (List UInt8), r = b.av 1 encS ∧ b.list = Lib.split l sep :=
  flat_tr encS_flat fun c => (split_con hl hs c).mono fun r O c' _ ⟨h1, h2⟩ => ⟨.mk c (Lib.split l sep), h1, by rw [h2, flat_wood], rfl⟩
theorem splitK_len (sep : List UInt8) : ∀ (k : Nat) (l : List UInt8), (Lib.splitK sep 0 k l).length ≤ k + 1 ∧ ∀ x, x ∈ Lib.splitK sep 0 k l → x.length ≤ l.length := by
  intro k
  induction k with
  | zero => intro l; refine ⟨by simp [Lib.splitK], fun x hx => ?_⟩; simp [Lib.splitK] at hx; rw [hx]; exact Nat.le_refl _
  | succ k ih =>
    intro l
    unfold Lib.splitK
    split
    · exact ⟨by simp, fun x hx => by simp at hx; rw [hx]; exact Nat.le_refl _⟩
    · refine ⟨by have := (ih (l.drop ((Lib.index l sep).toNat + sep.length))).1; simp; omega, fun x hx => ?_⟩
      rcases List.mem_cons.1 hx with rfl | hx
      · simp; omega
      · have := (ih _).2 x hx; simp at this; omega
theorem split_len (l sep : List UInt8) : (Lib.split l sep).length ≤ l.length + 2 := by
  have h1 := (splitK_len sep (Lib.count l sep) l).1
  have h2 := Lib.count_le l sep
  unfold Lib.split; omega
theorem split_mem {l sep x : List UInt8} (hx : x ∈ Lib.split l sep) : x.length ≤ l.length := (splitK_len sep _ l).2 x hx
end A
end Go.Proofs.YtknpgemlpbclkaaGreatDoor

/-
  strings.Join as0 a function of the small language. No condition.
-/



namespace Go.Proofs.YtknpgemlpbclkaaGreatDoor
namespace A
set_option linter.unusedVariables false
set_option linter.unusedSimpArgs false
open Go.RowKit

def joinL (sep : List UInt8) (l : List (List UInt8)) : List UInt8 := Lib.join l sep
theorem joinL_nil (sep : List UInt8) : joinL sep [] = [] := rfl
theorem joinL_snoc (sep x : List UInt8) (l : List (List UInt8)) : joinL sep (l ++ [x]) = (if 0 < l.length then joinL sep l ++ sep else []) ++ x := by
  cases l with
  | nil => simp [joinL, Lib.join_one]
  | cons a l => simp [joinL, Lib.join_cons, Lib.joinTail]
theorem joinL_len {sep : List UInt8} (hs : sep.length ≤ 2) (l : List (List UInt8)) : (joinL sep l).length ≤ szL (fun x => x.length + 2) l := by
  cases l with
  | nil => simp [joinL_nil, szL]
  | cons a l =>
    have : (Lib.joinTail sep l).length ≤ szL (fun x => x.length + 2) l := by
      induction l with
      | nil => simp [Lib.joinTail, szL]
      | cons b l ih => simp [Lib.joinTail, szL] at ih ⊢; omega
    simp [joinL, Lib.join_cons, szL] at this ⊢; omega
theorem join_fn {t : Nat} {l : List (List UInt8)} {sep : List UInt8} (hl : (joinL sep l).length ≤ 140737488355328) (hn : l.length ≤ 140737488355328) :
    Fnc Tryz.prog 149 [.slc t 1 (l.map encS), .str sep] (.str (joinL sep l)) := by
  intro c
  refine con_below (res := .str (joinL sep l)) (fun G w vs hc I hs hr => ?_) ⟨rfl, rfl⟩
  obtain ⟨v0, v1, rfl⟩ : ∃ v0 v1, vs = #[v0, v1] := by
    match vs, hs with
    | ⟨[a, b]⟩, _ => exact ⟨a, b, rfl⟩
  have h0 := hr 0 _ rfl
  have h1 := hr 1 _ rfl
  simp at h0 h1
  have hres : Rep G w.heap (.string ⟨(joinL sep l).toArray⟩) (.str (joinL sep l)) := .str (by simp) (by unfold mx; omega)
  cases h1 with
  | @str s _ e hl1 =>
  generalize hrows : l.map encS = rows at h0
  cases h0 with
  | slc0 =>
    have : l = [] := by simpa using hrows
    subst this
    exact (Tryz.strings_Join_none _ _ _ _).mono fun e w' ⟨h1, h2⟩ => ⟨_, h1, h2 ▸ Below.refl _ _, hres⟩
  | @slc _ _ off cap _ f hF hc' hlen hcap hw hcell hcl hrep =>
    subst hrows
    have hx : ∀ (j : Nat) (x : List UInt8), l[j]? = some x → ∃ s : ByteArray, f j 0 = .string s ∧ s.data.toList = x := fun j x hj => by
      have h2 := hrep j 0 (encS x) (.str x) (by simp [hj]) rfl
      cases hf : f j 0 <;> rw [hf] at h2 <;> cases h2
      exact ⟨_, rfl, by assumption⟩
    have hcells : ∀ (j : Nat) (x : ByteArray), (l.map fun x => (⟨x.toArray⟩ : ByteArray))[j]? = some x → w.cell? ⟨G.m t, _ + j, none⟩ = some (.string x) := fun j x hj => by
      rw [List.getElem?_map, Option.map_eq_some_iff] at hj
      obtain ⟨y, hy, rfl⟩ := hj
      obtain ⟨s', hs', e'⟩ := hx j y hy
      have hc2 := hcell j 0 (encS y) (.str y) (by simp [hy]) rfl
      rw [cell?_eq]
      simp only [Nat.mul_one, Nat.add_zero] at hc2
      rw [hc2, hs']
      subst e'
      simp
    have key := Tryz.strings_Join _ _ _ _ s w hcells (I.fz t hF).2 (by simp; omega) (by simpa using hcap) (by simp [Function.comp_def, e]; exact hl)
    have key2 : Calls Tryz.prog 149 #[.slice (some ⟨G.m t, off, none⟩) (l.map encS).length cap, .string s] w fun e w' => e = .returned (.string ⟨(joinL sep l).toArray⟩) ∧ Below w.heap.size w w' := by
      simpa [Function.comp_def, e, joinL] using key
    exact key2.mono fun e w' ⟨h1, h2⟩ => ⟨_, h1, h2, hres⟩
theorem join_nil_fn (sep : List UInt8) : Fnc Tryz.prog 149 [.nsl, .str sep] (.str (joinL sep [])) := by
  intro c
  refine con_below (res := .str (joinL sep [])) (fun G w vs hc I hs hr => ?_) ⟨rfl, rfl⟩
  obtain ⟨v0, v1, rfl⟩ : ∃ v0 v1, vs = #[v0, v1] := by
    match vs, hs with
    | ⟨[a, b]⟩, _ => exact ⟨a, b, rfl⟩
  have h0 := hr 0 _ rfl
  have h1 := hr 1 _ rfl
  simp at h0 h1
  have hres : Rep G w.heap (.string ⟨(joinL sep []).toArray⟩) (.str (joinL sep [])) := .str (by simp) (by simp [joinL_nil])
  cases h0
  cases h1 with
  | @str s _ e hl1 =>
  exact (Tryz.strings_Join_none _ _ _ _).mono fun e w' ⟨h1, h2⟩ => ⟨_, h1, h2 ▸ Below.refl _ _, hres⟩
end A
end Go.Proofs.YtknpgemlpbclkaaGreatDoor

/-
  Paths, brought into their plain form by the reference and by the program: the same plain function. No condition.
-/




namespace Go.Proofs.YtknpgemlpbclkaaGreatDoor
namespace A
set_option linter.unusedVariables false
set_option linter.unusedSimpArgs false
set_option maxRecDepth 100000

/-! ### the plain function -/
def pC (b : UInt8) : Bool := isA b || isD b || decide (b.toNat = 95) || decide (b.toNat = 45) || decide (b.toNat = 46)
def pPart (l : List UInt8) : Bool := l.all pC && decide (l.length ≤ 20)
def pstep (o : List (List UInt8)) (x : List UInt8) : Option (List (List UInt8)) :=
  if x = [] ∨ x = [46] then some o else if x = [46, 46] then (if o = [] then none else some o.dropLast) else if pPart x then some (o ++ [x]) else none
def pfold : List (List UInt8) → List (List UInt8) → Option (List (List UInt8))
  | o, [] => some o
  | o, x :: r => (pstep o x).bind fun o' => pfold o' r
def splitP (l : List UInt8) : Option (List (List UInt8)) := pfold [] (Lib.split l [47])
def normP (l : List UInt8) : Option (List UInt8) := if 400 < l.length then none else (splitP l).bind fun o => if inR (joinL [47] o).length 1 60 then some (joinL [47] o) else none
def isN (l : List UInt8) : Bool := decide (normP l = some l)
theorem pstep_ok {o o' : List (List UInt8)} {x : List UInt8} (h : pstep o x = some o') (ho : ∀ y, y ∈ o → pPart y = true) : (∀ y, y ∈ o' → pPart y = true) ∧ o'.length ≤ o.length + 1 := by
  unfold pstep at h
  split at h
  · cases h; exact ⟨ho, by omega⟩
  · split at h
    · split at h
      · cases h
      · cases h; exact ⟨fun y hy => ho y ((List.dropLast_sublist o).subset hy), by simp; omega⟩
    · split at h
      · cases h
        refine ⟨fun y hy => ?_, by simp⟩
        rcases List.mem_append.1 hy with hy | hy
        · exact ho y hy
        · simp at hy; subst hy; assumption
      · cases h
theorem pfold_ok : ∀ {r o o' : List (List UInt8)}, pfold o r = some o' → (∀ y, y ∈ o → pPart y = true) → (∀ y, y ∈ o' → pPart y = true) ∧ o'.length ≤ o.length + r.length
  | [], o, o', h, ho => by simp [pfold] at h; subst h; exact ⟨ho, by simp⟩
  | x :: r, o, o', h, ho => by
    simp only [pfold] at h
    cases hp : pstep o x with
    | none => rw [hp] at h; cases h
    | some o1 =>
      rw [hp] at h
      obtain ⟨h1, h2⟩ := pstep_ok hp ho
      obtain ⟨h3, h4⟩ := pfold_ok h h1
      exact ⟨h3, by simp; omega⟩
theorem pPart_len {l : List UInt8} (h : pPart l = true) : l.length ≤ 20 := by
  simp only [pPart, Bool.and_eq_true, decide_eq_true_eq] at h; exact h.2
theorem splitP_ok {l : List UInt8} {o : List (List UInt8)} (h : splitP l = some o) : (∀ y, y ∈ o → pPart y = true) ∧ o.length ≤ l.length + 2 := by
  obtain ⟨h1, h2⟩ := pfold_ok h (by simp)
  have := split_len l [47]
  exact ⟨h1, by simp at h2; omega⟩
theorem szL_mul {α : Type} (f : α → Nat) (k : Nat) : ∀ (l : List α), (∀ x, x ∈ l → f x ≤ k) → szL f l ≤ k * l.length
  | [], _ => by simp [szL]
  | x :: l, h => by
    have := szL_mul f k l fun y hy => h y (List.mem_cons_of_mem _ hy)
    have hx := h x (List.mem_cons_self ..)
    simp [szL, Nat.mul_add] at this ⊢; omega
theorem join_short {l : List UInt8} {o : List (List UInt8)} (h : splitP l = some o) (i : Nat) : (joinL [47] (o.take i)).length ≤ 22 * (l.length + 2) := by
  obtain ⟨h1, h2⟩ := splitP_ok h
  have h3 := joinL_len (sep := [47]) (by simp) (o.take i)
  have h4 := szL_mul (fun x : List UInt8 => x.length + 2) 22 (o.take i) fun x hx => by have := pPart_len (h1 x (List.mem_of_mem_take hx)); omega
  have h5 : (o.take i).length ≤ o.length := by simp; omega
  have h6 : 22 * (o.take i).length ≤ 22 * (l.length + 2) := Nat.mul_le_mul_left _ (by omega)
  omega

/-! ### a part -/
theorem spec_part {l : List UInt8} (hl : l.length ≤ mx) : Fnc Tryz.prog 155 [.str l] (.bool (l.all pC && inR l.length 1 20)) := by
  refine fn_of c155 (by simp [F155]) fun c => ?_
  unfold F155
  simp
  refine loop_drop l.length (fun i e H c' => e 0 = .str l ∧ e 3 = .int .i64 i ∧ (l.take i).all pC = true ∧ H = []) ⟨rfl, rfl, by simp, rfl⟩ ?_
  intro i e H c hi ⟨e0, e3, ha, hH⟩ N hN
  subst hH
  by_cases h : i < l.length
  · have hb : l[i]? = some l[i] := List.getElem?_eq_getElem h
    have bad : pC l[i] = false → (l.all pC && inR l.length 1 20) = false := fun hb => by
      have : l.all pC = false := by rw [List.all_eq_false]; exact ⟨_, List.getElem_mem h, by simp [hb]⟩
      rw [this]; rfl
    have good : pC l[i] = true → (l.take (i + 1)).all pC = true := fun hx => all_step ha h hx
    have hstep : IntKind.i64.wrap ((i : Int) + 1) = ((i + 1 : Nat) : Int) := by rw [step64 hl h]; rfl
    generalize l[i] = b at hb bad good
    have hLA := isL_A b
    have hpc : pC b = (isL b || isD b || decide (b.toNat = 45) || decide (b.toNat = 46)) := by
      rw [hLA]; unfold pC; cases isA b <;> cases isD b <;> cases decide (b.toNat = 95) <;> rfl
    simp [e0, e3, h, getW_of hb]
    refine call_fn0 (letter_fn b) .bool fun _ _ => ?_
    cases hL : isL b
    · simp [e0, e3, h, getW_of hb]
      refine call_fn0 (digit_fn b) .bool fun _ _ => ?_
      cases hD : isD b
      · by_cases h45 : b.toNat = 45
        · have k45 : (b.toNat : Int) = 45 := by omega
          simp [e0, e3, h, getW_of hb, k45, hstep]
          exact hN _ _ _ _ h (List.Sublist.refl _) ⟨by simp [upd, e0], by simp [upd], good (by simp [hpc, h45]), rfl⟩
        · have k45 : ¬ (b.toNat : Int) = 45 := by omega
          by_cases h46 : b.toNat = 46
          · have k46 : (b.toNat : Int) = 46 := by omega
            simp [e0, e3, h, getW_of hb, k45, k46, hstep]
            exact hN _ _ _ _ h (List.Sublist.refl _) ⟨by simp [upd, e0], by simp [upd], good (by simp [hpc, h46]), rfl⟩
          · have k46 : ¬ (b.toNat : Int) = 46 := by omega
            simp [e0, e3, h, getW_of hb, k45, k46, hstep]
            exact fin_plain ⟨by rw [bad (by simp [hpc, hL, hD, h45, h46])], rfl⟩
      · simp [e0, e3, h, getW_of hb, hstep]
        exact hN _ _ _ _ h (List.Sublist.refl _) ⟨by simp [upd, e0], by simp [upd], good (by simp [hpc, hD]), rfl⟩
    · simp [e0, e3, h, getW_of hb, hstep]
      exact hN _ _ _ _ h (List.Sublist.refl _) ⟨by simp [upd, e0], by simp [upd], good (by simp [hpc, hL]), rfl⟩
  · have h1 : i = l.length := by omega
    subst h1
    rw [List.take_length] at ha
    simp [e0, e3]
    refine call_fn0 (l1In_fn _ _ _) .bool fun _ _ => ?_
    simp
    exact fin_plain ⟨by simp [ha], rfl⟩
theorem impl_part {l : List UInt8} (hl : l.length ≤ mx) : Fnc Tryz.prog 158 [.str l] (.bool (pPart l)) := by
  refine fn_of c158 (by simp [F158]) fun c => ?_
  unfold F158
  simp
  refine loop_drop l.length (fun i e H c' => e 0 = .str l ∧ e 3 = .int .i64 i ∧ (l.take i).all pC = true ∧ H = []) ⟨rfl, rfl, by simp, rfl⟩ ?_
  intro i e H c hi ⟨e0, e3, ha, hH⟩ N hN
  subst hH
  by_cases h : i < l.length
  · have hb : l[i]? = some l[i] := List.getElem?_eq_getElem h
    have bad : pC l[i] = false → pPart l = false := fun hb => by
      have : l.all pC = false := by rw [List.all_eq_false]; exact ⟨_, List.getElem_mem h, by simp [hb]⟩
      unfold pPart; rw [this]; rfl
    have good : pC l[i] = true → (l.take (i + 1)).all pC = true := fun hx => all_step ha h hx
    have hstep : IntKind.i64.wrap ((i : Int) + 1) = ((i + 1 : Nat) : Int) := by rw [step64 hl h]; rfl
    generalize l[i] = b at hb bad good
    simp [e0, e3, h, getW_of hb]
    refine call_fn0 (isLetter_fn b) .bool fun _ _ => ?_
    cases hL : isA b
    · simp [e0, e3, h, getW_of hb]
      refine call_fn0 (isDigit_fn b) .bool fun _ _ => ?_
      cases hD : isD b
      · by_cases h95 : b.toNat = 95
        · have k95 : (b.toNat : Int) = 95 := by omega
          simp [e0, e3, h, getW_of hb, k95, hstep]
          exact hN _ _ _ _ h (List.Sublist.refl _) ⟨by simp [upd, e0], by simp [upd], good (by simp [pC, h95]), rfl⟩
        have k95 : ¬ (b.toNat : Int) = 95 := by omega
        by_cases h45 : b.toNat = 45
        · have k45 : (b.toNat : Int) = 45 := by omega
          simp [e0, e3, h, getW_of hb, k45, k95, hstep]
          exact hN _ _ _ _ h (List.Sublist.refl _) ⟨by simp [upd, e0], by simp [upd], good (by simp [pC, h45]), rfl⟩
        · have k45 : ¬ (b.toNat : Int) = 45 := by omega
          by_cases h46 : b.toNat = 46
          · have k46 : (b.toNat : Int) = 46 := by omega
            simp [e0, e3, h, getW_of hb, k45, k46, k95, hstep]
            exact hN _ _ _ _ h (List.Sublist.refl _) ⟨by simp [upd, e0], by simp [upd], good (by simp [pC, h46]), rfl⟩
          · have k46 : ¬ (b.toNat : Int) = 46 := by omega
            simp [e0, e3, h, getW_of hb, k45, k46, k95, hstep]
            exact fin_plain ⟨by rw [bad (by simp [pC, hL, hD, h45, h46, h95])], rfl⟩
      · simp [e0, e3, h, getW_of hb, hstep]
        exact hN _ _ _ _ h (List.Sublist.refl _) ⟨by simp [upd, e0], by simp [upd], good (by simp [pC, hD]), rfl⟩
    · simp [e0, e3, h, getW_of hb, hstep]
      exact hN _ _ _ _ h (List.Sublist.refl _) ⟨by simp [upd, e0], by simp [upd], good (by simp [pC, hL]), rfl⟩
  · have h1 : i = l.length := by omega
    subst h1
    rw [List.take_length] at ha
    have k : ((l.length : Int) ≤ 20) = (l.length ≤ 20) := by simp only [eq_iff_iff]; omega
    simp [e0, e3]
    exact fin_plain ⟨by simp [pPart, ha, k], rfl⟩

/-! ### the parts -/
def SplQ (l : List UInt8) (r : AV) (O : List AObj) : Prop :=
  (splitP l = none ∧ r = .tup [.nsl, .bool false] ∧ O = []) ∨
  ∃ (t : Nat) (rows : List (List AV)), r = .tup [.ref 0 t 1 ((splitP l).getD []).length, .bool (splitP l).isSome] ∧ O = [⟨false, t, 1, rows⟩] ∧ rows.take ((splitP l).getD []).length = ((splitP l).getD []).map encS
theorem cut_le {rows : List (List AV)} {o : List (List UInt8)} (h : rows.take o.length = o.map encS) : o.length ≤ rows.length := by
  have := congrArg List.length h
  simp at this; omega
theorem cut_view {i t : Nat} {rows : List (List AV)} {o : List (List UInt8)} {S : List AObj} (h : rows.take o.length = o.map encS) (hS : (⟨false, t, 1, rows⟩ : AObj) ∈ S) : View S (.ref i t 1 o.length) ((SL.mk t o).av 1 encS) := by
  have hx : ∀ (r : Nat) (x' : List AV), (o.map encS)[r]? = some x' → rows[r]? = some x' := fun r x' hr => by
    have hlt : r < o.length := by have := (List.getElem?_eq_some_iff.1 hr).1; simpa using this
    rw [← h, List.getElem?_take_of_lt hlt] at hr; exact hr
  refine .ref hS (cut_le h) (by simp) (fun r x x' h1 h2 => ?_) (fun r j x a h1 h2 => ?_) fun r j x x' a a' h1 h2 h3 h4 => ?_
  · rw [hx r x' h2] at h1; cases h1; rfl
  · obtain ⟨y, _, rfl⟩ := List.mem_map.1 (List.mem_of_getElem? h1)
    exact (encS_flat y a (List.mem_of_getElem? h2)).1
  · rw [hx r x' h2] at h1; cases h1; rw [h3] at h4; cases h4; exact .refl _
theorem cut_last {rows : List (List AV)} {o : List (List UInt8)} (h : rows.take o.length = o.map encS) : rows.take o.dropLast.length = o.dropLast.map encS := by
  rw [List.length_dropLast, List.dropLast_eq_take, List.map_take, ← h, List.take_take]
  congr 1; omega
theorem spl_tr {f : Nat} {l : List UInt8} (h : ∀ c, Con Tryz.prog f [.str l] [] c fun r O _ => SplQ l r O) :
    Tr Tryz.prog f [.str l] fun _ r => ∃ b : SL (List UInt8), r = .tup [b.av 1 encS, .bool (splitP l).isSome] ∧ b.list = (splitP l).getD [] :=
  tr_of h fun c r O c' _ hq ht => by
    rcases hq with ⟨h1, h2, h3⟩ | ⟨t, rows, h2, h3, h4⟩
    · exact ⟨.tup [.nsl, .bool false], by rw [h2]; exact .refl _, ⟨.nil, by rw [h1]; rfl, by rw [h1]; rfl⟩, from_tup (by simp)⟩
    · refine ⟨.tup [(SL.mk t ((splitP l).getD [])).av 1 encS, .bool (splitP l).isSome], by rw [h2]; exact view_tup (.cons (cut_view h4 (by rw [h3]; simp)) (Views.refl _ _)), ⟨_, rfl, rfl⟩, from_tup fun a ha => ?_⟩
      rcases List.mem_cons.1 ha with rfl | ha
      · refine flat_from encS_flat fun u hu => ht u ?_
        rw [flat_wood] at hu
        rw [h3]; simpa [tags] using hu
      · simp at ha; subst ha; simp
theorem spec_splitP {l : List UInt8} (hl : l.length ≤ 1048576) (c : Nat) : Con Tryz.prog 146 [.str l] [] c fun r O _ => SplQ l r O := by
  refine con_of c146 (by simp [F146]) ?_
  unfold F146
  simp
  refine loop_drop (l.length + 1) (fun i e H c' => e 0 = .str l ∧ e 6 = .int .i64 i ∧ ∃ (a : Nat) (o : List (List UInt8)) (t : Nat) (rows : List (List AV)), e 5 = .int .i64 a ∧ e 4 = .ref 0 t 1 o.length ∧ H = [⟨false, t, 1, rows⟩] ∧ rows.take o.length = o.map encS ∧ o.length ≤ i ∧
      (i ≤ l.length → a ≤ i ∧ (∀ j, a ≤ j → j < i → Lib.occAt l [47] j = false) ∧ splitP l = pfold o (Lib.split (l.drop a) [47])) ∧ (l.length < i → splitP l = some o)) ?_ ?_
  · exact ⟨rfl, rfl, 0, [], c, [], rfl, rfl, rfl, rfl, by simp, fun _ => ⟨by omega, fun j h1 h2 => by omega, by simp [splitP]⟩, fun h => by omega⟩
  intro i e H c' hi ⟨e0, e6, a, o, t, rows, e5, e4, hH, hrows, hoi, hinv, hend⟩ N hN
  subst hH
  have hcl := cut_le hrows
  have hm1 : (o.length + 1) * 16 ≤ 140737488355328 := by omega
  have hm2 : o.length + 1 ≤ mx := by unfold mx; omega
  by_cases hle : i ≤ l.length
  case neg =>
    have ho := hend (by omega)
    simp [e0, e4, e6, hle]
    exact fin_all (.inr ⟨t, rows, by simp [ho], rfl, by simp [ho, hrows]⟩)
  obtain ⟨ha, hno, hsp⟩ := hinv hle
  have hstep : IntKind.i64.wrap ((i : Int) + 1) = ((i + 1 : Nat) : Int) := by rw [wrap64 (by omega) (by omega)]; rfl
  by_cases hA : i < l.length ∧ l[i]? ≠ some 47
  · obtain ⟨h, hx⟩ := hA
    have hb : l[i]? = some l[i] := List.getElem?_eq_getElem h
    generalize l[i] = b at hb
    have hb47 : ¬ (b.toNat : Int) = 47 := fun e => hx (by rw [hb]; congr 1; exact UInt8.toNat_inj.1 (by have : (47 : UInt8).toNat = 47 := rfl; omega))
    simp [e0, e6, hle, h, getW_of hb, hb47, hstep]
    refine hN _ _ _ _ (by omega) (List.Sublist.refl _) ⟨by simp [upd, e0], by simp [upd], a, o, t, rows, by simp [upd, e5], by simp [upd, e4], rfl, hrows, by omega, fun _ => ⟨by omega, fun j h1 h2 => ?_, hsp⟩, fun h2 => by omega⟩
    rcases Nat.lt_or_ge j i with h3 | h3
    · exact hno j h1 h3
    · have : j = i := by omega
      subst this; rw [occ_one]; simp [hx]
  have hocc : i < l.length → l[i]? = some 47 := fun h => Classical.byContradiction fun hx => hA ⟨h, hx⟩
  obtain ⟨x, hx⟩ : ∃ x, (l.take i).drop a = x := ⟨_, rfl⟩
  obtain ⟨R, hR⟩ : ∃ R, (if i < l.length then Lib.split (l.drop (i + 1)) [47] else []) = R := ⟨_, rfl⟩
  have hcons : Lib.split (l.drop a) [47] = x :: R := by
    rw [← hx, ← hR]
    by_cases h : i < l.length
    · rw [if_pos h]
      exact split_at (by simp) ha hle hno (by rw [occ_one]; simp [hocc h])
    · have hie : i = l.length := by omega
      subst hie
      rw [if_neg h, List.take_length]; exact split_end (by simp) hno
  rw [hcons] at hsp
  simp only [pfold] at hsp
  have hxl : x.length ≤ mx := by rw [← hx]; simp; unfold mx; omega
  have next : ∀ (o' : List (List UInt8)), pstep o x = some o' → (i + 1 ≤ l.length → i + 1 ≤ i + 1 ∧ (∀ j, i + 1 ≤ j → j < i + 1 → Lib.occAt l [47] j = false) ∧ splitP l = pfold o' (Lib.split (l.drop (i + 1)) [47])) ∧ (l.length < i + 1 → splitP l = some o') := fun o' ho' => by
    rw [ho'] at hsp
    simp only [Option.bind_some] at hsp
    refine ⟨fun h2 => ⟨Nat.le_refl _, fun j h3 h4 => by omega, ?_⟩, fun h2 => ?_⟩
    · rw [hsp, ← hR, if_pos (by omega)]
    · rw [hsp, ← hR, if_neg (by omega)]; rfl
  have fails : pstep o x = none → splitP l = none := fun h => by rw [hsp, h]; rfl
  have hsl : ∀ K : AV → Prop, strSliceW (.str l) (some (.int .i64 a)) (some (.int .i64 i)) K = K (.str x) := fun K => by rw [← hx]; simp [ha, hle]
  rcases Nat.lt_or_ge i l.length with h | h
  focus
    simp [e0, e5, e6, hle, h, getW_of (hocc h), hstep, hsl, -strSliceW_str]
  rotate_left
  focus
    have h' : ¬ i < l.length := by omega
    simp [e0, e5, e6, hle, h', hstep, hsl, -strSliceW_str]
  rotate_left
  all_goals
    by_cases x0 : x = []
    · have hp : pstep o x = some o := by simp [pstep, x0]
      obtain ⟨n1, n2⟩ := next o hp
      simp [x0, e6, hstep]
      exact hN _ _ _ _ (by omega) (List.Sublist.refl _) ⟨by simp [upd, e0], by simp [upd], i + 1, o, t, rows, by simp [upd], by simp [upd, e4], rfl, hrows, by omega, n1, n2⟩
    by_cases x1 : x = [46]
    · have hp : pstep o x = some o := by simp [pstep, x1]
      obtain ⟨n1, n2⟩ := next o hp
      simp [x1, e6, hstep]
      exact hN _ _ _ _ (by omega) (List.Sublist.refl _) ⟨by simp [upd, e0], by simp [upd], i + 1, o, t, rows, by simp [upd], by simp [upd, e4], rfl, hrows, by omega, n1, n2⟩
    by_cases x2 : x = [46, 46]
    · by_cases o0 : o = []
      · have hp := fails (by simp [pstep, x2, o0])
        simp [x2, e4, o0]
        exact fin_sub (Hk := [⟨false, _, 1, []⟩]) ((List.Sublist.refl _).cons _) (view_tup (.cons .name (Views.refl _ _))) (.inr ⟨_, [], by rw [hp]; rfl, rfl, by rw [hp]; rfl⟩)
      · have hp : pstep o x = some o.dropLast := by simp [pstep, x2, o0]
        obtain ⟨n1, n2⟩ := next _ hp
        have hol : 0 < o.length := List.length_pos_iff.2 o0
        have hw : IntKind.i64.wrap ((o.length : Int) - 1) = ((o.length - 1 : Nat) : Int) := by rw [wrap64 (by omega) (by omega)]; omega
        have hol' : ¬ ((o.length : Int) = 0) := by omega
        simp [x2, e4, e6, o0, hw, hstep]
        exact hN _ _ _ _ (by omega) (List.Sublist.refl _) ⟨by simp [upd, e0], by simp [upd], i + 1, o.dropLast, t, rows, by simp [upd], by simp [upd], rfl, cut_last hrows, by simp; omega, n1, n2⟩
    simp [x0, x1, x2]
    refine call_fn0 (spec_part hxl) .bool fun _ _ => ?_
    have hlen : 0 < x.length := List.length_pos_iff.2 x0
    have hpp : (x.all pC && inR x.length 1 20) = pPart x := by
      unfold pPart inR
      have : ((1 : Int) ≤ x.length) := by omega
      have k : ((x.length : Int) ≤ 20) = (x.length ≤ 20) := by simp only [eq_iff_iff]; omega
      simp [this, k]
    rw [hpp]
    cases hP : pPart x
    · have hp := fails (by simp [pstep, x0, x1, x2, hP])
      simp
      exact fin_sub (Hk := [⟨false, _, 1, []⟩]) ((List.Sublist.refl _).cons _) (view_tup (.cons .name (Views.refl _ _))) (.inr ⟨_, [], by rw [hp]; rfl, rfl, by rw [hp]; rfl⟩)
    · have hp : pstep o x = some (o ++ [x]) := by simp [pstep, x0, x1, x2, hP]
      obtain ⟨n1, n2⟩ := next _ hp
      simp [e4, e6, hm1, hm2, cutW, hcl, hrows, hstep]
      exact hN _ _ _ _ (by omega) (sub_one _ _) ⟨by simp [upd, e0], by simp [upd], i + 1, o ++ [x], _, _, by simp [upd], by simp [upd] <;> rfl, rfl, by rw [List.map_append]; exact List.take_of_length_le (by simp), by simp; omega, n1, n2⟩
theorem impl_splitP {l : List UInt8} (hl : l.length ≤ 1048576) (c : Nat) : Con Tryz.prog 148 [.str l] [] c fun r O _ => SplQ l r O := by
  refine con_of c148 (by simp [F148]) ?_
  unfold F148
  simp
  refine call_tree0 (split_tr (by omega) (by simp)) fun r _ hc1 ⟨b, e1, q1⟩ _ => ?_
  subst e1
  simp
  have hpl := split_len l [47]
  have hpm := fun x => split_mem (l := l) (sep := [47]) (x := x)
  have hspl : splitP l = pfold [] b.list := by unfold splitP; rw [q1]
  rw [← q1] at hpl hpm
  refine loop_drop b.list.length (fun i e H c' => e 9 = b.av 1 encS ∧ e 10 = .int .i64 b.list.length ∧ e 11 = .int .i64 i ∧ ∃ (o : List (List UInt8)) (t : Nat) (rows : List (List AV)), e 4 = .ref 0 t 1 o.length ∧ H = [⟨false, t, 1, rows⟩] ∧ rows.take o.length = o.map encS ∧ o.length ≤ i ∧ splitP l = pfold o (b.list.drop i)) ?_ ?_
  · exact ⟨rfl, rfl, rfl, [], c, [], rfl, rfl, rfl, by simp, by simpa using hspl⟩
  intro i e H c' hi ⟨e9, e10, e11, o, t, rows, e4, hH, hrows, hoi, hsp⟩ N hN
  subst hH
  have hcl := cut_le hrows
  have hm1 : (o.length + 1) * 16 ≤ 140737488355328 := by omega
  have hm2 : o.length + 1 ≤ mx := by unfold mx; omega
  by_cases h : i < b.list.length
  case neg =>
    have hie : i = b.list.length := by omega
    subst hie
    rw [List.drop_length] at hsp
    have ho : splitP l = some o := hsp
    simp [e4, e9, e10, e11]
    exact fin_all (.inr ⟨t, rows, by simp [ho], rfl, by simp [ho, hrows]⟩)
  have hg : b.list[i]? = some b.list[i] := List.getElem?_eq_getElem h
  have hstep : IntKind.i64.wrap ((i : Int) + 1) = ((i + 1 : Nat) : Int) := by rw [step64 (by unfold mx; omega) h]; rfl
  have hxl := hpm _ (List.getElem_mem h)
  rw [List.drop_eq_getElem_cons h] at hsp
  simp only [pfold] at hsp
  generalize b.list[i] = x at hg hxl hsp
  have hxm : x.length ≤ mx := by unfold mx; omega
  have next : ∀ (o' : List (List UInt8)), pstep o x = some o' → splitP l = pfold o' (b.list.drop (i + 1)) := fun o' ho' => by
    rw [ho'] at hsp; exact hsp
  have fails : pstep o x = none → splitP l = none := fun h => by rw [hsp, h]; rfl
  simp [e9, e10, e11, h, getW_of hg]
  by_cases x0 : x = []
  · have hp : pstep o x = some o := by simp [pstep, x0]
    simp [x0, e11, hstep]
    exact hN _ _ _ _ (by omega) (List.Sublist.refl _) ⟨by simp [upd, e9], by simp [upd, e10], by simp [upd], o, t, rows, by simp [upd, e4], rfl, hrows, by omega, next o hp⟩
  by_cases x1 : x = [46]
  · have hp : pstep o x = some o := by simp [pstep, x1]
    simp [x1, e11, hstep]
    exact hN _ _ _ _ (by omega) (List.Sublist.refl _) ⟨by simp [upd, e9], by simp [upd, e10], by simp [upd], o, t, rows, by simp [upd, e4], rfl, hrows, by omega, next o hp⟩
  by_cases x2 : x = [46, 46]
  · by_cases o0 : o = []
    · have hp := fails (by simp [pstep, x2, o0])
      simp [x2, e4, o0]
      exact fin_sub (List.nil_sublist _) (.refl _) (.inl ⟨hp, rfl, rfl⟩)
    · have hp : pstep o x = some o.dropLast := by simp [pstep, x2, o0]
      have hol : 0 < o.length := List.length_pos_iff.2 o0
      have hw : IntKind.i64.wrap ((o.length : Int) - 1) = ((o.length - 1 : Nat) : Int) := by rw [wrap64 (by omega) (by omega)]; omega
      have hol' : ¬ ((o.length : Int) = 0) := by omega
      simp [x2, e4, e11, o0, hw, hstep]
      exact hN _ _ _ _ (by omega) (List.Sublist.refl _) ⟨by simp [upd, e9], by simp [upd, e10], by simp [upd], o.dropLast, t, rows, by simp [upd], rfl, cut_last hrows, by simp; omega, next _ hp⟩
  simp [x0, x1, x2]
  refine call_fn0 (impl_part hxm) .bool fun _ _ => ?_
  cases hP : pPart x
  · have hp := fails (by simp [pstep, x0, x1, x2, hP])
    simp
    exact fin_sub (List.nil_sublist _) (.refl _) (.inl ⟨hp, rfl, rfl⟩)
  · have hp : pstep o x = some (o ++ [x]) := by simp [pstep, x0, x1, x2, hP]
    simp [e4, e11, hm1, hm2, cutW, hcl, hrows, hstep]
    exact hN _ _ _ _ (by omega) (sub_one _ _) ⟨by simp [upd, e9], by simp [upd, e10], by simp [upd], o ++ [x], _, _, by simp [upd] <;> rfl, rfl, by rw [List.map_append]; exact List.take_of_length_le (by simp), by simp; omega, next _ hp⟩

/-! ### the plain form -/
def normA (l : List UInt8) : List AV := [.str ((normP l).getD []), .bool (normP l).isSome]
theorem free_norm (l : List UInt8) : Free (.tup (normA l)) := free_tup fun a ha => by
  simp [normA] at ha
  rcases ha with rfl | rfl
  · exact free_str _
  · exact free_bool _
theorem joinL_step (l : List (List UInt8)) {i : Nat} (h : i < l.length) : joinL [47] (l.take (i + 1)) = (if 0 < i then joinL [47] (l.take i) ++ [47] else joinL [47] (l.take i)) ++ l[i] := by
  rw [List.take_succ_eq_append_getElem h, joinL_snoc]
  simp only [List.length_take, Nat.min_eq_left (Nat.le_of_lt h)]
  by_cases h0 : 0 < i
  · rw [if_pos h0, if_pos h0]
  · have : i = 0 := by omega
    subst this; simp [joinL_nil]
theorem join_part {l : List UInt8} (i : Nat) : (joinL [47] (((splitP l).getD []).take i)).length ≤ 22 * (l.length + 2) := by
  cases h : splitP l with
  | none => simp [joinL_nil]
  | some o => exact join_short h i
theorem part_len {l x : List UInt8} (h : x ∈ (splitP l).getD []) : x.length ≤ 20 := by
  cases hs : splitP l with
  | none => rw [hs] at h; cases h
  | some o => rw [hs] at h; exact pPart_len ((splitP_ok hs).1 x h)
theorem parts_len (l : List UInt8) : ((splitP l).getD []).length ≤ l.length + 2 := by
  cases hs : splitP l with
  | none => simp
  | some o => exact (splitP_ok hs).2
theorem norm_eq {l : List UInt8} (h : ¬ 400 < l.length) : normP l = if (splitP l).isSome && inR (joinL [47] ((splitP l).getD [])).length 1 60 then some (joinL [47] ((splitP l).getD [])) else none := by
  unfold normP
  rw [if_neg h]
  cases splitP l <;> simp
theorem spec_norm {l : List UInt8} (hl : l.length ≤ mx) : Fnc Tryz.prog 128 [.str l] (.tup (normA l)) := by
  refine fn_of c128 (by simp [F128]) fun c => ?_
  unfold F128
  by_cases h400 : 400 < l.length
  · have k : (400 : Int) < l.length := by omega
    simp [k]
    exact fin_plain ⟨by simp [normA, normP, h400], rfl⟩
  have k : ¬ (400 : Int) < l.length := by omega
  simp [k]
  refine call_tree0 (spl_tr fun c => spec_splitP (by omega) c) fun r _ hc1 ⟨b, e1, q1⟩ _ => ?_
  subst e1
  simp
  have hj := fun i => join_part (l := l) i
  have hpl := parts_len l
  have hpm := fun x => part_len (l := l) (x := x)
  have hne := norm_eq h400
  rw [← q1] at hj hpl hpm hne
  refine loop_drop b.list.length (fun i e H c' => e 4 = b.av 1 encS ∧ e 5 = .bool (splitP l).isSome ∧ e 6 = .str (joinL [47] (b.list.take i)) ∧ e 7 = .int .i64 i ∧ H = []) ⟨rfl, rfl, by simp [upd, joinL_nil], rfl, rfl⟩ ?_
  intro i e H c' hi ⟨e4, e5, e6, e7, hH⟩ N hN
  subst hH
  by_cases h : i < b.list.length
  · have hg : b.list[i]? = some b.list[i] := List.getElem?_eq_getElem h
    have hstep : IntKind.i64.wrap ((i : Int) + 1) = ((i + 1 : Nat) : Int) := by rw [step64 (by unfold mx; omega) h]; rfl
    have hxl := hpm _ (List.getElem_mem h)
    have hjs := joinL_step b.list h
    have hji := hj i
    generalize b.list[i] = x at hg hxl hjs
    generalize joinL [47] (b.list.take i) = J at e6 hjs hji
    by_cases h0 : 0 < i
    · rw [if_pos h0] at hjs
      simp [e4, e6, e7, h, h0, getW_of hg, hstep]
      refine ⟨by unfold mx; omega, by unfold mx; omega, ?_⟩
      exact hN _ _ _ _ h (List.Sublist.refl _) ⟨by simp [upd, e4], by simp [upd, e5], by simp [upd, hjs], by simp [upd], rfl⟩
    · rw [if_neg h0] at hjs
      simp [e4, e6, e7, h, h0, getW_of hg, hstep]
      refine ⟨by unfold mx; omega, ?_⟩
      exact hN _ _ _ _ h (List.Sublist.refl _) ⟨by simp [upd, e4], by simp [upd, e5], by simp [upd, hjs], by simp [upd], rfl⟩
  · have h1 : i = b.list.length := by omega
    subst h1
    rw [List.take_length] at e6
    generalize joinL [47] b.list = J at e6 hne
    cases hs : (splitP l).isSome
    · rw [hs] at hne e5
      simp at hne
      simp [e4, e5, e6, e7]
      exact fin_plain ⟨by simp [normA, hne], rfl⟩
    · rw [hs] at hne e5
      simp [e4, e5, e6, e7]
      refine call_fn0 (l1In_fn _ _ _) .bool fun _ _ => ?_
      cases hr : inR J.length 1 60
      · rw [hr] at hne
        simp at hne
        simp
        exact fin_plain ⟨by simp [normA, hne], rfl⟩
      · rw [hr] at hne
        simp at hne
        simp [e6]
        exact fin_plain ⟨by simp [normA, hne], rfl⟩
theorem impl_norm {l : List UInt8} (hl : l.length ≤ mx) : Fnc Tryz.prog 131 [.str l] (.tup (normA l)) := by
  refine fn_of c131 (by simp [F131]) fun c => ?_
  unfold F131
  by_cases h400 : 400 < l.length
  · have k : (400 : Int) < l.length := by omega
    simp [k]
    exact fin_plain ⟨by simp [normA, normP, h400], rfl⟩
  have k : ¬ (400 : Int) < l.length := by omega
  simp [k]
  refine call_tree0 (spl_tr fun c => impl_splitP (by omega) c) fun r _ hc1 ⟨b, e1, q1⟩ _ => ?_
  subst e1
  simp
  have hj := join_part (l := l) ((splitP l).getD []).length
  have hpl := parts_len l
  have hne := norm_eq h400
  rw [List.take_length] at hj
  rw [← q1] at hj hpl hne
  have hjn : Fnc Tryz.prog 149 [b.av 1 encS, .str [47]] (.str (joinL [47] b.list)) := by
    cases b with
    | nil => exact join_nil_fn _
    | mk t xs => exact join_fn (by simp at hj ⊢; omega) (by simp at hpl ⊢; omega)
  refine call_fn0 hjn .str fun _ _ => ?_
  generalize joinL [47] b.list = J at hne
  cases hs : (splitP l).isSome
  · rw [hs] at hne
    simp at hne
    simp
    exact fin_plain ⟨by simp [normA, hne], rfl⟩
  · rw [hs] at hne
    simp
    refine call_fn0 (inRange_fn _ _ _) .bool fun _ _ => ?_
    cases hr : inR J.length 1 60
    · rw [hr] at hne
      simp at hne
      simp
      exact fin_plain ⟨by simp [normA, hne], rfl⟩
    · rw [hr] at hne
      simp at hne
      simp
      exact fin_plain ⟨by simp [normA, hne], rfl⟩
theorem isN_norm (l : List UInt8) : isN l = ((normP l).isSome && decide ((normP l).getD [] = l)) := by
  unfold isN
  cases normP l <;> simp
theorem spec_isN {l : List UInt8} (hl : l.length ≤ mx) : Fnc Tryz.prog 89 [.str l] (.bool (isN l)) := by
  refine fn_of c89 (by simp [F89]) fun c => ?_
  unfold F89
  simp
  refine call_fn0 (spec_norm hl) (free_norm _ _) fun _ _ => ?_
  rw [isN_norm]
  cases h : (normP l).isSome <;> simp [normA, h]
  · exact fin_plain ⟨rfl, rfl⟩
  · exact fin_plain ⟨rfl, rfl⟩
theorem impl_isN {l : List UInt8} (hl : l.length ≤ mx) : Fnc Tryz.prog 99 [.str l] (.bool (isN l)) := by
  refine fn_of c99 (by simp [F99]) fun c => ?_
  unfold F99
  simp
  refine call_fn0 (impl_norm hl) (free_norm _ _) fun _ _ => ?_
  rw [isN_norm]
  cases h : (normP l).isSome <;> simp [normA, h]
  · exact fin_plain ⟨rfl, rfl⟩
  · exact fin_plain ⟨rfl, rfl⟩
end A
end Go.Proofs.YtknpgemlpbclkaaGreatDoor

/-
  A name for the typed texts of this seat. No condition.
-/

/-
  The pairs' bounds, of the reference and of the program. No condition.
-/


namespace Go.Proofs.YtknpgemlpbclkaaGreatDoor
namespace A
set_option linter.unusedVariables false
set_option linter.unusedSimpArgs false
set_option maxRecDepth 100000

def okPair (p : TPair) : Bool := decide (p.Name.length ≤ 60) && decide (p.Value.length ≤ 60)
def okP (l : List TPair) : Bool := l.all okPair && decide (l.length ≤ 12)
theorem okP_sz {l : List TPair} (h : okP l = true) : l.length ≤ 12 ∧ szL TPair.sz l ≤ 120 * l.length := by
  simp only [okP, Bool.and_eq_true, decide_eq_true_eq] at h
  refine ⟨h.2, ?_⟩
  have h1 := h.1
  clear h
  induction l with
  | nil => simp [szL]
  | cons p l ih =>
    simp only [List.all_cons, Bool.and_eq_true, okPair, decide_eq_true_eq] at h1
    have := ih h1.2
    simp [szL, TPair.sz] at this ⊢; omega
/-! ### the pairs' bounds -/
theorem TPair.flat' : Flat TPair.enc := fun x a ha => by
  simp [TPair.enc] at ha
  rcases ha with rfl | rfl <;> exact ⟨rfl, free_str _⟩
theorem TPair.free (x : TPair) : ∀ a, a ∈ x.enc → Free a := fun a ha => (TPair.flat' x a ha).2
theorem spec_pairs {s : SL TPair} (hn : s.list.length ≤ mx) : Fnc Tryz.prog 135 [s.av 2 TPair.enc] (.bool (okP s.list)) := by
  refine fn_of c135 (by simp [F135]) fun c => ?_
  unfold F135
  simp
  refine loop_drop s.list.length (fun i e H c' => e 0 = s.av 2 TPair.enc ∧ e 3 = .int .i64 i ∧ (s.list.take i).all okPair = true ∧ H = []) ⟨rfl, rfl, by simp, rfl⟩ ?_
  intro i e H c hi ⟨e0, e3, ha, hH⟩ N hN
  subst hH
  by_cases h : i < s.list.length
  · have hb : s.list[i]? = some s.list[i] := List.getElem?_eq_getElem h
    have bad : okPair s.list[i] = false → okP s.list = false := fun hb => by
      unfold okP
      have : s.list.all okPair = false := by rw [List.all_eq_false]; exact ⟨_, List.getElem_mem h, by simp [hb]⟩
      rw [this]; rfl
    have good : okPair s.list[i] = true → (s.list.take (i + 1)).all okPair = true := fun hx => all_step ha h hx
    have hstep : IntKind.i64.wrap ((i : Int) + 1) = ((i + 1 : Nat) : Int) := by rw [step64 hn h]; rfl
    generalize s.list[i] = p at hb bad good
    by_cases h1 : p.Name.length ≤ 60
    · have k1 : ¬ (60 < (p.Name.length : Int)) := by omega
      by_cases h2 : p.Value.length ≤ 60
      · have k2 : ¬ (60 < (p.Value.length : Int)) := by omega
        simp [e0, e3, h, getW_of hb, k1, k2, hstep]
        exact hN _ _ _ _ h (List.Sublist.refl _) ⟨by simp [upd, e0], by simp [upd], good (by simp [okPair, h1, h2]), rfl⟩
      · have k2 : (60 < (p.Value.length : Int)) := by omega
        simp [e0, e3, h, getW_of hb, k1, k2, hstep]
        exact fin_plain ⟨by rw [bad (by simp [okPair, h2])], rfl⟩
    · have k1 : (60 < (p.Name.length : Int)) := by omega
      simp [e0, e3, h, getW_of hb, k1, hstep]
      exact fin_plain ⟨by rw [bad (by simp [okPair, h1])], rfl⟩
  · have h1 : i = s.list.length := by omega
    subst h1
    rw [List.take_length] at ha
    have k : ((s.list.length : Int) ≤ 12) = (s.list.length ≤ 12) := by simp only [eq_iff_iff]; omega
    simp [e0, e3]
    exact fin_plain ⟨by simp [okP, ha, k], rfl⟩
theorem impl_pairs {s : SL TPair} (hn : s.list.length ≤ mx) : Fnc Tryz.prog 118 [s.av 2 TPair.enc] (.bool (okP s.list)) := by
  refine fn_of c118 (by simp [F118]) fun c => ?_
  unfold F118
  simp
  refine loop_drop s.list.length (fun i e H c' => e 0 = s.av 2 TPair.enc ∧ e 5 = s.av 2 TPair.enc ∧ e 6 = .int .i64 s.list.length ∧ e 7 = .int .i64 i ∧ (s.list.take i).all okPair = true ∧ H = []) ⟨rfl, rfl, rfl, rfl, by simp, rfl⟩ ?_
  intro i e H c hi ⟨e0, e5, e6, e7, ha, hH⟩ N hN
  subst hH
  by_cases h : i < s.list.length
  · have hb : s.list[i]? = some s.list[i] := List.getElem?_eq_getElem h
    have bad : okPair s.list[i] = false → okP s.list = false := fun hb => by
      unfold okP
      have : s.list.all okPair = false := by rw [List.all_eq_false]; exact ⟨_, List.getElem_mem h, by simp [hb]⟩
      rw [this]; rfl
    have good : okPair s.list[i] = true → (s.list.take (i + 1)).all okPair = true := fun hx => all_step ha h hx
    have hstep : IntKind.i64.wrap ((i : Int) + 1) = ((i + 1 : Nat) : Int) := by rw [step64 hn h]; rfl
    generalize s.list[i] = p at hb bad good
    by_cases h1 : p.Name.length ≤ 60
    · have k1 : ¬ (60 < (p.Name.length : Int)) := by omega
      by_cases h2 : p.Value.length ≤ 60
      · have k2 : ¬ (60 < (p.Value.length : Int)) := by omega
        simp [e0, e5, e6, e7, h, getW_of hb, k1, k2, hstep, putA]
        exact hN _ _ _ _ h (List.nil_sublist _) ⟨by simp [upd, e0], by simp [upd, e5], by simp [upd, e6], by simp [upd], good (by simp [okPair, h1, h2]), rfl⟩
      · have k2 : (60 < (p.Value.length : Int)) := by omega
        simp [e0, e5, e6, e7, h, getW_of hb, k1, k2, hstep, putA]
        exact fin_plain ⟨by rw [bad (by simp [okPair, h2])], rfl⟩
    · have k1 : (60 < (p.Name.length : Int)) := by omega
      simp [e0, e5, e6, e7, h, getW_of hb, k1, hstep, putA]
      exact fin_plain ⟨by rw [bad (by simp [okPair, h1])], rfl⟩
  · have h1 : i = s.list.length := by omega
    subst h1
    rw [List.take_length] at ha
    have k : ((s.list.length : Int) ≤ 12) = (s.list.length ≤ 12) := by simp only [eq_iff_iff]; omega
    simp [e0, e5, e6, e7]
    exact fin_plain ⟨by simp [okP, ha, k], rfl⟩
end A
end Go.Proofs.YtknpgemlpbclkaaGreatDoor

/-
  IsRequest of the reference and of the program are the same plain function, and the law answers true. No condition.
-/


namespace Go.Proofs.YtknpgemlpbclkaaGreatDoor
namespace A
set_option linter.unusedVariables false
set_option linter.unusedSimpArgs false
set_option maxRecDepth 100000

def isReq (x : TRequest) : Bool := isN x.Path && okP x.Query.list && okP x.Cookies.list
theorem req_same {a b : TRequest} (h : a.con = b.con) : a.Path = b.Path ∧ a.Query.list = b.Query.list ∧ a.Cookies.list = b.Cookies.list := by
  have e : ∀ l : List TPair, l.map TPair.con = l := fun l => List.map_id' l
  have h1 : (a.con.Query).list = (b.con.Query).list := congrArg (fun z => z.Query.list) h
  have h2 : (a.con.Cookies).list = (b.con.Cookies).list := congrArg (fun z => z.Cookies.list) h
  exact ⟨(congrArg TRequest.Path h : a.con.Path = b.con.Path), by simpa [TRequest.con, e] using h1, by simpa [TRequest.con, e] using h2⟩
theorem isReq_con {a b : TRequest} (h : a.con = b.con) : isReq a = isReq b := by
  obtain ⟨h1, h2, h3⟩ := req_same h
  unfold isReq; rw [h1, h2, h3]
theorem reqOk_con {a b : TRequest} (h : a.con = b.con) (ha : b.ok) : a.ok := by
  obtain ⟨h1, h2, h3⟩ := req_same h
  unfold TRequest.ok okPairS at ha ⊢; rw [h1, h2, h3]; exact ha
theorem spec_isReq {x : TRequest} (hx : x.ok) : Fnc Tryz.prog 92 [.agg x.enc] (.bool (isReq x)) := by
  obtain ⟨h1, h2, h3⟩ := hx
  refine fn_of c92 (by simp [F92]) fun c => ?_
  unfold F92
  simp
  refine call_fn0 (spec_isN h1) .bool fun _ _ => ?_
  cases hN : isN x.Path
  · simp
    exact fin_plain ⟨by simp [isReq, hN], rfl⟩
  simp
  refine call_fn0 (spec_pairs h2.1) .bool fun _ _ => ?_
  cases hQ : okP x.Query.list
  · simp
    exact fin_plain ⟨by simp [isReq, hQ], rfl⟩
  simp
  refine call_fn0 (spec_pairs h3.1) .bool fun _ _ => ?_
  simp
  exact fin_plain ⟨by simp [isReq, hN, hQ], rfl⟩
theorem impl_isReq {x : TRequest} (hx : x.ok) : Fnc Tryz.prog 59 [.agg x.enc] (.bool (isReq x)) := by
  obtain ⟨h1, h2, h3⟩ := hx
  refine fn_of c59 (by simp [F59]) fun c => ?_
  unfold F59
  simp
  refine call_fn0 (impl_isN h1) .bool fun _ _ => ?_
  cases hN : isN x.Path
  · simp
    exact fin_plain ⟨by simp [isReq, hN], rfl⟩
  simp
  refine call_fn0 (impl_pairs h2.1) .bool fun _ _ => ?_
  cases hQ : okP x.Query.list
  · simp
    exact fin_plain ⟨by simp [isReq, hQ], rfl⟩
  simp
  refine call_fn0 (impl_pairs h3.1) .bool fun _ _ => ?_
  simp
  exact fin_plain ⟨by simp [isReq, hN, hQ], rfl⟩
def TRequest.at (c : Nat) (a : TRequest) : TRequest := { a with Query := .mk c a.Query.list, Cookies := .mk c a.Cookies.list }
theorem TRequest.at_con (c : Nat) (a : TRequest) : (a.at c).con = a.con := rfl
theorem pairs_from (c : Nat) (l : List TPair) : From c ((SL.mk c l).av 2 TPair.enc) := by
  refine from_slc (Nat.le_refl _) fun row hr y hy => ?_
  obtain ⟨h, _, rfl⟩ := List.mem_map.1 hr
  exact (TPair.free h y hy).from c
theorem TRequest.at_from (c : Nat) (a : TRequest) : From c (.agg (a.at c).enc) := from_agg fun x hx => by
  simp [TRequest.enc, TRequest.at] at hx
  rcases hx with rfl | rfl | rfl
  · simp
  · exact pairs_from c _
  · exact pairs_from c _
def IsQ (a : TRequest) (v : AV) : Prop := ∃ b : TRequest, v = .agg b.enc ∧ b.con = a.con
theorem IsQ_some (a : TRequest) (c : Nat) : ∃ r, IsQ a r ∧ From c r := ⟨_, ⟨a.at c, rfl, a.at_con c⟩, a.at_from c⟩
end A
end Go.Proofs.YtknpgemlpbclkaaGreatDoor

/-
  Names, of the reference and of the program. No condition.
-/

namespace Go.Proofs.YtknpgemlpbclkaaGreatDoor
namespace A
set_option linter.unusedVariables false
set_option linter.unusedSimpArgs false
set_option maxRecDepth 100000


/-- The end of the name. -/
def nm : List UInt8 → Nat → Nat
  | [], i => i
  | b :: l, i => if isL b || (decide (0 < i) && isD b) then nm l (i + 1) else i
theorem nm_go {l : List UInt8} {i : Nat} (h : i < l.length) (e : (isL l[i] || (decide (0 < i) && isD l[i])) = true) : nm (l.drop i) i = nm (l.drop (i + 1)) (i + 1) := by
  rw [List.drop_eq_getElem_cons h, nm, if_pos e]
theorem nm_stop {l : List UInt8} {i : Nat} (h : i < l.length) (e : (isL l[i] || (decide (0 < i) && isD l[i])) = false) : nm (l.drop i) i = i := by
  rw [List.drop_eq_getElem_cons h, nm, if_neg (by simp only [e]; simp)]
theorem nm_end {l : List UInt8} {i : Nat} (h : l.length ≤ i) : nm (l.drop i) i = i := by
  rw [List.drop_eq_nil_of_le h]; rfl
theorem specName_fn {l : List UInt8} (hl : l.length ≤ mx) : Fnc Tryz.prog 134 [.str l, .int .i64 0] (.int .i64 (nm l 0)) := by
  refine fn_of c134 (by simp [F134]) fun c => ?_
  unfold F134
  simp
  refine loop_drop l.length (fun i e H c' => e 0 = .str l ∧ e 1 = .int .i64 0 ∧ e 5 = .int .i64 i ∧ nm (l.drop i) i = nm l 0 ∧ H = []) ⟨rfl, rfl, rfl, by simp, rfl⟩ ?_
  intro i e H c hi ⟨e0, e1, e5, hd, hH⟩ N hN
  subst hH
  rcases Nat.lt_or_ge i l.length with h | h
  · have hb : l[i]? = some l[i] := List.getElem?_eq_getElem h
    have next : (isL l[i] || (decide (0 < i) && isD l[i])) = true → nm (l.drop (i + 1)) (i + 1) = nm l 0 := fun e => by rw [← hd, nm_go h e]
    have stop : (isL l[i] || (decide (0 < i) && isD l[i])) = false → i = nm l 0 := fun e => by rw [← hd, nm_stop h e]
    generalize l[i] = b at hb next stop
    simp [e0, e1, e5, h]
    refine ⟨_, hb, ?_⟩
    simp [e0, e1, e5, h]
    refine call_fn0 (letter_fn b) .bool fun _ _ => ?_
    cases h1 : isL b
    · by_cases h2 : 0 < i
      · simp [e0, e1, e5, h, h2]
        refine ⟨_, hb, ?_⟩
        simp [e0, e1, e5, h, h2]
        refine call_fn0 (digit_fn b) .bool fun _ _ => ?_
        cases h3 : isD b
        · simp [e0, e1, e5]
          exact fin_plain ⟨by rw [stop (by simp [h1, h3])], rfl⟩
        · simp [e0, e1, e5]
          exact hN _ _ _ _ h (List.Sublist.refl _) ⟨by simp [upd, e0], by simp [upd, e1], by simp [upd]; exact step64 hl h, next (by simp [h1, h2, h3]), rfl⟩
      · simp [e0, e1, e5, h, h2]
        exact fin_plain ⟨by rw [stop (by simp [h1, h2])], rfl⟩
    · simp [e0, e1, e5]
      exact hN _ _ _ _ h (List.Sublist.refl _) ⟨by simp [upd, e0], by simp [upd, e1], by simp [upd]; exact step64 hl h, next (by simp [h1]), rfl⟩
  · have : ¬ (i < l.length) := by omega
    simp [e0, e1, e5, this]
    exact fin_plain ⟨by rw [← hd, nm_end h], rfl⟩
theorem implName_fn {l : List UInt8} (hl : l.length ≤ mx) : Fnc Tryz.prog 119 [.str l] (.int .i64 (nm l 0)) := by
  refine fn_of c119 (by simp [F119]) fun c => ?_
  unfold F119
  simp
  refine loop_drop l.length (fun i e H c' => e 0 = .str l ∧ e 3 = .int .i64 i ∧ nm (l.drop i) i = nm l 0 ∧ H = []) ⟨rfl, rfl, by simp, rfl⟩ ?_
  intro i e H c hi ⟨e0, e3, hd, hH⟩ N hN
  subst hH
  rcases Nat.lt_or_ge i l.length with h | h
  · have hb : l[i]? = some l[i] := List.getElem?_eq_getElem h
    have next : (isL l[i] || (decide (0 < i) && isD l[i])) = true → nm (l.drop (i + 1)) (i + 1) = nm l 0 := fun e => by rw [← hd, nm_go h e]
    have stop : (isL l[i] || (decide (0 < i) && isD l[i])) = false → i = nm l 0 := fun e => by rw [← hd, nm_stop h e]
    generalize l[i] = b at hb next stop
    rw [isL_A] at next stop
    simp [e0, e3, h]
    refine ⟨_, hb, ?_⟩
    simp [e0, e3, h]
    refine call_fn0 (isLetter_fn b) .bool fun _ _ => ?_
    cases h1 : isA b
    · simp [e0, e3, h]
      refine ⟨_, hb, ?_⟩
      by_cases h4 : (b.toNat : Int) = 95
      · have h4' : b.toNat = 95 := by omega
        simp [e0, e3, h4]
        exact hN _ _ _ _ h (List.Sublist.refl _) ⟨by simp [upd, e0], by simp [upd]; exact step64 hl h, next (by simp [h4']), rfl⟩
      have h4' : ¬ b.toNat = 95 := by omega
      by_cases h2 : 0 < i
      · simp [e0, e3, h, h2, h4]
        refine ⟨_, hb, ?_⟩
        simp [e0, e3, h, h2, h4]
        refine call_fn0 (isDigit_fn b) .bool fun _ _ => ?_
        cases h3 : isD b
        · simp [e0, e3, h2, h4]
          exact fin_plain ⟨by rw [stop (by simp [h1, h3, h4'])], rfl⟩
        · simp [e0, e3, h2, h4]
          exact hN _ _ _ _ h (List.Sublist.refl _) ⟨by simp [upd, e0], by simp [upd]; exact step64 hl h, next (by simp [h2, h3]), rfl⟩
      · simp [e0, e3, h, h2, h4]
        exact fin_plain ⟨by rw [stop (by simp [h1, h2, h4'])], rfl⟩
    · simp [e0, e3]
      exact hN _ _ _ _ h (List.Sublist.refl _) ⟨by simp [upd, e0], by simp [upd]; exact step64 hl h, next (by simp [h1]), rfl⟩
  · have : ¬ (i < l.length) := by omega
    simp [e0, e3, this]
    exact fin_plain ⟨by rw [← hd, nm_end h], rfl⟩

def isName (l : List UInt8) : Bool := decide (1 ≤ l.length) && decide (l.length ≤ 20) && decide (nm l 0 = l.length)
theorem spec_isName {l : List UInt8} (hl : l.length ≤ mx) : Fnc Tryz.prog 90 [.str l] (.bool (isName l)) := by
  refine fn_of c90 (by simp [F90]) fun c => ?_
  unfold F90
  by_cases h1 : (1 : Int) ≤ l.length
  · by_cases h2 : (l.length : Int) ≤ 20
    · simp [h1, h2]
      refine call_fn0 (specName_fn hl) .int fun _ _ => ?_
      by_cases h3 : nm l 0 = l.length
      · simp [h1, h2, h3]
        exact fin_plain ⟨by simp [isName, h3]; omega, rfl⟩
      · have h3' : ¬ (nm l 0 : Int) = l.length := by omega
        simp [h1, h2, h3']
        exact fin_plain ⟨by simp [isName, h3], rfl⟩
    · simp [h1, h2]
      exact fin_plain ⟨by simp [isName]; intros; omega, rfl⟩
  · simp [h1]
    exact fin_plain ⟨by simp [isName]; intros; omega, rfl⟩
theorem impl_isName {l : List UInt8} (hl : l.length ≤ mx) : Fnc Tryz.prog 60 [.str l] (.bool (isName l)) := by
  refine fn_of c60 (by simp [F60]) fun c => ?_
  unfold F60
  by_cases h2 : (l.length : Int) ≤ 20
  · simp [h2]
    refine call_fn0 (implName_fn hl) .int fun _ _ => ?_
    by_cases h3 : nm l 0 = l.length
    · simp [h2, h3]
      refine fin_plain ⟨?_, rfl⟩
      cases l with
      | nil => simp [isName]
      | cons b l => simp [isName, h3]; simp at h2; omega
    · have h3' : ¬ (nm l 0 : Int) = l.length := by omega
      simp [h2, h3']
      exact fin_plain ⟨by simp [isName, h3], rfl⟩
  · simp [h2]
    exact fin_plain ⟨by simp [isName]; intros; omega, rfl⟩
end A
end Go.Proofs.YtknpgemlpbclkaaGreatDoor

/-
  Jobs, of the reference and of the program. No condition.
-/



namespace Go.Proofs.YtknpgemlpbclkaaGreatDoor
namespace A
set_option linter.unusedVariables false
set_option linter.unusedSimpArgs false
set_option maxRecDepth 100000

def jobOk (x : TJob) : Bool := isReq x.Request && (decide (x.Session = []) || isName x.Session)
theorem spec_job {x : TJob} (hx : x.ok) : Fnc Tryz.prog 32 [.agg x.enc] (.bool (jobOk x)) := by
  obtain ⟨h1, h2⟩ := hx
  refine fn_of c32 (by simp [F32]) fun c => ?_
  unfold F32
  simp
  refine call_fn0 (spec_isReq h1) .bool fun _ _ => ?_
  cases hN : isReq x.Request
  · simp
    exact fin_plain ⟨by simp [jobOk, hN], rfl⟩
  by_cases hE : x.Session = []
  · simp [hE]
    exact fin_plain ⟨by simp [jobOk, hN, hE], rfl⟩
  simp [hE]
  refine call_fn0 (spec_isName h2) .bool fun _ _ => ?_
  simp
  exact fin_plain ⟨by simp [jobOk, hN, hE], rfl⟩
theorem impl_job {x : TJob} (hx : x.ok) : Fnc Tryz.prog 44 [.agg x.enc] (.bool (jobOk x)) := by
  obtain ⟨h1, h2⟩ := hx
  refine fn_of c44 (by simp [F44]) fun c => ?_
  unfold F44
  simp
  refine call_fn0 (impl_isReq h1) .bool fun _ _ => ?_
  cases hN : isReq x.Request
  · simp
    exact fin_plain ⟨by simp [jobOk, hN], rfl⟩
  by_cases hE : x.Session = []
  · simp [hE]
    exact fin_plain ⟨by simp [jobOk, hN, hE], rfl⟩
  simp [hE]
  refine call_fn0 (impl_isName h2) .bool fun _ _ => ?_
  simp
  exact fin_plain ⟨by simp [jobOk, hN, hE], rfl⟩

theorem okPair_sz {s : SL TPair} (h : szPairS s ≤ 1048576) : okPairS s := by
  unfold szPairS at h
  refine ⟨by unfold mx; omega, fun x hx => ?_⟩
  have h1 := szL_mem (sz := TPair.sz) hx
  have h2 : x.sz ≤ 1048576 := by omega
  unfold TPair.sz at h2
  unfold TPair.ok mx
  omega
theorem okReq_sz {x : TRequest} (h : x.sz ≤ 1048576) : x.ok := by
  unfold TRequest.sz at h
  exact ⟨by unfold mx; omega, okPair_sz (by omega), okPair_sz (by omega)⟩
theorem okJob_sz {x : TJob} (h : x.sz ≤ 1048576) : x.ok := by
  unfold TJob.sz at h
  exact ⟨okReq_sz (by omega), by unfold mx; omega⟩
theorem mapP (l : List TPair) : l.map TPair.con = l := List.map_id' l
theorem jobOk_con (x : TJob) : jobOk x.con = jobOk x := by
  have : isReq x.con.Request = isReq x.Request := isReq_con (by simp [TJob.con, TRequest.con, SL.con, mapP])
  unfold jobOk; rw [this]; rfl
end A
end Go.Proofs.YtknpgemlpbclkaaGreatDoor

/-
  SubmitJob of the reference and of the program are the same plain function. No condition.
-/


namespace Go.Proofs.YtknpgemlpbclkaaGreatDoor
namespace A
set_option linter.unusedVariables false
set_option linter.unusedSimpArgs false
set_option maxRecDepth 100000

def subOk (s : TServer) (q : TRequest) (id : List UInt8) : Bool := jobOk ⟨s.Next, q, id⟩ && inR s.Next 0 19
def submit (s : TServer) (q : TRequest) (id : List UInt8) : TServer := if subOk s q id then { s with Queue := .mk 0 (s.Queue.list ++ [⟨s.Next, q, id⟩]), Next := s.Next + 1 } else s
/-- A server and a word, the parts named by places, the objects among others. -/
def SrvK (ok : Bool) (s : TServer) (r : AV) (O : List AObj) : Prop := ∃ (b : TServer) (l : List AV) (U T G : List AObj), r = .tup [.agg l, .bool ok] ∧ Views [] l b.encO ∧ O = U ++ T ∧ T.Perm (b.inn ++ G) ∧ b.con = s.con
theorem con_srvK {f : Nat} {args : List AV} {ok : Bool} {s : TServer} {c : Nat} (h : Con Tryz.prog f args [] c fun r O _ => SrvK ok s r O) : Con Tryz.prog f args [] c fun r O _ => SrvQ ok s r O :=
  Con.fin (con_perm (Q' := fun r O _ => ∃ (b : TServer) (l : List AV), r = .tup [.agg l, .bool ok] ∧ Views [] l b.encO ∧ O = b.inn ∧ b.con = s.con) h fun r O c' ⟨b, l, U, T, G, h1, h2, h3, h4, h5⟩ => by
    obtain ⟨Ts, hTp, hTs⟩ := List.exists_perm_sublist (List.sublist_append_left b.inn G) h4.symm
    exact ⟨Ts, b.inn, by rw [h3]; exact hTs.trans (List.sublist_append_right _ _), hTp.symm, b, l, h1, h2, rfl, h5⟩) fun r O c' _ ⟨b, l, h1, h2, h3, h4⟩ _ _ => by
      subst h1; subst h3
      exact fin_sub (List.Sublist.refl _) (view_tup (.cons (view_agg h2 b.cellsO) (.cons (.refl _) .nil))) ⟨b, rfl, rfl, h4⟩
theorem smReq_of {x : TRequest} (h : x.sz ≤ 1048576) : SmR x := by
  simp only [TRequest.sz, szPairS] at h
  exact ⟨by omega, by omega⟩
/-- The copy, a job added: its content. -/
theorem sub_con {bF : SL TFile} {bL : SL TLine} {bS : SL TSession} {bQ : SL TJob} {bW : SL TWorker} {bD : SL TAnswer} {bN bT : Int} {s : TServer} {q qb : TRequest} {id : List UInt8} {t : Nat}
    (h : (TServer.mk bF bL bS bQ bW bD bN bT).con = s.con) (hq : qb.con = q.con) (hok : subOk s q id = true) :
    (TServer.mk bF bL bS (.mk t (bQ.list ++ [⟨bN, qb, id⟩])) bW bD (bN + 1) bT).con = (submit s q id).con := by
  have cF : bF.con TFile.con = s.Files.con TFile.con := congrArg TServer.Files h
  have cL : bL.con TLine.con = s.Lines.con TLine.con := congrArg TServer.Lines h
  have cS : bS.con TSession.con = s.Sessions.con TSession.con := congrArg TServer.Sessions h
  have cQ : bQ.list.map TJob.con = s.Queue.list.map TJob.con := congrArg (fun t : TServer => t.Queue.list) h
  have cW : bW.con TWorker.con = s.Workers.con TWorker.con := congrArg TServer.Workers h
  have cD : bD.con TAnswer.con = s.Done.con TAnswer.con := congrArg TServer.Done h
  have cN : bN = s.Next := congrArg TServer.Next h
  have cT : bT = s.Now := congrArg TServer.Now h
  unfold submit
  rw [hok, if_pos rfl]
  have cJ : (TJob.mk s.Next qb id).con = (TJob.mk s.Next q id).con := by unfold TJob.con; simp only; rw [hq]
  simp only [TServer.con, SL.con, SL.list_mk, List.map_append, List.map_cons, List.map_nil] at cF cL cS cW cD ⊢
  rw [cF, cL, cS, cW, cD, cN, cT, cQ, cJ]

theorem impl_subK {s : TServer} {q : TRequest} {id : List UInt8} (hs : SmSrv s) (hq : q.sz ≤ 1048576) (hid : id.length ≤ 1048576) (c : Nat) : Con Tryz.prog 14 [.agg s.enc, .agg q.enc, .str id] [] c fun r O _ => SrvK (subOk s q id) (submit s q id) r O := by
  have hqo := okReq_sz hq
  refine con_of c14 (by simp [F14]) ?_
  unfold F14
  simp [putA]
  refine call_new (impl_cpSrvO hs _) (Views.refl _ _) fun r1 O1 c1 hc1 ⟨b0, hr, hO, q0⟩ _ _ => ?_
  subst hr; subst hO
  cases hok : subOk s q id
  · refine ⟨_, .refl _, free_agg (TServer.freeO b0) _, fun o ho => TServer.freeI b0 o ho _, ?_⟩
    have hrv : submit s q id = s := by unfold submit; rw [hok]; rfl
    have fin : ∀ (U : List AObj) (x : AObj), SrvK false (submit s q id) (.tup [.agg b0.encO, .bool false]) (U ++ (b0.inn ++ [x])) := fun U x => ⟨b0, b0.encO, U, b0.inn ++ [x], [x], rfl, Views.refl _ _, rfl, List.Perm.refl _, by rw [hrv]; exact q0⟩
    simp [putA]
    refine call_fn0 (impl_isReq hqo) .bool fun _ _ => ?_
    cases h1 : isReq q
    · simp [putA]
      exact fin_all (fin [_, _, _] _)
    by_cases h2 : id = []
    · simp [putA, h2]
      refine call_fn0 (inRange_fn _ _ _) .bool fun _ _ => ?_
      have h3 : inR s.Next 0 19 = false := by simpa [subOk, jobOk, h1, h2] using hok
      simp [putA, h3]
      exact fin_all (fin [_, _, _] _)
    simp [putA, h2]
    refine call_fn0 (impl_isName (by unfold mx; omega)) .bool fun _ _ => ?_
    cases h4 : isName id
    · simp [putA]
      exact fin_all (fin [_, _, _] _)
    simp [putA]
    refine call_fn0 (inRange_fn _ _ _) .bool fun _ _ => ?_
    have h3 : inR s.Next 0 19 = false := by simpa [subOk, jobOk, h1, h2, h4] using hok
    simp [putA, h3]
    exact fin_all (fin [_, _, _] _)
  · have hok0 := hok
    unfold subOk jobOk at hok
    simp only [Bool.and_eq_true, Bool.or_eq_true, decide_eq_true_eq] at hok
    obtain ⟨⟨h1, h2⟩, h3⟩ := hok
    have h3' := inR_true h3
    have qQ : b0.Queue.list.map TJob.con = s.Queue.list.map TJob.con := congrArg (fun t : TServer => t.Queue.list) q0
    have qQl : b0.Queue.list.length = s.Queue.list.length := by simpa using congrArg List.length qQ
    have qN : b0.Next = s.Next := by have := congrArg (fun t : TServer => t.Next) q0; exact this
    have hql := hs.2.2.2.2.1
    have hw1 : IntKind.i64.wrap (s.Next + 1) = s.Next + 1 := wrap64 (by omega) (by omega)
    have m1 : (s.Queue.list.length + 1) * 88 ≤ 140737488355328 := by omega
    have m2 : s.Queue.list.length + 1 ≤ mx := by unfold mx; omega
    obtain ⟨bF, bL, bS, bQ, bW, bD, bN, bT⟩ := b0
    simp only at qQ qQl qN
    subst qN
    cases bQ with
    | nil =>
      refine ⟨.agg [bF.ref 3, bL.ref 4, bS.ref 4, .nsl, bW.ref 9, bD.ref 11, .int .i64 s.Next, .int .i64 bT], .refl _, free_agg (TServer.freeO ⟨bF, bL, bS, .nil, bW, bD, s.Next, bT⟩) _, fun o ho => TServer.freeI _ o ho _, ?_⟩
      generalize hI : (TServer.mk bF bL bS .nil bW bD s.Next bT).inn = I
      have z0 : s.Queue.list.length = 0 := by simpa using qQl.symm
      have m3 : 1 ≤ mx := by decide
      have tail : ∀ (n c4 : Nat) (qb : TRequest), qb.con = q.con → SrvK true (submit s q id) (.tup [.agg [bF.ref 3, bL.ref 4, bS.ref 4, .ref n (c4 + 1) 5 1, bW.ref 9, bD.ref 11, .int .i64 (s.Next + 1), .int .i64 bT], .bool true]) ([⟨false, c, 8, [s.enc]⟩, ⟨false, c + 1, 3, [q.enc]⟩, ⟨false, c + 1 + 1, 8, [[bF.ref 3, bL.ref 4, bS.ref 4, .ref n (c4 + 1) 5 1, bW.ref 9, bD.ref 11, .int .i64 (s.Next + 1), .int .i64 bT]]⟩] ++ (I ++ ⟨false, c1, 8, [[bF.ref 3, bL.ref 4, bS.ref 4, .ref n (c4 + 1) 5 1, bW.ref 9, bD.ref 11, .int .i64 (s.Next + 1), .int .i64 bT]]⟩ :: (qb.inn ++ [⟨false, c4, 5, [(TJob.mk s.Next qb id).encO]⟩, ⟨false, c4 + 1, 5, [(TJob.mk s.Next qb id).encO]⟩]))) := fun n c4 qb hb =>
        ⟨⟨bF, bL, bS, .mk (c4 + 1) [⟨s.Next, qb, id⟩], bW, bD, s.Next + 1, bT⟩, _, [_, _, _], _, [⟨false, c1, 8, [[bF.ref 3, bL.ref 4, bS.ref 4, .ref n (c4 + 1) 5 1, bW.ref 9, bD.ref 11, .int .i64 (s.Next + 1), .int .i64 bT]]⟩, ⟨false, c4, 5, [(TJob.mk s.Next qb id).encO]⟩], rfl, .cons (.refl _) (.cons (.refl _) (.cons (.refl _) (.cons .name (.cons (.refl _) (.cons (.refl _) (.cons (.refl _) (.cons (.refl _) .nil))))))), rfl, perm_cnt fun p => by
          have e1 : (SL.mk (c4 + 1) [TJob.mk s.Next qb id]).wood 5 TJob.encO TJob.inn = ⟨false, c4 + 1, 5, [(TJob.mk s.Next qb id).encO]⟩ :: qb.inn := by simp [SL.wood, wood, TJob.inn, TRequest.inn]
          have e2 : (SL.nil : SL TJob).wood 5 TJob.encO TJob.inn = [] := rfl
          rw [← hI]
          simp only [TServer.inn, e1, e2, List.countP_append, List.countP_cons, List.countP_nil]
          omega, sub_con (bQ := .nil) q0 hb hok0⟩
      simp [putA, ref_nil]
      refine call_fn0 (impl_isReq hqo) .bool fun _ _ => ?_
      by_cases h2e : id = []
      · simp [putA, h1, h2e, ref_nil]
        refine call_fn0 (inRange_fn _ _ _) .bool fun _ _ => ?_
        simp [putA, h3, ref_nil]
        refine call_new (impl_cpReqO (smReq_of hq) _) (Views.refl _ _) fun r1 O1 c4 hc4 ⟨qb, hr, hO, hb⟩ _ _ => ?_
        subst hr; subst hO
        refine ⟨_, .refl _, free_agg (TRequest.freeO qb) _, fun o ho => TRequest.freeI qb o ho _, ?_⟩
        simp [putA, h3, hw1, m3, ref_nil]
        exact fin_all (tail _ c4 qb hb)
      · simp [putA, h1, h2e, ref_nil]
        refine call_fn0 (impl_isName (by unfold mx; omega)) .bool fun _ _ => ?_
        have h4 : isName id = true := h2.resolve_left h2e
        simp [putA, h4, ref_nil]
        refine call_fn0 (inRange_fn _ _ _) .bool fun _ _ => ?_
        simp [putA, h3, ref_nil]
        refine call_new (impl_cpReqO (smReq_of hq) _) (Views.refl _ _) fun r1 O1 c4 hc4 ⟨qb, hr, hO, hb⟩ _ _ => ?_
        subst hr; subst hO
        refine ⟨_, .refl _, free_agg (TRequest.freeO qb) _, fun o ho => TRequest.freeI qb o ho _, ?_⟩
        simp [putA, h3, hw1, m3, ref_nil]
        exact fin_all (tail _ c4 qb hb)
    | mk t l =>
      simp only [SL.list_mk] at qQ qQl
      obtain ⟨A, hA⟩ : ∃ A : List AObj, A = bF.wood 3 TFile.enc noInn ++ (bL.wood 4 TLine.encO TLine.inn ++ bS.wood 4 TSession.enc noInn) := ⟨_, rfl⟩
      obtain ⟨M, hM⟩ : ∃ M : List AObj, M = l.flatMap TJob.inn ++ (bW.wood 9 TWorker.encO TWorker.inn ++ bD.wood 11 TAnswer.encO TAnswer.inn) := ⟨_, rfl⟩
      have hI : (TServer.mk bF bL bS (.mk t l) bW bD s.Next bT).inn = A ++ (⟨false, t, 5, l.map TJob.encO⟩ :: M) := by
        rw [hA, hM]; simp [TServer.inn, SL.wood, wood]
      rw [hI]
      refine ⟨.agg [bF.ref 3, bL.ref 4, bS.ref 4, .ref (A.length + 3) t 5 l.length, bW.ref 9, bD.ref 11, .int .i64 s.Next, .int .i64 bT], view_agg (.cons (.refl _) (.cons (.refl _) (.cons (.refl _) (.cons .name (.cons (.refl _) (.cons (.refl _) (.cons (.refl _) (.cons (.refl _) .nil)))))))) ?_, ?_, ?_, ?_⟩
      · intro a ha
        simp only [List.mem_cons, List.not_mem_nil, or_false] at ha
        rcases ha with rfl | rfl | rfl | rfl | rfl | rfl | rfl | rfl <;> first | rfl | exact cell_rf _ _
      · refine free_agg (fun a ha => ?_) _
        simp only [List.mem_cons, List.not_mem_nil, or_false] at ha
        rcases ha with rfl | rfl | rfl | rfl | rfl | rfl | rfl | rfl
        · exact free_ref _ _
        · exact free_ref _ _
        · exact free_ref _ _
        · exact fun _ => .ref
        · exact free_ref _ _
        · exact free_ref _ _
        · exact free_int _ _
        · exact free_int _ _
      · intro o ho
        rw [← hI] at ho
        exact TServer.freeI _ o ho _
      simp [putA]
      refine call_fn0 (impl_isReq hqo) .bool fun _ _ => ?_
      have tail : ∀ (c4 : Nat) (qb : TRequest), qb.con = q.con → SrvK true (submit s q id) (.tup [.agg [bF.ref 3, bL.ref 4, bS.ref 4, .ref (A.length + 3) (c4 + 1) 5 (s.Queue.list.length + 1), bW.ref 9, bD.ref 11, .int .i64 (s.Next + 1), .int .i64 bT], .bool true]) ([⟨false, c, 8, [s.enc]⟩, ⟨false, c + 1, 3, [q.enc]⟩, ⟨false, c + 1 + 1, 8, [[bF.ref 3, bL.ref 4, bS.ref 4, .ref (A.length + 3) (c4 + 1) 5 (s.Queue.list.length + 1), bW.ref 9, bD.ref 11, .int .i64 (s.Next + 1), .int .i64 bT]]⟩] ++ (A ++ ⟨false, c4 + 1, 5, l.map TJob.encO ++ [(TJob.mk s.Next qb id).encO]⟩ :: (M ++ ⟨false, c1, 8, [[bF.ref 3, bL.ref 4, bS.ref 4, .ref (A.length + 3) (c4 + 1) 5 (s.Queue.list.length + 1), bW.ref 9, bD.ref 11, .int .i64 (s.Next + 1), .int .i64 bT]]⟩ :: (qb.inn ++ [⟨false, c4, 5, [(TJob.mk s.Next qb id).encO]⟩])))) := fun c4 qb hb =>
        ⟨⟨bF, bL, bS, .mk (c4 + 1) (l ++ [⟨s.Next, qb, id⟩]), bW, bD, s.Next + 1, bT⟩, _, [_, _, _], _, [⟨false, c1, 8, [[bF.ref 3, bL.ref 4, bS.ref 4, .ref (A.length + 3) (c4 + 1) 5 (s.Queue.list.length + 1), bW.ref 9, bD.ref 11, .int .i64 (s.Next + 1), .int .i64 bT]]⟩, ⟨false, c4, 5, [(TJob.mk s.Next qb id).encO]⟩], rfl, .cons (.refl _) (.cons (.refl _) (.cons (.refl _) (.cons (by simp only [SL.ref, List.length_append, List.length_cons, List.length_nil, qQl]; exact .name) (.cons (.refl _) (.cons (.refl _) (.cons (.refl _) (.cons (.refl _) .nil))))))), rfl, perm_cnt fun p => by
          have e1 : (SL.mk (c4 + 1) (l ++ [TJob.mk s.Next qb id])).wood 5 TJob.encO TJob.inn = ⟨false, c4 + 1, 5, l.map TJob.encO ++ [(TJob.mk s.Next qb id).encO]⟩ :: (l.flatMap TJob.inn ++ qb.inn) := by simp [SL.wood, wood, TJob.inn, TRequest.inn]
          simp only [TServer.inn, e1, hA, hM, List.countP_append, List.countP_cons, List.countP_nil]
          omega, sub_con (bQ := .mk t l) q0 hb hok0⟩
      by_cases h2e : id = []
      · simp [putA, h1, h2e]
        refine call_fn0 (inRange_fn _ _ _) .bool fun _ _ => ?_
        simp [putA, h3]
        refine call_new (impl_cpReqO (smReq_of hq) _) (Views.refl _ _) fun r1 O1 c4 hc4 ⟨qb, hr, hO, hb⟩ _ _ => ?_
        subst hr; subst hO
        refine ⟨_, .refl _, free_agg (TRequest.freeO qb) _, fun o ho => TRequest.freeI qb o ho _, ?_⟩
        simp [putA, h3, hw1, qQl, m1, m2]
        exact fin_all (tail c4 qb hb)
      · simp [putA, h1, h2e]
        refine call_fn0 (impl_isName (by unfold mx; omega)) .bool fun _ _ => ?_
        have h4 : isName id = true := h2.resolve_left h2e
        simp [putA, h4]
        refine call_fn0 (inRange_fn _ _ _) .bool fun _ _ => ?_
        simp [putA, h3]
        refine call_new (impl_cpReqO (smReq_of hq) _) (Views.refl _ _) fun r1 O1 c4 hc4 ⟨qb, hr, hO, hb⟩ _ _ => ?_
        subst hr; subst hO
        refine ⟨_, .refl _, free_agg (TRequest.freeO qb) _, fun o ho => TRequest.freeI qb o ho _, ?_⟩
        simp [putA, h3, hw1, qQl, m1, m2]
        exact fin_all (tail c4 qb hb)
theorem impl_subO {s : TServer} {q : TRequest} {id : List UInt8} (hs : SmSrv s) (hq : q.sz ≤ 1048576) (hid : id.length ≤ 1048576) (c : Nat) : Con Tryz.prog 14 [.agg s.enc, .agg q.enc, .str id] [] c fun r O _ => SrvQ (subOk s q id) (submit s q id) r O := con_srvK (impl_subK hs hq hid c)

/-! ### the reference's -/
def irHd : IR → IR
  | .seq a _ => a
  | x => x
def irTl : IR → IR
  | .seq _ b => b
  | x => x
def irAt : Nat → IR → IR
  | 0, x => x
  | n + 1, x => irAt n (irTl x)
@[simp] theorem getW_sub {α : Type} (A M X Y : List α) (q w j b : α) (K : α → Prop) : getW (A ++ q :: (M ++ w :: (X ++ j :: (Y ++ [b])))) (A.length + (M.length + (X.length + (Y.length + 1) + 1) + 1)) K = K b := by
  have e : A ++ q :: (M ++ w :: (X ++ j :: (Y ++ [b]))) = (A ++ q :: (M ++ w :: (X ++ j :: Y))) ++ b :: [] := by simp
  have e2 : A.length + (M.length + (X.length + (Y.length + 1) + 1) + 1) = (A ++ q :: (M ++ w :: (X ++ j :: Y))).length := by simp
  rw [e, e2, getW_len]
@[simp] theorem getW_subj {α : Type} (A M Y : List α) (q w j : α) (K : α → Prop) : getW (A ++ q :: (M ++ w :: j :: Y)) (A.length + (M.length + 1 + 1)) K = K j := by
  have e : A ++ q :: (M ++ w :: j :: Y) = (A ++ q :: (M ++ [w])) ++ j :: Y := by simp
  have e2 : A.length + (M.length + 1 + 1) = (A ++ q :: (M ++ [w])).length := by simp
  rw [e, e2, getW_len]
@[simp] theorem set_subj {α : Type} (A M Y : List α) (q w j z : α) : (A ++ q :: (M ++ w :: j :: Y)).set (A.length + (M.length + 1 + 1)) z = A ++ q :: (M ++ w :: z :: Y) := by
  have e : A ++ q :: (M ++ w :: j :: Y) = (A ++ q :: (M ++ [w])) ++ j :: Y := by simp
  have e2 : A.length + (M.length + 1 + 1) = (A ++ q :: (M ++ [w])).length := by simp
  rw [e, e2, List.set_append_right _ _ (Nat.le_refl _)]
  simp
theorem cutS : F12.ir = .seq (irHd (irAt 0 F12.ir)) (.seq (irHd (irAt 1 F12.ir)) (.seq (irHd (irAt 2 F12.ir)) (irAt 3 F12.ir))) := rfl
set_option maxHeartbeats 4000000 in
theorem spec_subK {s : TServer} {q : TRequest} {id : List UInt8} (hs : SmSrv s) (hq : q.sz ≤ 1048576) (hid : id.length ≤ 1048576) (c : Nat) : Con Tryz.prog 12 [.agg s.enc, .agg q.enc, .str id] [] c fun r O _ => SrvK (subOk s q id) (submit s q id) r O := by
  have hqo := okReq_sz hq
  refine con_of c12 (by simp [F12]) ?_
  rw [cutS]
  generalize hR : irAt 3 F12.ir = R
  simp only [irHd, irAt, irTl, F12]
  simp [putA]
  refine call_new (spec_cpSrvO hs _) (Views.refl _ _) fun r1 O1 c1 hc1 ⟨b0, hr, hO, q0⟩ _ _ => ?_
  subst hr; subst hO
  have hC : ∀ {H : List AObj} {c : Nat} {K : AV → List AObj → Nat → Prop}, (∀ (qb : TRequest) (c' : Nat), qb.con = q.con → K (.agg qb.encO) (H ++ qb.inn) c') → CallW Tryz.prog 56 [.agg q.enc] H c K := fun k =>
    call_new (spec_cpReqO (smReq_of hq) _) (Views.refl _ _) fun r O c' _ ⟨qb, hr, hO, hb⟩ _ _ => by
      subst hr; subst hO
      exact ⟨_, .refl _, free_agg (TRequest.freeO qb) _, fun o ho => TRequest.freeI qb o ho _, k qb c' hb⟩
  have hJ : ∀ (qb : TRequest) {X Y H : List AObj} {c : Nat} {K : AV → List AObj → Nat → Prop}, qb.con = q.con → X ++ Y = qb.inn → (∀ o, o ∈ X → o ∈ H) → (∀ o, o ∈ Y → o ∈ H) → (∀ c', K (.bool (jobOk ⟨s.Next, q, id⟩)) H c') → CallW Tryz.prog 32 [.agg (TJob.mk s.Next qb id).encO] H c K := fun qb {X Y H c K} hb hx h1 h2 k => by
    have e : jobOk ⟨s.Next, q, id⟩ = jobOk ⟨s.Next, qb, id⟩ := by
      rw [← jobOk_con, ← jobOk_con ⟨s.Next, qb, id⟩]
      congr 1
      unfold TJob.con; simp only; rw [hb]
    rw [e] at k
    have hqb : qb.sz ≤ 1048576 := by rw [← qb.sz_con, hb, q.sz_con]; exact hq
    refine call_fn (spec_job (x := ⟨s.Next, qb, id⟩) ⟨okReq_sz hqb, by unfold mx; show id.length ≤ _; omega⟩) (.cons (view_AJob fun o ho => ?_) .nil) .bool fun c' _ => k c'
    have ho' : o ∈ qb.inn := ho
    rw [← hx] at ho'
    rcases List.mem_append.1 ho' with h | h
    · exact h1 o h
    · exact h2 o h
  cases hok : subOk s q id
  · refine ⟨_, .refl _, free_agg (TServer.freeO b0) _, fun o ho => TServer.freeI b0 o ho _, ?_⟩
    have hrv : submit s q id = s := by unfold submit; rw [hok]; rfl
    have fin : ∀ (U G : List AObj), SrvK false (submit s q id) (.tup [.agg b0.encO, .bool false]) (U ++ (b0.inn ++ G)) := fun U G => ⟨b0, b0.encO, U, b0.inn ++ G, G, rfl, Views.refl _ _, rfl, List.Perm.refl _, by rw [hrv]; exact q0⟩
    have rest : ∀ (e : Env) (X Y : List AObj) (qb : TRequest) (tj c' : Nat), qb.con = q.con → X ++ Y = qb.inn → e 3 = .ptr 0 c 8 0 0 → e 6 = .ptr 2 (c + 1 + 1) 8 0 0 → e 8 = .ptr (b0.inn.length + 1 + 1 + 1) c1 8 0 0 → e 9 = .ptr (b0.inn.length + (X.length + 1) + 1 + 1 + 1) tj 5 0 0 →
        irW Tryz.prog R (retQ [.cell 6 (some 8), .tmp 7] fun r O x => SrvK false (submit s q id) r O) e (⟨false, c, 8, [s.enc]⟩ :: ⟨false, c + 1, 3, [q.enc]⟩ :: ⟨false, c + 1 + 1, 8, [[.nsl, .nsl, .nsl, .nsl, .nsl, .nsl, .int .i64 0, .int .i64 0]]⟩ :: (b0.inn ++ ⟨false, c1, 8, [b0.encO]⟩ :: (X ++ ⟨false, tj, 5, [(TJob.mk s.Next qb id).encO]⟩ :: Y))) c' := by
      intro e X Y qb tj c' hb hx e3 e6 e8 e9
      subst hR
      simp only [irAt, irTl, F12]
      simp [e3, e6, e8, e9, putA]
      refine hJ qb hb hx (fun o h => by simp [h]) (fun o h => by simp [h]) fun c2 => ?_
      cases hj : jobOk ⟨s.Next, q, id⟩
      · simp [e3, e6, e8, e9, putA]
        exact fin_all (fin [_, _, _] _)
      have h3 : inR s.Next 0 19 = false := by simpa [subOk, hj] using hok
      simp [e3, e6, e8, e9, putA]
      refine call_fn0 (l1In_fn _ _ _) .bool fun _ _ => ?_
      simp [e3, e6, e8, e9, h3, putA]
      exact fin_all (fin [_, _, _] _)
    simp [putA]
    repeat' first
      | refine hC fun qb c2 hb => ?_
      | exact rest _ [] _ _ _ _ hb rfl (by simp [upd]) (by simp [upd]) (by simp [upd]) (by simp [upd])
      | exact rest _ _ [] _ _ _ hb (by simp) (by simp [upd]) (by simp [upd]) (by simp [upd]) (by simp [upd])
      | with_reducible refine And.intro ?_ ?_
      | simp [putA]
  · have hok0 := hok
    unfold subOk at hok
    rw [Bool.and_eq_true] at hok
    obtain ⟨hj, h3⟩ := hok
    have h3' := inR_true h3
    have qQ : b0.Queue.list.map TJob.con = s.Queue.list.map TJob.con := congrArg (fun t : TServer => t.Queue.list) q0
    have qQl : b0.Queue.list.length = s.Queue.list.length := by simpa using congrArg List.length qQ
    have qN : b0.Next = s.Next := by have := congrArg (fun t : TServer => t.Next) q0; exact this
    have hql := hs.2.2.2.2.1
    have hw1 : IntKind.i64.wrap (s.Next + 1) = s.Next + 1 := wrap64 (by omega) (by omega)
    have m1 : (s.Queue.list.length + 1) * 88 ≤ 140737488355328 := by omega
    have m2 : s.Queue.list.length + 1 ≤ mx := by unfold mx; omega
    have m3 : 1 ≤ mx := by decide
    obtain ⟨bF, bL, bS, bQ, bW, bD, bN, bT⟩ := b0
    simp only at qQ qQl qN
    subst qN
    cases bQ with
    | nil =>
      refine ⟨.agg [bF.ref 3, bL.ref 4, bS.ref 4, .nsl, bW.ref 9, bD.ref 11, .int .i64 s.Next, .int .i64 bT], .refl _, free_agg (TServer.freeO ⟨bF, bL, bS, .nil, bW, bD, s.Next, bT⟩) _, fun o ho => TServer.freeI _ o ho _, ?_⟩
      generalize hI : (TServer.mk bF bL bS .nil bW bD s.Next bT).inn = I
      have tail : ∀ (n tq tj tb : Nat) (qb : TRequest) (X Y : List AObj), qb.con = q.con → X ++ Y = qb.inn → SrvK true (submit s q id) (.tup [.agg [bF.ref 3, bL.ref 4, bS.ref 4, .ref n tq 5 1, bW.ref 9, bD.ref 11, .int .i64 (s.Next + 1), .int .i64 bT], .bool true]) ([⟨false, c, 8, [s.enc]⟩, ⟨false, c + 1, 3, [q.enc]⟩, ⟨false, c + 1 + 1, 8, [[bF.ref 3, bL.ref 4, bS.ref 4, .ref n tq 5 1, bW.ref 9, bD.ref 11, .int .i64 (s.Next + 1), .int .i64 bT]]⟩] ++ (I ++ ⟨false, c1, 8, [[bF.ref 3, bL.ref 4, bS.ref 4, .ref n tq 5 1, bW.ref 9, bD.ref 11, .int .i64 (s.Next + 1), .int .i64 bT]]⟩ :: (X ++ ⟨false, tj, 5, [(TJob.mk s.Next qb id).encO]⟩ :: (Y ++ [⟨false, tb, 5, [(TJob.mk s.Next qb id).encO]⟩, ⟨false, tq, 5, [(TJob.mk s.Next qb id).encO]⟩])))) := fun n tq tj tb qb X Y hb hx =>
        ⟨⟨bF, bL, bS, .mk tq [⟨s.Next, qb, id⟩], bW, bD, s.Next + 1, bT⟩, _, [_, _, _], _, [⟨false, c1, 8, [[bF.ref 3, bL.ref 4, bS.ref 4, .ref n tq 5 1, bW.ref 9, bD.ref 11, .int .i64 (s.Next + 1), .int .i64 bT]]⟩, ⟨false, tj, 5, [(TJob.mk s.Next qb id).encO]⟩, ⟨false, tb, 5, [(TJob.mk s.Next qb id).encO]⟩], rfl, .cons (.refl _) (.cons (.refl _) (.cons (.refl _) (.cons .name (.cons (.refl _) (.cons (.refl _) (.cons (.refl _) (.cons (.refl _) .nil))))))), rfl, perm_cnt fun p => by
          have e1 : (SL.mk tq [TJob.mk s.Next qb id]).wood 5 TJob.encO TJob.inn = ⟨false, tq, 5, [(TJob.mk s.Next qb id).encO]⟩ :: qb.inn := by simp [SL.wood, wood, TJob.inn, TRequest.inn]
          have e2 : (SL.nil : SL TJob).wood 5 TJob.encO TJob.inn = [] := rfl
          rw [← hI]
          simp only [TServer.inn, e1, e2, ← hx, List.countP_append, List.countP_cons, List.countP_nil]
          omega, sub_con (bQ := .nil) q0 hb hok0⟩
      have rest : ∀ (e : Env) (X Y : List AObj) (qb : TRequest) (tj c' : Nat), qb.con = q.con → X ++ Y = qb.inn → e 3 = .ptr 0 c 8 0 0 → e 6 = .ptr 2 (c + 1 + 1) 8 0 0 → e 8 = .ptr (I.length + 1 + 1 + 1) c1 8 0 0 → e 9 = .ptr (I.length + (X.length + 1) + 1 + 1 + 1) tj 5 0 0 →
          irW Tryz.prog R (retQ [.cell 6 (some 8), .tmp 7] fun r O x => SrvK true (submit s q id) r O) e (⟨false, c, 8, [s.enc]⟩ :: ⟨false, c + 1, 3, [q.enc]⟩ :: ⟨false, c + 1 + 1, 8, [[.nsl, .nsl, .nsl, .nsl, .nsl, .nsl, .int .i64 0, .int .i64 0]]⟩ :: (I ++ ⟨false, c1, 8, [[bF.ref 3, bL.ref 4, bS.ref 4, .nsl, bW.ref 9, bD.ref 11, .int .i64 s.Next, .int .i64 bT]]⟩ :: (X ++ ⟨false, tj, 5, [(TJob.mk s.Next qb id).encO]⟩ :: Y))) c' := by
        intro e X Y qb tj c' hb hx e3 e6 e8 e9
        subst hR
        simp only [irAt, irTl, F12]
        simp [e3, e6, e8, e9, putA]
        refine hJ qb hb hx (fun o h => by simp [h]) (fun o h => by simp [h]) fun c2 => ?_
        rw [hj]
        simp [e3, e6, e8, e9, putA]
        refine call_fn0 (l1In_fn _ _ _) .bool fun _ _ => ?_
        simp [e3, e6, e8, e9, h3, putA, hw1, m3]
        exact fin_all (tail _ _ _ _ qb X Y hb hx)
      simp [putA]
      repeat' first
        | refine hC fun qb c2 hb => ?_
        | exact rest _ [] _ _ _ _ hb rfl (by simp [upd]) (by simp [upd]) (by simp [upd]) (by simp [upd])
        | exact rest _ _ [] _ _ _ hb (by simp) (by simp [upd]) (by simp [upd]) (by simp [upd]) (by simp [upd])
        | with_reducible refine And.intro ?_ ?_
        | simp [putA]
    | mk t l =>
      simp only [SL.list_mk] at qQ qQl
      obtain ⟨A, hA⟩ : ∃ A : List AObj, A = bF.wood 3 TFile.enc noInn ++ (bL.wood 4 TLine.encO TLine.inn ++ bS.wood 4 TSession.enc noInn) := ⟨_, rfl⟩
      obtain ⟨M, hM⟩ : ∃ M : List AObj, M = l.flatMap TJob.inn ++ (bW.wood 9 TWorker.encO TWorker.inn ++ bD.wood 11 TAnswer.encO TAnswer.inn) := ⟨_, rfl⟩
      have hI : (TServer.mk bF bL bS (.mk t l) bW bD s.Next bT).inn = A ++ (⟨false, t, 5, l.map TJob.encO⟩ :: M) := by
        rw [hA, hM]; simp [TServer.inn, SL.wood, wood]
      rw [hI]
      refine ⟨.agg [bF.ref 3, bL.ref 4, bS.ref 4, .ref (A.length + 3) t 5 l.length, bW.ref 9, bD.ref 11, .int .i64 s.Next, .int .i64 bT], view_agg (.cons (.refl _) (.cons (.refl _) (.cons (.refl _) (.cons .name (.cons (.refl _) (.cons (.refl _) (.cons (.refl _) (.cons (.refl _) .nil)))))))) ?_, ?_, ?_, ?_⟩
      · intro a ha
        simp only [List.mem_cons, List.not_mem_nil, or_false] at ha
        rcases ha with rfl | rfl | rfl | rfl | rfl | rfl | rfl | rfl <;> first | rfl | exact cell_rf _ _
      · refine free_agg (fun a ha => ?_) _
        simp only [List.mem_cons, List.not_mem_nil, or_false] at ha
        rcases ha with rfl | rfl | rfl | rfl | rfl | rfl | rfl | rfl
        · exact free_ref _ _
        · exact free_ref _ _
        · exact free_ref _ _
        · exact fun _ => .ref
        · exact free_ref _ _
        · exact free_ref _ _
        · exact free_int _ _
        · exact free_int _ _
      · intro o ho
        rw [← hI] at ho
        exact TServer.freeI _ o ho _
      have tail : ∀ (tq tj tb : Nat) (qb : TRequest) (X Y : List AObj), qb.con = q.con → X ++ Y = qb.inn → SrvK true (submit s q id) (.tup [.agg [bF.ref 3, bL.ref 4, bS.ref 4, .ref (A.length + 3) tq 5 (s.Queue.list.length + 1), bW.ref 9, bD.ref 11, .int .i64 (s.Next + 1), .int .i64 bT], .bool true]) ([⟨false, c, 8, [s.enc]⟩, ⟨false, c + 1, 3, [q.enc]⟩, ⟨false, c + 1 + 1, 8, [[bF.ref 3, bL.ref 4, bS.ref 4, .ref (A.length + 3) tq 5 (s.Queue.list.length + 1), bW.ref 9, bD.ref 11, .int .i64 (s.Next + 1), .int .i64 bT]]⟩] ++ (A ++ ⟨false, tq, 5, l.map TJob.encO ++ [(TJob.mk s.Next qb id).encO]⟩ :: (M ++ ⟨false, c1, 8, [[bF.ref 3, bL.ref 4, bS.ref 4, .ref (A.length + 3) tq 5 (s.Queue.list.length + 1), bW.ref 9, bD.ref 11, .int .i64 (s.Next + 1), .int .i64 bT]]⟩ :: (X ++ ⟨false, tj, 5, [(TJob.mk s.Next qb id).encO]⟩ :: (Y ++ [⟨false, tb, 5, [(TJob.mk s.Next qb id).encO]⟩]))))) := fun tq tj tb qb X Y hb hx =>
        ⟨⟨bF, bL, bS, .mk tq (l ++ [⟨s.Next, qb, id⟩]), bW, bD, s.Next + 1, bT⟩, _, [_, _, _], _, [⟨false, c1, 8, [[bF.ref 3, bL.ref 4, bS.ref 4, .ref (A.length + 3) tq 5 (s.Queue.list.length + 1), bW.ref 9, bD.ref 11, .int .i64 (s.Next + 1), .int .i64 bT]]⟩, ⟨false, tj, 5, [(TJob.mk s.Next qb id).encO]⟩, ⟨false, tb, 5, [(TJob.mk s.Next qb id).encO]⟩], rfl, .cons (.refl _) (.cons (.refl _) (.cons (.refl _) (.cons (by simp only [SL.ref, List.length_append, List.length_cons, List.length_nil, qQl]; exact .name) (.cons (.refl _) (.cons (.refl _) (.cons (.refl _) (.cons (.refl _) .nil))))))), rfl, perm_cnt fun p => by
          have e1 : (SL.mk tq (l ++ [TJob.mk s.Next qb id])).wood 5 TJob.encO TJob.inn = ⟨false, tq, 5, l.map TJob.encO ++ [(TJob.mk s.Next qb id).encO]⟩ :: (l.flatMap TJob.inn ++ qb.inn) := by simp [SL.wood, wood, TJob.inn, TRequest.inn]
          simp only [TServer.inn, e1, hA, hM, ← hx, List.countP_append, List.countP_cons, List.countP_nil]
          omega, sub_con (bQ := .mk t l) q0 hb hok0⟩
      have rest : ∀ (e : Env) (X Y : List AObj) (qb : TRequest) (tj c' : Nat), qb.con = q.con → X ++ Y = qb.inn → e 3 = .ptr 0 c 8 0 0 → e 6 = .ptr 2 (c + 1 + 1) 8 0 0 → e 8 = .ptr (A.length + (M.length + 1) + 1 + 1 + 1) c1 8 0 0 → e 9 = .ptr (A.length + (M.length + (X.length + 1) + 1) + 1 + 1 + 1) tj 5 0 0 →
          irW Tryz.prog R (retQ [.cell 6 (some 8), .tmp 7] fun r O x => SrvK true (submit s q id) r O) e (⟨false, c, 8, [s.enc]⟩ :: ⟨false, c + 1, 3, [q.enc]⟩ :: ⟨false, c + 1 + 1, 8, [[.nsl, .nsl, .nsl, .nsl, .nsl, .nsl, .int .i64 0, .int .i64 0]]⟩ :: (A ++ ⟨false, t, 5, l.map TJob.encO⟩ :: (M ++ ⟨false, c1, 8, [[bF.ref 3, bL.ref 4, bS.ref 4, .ref (A.length + 3) t 5 l.length, bW.ref 9, bD.ref 11, .int .i64 s.Next, .int .i64 bT]]⟩ :: (X ++ ⟨false, tj, 5, [(TJob.mk s.Next qb id).encO]⟩ :: Y)))) c' := by
        intro e X Y qb tj c' hb hx e3 e6 e8 e9
        subst hR
        simp only [irAt, irTl, F12]
        simp [e3, e6, e8, e9, putA]
        refine hJ qb hb hx (fun o h => by simp [h]) (fun o h => by simp [h]) fun c2 => ?_
        rw [hj]
        simp [e3, e6, e8, e9, putA]
        refine call_fn0 (l1In_fn _ _ _) .bool fun _ _ => ?_
        simp [e3, e6, e8, e9, h3, putA, hw1, qQl, m1, m2]
        exact fin_all (tail _ _ _ qb X Y hb hx)
      simp [putA]
      repeat' first
        | refine hC fun qb c2 hb => ?_
        | exact rest _ [] _ _ _ _ hb rfl (by simp [upd]) (by simp [upd]) (by simp [upd]) (by simp [upd])
        | exact rest _ _ [] _ _ _ hb (by simp) (by simp [upd]) (by simp [upd]) (by simp [upd]) (by simp [upd])
        | with_reducible refine And.intro ?_ ?_
        | simp [putA]
theorem spec_subO {s : TServer} {q : TRequest} {id : List UInt8} (hs : SmSrv s) (hq : q.sz ≤ 1048576) (hid : id.length ≤ 1048576) (c : Nat) : Con Tryz.prog 12 [.agg s.enc, .agg q.enc, .str id] [] c fun r O _ => SrvQ (subOk s q id) (submit s q id) r O := con_srvK (spec_subK hs hq hid c)
end A
end Go.Proofs.YtknpgemlpbclkaaGreatDoor

/-
  Servers whose trees bear one tag: what a statement of open order may be given. No condition.
-/


namespace Go.Proofs.YtknpgemlpbclkaaGreatDoor
namespace A
set_option linter.unusedVariables false
set_option linter.unusedSimpArgs false
set_option maxRecDepth 100000

theorem sl_from {α : Type} (c w : Nat) (enc : α → List AV) (l : List α) (h : ∀ x a, a ∈ enc x → From c a) : From c ((SL.mk c l).av w enc) := by
  refine from_slc (Nat.le_refl _) fun row hr y hy => ?_
  obtain ⟨x, _, rfl⟩ := List.mem_map.1 hr
  exact h x y hy
theorem sl_at {α : Type} (c w : Nat) (enc : α → List AV) (f : α → α) (l : List α) (h : ∀ x a, a ∈ enc (f x) → From c a) : From c ((SL.mk c (l.map f)).av w enc) := by
  refine from_slc (Nat.le_refl _) fun row hr y hy => ?_
  obtain ⟨x, hx, rfl⟩ := List.mem_map.1 hr
  obtain ⟨z, _, rfl⟩ := List.mem_map.1 hx
  exact h z y hy
def TLine.at (c : Nat) (x : TLine) : TLine := { x with Words := .mk c x.Words.list }
def TJob.at (c : Nat) (x : TJob) : TJob := { x with Request := x.Request.at c }
def TWorker.at (c : Nat) (x : TWorker) : TWorker := { x with Job := x.Job.at c, Files := .mk c x.Files.list }
def TAnswer.at (c : Nat) (x : TAnswer) : TAnswer := { x with Files := .mk c x.Files.list, Request := x.Request.at c, Response := { x.Response with Headers := .mk c x.Response.Headers.list } }
def TServer.at (c : Nat) (s : TServer) : TServer := ⟨.mk c s.Files.list, .mk c (s.Lines.list.map (TLine.at c)), .mk c s.Sessions.list, .mk c (s.Queue.list.map (TJob.at c)), .mk c (s.Workers.list.map (TWorker.at c)), .mk c (s.Done.list.map (TAnswer.at c)), s.Next, s.Now⟩
theorem TServer.at_con (c : Nat) (s : TServer) : (s.at c).con = s.con := by
  have e1 : (TLine.con ∘ TLine.at c) = TLine.con := rfl
  have e2 : (TJob.con ∘ TJob.at c) = TJob.con := rfl
  have e3 : (TWorker.con ∘ TWorker.at c) = TWorker.con := rfl
  have e4 : (TAnswer.con ∘ TAnswer.at c) = TAnswer.con := rfl
  unfold TServer.con TServer.at SL.con
  simp only [SL.list_mk, List.map_map, e1, e2, e3, e4]
theorem file_from (c : Nat) (l : List TFile) : From c ((SL.mk c l).av 3 TFile.enc) := sl_from c 3 _ l fun x a ha => by
  simp [TFile.enc] at ha
  rcases ha with rfl | rfl | rfl <;> simp
theorem job_at_from (c : Nat) (x : TJob) : ∀ a, a ∈ (x.at c).enc → From c a := fun a ha => by
  simp [TJob.enc, TJob.at, TRequest.at] at ha
  rcases ha with rfl | rfl | rfl | rfl | rfl
  · simp
  · simp
  · exact pairs_from c _
  · exact pairs_from c _
  · simp
theorem worker_at_from (c : Nat) (x : TWorker) : ∀ a, a ∈ (x.at c).enc → From c a := fun a ha => by
  simp [TWorker.enc, TWorker.at, TJob.at, TRequest.at] at ha
  rcases ha with rfl | rfl | rfl | rfl | rfl | rfl | rfl | rfl | rfl
  · simp
  · simp
  · simp
  · exact pairs_from c _
  · exact pairs_from c _
  · simp
  · simp
  · exact file_from c _
  · simp
theorem answer_at_from (c : Nat) (x : TAnswer) : ∀ a, a ∈ (x.at c).enc → From c a := fun a ha => by
  simp [TAnswer.enc, TAnswer.at, TRequest.at] at ha
  rcases ha with rfl | rfl | rfl | rfl | rfl | rfl | rfl | rfl | rfl | rfl | rfl
  · simp
  · simp
  · exact file_from c _
  · simp
  · exact pairs_from c _
  · exact pairs_from c _
  · simp
  · simp
  · exact sl_from c 2 _ _ fun x a ha => by
      simp [THeader.enc] at ha
      rcases ha with rfl | rfl <;> simp
  · simp
  · simp
theorem TServer.at_from (c : Nat) (s : TServer) : From c (.agg (s.at c).enc) := from_agg fun x hx => by
  simp [TServer.enc, TServer.at] at hx
  rcases hx with rfl | rfl | rfl | rfl | rfl | rfl | rfl | rfl
  · exact file_from c _
  · exact sl_at c 4 _ _ _ fun x a ha => by
      simp [TLine.enc, TLine.at] at ha
      rcases ha with rfl | rfl | rfl | rfl
      · simp
      · simp
      · simp
      · exact sl_from c 1 _ _ fun x a ha => by
          simp [encI] at ha
          subst ha; simp
  · exact sl_from c 4 _ _ fun x a ha => by
      simp [TSession.enc] at ha
      rcases ha with rfl | rfl | rfl | rfl <;> simp
  · exact sl_at c 5 _ _ _ (job_at_from c)
  · exact sl_at c 9 _ _ _ (worker_at_from c)
  · exact sl_at c 11 _ _ _ (answer_at_from c)
  · simp
  · simp
def SrvV (a : TServer) (v : AV) : Prop := ∃ b : TServer, v = .agg b.enc ∧ b.con = a.con
theorem SrvV_some (a : TServer) (c : Nat) : ∃ r, SrvV a r ∧ From c r := ⟨_, ⟨a.at c, rfl, a.at_con c⟩, a.at_from c⟩
end A
end Go.Proofs.YtknpgemlpbclkaaGreatDoor

/-
  SubmitJob: the law answers true. No condition.
-/


namespace Go.Proofs.YtknpgemlpbclkaaGreatDoor
namespace A
set_option linter.unusedVariables false
set_option linter.unusedSimpArgs false
set_option maxRecDepth 100000

/-! ### marks of one request -/
def mkReq (k : Int) (x : TRequest) : TRequest := { x with Query := x.Query.marks mkPair cPair k, Cookies := x.Cookies.marks mkPair cPair (k + szL cPair x.Query.list) }
def cReq (x : TRequest) : Nat := szL cPair x.Query.list + szL cPair x.Cookies.list
theorem markReq_con {x : TRequest} (z1 : szL cPair x.Query.list ≤ 8388608) (z2 : szL cPair x.Cookies.list ≤ 8388608) {k : Int} (hk : 0 ≤ k ∧ k ≤ 1073741824) (c : Nat) :
    Con Tryz.prog 17 [.agg x.encO, .int .i64 k] x.inn c fun r O _ => r = .int .i64 (k + cReq x) ∧ O = (mkReq k x).inn := by
  refine con_of c17 (by simp [F17]) ?_
  unfold F17
  simp
  generalize hn : x.inn.length = n
  unfold TRequest.inn at hn ⊢
  have hn0 := hn
  simp only [List.length_append] at hn
  have l0 := marks_wood_len (w := 2) (encO := TPair.enc) (inn := noInn) (mk := mkPair) (cnt := cPair) (fun _ _ => rfl) k x.Query
  have l1 := marks_wood_len (w := 2) (encO := TPair.enc) (inn := noInn) (mk := mkPair) (cnt := cPair) (fun _ _ => rfl) (k + szL cPair x.Query.list) x.Cookies
  obtain ⟨X0, hX0⟩ : ∃ X : List AObj, X = ((x.Query.marks mkPair cPair k).wood 2 TPair.enc noInn) ++ (x.Cookies.wood 2 TPair.enc noInn) := ⟨_, rfl⟩
  have hl0 : X0.length = n := by rw [hX0]; simp only [List.length_append]; omega
  refine mark_inA (A := []) (C := (x.Cookies.wood 2 TPair.enc noInn) ++ [(⟨false, c, 3, [x.encO]⟩ : AObj)]) (markPair_con (s := x.Query) (by omega) (k := k) ⟨by omega, by omega⟩ _) (fun _ _ => rfl) (fun x a ha => (TPair.flat x a ha).2) (fun x o ho => by cases ho) (X := X0) (B := ⟨false, c, 3, [x.encO]⟩) (by simp) (by rw [hX0]; simp) fun c0 _ => ?_
  simp [getW_endN hl0]
  obtain ⟨X1, hX1⟩ : ∃ X : List AObj, X = ((x.Query.marks mkPair cPair k).wood 2 TPair.enc noInn) ++ ((x.Cookies.marks mkPair cPair (k + szL cPair x.Query.list)).wood 2 TPair.enc noInn) := ⟨_, rfl⟩
  have hl1 : X1.length = n := by rw [hX1]; simp only [List.length_append]; omega
  refine mark_inA (A := (x.Query.marks mkPair cPair k).wood 2 TPair.enc noInn) (C := [(⟨false, c, 3, [x.encO]⟩ : AObj)]) (markPair_con (s := x.Cookies) (by omega) (k := k + szL cPair x.Query.list) ⟨by omega, by omega⟩ _) (fun _ _ => rfl) (fun x a ha => (TPair.flat x a ha).2) (fun x o ho => by cases ho) (X := X1) (B := ⟨false, c, 3, [x.encO]⟩) (by rw [hX0]; simp) (by rw [hX1]; simp) fun c1 _ => ?_
  simp [getW_endN hl1]
  refine fin_sub (Hk := X1) (List.sublist_append_left _ _) (.refl _) ⟨?_, ?_⟩
  · simp [cReq]; omega
  · rw [hX1]; rfl
theorem mkReq_tags (k : Int) (x : TRequest) : tags (mkReq k x).inn = tags x.inn := by
  have h0 := tags_wood (w := 2) (encO := TPair.enc) (inn := noInn) (mk := mkPair) (cnt := cPair) (fun _ _ => rfl) k x.Query
  have h1 := tags_wood (w := 2) (encO := TPair.enc) (inn := noInn) (mk := mkPair) (cnt := cPair) (fun _ _ => rfl) (k + szL cPair x.Query.list) x.Cookies
  simp only [TRequest.inn, mkReq, tags_app, h0, h1]
theorem mkReq_len (k : Int) (x : TRequest) : (mkReq k x).inn.length = x.inn.length := by
  have := congrArg List.length (mkReq_tags k x)
  simpa [tags] using this
theorem req_bounds {x : TRequest} (h : x.sz ≤ 1048576) : szL cPair x.Query.list ≤ 8388608 ∧ szL cPair x.Cookies.list ≤ 8388608 := by
  simp only [TRequest.sz, szPairS] at h
  rw [szL_ePair, szL_ePair]
  omega
theorem markReq_at {x : TRequest} (hz : x.sz ≤ 1048576) {A C H X : List AObj} {c : Nat} {k : Int} (hk : 0 ≤ k ∧ k ≤ 1073741824) {K : AV → List AObj → Nat → Prop} (hH : H = A ++ (x.inn ++ C)) (hX : A ++ ((mkReq k x).inn ++ C) = X) (kk : ∀ c', c ≤ c' → K (.int .i64 (k + cReq x)) X c') : CallW Tryz.prog 17 [.agg x.encO, .int .i64 k] H c K := by
  rw [hH, ← List.append_assoc]
  refine call_mid (markReq_con (req_bounds hz).1 (req_bounds hz).2 hk c) (Views.refl _ _) fun r B' c' hc ⟨h1, h2⟩ => ?_
  subst h1; subst h2
  exact ⟨mkReq_tags _ _, .int, fun o ho => TRequest.freeI _ o ho _, by rw [List.append_assoc, hX]; exact kk c' hc⟩

/-! ### the plain function's size and content -/
theorem sub_sz {s : TServer} {q : TRequest} {id : List UInt8} (h : s.sz ≤ 1048576) (hq : q.sz ≤ 1048576) (hid : id.length ≤ 1048576) : (submit s q id).sz ≤ 4194304 := by
  unfold submit
  split
  · simp only [TServer.sz, szFileS, szLineS, szSessionS, szJobS, szWorkerS, szAnswerS, SL.list_mk, List.length_append, List.length_cons, List.length_nil] at h ⊢
    have h1 : szL TJob.sz (s.Queue.list ++ [⟨s.Next, q, id⟩]) = szL TJob.sz s.Queue.list + (q.sz + id.length) := by simp [szL, TJob.sz]
    rw [h1]; omega
  · omega
/-- What a server may hold that is to be marked. -/
def Bd (s : TServer) : Prop := szFileS s.Files + szLineS s.Lines + szSessionS s.Sessions + szWorkerS s.Workers + szAnswerS s.Done ≤ 1048576 ∧ szJobS s.Queue ≤ 2097153
theorem bd_con (s : TServer) : Bd s.con ↔ Bd s := by
  simp [Bd, TServer.con, szFileS, szLineS, szSessionS, szJobS, szWorkerS, szAnswerS, szL_map TFile.sz_con, szL_map TLine.sz_con, szL_map TSession.sz_con, szL_map TJob.sz_con, szL_map TWorker.sz_con, szL_map TAnswer.sz_con]
theorem bd_bounds {s : TServer} (h : Bd s) : (szL cFile s.Files.list ≤ 8388608 ∧ szL cLine s.Lines.list ≤ 8388608 ∧ szL cSession s.Sessions.list ≤ 8388608 ∧ szL cJob s.Queue.list ≤ 8388608 ∧ szL cWorker s.Workers.list ≤ 8388608 ∧ szL cAnswer s.Done.list ≤ 8388608) ∧ ∀ x, x ∈ s.Lines.list → x.Words.list.length ≤ 1048576 := by
  simp only [Bd, szFileS, szLineS, szSessionS, szJobS, szWorkerS, szAnswerS] at h
  have hl := szLine_bounds (l := s.Lines.list) (by omega)
  have hj := szL_lin cJob TJob.sz 3 2 (fun x => by simp only [cJob, TJob.sz, TRequest.sz, szPairS, szL_ePair]; omega) s.Queue.list
  have hw := szL_lin cWorker TWorker.sz 6 3 (fun x => by simp only [cWorker, TWorker.sz, TJob.sz, TRequest.sz, szPairS, szFileS, szL_ePair, szL_eFile]; omega) s.Workers.list
  have ha := szL_lin cAnswer TAnswer.sz 7 3 (fun x => by simp only [cAnswer, TAnswer.sz, TRequest.sz, TResponse.sz, szPairS, szFileS, szHeaderS, szL_ePair, szL_eFile, szL_eHeader]; omega) s.Done.list
  refine ⟨⟨?_, hl.1, ?_, ?_, ?_, ?_⟩, hl.2.1⟩
  · rw [szL_eFile]; omega
  · rw [szL_eSession]; omega
  · omega
  · omega
  · omega
theorem sub_bd {s : TServer} {q : TRequest} {id : List UInt8} (h : s.sz + q.sz ≤ 1048576) (hid : id.length ≤ 1048576) : Bd (submit s q id) := by
  simp only [TServer.sz] at h
  unfold submit
  split
  · have h1 : szJobS (SL.mk 0 (s.Queue.list ++ [⟨s.Next, q, id⟩])) = szJobS s.Queue + 1 + (q.sz + id.length) := by simp [szJobS, szL, TJob.sz]; omega
    simp only [Bd, h1]
    omega
  · unfold Bd
    omega
theorem sub_same {a b : TServer} {p q : TRequest} (h : a.con = b.con) (hq : p.con = q.con) (id : List UInt8) : subOk a p id = subOk b q id ∧ (submit a p id).con = (submit b q id).con := by
  have cN : a.Next = b.Next := by have := congrArg (fun t : TServer => t.Next) h; exact this
  have cJ : jobOk ⟨a.Next, p, id⟩ = jobOk ⟨b.Next, q, id⟩ := by
    rw [← jobOk_con, ← jobOk_con ⟨b.Next, q, id⟩]
    congr 1
    unfold TJob.con; simp only; rw [hq, cN]
  have hok : subOk a p id = subOk b q id := by unfold subOk; rw [cJ, cN]
  refine ⟨hok, ?_⟩
  cases ho : subOk b q id with
  | true =>
    obtain ⟨aF, aL, aS, aQ, aW, aD, aN, aT⟩ := a
    have ha : (TServer.mk aF aL aS aQ aW aD aN aT).con = b.con := h
    have e : submit (TServer.mk aF aL aS aQ aW aD aN aT) p id = TServer.mk aF aL aS (.mk 0 (aQ.list ++ [⟨aN, p, id⟩])) aW aD (aN + 1) aT := by unfold submit; rw [hok, ho]; rfl
    rw [e]
    exact sub_con ha hq ho
  | false =>
    unfold submit
    rw [hok, ho]
    exact h

/-! ### the law -/
@[simp] theorem getW_last2 {α : Type} (A M X : List α) (q w j b : α) (K : α → Prop) : getW (A ++ q :: (M ++ w :: (X ++ [j, b]))) (A.length + (M.length + (X.length + 1 + 1) + 1)) K = K b := by
  have e : A ++ q :: (M ++ w :: (X ++ [j, b])) = (A ++ q :: (M ++ w :: (X ++ [j]))) ++ b :: [] := by simp
  have e2 : A.length + (M.length + (X.length + 1 + 1) + 1) = (A ++ q :: (M ++ w :: (X ++ [j]))).length := by simp
  rw [e, e2, getW_len]
@[simp] theorem set_last2 {α : Type} (A M X : List α) (q w j b z : α) : (A ++ q :: (M ++ w :: (X ++ [j, b]))).set (A.length + (M.length + (X.length + 1 + 1) + 1)) z = A ++ q :: (M ++ w :: (X ++ [j, z])) := by
  have e : A ++ q :: (M ++ w :: (X ++ [j, b])) = (A ++ q :: (M ++ w :: (X ++ [j]))) ++ b :: [] := by simp
  have e2 : A.length + (M.length + (X.length + 1 + 1) + 1) = (A ++ q :: (M ++ w :: (X ++ [j]))).length := by simp
  rw [e, e2, List.set_append_right _ _ (Nat.le_refl _)]
  simp
@[simp] theorem getW_next2 {α : Type} (A M X : List α) (q w j b : α) (K : α → Prop) : getW (A ++ q :: (M ++ w :: (X ++ [j, b]))) (A.length + (M.length + (X.length + 1) + 1)) K = K j := by
  have e : A ++ q :: (M ++ w :: (X ++ [j, b])) = (A ++ q :: (M ++ w :: X)) ++ j :: [b] := by simp
  have e2 : A.length + (M.length + (X.length + 1) + 1) = (A ++ q :: (M ++ w :: X)).length := by simp
  rw [e, e2, getW_len]
theorem cut1 : F4.ir = .seq (irHd (irAt 0 F4.ir)) (.seq (irHd (irAt 1 F4.ir)) (.seq (irHd (irAt 2 F4.ir)) (.seq (irHd (irAt 3 F4.ir)) (.seq (irHd (irAt 4 F4.ir)) (.seq (irHd (irAt 5 F4.ir)) (.seq (irHd (irAt 6 F4.ir)) (.seq (irHd (irAt 7 F4.ir)) (irAt 8 F4.ir)))))))) := rfl
theorem cut2 : irAt 8 F4.ir = .seq (irHd (irAt 8 F4.ir)) (.seq (irHd (irAt 9 F4.ir)) (.seq (irHd (irAt 10 F4.ir)) (.seq (irHd (irAt 11 F4.ir)) (.seq (irHd (irAt 12 F4.ir)) (.seq (irHd (irAt 13 F4.ir)) (.seq (irHd (irAt 14 F4.ir)) (.seq (irHd (irAt 15 F4.ir)) (.seq (irHd (irAt 16 F4.ir)) (.seq (irHd (irAt 17 F4.ir)) (.seq (irHd (irAt 18 F4.ir)) (.seq (irHd (irAt 19 F4.ir)) (.seq (irHd (irAt 20 F4.ir)) (.seq (irHd (irAt 21 F4.ir)) (.seq (irHd (irAt 22 F4.ir)) (.seq (irHd (irAt 23 F4.ir)) (.seq (irHd (irAt 24 F4.ir)) (irAt 25 F4.ir))))))))))))))))) := rfl
set_option maxHeartbeats 4000000 in
theorem law_sub {a : TServer} (ha : a.ok) {q : TRequest} (hq : q.ok) {id : List UInt8} (hid : id.length ≤ mx) (c : Nat) : Con Tryz.prog 4 [.agg a.enc, .agg q.enc, .str id] [] c fun r H' _ => r = .bool true ∧ H' = [] := by
  refine con_of c4 (by simp [F4]) ?_
  by_cases hid' : id.length ≤ 1048576
  rotate_left
  · have k1 : (1048576 : Int) < id.length := by omega
    rw [cut1]
    generalize irAt 8 F4.ir = R
    simp only [irHd, irAt, irTl, F4]
    simp [k1]
    exact fin_plain ⟨rfl, rfl⟩
  have k1 : ¬ ((1048576 : Int) < id.length) := by omega
  rw [cut1]
  generalize hR : irAt 8 F4.ir = R
  simp only [irHd, irAt, irTl, F4]
  simp [k1]
  refine call_fn0 (TServer.sz_fn ha ⟨by omega, by omega⟩) .int fun _ _ => ?_
  simp
  refine ⟨fun _ => fin_plain ⟨rfl, rfl⟩, fun h1 => ?_⟩
  obtain ⟨h1', h1''⟩ := szOf_ge h1
  rw [h1']
  refine call_fn0 (TRequest.sz_fn hq ⟨by omega, by omega⟩) .int fun _ _ => ?_
  simp
  refine ⟨fun _ => fin_plain ⟨rfl, rfl⟩, fun h2 => ?_⟩
  obtain ⟨h2', h2''⟩ := szOf_ge h2
  have hza : a.sz ≤ 1048576 := by omega
  have hzq : q.sz ≤ 1048576 := by omega
  have hz : ∀ x : TServer, x.con = a.con → x.sz ≤ 1048576 := fun x hx => by rw [← x.sz_con, hx, a.sz_con]; omega
  have hy : ∀ x : TRequest, x.con = q.con → x.sz ≤ 1048576 := fun x hx => by rw [← x.sz_con, hx, q.sz_con]; omega
  have hzr : ∀ x : TServer, x.con = (submit a q id).con → x.sz ≤ 4194304 := fun x hx => by rw [← x.sz_con, hx, TServer.sz_con]; exact sub_sz hza hzq hid'
  have hS : ∀ {H : List AObj} {c : Nat} {K : AV → List AObj → Nat → Prop}, (∀ (b : TServer) (c' : Nat), b.con = a.con → K (.agg b.enc) H c') → CallW Tryz.prog 8 [.agg a.enc] H c K := fun k =>
    call_tree0 (TServer.to_fn hza) fun r c' _ ⟨b, e, h⟩ _ => by subst e; exact k b c' h
  have hQ : ∀ {H : List AObj} {c : Nat} {K : AV → List AObj → Nat → Prop}, (∀ (b : TRequest) (c' : Nat), b.con = q.con → K (.agg b.enc) H c') → CallW Tryz.prog 13 [.agg q.enc] H c K := fun k =>
    call_tree0 (TRequest.to_fn hzq) fun r c' _ ⟨b, e, h⟩ _ => by subst e; exact k b c' h
  have hW : ∀ (b : TServer) (p : TRequest), b.con = a.con → p.con = q.con → ∀ {H : List AObj} {c : Nat} {K : AV → List AObj → Nat → Prop}, (∀ (v : TServer) (c' : Nat), v.con = (submit a q id).con → K (.tup [.agg v.enc, .bool (subOk a q id)]) H c') → CallW Tryz.prog 12 [.agg b.enc, .agg p.enc, .str id] H c K := fun b p hb hp {H c K} k =>
    call_tree0 (srv_tr (spec_subO (smSrv_of (hz _ hb)) (hy _ hp) hid')) fun r c' _ ⟨v, e, h⟩ _ => by subst e; rw [(sub_same hb hp id).1]; exact k v c' (h.trans (sub_same hb hp id).2)
  have hG : ∀ (b : TServer) (p : TRequest), b.con = a.con → p.con = q.con → ∀ {H : List AObj} {c : Nat} {K : AV → List AObj → Nat → Prop}, (∀ (v : TServer) (c' : Nat), v.con = (submit a q id).con → K (.tup [.agg v.enc, .bool (subOk a q id)]) H c') → CallW Tryz.prog 14 [.agg b.enc, .agg p.enc, .str id] H c K := fun b p hb hp {H c K} k =>
    call_tree0 (srv_tr (impl_subO (smSrv_of (hz _ hb)) (hy _ hp) hid')) fun r c' _ ⟨v, e, h⟩ _ => by subst e; rw [(sub_same hb hp id).1]; exact k v c' (h.trans (sub_same hb hp id).2)
  have rest1 : ∀ (v : TServer) (e : Env) (t c' : Nat), v.con = (submit a q id).con → e 2 = .str id → e 3 = .ptr 0 c 8 0 0 → e 4 = .ptr 1 (c + 1) 3 0 0 → e 8 = .ptr 2 t 8 0 0 → e 9 = .bool (subOk a q id) →
      irW Tryz.prog R (retQ [.tmp 6] fun r H' _ => r = .bool true ∧ H' = []) e [⟨false, c, 8, [a.enc]⟩, ⟨false, c + 1, 3, [q.enc]⟩, ⟨false, t, 8, [v.enc]⟩] c' := by
    intro v e t c' hv e2 e3 e4 e8 e9
    subst hR
    rw [cut2]
    generalize hR2 : irAt 25 F4.ir = R2
    simp only [irHd, irAt, irTl, F4]
    simp [e2, e3, e4, e8, e9, putA]
    refine call_new (toServerO hza _) (Views.refl _ _) fun r O c3 hc3 ⟨b, e, hO, qb⟩ _ _ => ?_
    subst e; subst hO
    refine ⟨_, .refl _, free_agg (TServer.freeO b) _, fun o ho => TServer.freeI b o ho _, ?_⟩
    simp [e2, e3, e4, e8, e9, putA]
    refine call_new (toRequestO hzq _) (Views.refl _ _) fun r O c4 hc4 ⟨z, e, hO, qz⟩ _ _ => ?_
    subst e; subst hO
    refine ⟨_, .refl _, free_agg (TRequest.freeO z) _, fun o ho => TRequest.freeI z o ho _, ?_⟩
    simp [e2, e3, e4, e8, e9, putA]
    refine call_new (impl_subO (s := b) (q := z) (smSrv_of (hz _ qb)) (hy _ qz) hid' _) (.cons (view_AServer (fun o ho => by simp [ho])) (.cons (view_ARequest (fun o ho => by simp [ho])) (.cons (.refl _) .nil))) fun r O c5 hc5 ⟨g, e, hO, qg⟩ _ _ => ?_
    subst e; subst hO
    refine ⟨_, .refl _, free_tup (by simp; exact ⟨free_agg (TServer.freeO g), free_bool _⟩) _, fun o ho => TServer.freeI g o ho _, ?_⟩
    have qg : g.con = (submit a q id).con := qg.trans (sub_same qb qz id).2
    have qgv : g.con = v.con := qg.trans hv.symm
    have hgz := hzr _ qg
    simp [e2, e3, e4, e8, e9, (sub_same qb qz id).1, putA]
    refine call_fn (TServer.eq_fn (by omega) qgv) (.cons (view_AServer (fun o ho => by simp [ho])) (.cons (.refl _) .nil)) .bool fun _ _ => ?_
    simp [e2, e3, e4, e8, e9]
    refine ⟨fun d v => if d = 63 then SrvV a v else v = .bool true, ?_⟩
    simp [e2, e3, e4, e8, e9]
    refine callD_tree0 (TServer.to_fn hza) (SrvV_some a _) fun r ⟨a3, e, q3⟩ _ => ?_
    subst e
    simp [e2, e3, e4, e8, e9]
    refine callD_fnV (TServer.eq_fn (by have := hz _ qb; omega) (qb.trans q3.symm)) (.cons (view_AServer (fun o ho => by simp [ho])) (.cons (.refl _) .nil)) (fun v => Iff.rfl) (by simp) ?_
    simp [e2, e3, e4, e8, e9]
    intro c6 _
    refine ⟨fun d v => if d = 68 then IsQ q v else v = .bool true, ?_⟩
    simp [e2, e3, e4, e8, e9]
    refine callD_tree0 (TRequest.to_fn hzq) (IsQ_some q _) fun r ⟨p3, e, q4⟩ _ => ?_
    subst e
    simp [e2, e3, e4, e8, e9]
    refine callD_fnV (TRequest.eq_fn (by have := hy _ qz; omega) (qz.trans q4.symm)) (.cons (view_ARequest (fun o ho => by simp [ho])) (.cons (.refl _) .nil)) (fun v => Iff.rfl) (by simp) ?_
    simp [e2, e3, e4, e8, e9]
    intro c7 _
    obtain ⟨sb, sw⟩ := server_bounds (hz _ qb)
    obtain ⟨gb, gw⟩ := bd_bounds ((bd_con g).1 (by rw [qg, bd_con]; exact sub_bd (by omega) hid'))
    have hlb := mkServer_len 1 b
    have hlg := mkServer_len 1 g
    have hk0 : (0 : Int) ≤ 1 + (cServer b : Int) ∧ (1 : Int) + (cServer b : Int) ≤ 1073741824 := by unfold cServer; omega
    have hlz := mkReq_len (1 + (cServer b : Int)) z
    have hk1 : ¬ ((1 : Int) + (cServer b : Int) + (cReq z : Int) < 0) := by omega
    have hk2 : ¬ ((1 : Int) + (cServer g : Int) < 0) := by omega
    refine markServer_at sb sw (A := [_, _, _]) (C := _ :: (z.inn ++ _ :: (g.inn ++ [_]))) rfl rfl fun c8 _ => ?_
    generalize (mkServer 1 b).inn = B' at hlb ⊢
    simp [e2, e3, e4, e8, e9, ← hlb]
    refine markReq_at (hy _ qz) hk0 (A := ⟨false, c, 8, [a.enc]⟩ :: ⟨false, c + 1, 3, [q.enc]⟩ :: ⟨false, t, 8, [v.enc]⟩ :: (B' ++ [⟨false, c3, 8, [b.encO]⟩])) (C := ⟨false, c4, 3, [z.encO]⟩ :: (g.inn ++ [⟨false, c5, 8, [g.encO]⟩])) (by simp) rfl fun c9 _ => ?_
    generalize (mkReq (1 + (cServer b : Int)) z).inn = Z' at hlz ⊢
    simp [e2, e3, e4, e8, e9, hk1, ← hlb, ← hlz]
    refine call_fn (TServer.eq_fn (by omega) qgv) (.cons (view_AServer (fun o ho => by simp [ho])) (.cons (.refl _) .nil)) .bool fun _ _ => ?_
    simp [e2, e3, e4, e8, e9, hk1, ← hlb, ← hlz]
    refine markServer_at gb gw (A := ⟨false, c, 8, [a.enc]⟩ :: ⟨false, c + 1, 3, [q.enc]⟩ :: ⟨false, t, 8, [v.enc]⟩ :: (B' ++ ⟨false, c3, 8, [b.encO]⟩ :: (Z' ++ [⟨false, c4, 3, [z.encO]⟩]))) (C := [⟨false, c5, 8, [g.encO]⟩]) (by simp) rfl fun c10 _ => ?_
    generalize hG' : (mkServer 1 g).inn = G' at hlg ⊢
    have hvw : ∀ S : List AObj, (∀ o, o ∈ G' → o ∈ S) → View S (.agg g.encO) (.agg (mkServer 1 g).enc) := fun S h => by rw [← mkServer_encO 1 g]; exact view_AServer (by rw [hG']; exact h)
    simp [e2, e3, e4, e8, e9, hk1, hk2, ← hlb, ← hlz, ← hlg]
    refine call_fn (heldServer_fn (s := g) gb gw (k := 1) ⟨by omega, by omega⟩) (.cons (hvw _ fun o ho => by simp [ho]) (.cons (.refl _) .nil)) .int fun _ _ => ?_
    simp [e2, e3, e4, e8, e9, hk1, hk2, ← hlb, ← hlz, ← hlg]
    have rest2 : ∀ (y : TServer) (e : Env) (th c' : Nat), y.con = (submit a q id).con → e 8 = .ptr 2 t 8 0 0 → e 9 = .bool (subOk a q id) → e 12 = .ptr (B'.length + (Z'.length + (G'.length + 1) + 1) + 1 + 1 + 1) c5 8 0 0 → e 15 = .int .i64 (1 + cServer g) →
        e 17 = .ptr (B'.length + (Z'.length + (G'.length + 1 + 1) + 1) + 1 + 1 + 1) th 8 0 0 → e 18 = .bool (subOk a q id) →
        irW Tryz.prog R2 (retQ [.tmp 6] fun r H' _ => r = .bool true ∧ H' = []) e (⟨false, c, 8, [a.enc]⟩ :: ⟨false, c + 1, 3, [q.enc]⟩ :: ⟨false, t, 8, [v.enc]⟩ :: (B' ++ ⟨false, c3, 8, [b.encO]⟩ :: (Z' ++ ⟨false, c4, 3, [z.encO]⟩ :: (G' ++ [⟨false, c5, 8, [g.encO]⟩, ⟨false, th, 8, [y.enc]⟩])))) c' := by
      intro y e th c' hyc e8 e9 e12 e15 e17 e18
      subst hR2
      simp only [irAt, irTl, F4]
      have hyz := hzr _ hyc
      simp [e8, e9, e12, e15, e17, e18, putA]
      refine call_fn0 (TServer.eq_fn (by omega) (hyc.trans hv.symm)) .bool fun _ _ => ?_
      simp [e8, e9, e12, e15, e17, e18]
      refine call_fn (heldServer_fn (s := g) gb gw (k := 1) ⟨by omega, by omega⟩) (.cons (hvw _ fun o ho => by simp [ho]) (.cons (.refl _) .nil)) .int fun _ _ => ?_
      simp [e8, e9, e12, e15, e17, e18, hk2]
      exact fin_plain ⟨rfl, rfl⟩
    repeat' first
      | with_reducible refine hS fun b1 c1 hb1 => ?_
      | with_reducible refine hQ fun p1 c1 hp1 => ?_
      | with_reducible refine hG _ _ (by assumption) (by assumption) fun v1 c1 hv1 => ?_
      | exact rest2 _ _ _ _ hv1 (by simp [upd, e8]) (by simp [upd, e9]) (by simp [upd]) (by simp [upd]) (by simp [upd]) (by simp [upd])
      | with_reducible refine And.intro ?_ ?_
      | simp [e2, e3, e4, e8, e9, putA]
  repeat' first
    | with_reducible refine hS fun b1 c1 hb1 => ?_
    | with_reducible refine hQ fun p1 c1 hp1 => ?_
    | with_reducible refine hW _ _ (by assumption) (by assumption) fun v1 c1 hv1 => ?_
    | exact rest1 _ _ _ _ hv1 (by simp [upd]) (by simp [upd]) (by simp [upd]) (by simp [upd]) (by simp [upd])
    | with_reducible refine And.intro ?_ ?_
    | simp [putA]
end A
end Go.Proofs.YtknpgemlpbclkaaGreatDoor

/-
  The wrap of a row that lists package variables, the world's shape kept. No condition.
-/


namespace Go.Proofs.YtknpgemlpbclkaaGreatDoor
namespace A
open Go.RowKit
set_option linter.unusedVariables false
section
variable {H : Type} {enc : TypeId × Value → H}
theorem returns_shaped {a : Assume} {C : Checked} {os : Os} {f : FuncId} {fn : Func} {s : ChangeSpec} {conds : List PathCond} {apart fresh handsOn again : Bool} {X : World → Array Value → Prop}
    (hX : ∀ (w w' : World) (args : Array Value), w.heap = w'.heap → X w args → X w' args)
    (own : ownKnob C.prog.godebug = none) (started : os.Started) (noInit : C.prog.inits.idxOf? f = none) (hfn : C.prog.funcs[f]? = some fn)
    (witness : ∃ (w : World) (tape : Tape) (i : Input), w.os = os ∧ (w.forCall tape i).Shaped C.prog ∧ i.vars = [] ∧ Input.okWide C.prog (w.forCall tape i) .any w.heap.size f i ∧
      ((s.pre enc C.prog fn conds apart (w.forCall tape i).memory i.args ∧ X (w.forCall tape i).memory i.args) ∧ sizedMet enc C.prog fn (OpenSpec.ofChange s) apart (w.forCall tape i).memory i.args) ∧ a.holds C.prog (lone (Frame.enter C.prog f i.args .normal) [] (w.forCall tape i)))
    (contract : ∀ (W : World) (base : Nat) (args : Array Value) (ds gs : List (DataW H)) (before : List MemPlace),
      (∀ (j : Nat) t v, fn.params[j]? = some t → args[j]? = some v → Value.okWide C.prog W .any base t v) →
      DataW.Whole enc C.prog fn.params.toList s.vars apart W args.toList ds gs before →
      conds.all (PathCond.test C.prog ⟨fn.params.toList, ds, s.plain.varTypes C.prog, gs⟩) = true → X W args → W.ShapedOpen C.prog →
      Calls C.prog f args W fun e W' => ∃ v, e = .returned v ∧ s.post enc C.prog fn apart fresh handsOn again W args v W') :
    ReturnsInHanded a C os f .any (fun w args => (s.pre enc C.prog fn conds apart w args ∧ X w args) ∧ sizedMet enc C.prog fn (OpenSpec.ofChange s) apart w args) (s.post enc C.prog fn apart fresh handsOn again) := by
  refine returnsInHanded_of_calls own started noInit witness ?_
  intro w tape i _ hsh _ hok hpre _
  obtain ⟨_, _, _, fn', hfn', _, _, _, _, hval⟩ := hok
  have e : fn' = fn := Option.some.inj (hfn'.symm.trans hfn)
  subst e
  obtain ⟨⟨⟨ds, gs, before, hw, hc⟩, hx⟩, _⟩ := hpre
  refine (contract (w.forCall tape i) w.heap.size i.args ds gs before hval (DataW.Whole.of_heap (w' := w.forCall tape i) (by rfl) hw) hc (hX _ _ _ (by rfl) hx) hsh).mono fun e W' ⟨v, he, hp⟩ => ?_
  subst he
  exact ChangeSpec.post_blind hp
end
theorem cell_block {w : World} {m : Int} (hm : w.cell? ⟨0, 0, none⟩ = some (.int .i64 m)) : 0 < w.heap.size ∧ ∃ c t fr, w.heap[0]? = some (.cells c t fr) ∧ c[0]? = some (Value.int .i64 m) := by
  rw [cell?_eq] at hm
  unfold hcell at hm
  split at hm
  · rename_i c t fr hc
    exact ⟨(Array.getElem?_eq_some_iff.1 hc).1, c, t, fr, hc, hm⟩
  · cases hm
end A
end Go.Proofs.YtknpgemlpbclkaaGreatDoor
