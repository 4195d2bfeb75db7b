/-
  DERIVED: THE SHELF's CONTRACTS AT THIS DUMP, IN PLAIN WORDS (tools/lay-plain.mjs out of 'YtaikjjlbfdkgmaaDoorShelfSoft.lean', which tools/lay-shelf.mjs wrote): THE SAME DECLARATIONS UNDER THE SAME NAMES: 'import', 'namespace', 'open', 'def', 'theorem' AND NOTHING ELSE: no command of the shelf's: FOR A HAND-IN. Each laying: the table of numbers ('.._ren') and one theorem, a field a fact of the dump's own or the kernel's comparison; each contract: ONE APPLICATION.
-/
import Derived.Shelf.LaysM
import Derived.Shelf.Strings.SplitShaped
import Derived.Shelf.Bits.Mul64
import Derived.Test.YtaikjjlbfdkgmaaDoorProg
namespace Go.Proofs
open Go.Shelf
def Tryd.laysM157_ren : Go.Shelf.Ren := ⟨fun | 157 => 168 | 229 => 192 | 199 => 193 | 261 => 218 | 311 => 230 | 312 => 231 | n => n, fun | 9 => 9 | 31 => 46 | 3 => 3 | 5 => 5 | 4 => 4 | 119 => 204 | 0 => 0 | 40 => 206 | 152 => 234 | 21 => 21 | 154 => 236 | 51 => 207 | 141 => 238 | 196 => 252 | 193 => 249 | 198 => 255 | 49 => 253 | 194 => 250 | 201 => 258 | 226 => 270 | 46 => 184 | 227 => 271 | n => n, fun | 0 => 0 | 6 => 2 | n => n⟩
theorem Tryd.laysM157 : Go.Proofs.LaysM.n157 Tryd.prog Tryd.laysM157_ren := {
  mixed := by kernel_rfl
  f157 := Tryd.func168.trans (congrArg some (by kernel_rfl))
  f199 := Tryd.func193.trans (congrArg some (by kernel_rfl))
  f229 := Tryd.func192.trans (congrArg some (by kernel_rfl))
  f261 := Tryd.func218.trans (congrArg some (by kernel_rfl))
  f311 := Tryd.func230.trans (congrArg some (by kernel_rfl))
  f312 := Tryd.func231.trans (congrArg some (by kernel_rfl))
  t0 := Tryd.underlying0
  a0 := Tryd.isAgg0
  z0 := Tryd.sizeOf0
  v0 := Tryd.zeroValue0
  t3 := Tryd.underlying3
  a3 := Tryd.isAgg3
  z3 := Tryd.sizeOf3
  v3 := Tryd.zeroValue3
  t4 := Tryd.underlying4
  a4 := Tryd.isAgg4
  z4 := Tryd.sizeOf4
  v4 := Tryd.zeroValue4
  t5 := Tryd.underlying5
  a5 := Tryd.isAgg5
  z5 := Tryd.sizeOf5
  v5 := Tryd.zeroValue5
  t9 := Tryd.underlying9
  a9 := Tryd.isAgg9
  z9 := Tryd.sizeOf9
  v9 := Tryd.zeroValue9
  t21 := Tryd.underlying21
  a21 := Tryd.isAgg21
  z21 := Tryd.sizeOf21
  v21 := Tryd.zeroValue21
  t31 := Tryd.underlying46
  a31 := Tryd.isAgg46
  z31 := Tryd.sizeOf46
  v31 := Tryd.zeroValue46
  t40 := Tryd.underlying206
  a40 := Tryd.isAgg206
  z40 := Tryd.sizeOf206
  v40 := Tryd.zeroValue206
  t46 := Tryd.underlying184
  a46 := Tryd.isAgg184
  z46 := Tryd.sizeOf184
  v46 := Tryd.zeroValue184
  t49 := Tryd.underlying253
  a49 := Tryd.isAgg253
  z49 := Tryd.sizeOf253
  v49 := Tryd.zeroValue253
  t51 := Tryd.underlying207
  a51 := Tryd.isAgg207
  z51 := Tryd.sizeOf207
  v51 := Tryd.zeroValue207
  t119 := Tryd.underlying204
  a119 := Tryd.isAgg204
  z119 := Tryd.sizeOf204
  t141 := Tryd.underlying238
  a141 := Tryd.isAgg238
  z141 := Tryd.sizeOf238
  v141 := Tryd.zeroValue238
  t152 := Tryd.underlying234
  a152 := Tryd.isAgg234
  z152 := Tryd.sizeOf234
  v152 := Tryd.zeroValue234
  t154 := Tryd.underlying236
  a154 := Tryd.isAgg236
  z154 := Tryd.sizeOf236
  v154 := Tryd.zeroValue236
  t193 := Tryd.underlying249
  a193 := Tryd.isAgg249
  z193 := Tryd.sizeOf249
  v193 := Tryd.zeroValue249
  t194 := Tryd.underlying250
  a194 := Tryd.isAgg250
  z194 := Tryd.sizeOf250
  v194 := Tryd.zeroValue250
  t196 := Tryd.underlying252
  a196 := Tryd.isAgg252
  z196 := Tryd.sizeOf252
  v196 := Tryd.zeroValue252
  t198 := Tryd.underlying255
  a198 := Tryd.isAgg255
  z198 := Tryd.sizeOf255
  v198 := Tryd.zeroValue255
  t201 := Tryd.underlying258
  a201 := Tryd.isAgg258
  z201 := Tryd.sizeOf258
  v201 := Tryd.zeroValue258
  t226 := Tryd.underlying270
  a226 := Tryd.isAgg270
  z226 := Tryd.sizeOf270
  v226 := Tryd.zeroValue270
  t227 := Tryd.underlying271
  a227 := Tryd.isAgg271
  z227 := Tryd.sizeOf271
  v227 := Tryd.zeroValue271
  g0 := by kernel_rfl
  g6 := by kernel_rfl
  i0 := by kernel_rfl
  i3 := by kernel_rfl
  i4 := by kernel_rfl
  i5 := by kernel_rfl
  i9 := by kernel_rfl
  i21 := by kernel_rfl
  i31 := by kernel_rfl
  i40 := by kernel_rfl
  i46 := by kernel_rfl
  i49 := by kernel_rfl
  i51 := by kernel_rfl
  i141 := by kernel_rfl
  i152 := by kernel_rfl
  i154 := by kernel_rfl
  i193 := by kernel_rfl
  i194 := by kernel_rfl
  i196 := by kernel_rfl
  i198 := by kernel_rfl
  i201 := by kernel_rfl
  i226 := by kernel_rfl
  i227 := by kernel_rfl
  m0 := by kernel_rfl
  m6 := by kernel_rfl }
open Go.RowKit Go.Lib in
/-- strings.Fields on ASCII bytes. (The table: 'Lib.TabIs', as strings.TrimSpace's contract asks it.) (LAID: no walk: one application.) -/
theorem Tryd.strings_Fields_laid (s : ByteArray) (w : World) (hs : s.size < 4294967281) (hascii : ∀ (j : Nat) b, s.data.toList[j]? = some b → b.toNat < 128) (htab : Lib.TabIs Tryd.prog w "strings.asciiSpace" .u8 Lib.asciiSpaceTab) :
    Calls Tryd.prog 168 #[.string s] w fun e w' =>
      e = .returned (.slice (some ⟨w.heap.size, 0, none⟩) (Lib.fields s.data.toList).length (Lib.fields s.data.toList).length) ∧ w' = w.alloc (.cells ((Lib.fields s.data.toList).map fun l => Value.string ⟨l.toArray⟩).toArray 9) := Any.strings_Fields_laid Tryd.laysM157 s w hs hascii htab
def Tryd.lays212_ren : Go.Shelf.Ren := ⟨fun | 212 => 169 | 263 => 194 | 264 => 195 | n => n, fun | 46 => 184 | 51 => 207 | 146 => 208 | 53 => 199 | 148 => 210 | n => n, fun | n => n⟩
theorem Tryd.lays212 : Go.Proofs.Lays.n212 Tryd.prog Tryd.lays212_ren := {
  mixed := by kernel_rfl
  f212 := Tryd.func169.trans (congrArg some (by kernel_rfl))
  f263 := Tryd.func194.trans (congrArg some (by kernel_rfl))
  f264 := Tryd.func195.trans (congrArg some (by kernel_rfl))
  t46 := Tryd.underlying184
  a46 := Tryd.isAgg184
  z46 := Tryd.sizeOf184
  v46 := Tryd.zeroValue184
  t51 := Tryd.underlying207
  a51 := Tryd.isAgg207
  z51 := Tryd.sizeOf207
  v51 := Tryd.zeroValue207
  t53 := Tryd.underlying199
  a53 := Tryd.isAgg199
  z53 := Tryd.sizeOf199
  v53 := Tryd.zeroValue199
  t146 := Tryd.underlying208
  a146 := Tryd.isAgg208
  z146 := Tryd.sizeOf208
  v146 := Tryd.zeroValue208
  t148 := Tryd.underlying210
  a148 := Tryd.isAgg210
  z148 := Tryd.sizeOf210
  v148 := Tryd.zeroValue210 }
open Go.RowKit Go.Lib in
/-- math/bits.Mul: "Mul returns the full-width product of x and y": on a machine of 64 bits: Mul64's. (LAID: no walk: one application.) -/
theorem Tryd.bits_Mul (x y : Nat) (hx : x < 18446744073709551616) (hy : y < 18446744073709551616) (w : World) :
    Calls Tryd.prog 169 #[.int .u64 x, .int .u64 y] w fun e w' => e = .returned (.tuple #[.int .u64 ((x * y / 18446744073709551616 : Nat) : Int), .int .u64 ((x * y % 18446744073709551616 : Nat) : Int)]) ∧ w' = w := Any.bits_Mul Tryd.lays212 x y hx hy w
end Go.Proofs
