/-
  DERIVED: THE SHELF's CONTRACTS AT THIS DUMP, IN PLAIN WORDS (tools/lay-plain.mjs out of 'YtaikjjlbfdkgmaaDoorShelfSoft.lean', which tools/lay-shelf.mjs wrote): THE SAME DECLARATIONS UNDER THE SAME NAMES: 'import', 'namespace', 'open', 'def', 'theorem' AND NOTHING ELSE: no command of the shelf's: FOR A HAND-IN. Each laying: the table of numbers ('.._ren') and one theorem, a field a fact of the dump's own or the kernel's comparison; each contract: ONE APPLICATION.
-/
import Derived.Shelf.LaysM
import Derived.Shelf.Sort.Plain
import Derived.Shelf.Strings.SplitShaped
import Derived.Shelf.Slices.CompactS
import Derived.Shelf.Slices.In.SortNone
import Derived.Test.YtaikjjlbfdkgmaaDoorProg
namespace Go.Proofs
open Go.Shelf
def Tryd.lays190_ren : Go.Shelf.Ren := ⟨fun | 190 => 150 | 125 => 182 | 258 => 181 | 128 => 206 | 129 => 207 | 302 => 197 | 303 => 198 | 304 => 199 | 305 => 200 | 306 => 201 | 307 => 202 | 308 => 203 | 309 => 204 | 310 => 205 | 333 => 219 | 329 => 220 | 330 => 221 | 334 => 222 | 335 => 223 | 336 => 224 | 344 => 232 | n => n, fun | 31 => 46 | 9 => 9 | 3 => 3 | 46 => 184 | 0 => 0 | 51 => 207 | 53 => 199 | 4 => 4 | 183 => 215 | 182 => 214 | 131 => 220 | 5 => 5 | 218 => 239 | 222 => 243 | 228 => 260 | 229 => 26 | n => n, fun | n => n⟩
theorem Tryd.lays190 : Go.Proofs.Lays.n190 Tryd.prog Tryd.lays190_ren := {
  mixed := by kernel_rfl
  f125 := Tryd.func182.trans (congrArg some (by kernel_rfl))
  f128 := Tryd.func206.trans (congrArg some (by kernel_rfl))
  f129 := Tryd.func207.trans (congrArg some (by kernel_rfl))
  f190 := Tryd.func150.trans (congrArg some (by kernel_rfl))
  f258 := Tryd.func181.trans (congrArg some (by kernel_rfl))
  f302 := Tryd.func197.trans (congrArg some (by kernel_rfl))
  f303 := Tryd.func198.trans (congrArg some (by kernel_rfl))
  f304 := Tryd.func199.trans (congrArg some (by kernel_rfl))
  f305 := Tryd.func200.trans (congrArg some (by kernel_rfl))
  f306 := Tryd.func201.trans (congrArg some (by kernel_rfl))
  f307 := Tryd.func202.trans (congrArg some (by kernel_rfl))
  f308 := Tryd.func203.trans (congrArg some (by kernel_rfl))
  f309 := Tryd.func204.trans (congrArg some (by kernel_rfl))
  f310 := Tryd.func205.trans (congrArg some (by kernel_rfl))
  f329 := Tryd.func220.trans (congrArg some (by kernel_rfl))
  f330 := Tryd.func221.trans (congrArg some (by kernel_rfl))
  f333 := Tryd.func219.trans (congrArg some (by kernel_rfl))
  f334 := Tryd.func222.trans (congrArg some (by kernel_rfl))
  f335 := Tryd.func223.trans (congrArg some (by kernel_rfl))
  f336 := Tryd.func224.trans (congrArg some (by kernel_rfl))
  f344 := Tryd.func232.trans (congrArg some (by kernel_rfl))
  t0 := Tryd.underlying0
  a0 := Tryd.isAgg0
  z0 := Tryd.sizeOf0
  v0 := Tryd.zeroValue0
  t3 := Tryd.underlying3
  a3 := Tryd.isAgg3
  z3 := Tryd.sizeOf3
  v3 := Tryd.zeroValue3
  t4 := Tryd.underlying4
  a4 := Tryd.isAgg4
  z4 := Tryd.sizeOf4
  v4 := Tryd.zeroValue4
  t5 := Tryd.underlying5
  a5 := Tryd.isAgg5
  z5 := Tryd.sizeOf5
  v5 := Tryd.zeroValue5
  t9 := Tryd.underlying9
  a9 := Tryd.isAgg9
  z9 := Tryd.sizeOf9
  v9 := Tryd.zeroValue9
  t31 := Tryd.underlying46
  a31 := Tryd.isAgg46
  z31 := Tryd.sizeOf46
  v31 := Tryd.zeroValue46
  t46 := Tryd.underlying184
  a46 := Tryd.isAgg184
  z46 := Tryd.sizeOf184
  v46 := Tryd.zeroValue184
  t51 := Tryd.underlying207
  a51 := Tryd.isAgg207
  z51 := Tryd.sizeOf207
  v51 := Tryd.zeroValue207
  t53 := Tryd.underlying199
  a53 := Tryd.isAgg199
  z53 := Tryd.sizeOf199
  v53 := Tryd.zeroValue199
  t131 := Tryd.underlying220
  a131 := Tryd.isAgg220
  z131 := Tryd.sizeOf220
  v131 := Tryd.zeroValue220
  t182 := Tryd.underlying214
  a182 := Tryd.isAgg214
  z182 := Tryd.sizeOf214
  v182 := Tryd.zeroValue214
  t183 := Tryd.underlying215
  a183 := Tryd.isAgg215
  z183 := Tryd.sizeOf215
  v183 := Tryd.zeroValue215
  t218 := Tryd.underlying239
  a218 := Tryd.isAgg239
  z218 := Tryd.sizeOf239
  v218 := Tryd.zeroValue239
  t222 := Tryd.underlying243
  a222 := Tryd.isAgg243
  z222 := Tryd.sizeOf243
  v222 := Tryd.zeroValue243
  t228 := Tryd.underlying260
  a228 := Tryd.isAgg260
  z228 := Tryd.sizeOf260
  v228 := Tryd.zeroValue260
  t229 := Tryd.underlying26
  a229 := Tryd.isAgg26
  z229 := Tryd.sizeOf26
  v229 := Tryd.zeroValue26 }
open Go.Sort Go.RowKit in
theorem Tryd.slices_Sort_string (blk off cap : Nat) (ss : List (List UInt8)) (w : World) (hH : Holds encStr w blk off ss.toArray) (hblk : blk < w.heap.size) (hsz : ss.length < 4611686018427387904) :
    Calls Tryd.prog 150 #[.slice (some ⟨blk, off, none⟩) ss.length cap] w fun e w' =>
      e = .returned (.tuple #[]) ∧ ∃ n os, w' = grow (putRow encStr (Sort.ahead w n) blk off (ss.mergeSort fun x y => decide (x ≤ y)).toArray) os := Any.slices_Sort_string Tryd.lays190 blk off cap ss w hH hblk hsz
def Tryd.laysM157_ren : Go.Shelf.Ren := ⟨fun | 157 => 168 | 229 => 192 | 199 => 193 | 261 => 218 | 311 => 230 | 312 => 231 | n => n, fun | 9 => 9 | 31 => 46 | 3 => 3 | 5 => 5 | 4 => 4 | 119 => 204 | 0 => 0 | 40 => 206 | 152 => 234 | 21 => 21 | 154 => 236 | 51 => 207 | 141 => 238 | 196 => 252 | 193 => 249 | 198 => 255 | 49 => 253 | 194 => 250 | 201 => 258 | 226 => 270 | 46 => 184 | 227 => 271 | n => n, fun | 0 => 0 | 6 => 2 | n => n⟩
theorem Tryd.laysM157 : Go.Proofs.LaysM.n157 Tryd.prog Tryd.laysM157_ren := {
  mixed := by kernel_rfl
  f157 := Tryd.func168.trans (congrArg some (by kernel_rfl))
  f199 := Tryd.func193.trans (congrArg some (by kernel_rfl))
  f229 := Tryd.func192.trans (congrArg some (by kernel_rfl))
  f261 := Tryd.func218.trans (congrArg some (by kernel_rfl))
  f311 := Tryd.func230.trans (congrArg some (by kernel_rfl))
  f312 := Tryd.func231.trans (congrArg some (by kernel_rfl))
  t0 := Tryd.underlying0
  a0 := Tryd.isAgg0
  z0 := Tryd.sizeOf0
  v0 := Tryd.zeroValue0
  t3 := Tryd.underlying3
  a3 := Tryd.isAgg3
  z3 := Tryd.sizeOf3
  v3 := Tryd.zeroValue3
  t4 := Tryd.underlying4
  a4 := Tryd.isAgg4
  z4 := Tryd.sizeOf4
  v4 := Tryd.zeroValue4
  t5 := Tryd.underlying5
  a5 := Tryd.isAgg5
  z5 := Tryd.sizeOf5
  v5 := Tryd.zeroValue5
  t9 := Tryd.underlying9
  a9 := Tryd.isAgg9
  z9 := Tryd.sizeOf9
  v9 := Tryd.zeroValue9
  t21 := Tryd.underlying21
  a21 := Tryd.isAgg21
  z21 := Tryd.sizeOf21
  v21 := Tryd.zeroValue21
  t31 := Tryd.underlying46
  a31 := Tryd.isAgg46
  z31 := Tryd.sizeOf46
  v31 := Tryd.zeroValue46
  t40 := Tryd.underlying206
  a40 := Tryd.isAgg206
  z40 := Tryd.sizeOf206
  v40 := Tryd.zeroValue206
  t46 := Tryd.underlying184
  a46 := Tryd.isAgg184
  z46 := Tryd.sizeOf184
  v46 := Tryd.zeroValue184
  t49 := Tryd.underlying253
  a49 := Tryd.isAgg253
  z49 := Tryd.sizeOf253
  v49 := Tryd.zeroValue253
  t51 := Tryd.underlying207
  a51 := Tryd.isAgg207
  z51 := Tryd.sizeOf207
  v51 := Tryd.zeroValue207
  t119 := Tryd.underlying204
  a119 := Tryd.isAgg204
  z119 := Tryd.sizeOf204
  t141 := Tryd.underlying238
  a141 := Tryd.isAgg238
  z141 := Tryd.sizeOf238
  v141 := Tryd.zeroValue238
  t152 := Tryd.underlying234
  a152 := Tryd.isAgg234
  z152 := Tryd.sizeOf234
  v152 := Tryd.zeroValue234
  t154 := Tryd.underlying236
  a154 := Tryd.isAgg236
  z154 := Tryd.sizeOf236
  v154 := Tryd.zeroValue236
  t193 := Tryd.underlying249
  a193 := Tryd.isAgg249
  z193 := Tryd.sizeOf249
  v193 := Tryd.zeroValue249
  t194 := Tryd.underlying250
  a194 := Tryd.isAgg250
  z194 := Tryd.sizeOf250
  v194 := Tryd.zeroValue250
  t196 := Tryd.underlying252
  a196 := Tryd.isAgg252
  z196 := Tryd.sizeOf252
  v196 := Tryd.zeroValue252
  t198 := Tryd.underlying255
  a198 := Tryd.isAgg255
  z198 := Tryd.sizeOf255
  v198 := Tryd.zeroValue255
  t201 := Tryd.underlying258
  a201 := Tryd.isAgg258
  z201 := Tryd.sizeOf258
  v201 := Tryd.zeroValue258
  t226 := Tryd.underlying270
  a226 := Tryd.isAgg270
  z226 := Tryd.sizeOf270
  v226 := Tryd.zeroValue270
  t227 := Tryd.underlying271
  a227 := Tryd.isAgg271
  z227 := Tryd.sizeOf271
  v227 := Tryd.zeroValue271
  g0 := by kernel_rfl
  g6 := by kernel_rfl
  i0 := by kernel_rfl
  i3 := by kernel_rfl
  i4 := by kernel_rfl
  i5 := by kernel_rfl
  i9 := by kernel_rfl
  i21 := by kernel_rfl
  i31 := by kernel_rfl
  i40 := by kernel_rfl
  i46 := by kernel_rfl
  i49 := by kernel_rfl
  i51 := by kernel_rfl
  i141 := by kernel_rfl
  i152 := by kernel_rfl
  i154 := by kernel_rfl
  i193 := by kernel_rfl
  i194 := by kernel_rfl
  i196 := by kernel_rfl
  i198 := by kernel_rfl
  i201 := by kernel_rfl
  i226 := by kernel_rfl
  i227 := by kernel_rfl
  m0 := by kernel_rfl
  m6 := by kernel_rfl }
open Go.RowKit Go.Lib in
/-- strings.Fields on ASCII bytes. (The table: 'Lib.TabIs', as strings.TrimSpace's contract asks it.) (LAID: no walk: one application.) -/
theorem Tryd.strings_Fields_laid (s : ByteArray) (w : World) (hs : s.size < 4294967281) (hascii : ∀ (j : Nat) b, s.data.toList[j]? = some b → b.toNat < 128) (htab : Lib.TabIs Tryd.prog w "strings.asciiSpace" .u8 Lib.asciiSpaceTab) :
    Calls Tryd.prog 168 #[.string s] w fun e w' =>
      e = .returned (.slice (some ⟨w.heap.size, 0, none⟩) (Lib.fields s.data.toList).length (Lib.fields s.data.toList).length) ∧ w' = w.alloc (.cells ((Lib.fields s.data.toList).map fun l => Value.string ⟨l.toArray⟩).toArray 9) := Any.strings_Fields_laid Tryd.laysM157 s w hs hascii htab
def Tryd.lays194_ren : Go.Shelf.Ren := ⟨fun | 194 => 109 | n => n, fun | 31 => 46 | 9 => 9 | 3 => 3 | 4 => 4 | 0 => 0 | n => n, fun | n => n⟩
theorem Tryd.lays194 : Go.Proofs.Lays.n194 Tryd.prog Tryd.lays194_ren := {
  mixed := by kernel_rfl
  f194 := Tryd.func109.trans (congrArg some (by kernel_rfl))
  t0 := Tryd.underlying0
  a0 := Tryd.isAgg0
  z0 := Tryd.sizeOf0
  v0 := Tryd.zeroValue0
  t3 := Tryd.underlying3
  a3 := Tryd.isAgg3
  z3 := Tryd.sizeOf3
  v3 := Tryd.zeroValue3
  t4 := Tryd.underlying4
  a4 := Tryd.isAgg4
  z4 := Tryd.sizeOf4
  v4 := Tryd.zeroValue4
  t9 := Tryd.underlying9
  a9 := Tryd.isAgg9
  z9 := Tryd.sizeOf9
  v9 := Tryd.zeroValue9
  t31 := Tryd.underlying46
  a31 := Tryd.isAgg46
  z31 := Tryd.sizeOf46
  v31 := Tryd.zeroValue46 }
open Go.RowKit Go.Lib Go.Sort in
/-- slices.Compact at []string: "Compact replaces consecutive runs of equal elements with a single copy. This is like the uniq command found on Unix. Compact modifies the contents of the slice s and returns the modified slice, which may have a smaller length. Compact zeroes the elements between the new length and the original length. The result preserves the nilness of s.": IT RETURNS THE SLICE CUT TO 'Lib.compact zs'; ITS CELLS HOLD 'Lib.compact zs', THEN ZERO VALUES up to the old length; all else is as it was, but for the count of draws. IN THE WORDS OF slices.Sort's CONTRACT ('Holds', 'putRow'): so the everyday 'slices.Sort(xs); xs = slices.Compact(xs)' goes from the one contract to the other. It asks 'zs.length ≤ cap' (every slice's: the reslicing 's[:k]' looks at it). Length 0, nil: '.._empty'. (LAID: no walk: one application.) -/
theorem Tryd.slices_Compact_string (blk off cap : Nat) (zs : List (List UInt8)) (w : World) (hH : Holds encStr w blk off zs.toArray) (hsz : zs.length ≤ 9223372036854775807) (hcap : zs.length ≤ cap) :
    Calls Tryd.prog 109 #[.slice (some ⟨blk, off, none⟩) zs.length cap] w fun e w' => e = .returned (.slice (some ⟨blk, off, none⟩) (Lib.compact zs).length cap) ∧ ∃ q, w' = putRow encStr (Sort.ahead w q) blk off (Lib.compact zs ++ List.replicate (zs.length - (Lib.compact zs).length) []).toArray := Any.slices_Compact_string Tryd.lays194 blk off cap zs w hH hsz hcap
open Go.RowKit Go.Lib Go.Sort in
/-- The same at a slice of length 0, a nil one too: it comes back as it is. (LAID: no walk: one application.) -/
theorem Tryd.slices_Compact_string_empty (a : Option Addr) (cap : Nat) (w : World) :
    Calls Tryd.prog 109 #[.slice a 0 cap] w fun e w' => e = .returned (.slice a 0 cap) ∧ w' = w := Any.slices_Compact_string_empty Tryd.lays194 a cap w
open Go.RowKit Go.Sort in
/-- .. and plain. (LAID: no walk: one application.) -/
theorem Tryd.slices_Sort_string_none (p : Option Addr) (cap : Nat) (w : World) :
    Calls Tryd.prog 150 #[.slice p 0 cap] w fun e w' => e = .returned (.tuple #[]) ∧ w' = w := Any.slices_Sort_string_none Tryd.lays190 p cap w
end Go.Proofs
