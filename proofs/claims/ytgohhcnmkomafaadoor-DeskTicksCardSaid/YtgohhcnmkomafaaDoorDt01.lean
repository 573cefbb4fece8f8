/- The library's contracts at this translation, by the kit's tools, in plain words. -/
import Derived.Shelf.Strings.Builder1
import Derived.Shelf.Strings.Builder2
import Derived.Shelf.Strings.OnBuilder
import Derived.Shelf.Small.Strs
import Derived.Shelf.Strconv.Itoa0
import Derived.Shelf.Strconv.Itoa1
import Derived.Shelf.LaysM
import Derived.Shelf.Strconv.Itoa2
import Derived.Shelf.Strconv.Itoa3
import Derived.Shelf.Strings.Search1
import Derived.Shelf.Strings.Search2
import Derived.Shelf.Strings.Search3
import Derived.Shelf.Strings.Count
import Derived.Shelf.Strings.Prefix
import Derived.Shelf.Strings.Split
import Derived.Test.YtgohhcnmkomafaaDoorChecked
import Derived.Lib.SplitLaws
import Derived.Lib.IndexBytes
import Derived.Lib.ItoaNum
import Derived.Lib.Strings
import Derived.Lib.Join
namespace Go.Proofs
set_option linter.unusedVariables false
set_option linter.unusedSimpArgs false
set_option linter.unusedVariables false
set_option linter.unusedSimpArgs false
open Go.Shelf
def Tryd.lays169_ren : Go.Shelf.Ren := ⟨fun | 169 => 23 | n => n, fun | 70 => 54 | 9 => 9 | 0 => 0 | 72 => 57 | 37 => 55 | 127 => 95 | 3 => 3 | 5 => 5 | n => n, fun | n => n⟩
theorem Tryd.lays169 : Go.Proofs.Lays.n169 Tryd.prog Tryd.lays169_ren := {
  mixed := by kernel_rfl
  f169 := Tryd.func23.trans (congrArg some (by kernel_rfl))
  t0 := Tryd.underlying0
  a0 := Tryd.isAgg0
  z0 := Tryd.sizeOf0
  v0 := Tryd.zeroValue0
  t3 := Tryd.underlying3
  a3 := Tryd.isAgg3
  z3 := Tryd.sizeOf3
  v3 := Tryd.zeroValue3
  t9 := Tryd.underlying9
  a9 := Tryd.isAgg9
  z9 := Tryd.sizeOf9
  v9 := Tryd.zeroValue9
  t37 := Tryd.underlying55
  a37 := Tryd.isAgg55
  z37 := Tryd.sizeOf55
  v37 := Tryd.zeroValue55
  t70 := Tryd.underlying54
  a70 := Tryd.isAgg54
  z70 := Tryd.sizeOf54
  v70 := Tryd.zeroValue54
  t72 := Tryd.underlying57
  a72 := Tryd.isAgg57
  z72 := Tryd.sizeOf57
  v72 := Tryd.zeroValue57
  t127 := Tryd.underlying95
  a127 := Tryd.isAgg95
  z127 := Tryd.sizeOf95
  v127 := Tryd.zeroValue95 }
theorem Tryd.Builder_Extra_169 : Builder.Extra Tryd.prog Tryd.lays169_ren := {
  sizeBuilder := by kernel_rfl
  liesBuilder := by kernel_rfl
  t5 := Tryd.underlying5
  a5 := Tryd.isAgg5
  z5 := Tryd.sizeOf5
  v5 := Tryd.zeroValue5
  infoByte := by kernel_rfl
  cellsByte := by kernel_rfl
  sizeByte := by kernel_rfl
  neB5 := by decide }
open Go.RowKit in
def Tryd.lays156_ren : Go.Shelf.Ren := ⟨fun | 156 => 74 | 165 => 79 | 166 => 20 | 169 => 23 | 240 => 43 | 241 => 86 | 276 => 63 | 277 => 92 | n => n, fun | 31 => 90 | 9 => 9 | 3 => 3 | 4 => 4 | 0 => 0 | 20 => 20 | 72 => 57 | 76 => 63 | 70 => 54 | 37 => 55 | 75 => 62 | 127 => 95 | 164 => 102 | 5 => 5 | 80 => 67 | n => n, fun | n => n⟩
theorem Tryd.lays156 : Go.Proofs.Lays.n156 Tryd.prog Tryd.lays156_ren := {
  mixed := by kernel_rfl
  f156 := Tryd.func74.trans (congrArg some (by kernel_rfl))
  f165 := Tryd.func79.trans (congrArg some (by kernel_rfl))
  f166 := Tryd.func20.trans (congrArg some (by kernel_rfl))
  f169 := Tryd.func23.trans (congrArg some (by kernel_rfl))
  f240 := Tryd.func43.trans (congrArg some (by kernel_rfl))
  f241 := Tryd.func86.trans (congrArg some (by kernel_rfl))
  f276 := Tryd.func63.trans (congrArg some (by kernel_rfl))
  f277 := Tryd.func92.trans (congrArg some (by kernel_rfl))
  t0 := Tryd.underlying0
  a0 := Tryd.isAgg0
  z0 := Tryd.sizeOf0
  v0 := Tryd.zeroValue0
  t3 := Tryd.underlying3
  a3 := Tryd.isAgg3
  z3 := Tryd.sizeOf3
  v3 := Tryd.zeroValue3
  t4 := Tryd.underlying4
  a4 := Tryd.isAgg4
  z4 := Tryd.sizeOf4
  v4 := Tryd.zeroValue4
  t9 := Tryd.underlying9
  a9 := Tryd.isAgg9
  z9 := Tryd.sizeOf9
  v9 := Tryd.zeroValue9
  t20 := Tryd.underlying20
  a20 := Tryd.isAgg20
  z20 := Tryd.sizeOf20
  v20 := Tryd.zeroValue20
  t31 := Tryd.underlying90
  a31 := Tryd.isAgg90
  z31 := Tryd.sizeOf90
  v31 := Tryd.zeroValue90
  t37 := Tryd.underlying55
  a37 := Tryd.isAgg55
  z37 := Tryd.sizeOf55
  v37 := Tryd.zeroValue55
  t70 := Tryd.underlying54
  a70 := Tryd.isAgg54
  z70 := Tryd.sizeOf54
  v70 := Tryd.zeroValue54
  t72 := Tryd.underlying57
  a72 := Tryd.isAgg57
  z72 := Tryd.sizeOf57
  v72 := Tryd.zeroValue57
  t75 := Tryd.underlying62
  a75 := Tryd.isAgg62
  z75 := Tryd.sizeOf62
  v75 := Tryd.zeroValue62
  t76 := Tryd.underlying63
  a76 := Tryd.isAgg63
  z76 := Tryd.sizeOf63
  v76 := Tryd.zeroValue63
  t127 := Tryd.underlying95
  a127 := Tryd.isAgg95
  z127 := Tryd.sizeOf95
  v127 := Tryd.zeroValue95
  t164 := Tryd.underlying102
  a164 := Tryd.isAgg102
  z164 := Tryd.sizeOf102
  v164 := Tryd.zeroValue102 }
theorem Tryd.Builder_Extra_156 : Builder.Extra Tryd.prog Tryd.lays156_ren := {
  sizeBuilder := by kernel_rfl
  liesBuilder := by kernel_rfl
  t5 := Tryd.underlying5
  a5 := Tryd.isAgg5
  z5 := Tryd.sizeOf5
  v5 := Tryd.zeroValue5
  infoByte := by kernel_rfl
  cellsByte := by kernel_rfl
  sizeByte := by kernel_rfl
  neB5 := by decide }
open Go.RowKit in
open Go.RowKit in
theorem Tryd.strings_Join (bk o c : Nat) (xs : List ByteArray) (sep : ByteArray) (w : World) (hcells : ∀ (j : Nat) x, xs[j]? = some x → w.cell? ⟨bk, o + j, none⟩ = some (.string x)) (hbk : bk < w.heap.size) (hN : xs.length ≤ 140737488355328) (hcap : xs.length ≤ c) (hlen : (Lib.join (xs.map (·.data.toList)) sep.data.toList).length ≤ 140737488355328) :
    Calls Tryd.prog 74 #[.slice (some ⟨bk, o, none⟩) xs.length c, .string sep] w fun e w' => e = .returned (.string ⟨(Lib.join (xs.map (·.data.toList)) sep.data.toList).toArray⟩) ∧ Below w.heap.size w w' := Any.strings_Join Tryd.lays156 Tryd.Builder_Extra_156 bk o c xs sep w hcells hbk hN hcap hlen
def Tryd.lays137_ren : Go.Shelf.Ren := ⟨fun | 137 => 42 | 217 => 62 | 266 => 72 | n => n, fun | 9 => 9 | 5 => 5 | 3 => 3 | n => n, fun | n => n⟩
theorem Tryd.lays137 : Go.Proofs.Lays.n137 Tryd.prog Tryd.lays137_ren := {
  mixed := by kernel_rfl
  f137 := Tryd.func42.trans (congrArg some (by kernel_rfl))
  f217 := Tryd.func62.trans (congrArg some (by kernel_rfl))
  f266 := Tryd.func72.trans (congrArg some (by kernel_rfl))
  t3 := Tryd.underlying3
  a3 := Tryd.isAgg3
  z3 := Tryd.sizeOf3
  v3 := Tryd.zeroValue3
  t5 := Tryd.underlying5
  a5 := Tryd.isAgg5
  z5 := Tryd.sizeOf5
  v5 := Tryd.zeroValue5
  t9 := Tryd.underlying9
  a9 := Tryd.isAgg9
  z9 := Tryd.sizeOf9
  v9 := Tryd.zeroValue9 }
open Go.RowKit in
theorem Tryd.strings_IndexByte (s : ByteArray) (c : Int) (w : World) :
    Calls Tryd.prog 42 #[.string s, .int .u8 c] w fun e w' => e = .returned (.int .i64 (Lib.indexByte s.data.toList c.toNat.toUInt8)) ∧ w' = w := Any.strings_IndexByte Tryd.lays137 s c w
def Tryd.lays171_ren : Go.Shelf.Ren := ⟨fun | 171 => 48 | 243 => 66 | 246 => 75 | 283 => 80 | 284 => 81 | 285 => 82 | 286 => 83 | 129 => 88 | 317 => 87 | 318 => 89 | 319 => 90 | 320 => 91 | 337 => 93 | 338 => 94 | n => n, fun | 3 => 3 | 9 => 9 | 2 => 2 | 4 => 4 | 171 => 119 | 0 => 0 | 53 => 120 | 37 => 55 | 5 => 5 | 173 => 123 | 212 => 126 | 51 => 113 | 20 => 20 | 213 => 127 | 46 => 109 | 232 => 135 | 233 => 136 | n => n, fun | 17 => 1 | 18 => 4 | 19 => 5 | n => n⟩
theorem Tryd.lays171 : Go.Proofs.Lays.n171 Tryd.prog Tryd.lays171_ren := {
  mixed := by kernel_rfl
  f129 := Tryd.func88.trans (congrArg some (by kernel_rfl))
  f171 := Tryd.func48.trans (congrArg some (by kernel_rfl))
  f243 := Tryd.func66.trans (congrArg some (by kernel_rfl))
  f246 := Tryd.func75.trans (congrArg some (by kernel_rfl))
  f283 := Tryd.func80.trans (congrArg some (by kernel_rfl))
  f284 := Tryd.func81.trans (congrArg some (by kernel_rfl))
  f285 := Tryd.func82.trans (congrArg some (by kernel_rfl))
  f286 := Tryd.func83.trans (congrArg some (by kernel_rfl))
  f317 := Tryd.func87.trans (congrArg some (by kernel_rfl))
  f318 := Tryd.func89.trans (congrArg some (by kernel_rfl))
  f319 := Tryd.func90.trans (congrArg some (by kernel_rfl))
  f320 := Tryd.func91.trans (congrArg some (by kernel_rfl))
  f337 := Tryd.func93.trans (congrArg some (by kernel_rfl))
  f338 := Tryd.func94.trans (congrArg some (by kernel_rfl))
  t0 := Tryd.underlying0
  a0 := Tryd.isAgg0
  z0 := Tryd.sizeOf0
  v0 := Tryd.zeroValue0
  t2 := Tryd.underlying2
  a2 := Tryd.isAgg2
  z2 := Tryd.sizeOf2
  v2 := Tryd.zeroValue2
  t3 := Tryd.underlying3
  a3 := Tryd.isAgg3
  z3 := Tryd.sizeOf3
  v3 := Tryd.zeroValue3
  t4 := Tryd.underlying4
  a4 := Tryd.isAgg4
  z4 := Tryd.sizeOf4
  v4 := Tryd.zeroValue4
  t5 := Tryd.underlying5
  a5 := Tryd.isAgg5
  z5 := Tryd.sizeOf5
  v5 := Tryd.zeroValue5
  t9 := Tryd.underlying9
  a9 := Tryd.isAgg9
  z9 := Tryd.sizeOf9
  v9 := Tryd.zeroValue9
  t20 := Tryd.underlying20
  a20 := Tryd.isAgg20
  z20 := Tryd.sizeOf20
  v20 := Tryd.zeroValue20
  t37 := Tryd.underlying55
  a37 := Tryd.isAgg55
  z37 := Tryd.sizeOf55
  v37 := Tryd.zeroValue55
  t46 := Tryd.underlying109
  a46 := Tryd.isAgg109
  z46 := Tryd.sizeOf109
  v46 := Tryd.zeroValue109
  t51 := Tryd.underlying113
  a51 := Tryd.isAgg113
  z51 := Tryd.sizeOf113
  v51 := Tryd.zeroValue113
  t53 := Tryd.underlying120
  a53 := Tryd.isAgg120
  z53 := Tryd.sizeOf120
  v53 := Tryd.zeroValue120
  t171 := Tryd.underlying119
  a171 := Tryd.isAgg119
  z171 := Tryd.sizeOf119
  v171 := Tryd.zeroValue119
  t173 := Tryd.underlying123
  a173 := Tryd.isAgg123
  z173 := Tryd.sizeOf123
  v173 := Tryd.zeroValue123
  t212 := Tryd.underlying126
  a212 := Tryd.isAgg126
  z212 := Tryd.sizeOf126
  v212 := Tryd.zeroValue126
  t213 := Tryd.underlying127
  a213 := Tryd.isAgg127
  z213 := Tryd.sizeOf127
  t232 := Tryd.underlying135
  a232 := Tryd.isAgg135
  z232 := Tryd.sizeOf135
  v232 := Tryd.zeroValue135
  t233 := Tryd.underlying136
  a233 := Tryd.isAgg136
  z233 := Tryd.sizeOf136
  v233 := Tryd.zeroValue136
  g17 := by kernel_rfl
  g18 := by kernel_rfl
  g19 := by kernel_rfl }
open Go.RowKit Go.Sort Go.Lib in
theorem Tryd.strconv_Itoa_small (i : Nat) (hi : i < 100) (w : World) :
    Calls Tryd.prog 48 #[.int .i64 i] w fun e w' => e = .returned (.string ⟨(Lib.decDigits i).toArray⟩) ∧ w' = w := Any.strconv_Itoa_small Tryd.lays171 i hi w
def Tryd.lays143_ren : Go.Shelf.Ren := ⟨fun | 143 => 39 | 219 => 61 | 217 => 62 | 225 => 69 | 224 => 70 | 267 => 71 | 266 => 72 | 314 => 77 | n => n, fun | 9 => 9 | 3 => 3 | 4 => 4 | 5 => 5 | 46 => 109 | 146 => 114 | 51 => 113 | n => n, fun | 1 => 0 | n => n⟩
theorem Tryd.lays143 : Go.Proofs.Lays.n143 Tryd.prog Tryd.lays143_ren := {
  mixed := by kernel_rfl
  f143 := Tryd.func39.trans (congrArg some (by kernel_rfl))
  f217 := Tryd.func62.trans (congrArg some (by kernel_rfl))
  f219 := Tryd.func61.trans (congrArg some (by kernel_rfl))
  f224 := Tryd.func70.trans (congrArg some (by kernel_rfl))
  f225 := Tryd.func69.trans (congrArg some (by kernel_rfl))
  f266 := Tryd.func72.trans (congrArg some (by kernel_rfl))
  f267 := Tryd.func71.trans (congrArg some (by kernel_rfl))
  f314 := Tryd.func77.trans (congrArg some (by kernel_rfl))
  t3 := Tryd.underlying3
  a3 := Tryd.isAgg3
  z3 := Tryd.sizeOf3
  v3 := Tryd.zeroValue3
  t4 := Tryd.underlying4
  a4 := Tryd.isAgg4
  z4 := Tryd.sizeOf4
  v4 := Tryd.zeroValue4
  t5 := Tryd.underlying5
  a5 := Tryd.isAgg5
  z5 := Tryd.sizeOf5
  v5 := Tryd.zeroValue5
  t9 := Tryd.underlying9
  a9 := Tryd.isAgg9
  z9 := Tryd.sizeOf9
  v9 := Tryd.zeroValue9
  t46 := Tryd.underlying109
  a46 := Tryd.isAgg109
  z46 := Tryd.sizeOf109
  v46 := Tryd.zeroValue109
  t51 := Tryd.underlying113
  a51 := Tryd.isAgg113
  z51 := Tryd.sizeOf113
  v51 := Tryd.zeroValue113
  t146 := Tryd.underlying114
  a146 := Tryd.isAgg114
  z146 := Tryd.sizeOf114
  v146 := Tryd.zeroValue114
  g1 := by kernel_rfl }
open Go.RowKit Go.Lib in
theorem Tryd.strings_Index (s sub : ByteArray) (m : Int) (w : World) (hs : s.size < 4294967281) (hm : w.cell? ⟨0, 0, none⟩ = some (.int .i64 m)) :
    Calls Tryd.prog 39 #[.string s, .string sub] w fun e w' => e = .returned (.int .i64 (Lib.index s.data.toList sub.data.toList)) ∧ w' = w := Any.strings_Index Tryd.lays143 s sub m w hs hm
def Tryd.lays138_ren : Go.Shelf.Ren := ⟨fun | 138 => 17 | 195 => 37 | 218 => 38 | 143 => 39 | 219 => 61 | 217 => 62 | 225 => 69 | 224 => 70 | 267 => 71 | 266 => 72 | 314 => 77 | n => n, fun | 9 => 9 | 3 => 3 | 4 => 4 | 5 => 5 | 0 => 0 | 46 => 109 | 146 => 114 | 51 => 113 | n => n, fun | 1 => 0 | n => n⟩
theorem Tryd.lays138 : Go.Proofs.Lays.n138 Tryd.prog Tryd.lays138_ren := {
  mixed := by kernel_rfl
  f138 := Tryd.func17.trans (congrArg some (by kernel_rfl))
  f143 := Tryd.func39.trans (congrArg some (by kernel_rfl))
  f195 := Tryd.func37.trans (congrArg some (by kernel_rfl))
  f217 := Tryd.func62.trans (congrArg some (by kernel_rfl))
  f218 := Tryd.func38.trans (congrArg some (by kernel_rfl))
  f219 := Tryd.func61.trans (congrArg some (by kernel_rfl))
  f224 := Tryd.func70.trans (congrArg some (by kernel_rfl))
  f225 := Tryd.func69.trans (congrArg some (by kernel_rfl))
  f266 := Tryd.func72.trans (congrArg some (by kernel_rfl))
  f267 := Tryd.func71.trans (congrArg some (by kernel_rfl))
  f314 := Tryd.func77.trans (congrArg some (by kernel_rfl))
  t0 := Tryd.underlying0
  a0 := Tryd.isAgg0
  z0 := Tryd.sizeOf0
  v0 := Tryd.zeroValue0
  t3 := Tryd.underlying3
  a3 := Tryd.isAgg3
  z3 := Tryd.sizeOf3
  v3 := Tryd.zeroValue3
  t4 := Tryd.underlying4
  a4 := Tryd.isAgg4
  z4 := Tryd.sizeOf4
  v4 := Tryd.zeroValue4
  t5 := Tryd.underlying5
  a5 := Tryd.isAgg5
  z5 := Tryd.sizeOf5
  v5 := Tryd.zeroValue5
  t9 := Tryd.underlying9
  a9 := Tryd.isAgg9
  z9 := Tryd.sizeOf9
  v9 := Tryd.zeroValue9
  t46 := Tryd.underlying109
  a46 := Tryd.isAgg109
  z46 := Tryd.sizeOf109
  v46 := Tryd.zeroValue109
  t51 := Tryd.underlying113
  a51 := Tryd.isAgg113
  z51 := Tryd.sizeOf113
  v51 := Tryd.zeroValue113
  t146 := Tryd.underlying114
  a146 := Tryd.isAgg114
  z146 := Tryd.sizeOf114
  v146 := Tryd.zeroValue114
  g1 := by kernel_rfl }
open Go.RowKit Go.Lib in
theorem Tryd.strings_Count_one (s : ByteArray) (c : UInt8) (w : World) :
    Calls Tryd.prog 17 #[.string s, .string ⟨#[c]⟩] w fun e w' => e = .returned (.int .i64 (Lib.countByte s.data.toList c)) ∧ w' = w := Any.strings_Count_one Tryd.lays138 s c w
def Tryd.lays100_ren : Go.Shelf.Ren := ⟨fun | 100 => 18 | 207 => 40 | n => n, fun | 9 => 9 | 4 => 4 | 3 => 3 | n => n, fun | n => n⟩
theorem Tryd.lays100 : Go.Proofs.Lays.n100 Tryd.prog Tryd.lays100_ren := {
  mixed := by kernel_rfl
  f100 := Tryd.func18.trans (congrArg some (by kernel_rfl))
  f207 := Tryd.func40.trans (congrArg some (by kernel_rfl))
  t3 := Tryd.underlying3
  a3 := Tryd.isAgg3
  z3 := Tryd.sizeOf3
  v3 := Tryd.zeroValue3
  t4 := Tryd.underlying4
  a4 := Tryd.isAgg4
  z4 := Tryd.sizeOf4
  v4 := Tryd.zeroValue4
  t9 := Tryd.underlying9
  a9 := Tryd.isAgg9
  z9 := Tryd.sizeOf9
  v9 := Tryd.zeroValue9 }
open Go.RowKit Go.Lib in
theorem Tryd.strings_HasSuffix (s p : ByteArray) (w : World) (hs : s.size ≤ 9223372036854775807) :
    Calls Tryd.prog 18 #[.string s, .string p] w fun e w' => e = .returned (.bool (Lib.hasSuffix s.data.toList p.data.toList)) ∧ w' = w := Any.strings_HasSuffix Tryd.lays100 s p w hs
def Tryd.lays102_ren : Go.Shelf.Ren := ⟨fun | 102 => 22 | 209 => 49 | 207 => 40 | n => n, fun | 9 => 9 | 4 => 4 | 3 => 3 | n => n, fun | n => n⟩
theorem Tryd.lays102 : Go.Proofs.Lays.n102 Tryd.prog Tryd.lays102_ren := {
  mixed := by kernel_rfl
  f102 := Tryd.func22.trans (congrArg some (by kernel_rfl))
  f207 := Tryd.func40.trans (congrArg some (by kernel_rfl))
  f209 := Tryd.func49.trans (congrArg some (by kernel_rfl))
  t3 := Tryd.underlying3
  a3 := Tryd.isAgg3
  z3 := Tryd.sizeOf3
  v3 := Tryd.zeroValue3
  t4 := Tryd.underlying4
  a4 := Tryd.isAgg4
  z4 := Tryd.sizeOf4
  v4 := Tryd.zeroValue4
  t9 := Tryd.underlying9
  a9 := Tryd.isAgg9
  z9 := Tryd.sizeOf9
  v9 := Tryd.zeroValue9 }
open Go.RowKit Go.Lib in
theorem Tryd.strings_TrimSuffix (s p : ByteArray) (w : World) (hs : s.size ≤ 9223372036854775807) :
    Calls Tryd.prog 22 #[.string s, .string p] w fun e w' => e = .returned (.string ⟨(Lib.trimSuffix s.data.toList p.data.toList).toArray⟩) ∧ w' = w := Any.strings_TrimSuffix Tryd.lays102 s p w hs
def Tryd.lays146_ren : Go.Shelf.Ren := ⟨fun | 146 => 44 | 221 => 64 | 268 => 73 | 138 => 17 | 143 => 39 | 195 => 37 | 197 => 78 | 218 => 38 | 219 => 61 | 260 => 85 | 217 => 62 | 225 => 69 | 224 => 70 | 267 => 71 | 266 => 72 | 314 => 77 | n => n, fun | 9 => 9 | 31 => 90 | 3 => 3 | 4 => 4 | 0 => 0 | 105 => 116 | 21 => 21 | 5 => 5 | 46 => 109 | 119 => 129 | 139 => 132 | 138 => 131 | 146 => 114 | 51 => 113 | n => n, fun | 1 => 0 | 3 => 2 | 4 => 3 | n => n⟩
theorem Tryd.lays146 : Go.Proofs.Lays.n146 Tryd.prog Tryd.lays146_ren := {
  mixed := by kernel_rfl
  f138 := Tryd.func17.trans (congrArg some (by kernel_rfl))
  f143 := Tryd.func39.trans (congrArg some (by kernel_rfl))
  f146 := Tryd.func44.trans (congrArg some (by kernel_rfl))
  f195 := Tryd.func37.trans (congrArg some (by kernel_rfl))
  f197 := Tryd.func78.trans (congrArg some (by kernel_rfl))
  f217 := Tryd.func62.trans (congrArg some (by kernel_rfl))
  f218 := Tryd.func38.trans (congrArg some (by kernel_rfl))
  f219 := Tryd.func61.trans (congrArg some (by kernel_rfl))
  f221 := Tryd.func64.trans (congrArg some (by kernel_rfl))
  f224 := Tryd.func70.trans (congrArg some (by kernel_rfl))
  f225 := Tryd.func69.trans (congrArg some (by kernel_rfl))
  f260 := Tryd.func85.trans (congrArg some (by kernel_rfl))
  f266 := Tryd.func72.trans (congrArg some (by kernel_rfl))
  f267 := Tryd.func71.trans (congrArg some (by kernel_rfl))
  f268 := Tryd.func73.trans (congrArg some (by kernel_rfl))
  f314 := Tryd.func77.trans (congrArg some (by kernel_rfl))
  t0 := Tryd.underlying0
  a0 := Tryd.isAgg0
  z0 := Tryd.sizeOf0
  v0 := Tryd.zeroValue0
  t3 := Tryd.underlying3
  a3 := Tryd.isAgg3
  z3 := Tryd.sizeOf3
  v3 := Tryd.zeroValue3
  t4 := Tryd.underlying4
  a4 := Tryd.isAgg4
  z4 := Tryd.sizeOf4
  v4 := Tryd.zeroValue4
  t5 := Tryd.underlying5
  a5 := Tryd.isAgg5
  z5 := Tryd.sizeOf5
  v5 := Tryd.zeroValue5
  t9 := Tryd.underlying9
  a9 := Tryd.isAgg9
  z9 := Tryd.sizeOf9
  v9 := Tryd.zeroValue9
  t21 := Tryd.underlying21
  a21 := Tryd.isAgg21
  z21 := Tryd.sizeOf21
  v21 := Tryd.zeroValue21
  t31 := Tryd.underlying90
  a31 := Tryd.isAgg90
  z31 := Tryd.sizeOf90
  v31 := Tryd.zeroValue90
  t46 := Tryd.underlying109
  a46 := Tryd.isAgg109
  z46 := Tryd.sizeOf109
  v46 := Tryd.zeroValue109
  t51 := Tryd.underlying113
  a51 := Tryd.isAgg113
  z51 := Tryd.sizeOf113
  v51 := Tryd.zeroValue113
  t105 := Tryd.underlying116
  a105 := Tryd.isAgg116
  z105 := Tryd.sizeOf116
  v105 := Tryd.zeroValue116
  t119 := Tryd.underlying129
  a119 := Tryd.isAgg129
  z119 := Tryd.sizeOf129
  t138 := Tryd.underlying131
  a138 := Tryd.isAgg131
  z138 := Tryd.sizeOf131
  v138 := Tryd.zeroValue131
  t139 := Tryd.underlying132
  a139 := Tryd.isAgg132
  z139 := Tryd.sizeOf132
  v139 := Tryd.zeroValue132
  t146 := Tryd.underlying114
  a146 := Tryd.isAgg114
  z146 := Tryd.sizeOf114
  v146 := Tryd.zeroValue114
  g1 := by kernel_rfl
  g3 := by kernel_rfl
  g4 := by kernel_rfl }
open Go.RowKit Go.Lib in
theorem Tryd.strings_Split (s sep : ByteArray) (m : Int) (w : World) (hs : s.size < 4294967281) (hm : w.cell? ⟨0, 0, none⟩ = some (.int .i64 m)) (h1 : 1 ≤ sep.size) :
    Calls Tryd.prog 44 #[.string s, .string sep] w fun e w' =>
      e = .returned (.slice (some ⟨w.heap.size, 0, none⟩) (Lib.countB s sep + 1) (Lib.countB s sep + 1)) ∧ w' = w.alloc (.cells ((Lib.splitB sep 0 (Lib.countB s sep) s).map Value.string).toArray 9) := Any.strings_Split Tryd.lays146 (by kernel_rfl) s sep m w hs hm h1
end Go.Proofs
/- Programs, in plain Lean. No Go in sight. -/
namespace Go.Proofs.YtgohhcnmkomafaaDoor
set_option linter.unusedVariables false
set_option linter.unusedSimpArgs false
structure PNode where
  kind : Int
  sig : Int
  deriving DecidableEq
def two (k : Int) : Bool := decide (5 ≤ k)
/-- What is left of a list behind n programs. -/
def skipN : Nat → List PNode → Option (List PNode)
  | 0, l => some l
  | _ + 1, [] => none
  | n + 1, x :: l => skipN (if two x.kind then n + 2 else n) l
theorem skipN_zero (l : List PNode) : skipN 0 l = some l := by cases l <;> rfl
theorem skipN_add (l : List PNode) : ∀ a b, skipN (a + b) l = (skipN a l).bind (skipN b) := by
  induction l with
  | nil =>
    intro a b
    cases a with
    | zero => simp [skipN]
    | succ a => rw [show a + 1 + b = (a + b) + 1 from by omega]; rfl
  | cons x l ih =>
    intro a b
    cases a with
    | zero => simp [skipN]
    | succ a =>
      rw [show a + 1 + b = (a + b) + 1 from by omega]
      simp only [skipN]
      split
      · rw [show a + b + 2 = a + 2 + b from by omega, ih]
      · exact ih a b
theorem skip_two (x : PNode) (l : List PNode) (h : two x.kind = true) : skipN 1 (x :: l) = (skipN 1 l).bind (skipN 1) := by
  rw [← skipN_add]; simp [skipN, h]
theorem skip_one (x : PNode) (l : List PNode) (h : two x.kind = false) : skipN 1 (x :: l) = some l := by
  simp [skipN, h, skipN_zero]
theorem skipN_suffix (l : List PNode) : ∀ n r, skipN n l = some r → ∃ d, l = d ++ r := by
  induction l with
  | nil => intro n r h; cases n <;> simp [skipN] at h; exact ⟨[], by simp [h]⟩
  | cons x l ih =>
    intro n r h
    cases n with
    | zero => simp [skipN] at h; exact ⟨[], by simp [h]⟩
    | succ n => obtain ⟨d, hd⟩ := ih _ _ h; exact ⟨x :: d, by simp [hd]⟩
theorem skip_lt {l r : List PNode} (h : skipN 1 l = some r) : r.length < l.length := by
  cases l with
  | nil => simp [skipN] at h
  | cons x l =>
    obtain ⟨d, hd⟩ := skipN_suffix l _ r h
    have := congrArg List.length hd
    simp at this ⊢; omega
/-- Where the next program behind the one at k begins; -1: there is none at k. -/
def oneM (p : List PNode) (k : Int) : Int :=
  if k < 0 then -1 else match skipN 1 (p.drop k.toNat) with
    | some r => (p.length : Int) - r.length
    | none => -1
theorem drop_suffix {p d r : List PNode} (k : Nat) (h : p.drop k = d ++ r) : p.drop (p.length - r.length) = r := by
  have hl := congrArg List.length h
  simp at hl
  have e : p.length - r.length = k + d.length ∨ (r = [] ∧ d = []) := by
    cases r with
    | nil => cases d with
      | nil => right; simp
      | cons => left; simp at hl ⊢; omega
    | cons => left; simp at hl ⊢; omega
  rcases e with e | ⟨rfl, rfl⟩
  · rw [e, ← List.drop_drop, h]; simp
  · simp
theorem oneM_neg (p : List PNode) {k : Int} (h : k < 0) : oneM p k = -1 := by simp [oneM, h]
theorem oneM_big (p : List PNode) {k : Int} (h : (p.length : Int) ≤ k) : oneM p k = -1 := by
  have : ¬ k < 0 := by omega
  have e : p.drop k.toNat = [] := List.drop_eq_nil_of_le (by omega)
  simp [oneM, this, e, skipN]
theorem oneM_leaf {p : List PNode} {k : Nat} {x : PNode} (hx : p[k]? = some x) (h : two x.kind = false) : oneM p k = k + 1 := by
  have hk : k < p.length := (List.getElem?_eq_some_iff.1 hx).1
  have hd : p.drop k = x :: p.drop (k + 1) := by
    rw [List.drop_eq_getElem_cons hk]; congr 1; exact (List.getElem?_eq_some_iff.1 hx).2
  have : ¬ (k : Int) < 0 := by omega
  simp only [oneM, this, if_false, Int.toNat_natCast, hd, skip_one x _ h, List.length_drop]
  omega
theorem oneM_range (p : List PNode) (k : Int) : oneM p k = -1 ∨ (0 ≤ k ∧ k < oneM p k ∧ oneM p k ≤ p.length) := by
  by_cases hk : k < 0
  · left; exact oneM_neg p hk
  · simp only [oneM, hk, if_false]
    cases h : skipN 1 (p.drop k.toNat) with
    | none => simp
    | some r =>
      right
      have := skip_lt h
      simp at this
      simp only []
      omega
theorem oneM_two {p : List PNode} {k : Nat} {x : PNode} (hx : p[k]? = some x) (h : two x.kind = true) : oneM p k = oneM p (oneM p ((k : Int) + 1)) := by
  have hk : k < p.length := (List.getElem?_eq_some_iff.1 hx).1
  have hd : p.drop k = x :: p.drop (k + 1) := by
    rw [List.drop_eq_getElem_cons hk]; congr 1; exact (List.getElem?_eq_some_iff.1 hx).2
  have h0 : ¬ (k : Int) < 0 := by omega
  have h1 : ¬ (k : Int) + 1 < 0 := by omega
  have e1 : ((k : Int) + 1).toNat = k + 1 := by omega
  have hL : oneM p k = match (skipN 1 (p.drop (k + 1))).bind (skipN 1) with | some r => (p.length : Int) - r.length | none => -1 := by
    simp only [oneM, h0, if_false, Int.toNat_natCast, hd, skip_two x _ h]
  rw [hL]
  have hM : oneM p ((k : Int) + 1) = match skipN 1 (p.drop (k + 1)) with | some r => (p.length : Int) - r.length | none => -1 := by
    simp only [oneM, h1, if_false, e1]
  rw [hM]
  cases hs : skipN 1 (p.drop (k + 1)) with
  | none => simp [oneM]
  | some r =>
    obtain ⟨d, hdr⟩ := skipN_suffix _ _ _ hs
    have hr := drop_suffix (k + 1) hdr
    have hlen : r.length ≤ p.length := by
      have := congrArg List.length hdr; simp at this; omega
    have h2 : ¬ (p.length : Int) - r.length < 0 := by omega
    have e2 : ((p.length : Int) - r.length).toNat = p.length - r.length := by omega
    simp only [Option.bind_some, oneM, h2, if_false, e2, hr]
def signsM (kind : Int) : Int := if kind = 4 ∨ kind = 7 then 3 else if kind = 3 ∨ kind = 8 then 3 else 1
def badKind (x : PNode) : Bool := decide (x.kind < 0) || decide (8 < x.kind)
def badSig (x : PNode) : Bool := decide (x.sig < 0) || decide (signsM x.kind ≤ x.sig)
def checkP (p : List PNode) : Int :=
  if 14 < p.length then 2 else if p.any badKind then 4 else if p.any badSig then 3 else if oneM p 0 ≠ p.length then 1 else 0
def waitK (k : Int) : Bool := decide (k = 1) || decide (k = 2) || decide (k = 4)
def ofP (p : List PNode) (k : Nat) : Int × Int × Int :=
  match p[k]? with
  | some x => if two x.kind then ((k : Int) + 1, oneM p ((k : Int) + 1), oneM p k) else (0, 0, oneM p k)
  | none => (0, 0, 0)
/-! the reference -/
theorem skip_all (p : List PNode) : (oneM p 0 = p.length) = (skipN 1 p = some []) := by
  simp only [oneM, Int.lt_irrefl, if_false, Int.toNat_zero, List.drop_zero]
  cases h : skipN 1 p with
  | none => simp
  | some r =>
    have := skip_lt h
    simp only [eq_iff_iff, Option.some.injEq]
    constructor
    · intro e; exact List.eq_nil_of_length_eq_zero (by omega)
    · rintro rfl; simp
theorem checkP_ok {p : List PNode} (h : checkP p = 0) : p.length ≤ 14 ∧ p.any badKind = false ∧ p.any badSig = false ∧ skipN 1 p = some [] := by
  unfold checkP at h
  by_cases h1 : 14 < p.length
  · simp [h1] at h
  · cases hk : p.any badKind with
    | true => simp [h1, hk] at h
    | false =>
      cases hs : p.any badSig with
      | true => simp [h1, hk, hs] at h
      | false =>
        by_cases hq : oneM p 0 = p.length
        · exact ⟨by omega, rfl, rfl, by rwa [skip_all] at hq⟩
        · simp [h1, hk, hs, hq] at h
def playM : List PNode := [⟨5, 0⟩, ⟨6, 0⟩, ⟨5, 0⟩, ⟨4, 0⟩, ⟨3, 0⟩, ⟨5, 0⟩, ⟨1, 0⟩, ⟨3, 1⟩, ⟨5, 0⟩, ⟨1, 0⟩, ⟨8, 0⟩, ⟨3, 2⟩, ⟨2, 0⟩]
end Go.Proofs.YtgohhcnmkomafaaDoor
/- Programs as trees, and one instant of them, in plain Lean. No Go in sight. -/
namespace Go.Proofs.YtgohhcnmkomafaaDoor
set_option linter.unusedVariables false
set_option linter.unusedSimpArgs false
inductive Tr
  | leaf (x : PNode)
  | two (x : PNode) (a b : Tr)
def Tr.flat : Tr → List PNode
  | .leaf x => [x]
  | .two x a b => x :: (a.flat ++ b.flat)
def Tr.size : Tr → Nat
  | .leaf _ => 1
  | .two _ a b => 1 + a.size + b.size
def Tr.ok : Tr → Prop
  | .leaf x => Go.Proofs.YtgohhcnmkomafaaDoor.two x.kind = false
  | .two x a b => Go.Proofs.YtgohhcnmkomafaaDoor.two x.kind = true ∧ a.ok ∧ b.ok
def Tr.top : Tr → PNode
  | .leaf x => x
  | .two x _ _ => x
/-- Kinds and signs are right. -/
def goodN (x : PNode) : Prop := badKind x = false ∧ badSig x = false
theorem flat_size : ∀ t : Tr, t.flat.length = t.size
  | .leaf _ => rfl
  | .two _ a b => by simp [Tr.flat, Tr.size, flat_size a, flat_size b]; omega
theorem size_pos : ∀ t : Tr, 0 < t.size
  | .leaf _ => by simp [Tr.size]
  | .two _ a b => by simp [Tr.size]; omega
theorem skip_flat : ∀ (t : Tr) (r : List PNode), t.ok → skipN 1 (t.flat ++ r) = some r
  | .leaf x, r, h => skip_one x r h
  | .two x a b, r, h => by
    obtain ⟨h1, h2, h3⟩ := h
    simp only [Tr.flat, List.cons_append, List.append_assoc]
    rw [skip_two _ _ h1, skip_flat a _ h2, Option.bind_some, skip_flat b _ h3]
theorem skip_trees (l : List PNode) : ∀ (n : Nat) (r : List PNode), skipN n l = some r → ∃ ts : List Tr, ts.length = n ∧ (∀ t ∈ ts, t.ok) ∧ l = ts.flatMap Tr.flat ++ r := by
  induction l with
  | nil =>
    intro n r h
    cases n with
    | zero => simp [skipN] at h; exact ⟨[], rfl, by simp, by simp [h]⟩
    | succ n => simp [skipN] at h
  | cons x l ih =>
    intro n r h
    cases n with
    | zero => simp [skipN] at h; exact ⟨[], rfl, by simp, by simp [h]⟩
    | succ n =>
      simp only [skipN] at h
      cases ht : two x.kind with
      | true =>
        rw [ht, if_pos rfl] at h
        obtain ⟨ts, h1, h2, h3⟩ := ih _ _ h
        match ts, h1, h2, h3 with
        | a :: b :: ts, h1, h2, h3 =>
          refine ⟨.two x a b :: ts, by simpa using h1, fun t ht' => ?_, by simp [h3, Tr.flat]⟩
          rcases List.mem_cons.1 ht' with e | e
          · subst e; exact ⟨ht, h2 a (by simp), h2 b (by simp)⟩
          · exact h2 t (by simp [e])
      | false =>
        rw [ht, if_neg (by simp)] at h
        obtain ⟨ts, h1, h2, h3⟩ := ih _ _ h
        refine ⟨.leaf x :: ts, by simp [h1], fun t ht' => ?_, by simp [h3, Tr.flat]⟩
        rcases List.mem_cons.1 ht' with e | e
        · subst e; exact ht
        · exact h2 t e
theorem check_tree {p : List PNode} (h : checkP p = 0) : ∃ t : Tr, t.ok ∧ p = t.flat ∧ t.size ≤ 14 ∧ ∀ x ∈ t.flat, goodN x := by
  obtain ⟨h1, h2, h3, h4⟩ := checkP_ok h
  obtain ⟨ts, e1, e2, e3⟩ := skip_trees p 1 [] h4
  match ts, e1, e2, e3 with
  | [t], _, e2, e3 =>
    have e : p = t.flat := by simpa using e3
    refine ⟨t, e2 t (by simp), e, by rw [← flat_size, ← e]; exact h1, fun x hx => ?_⟩
    rw [← e] at hx
    exact ⟨by have := List.any_eq_false.1 h2 x hx; simpa using this, by have := List.any_eq_false.1 h3 x hx; simpa using this⟩
theorem tree_check {t : Tr} (ok : t.ok) (hs : t.size ≤ 14) (hg : ∀ x ∈ t.flat, goodN x) : checkP t.flat = 0 := by
  have h1 : ¬ 14 < t.flat.length := by rw [flat_size]; omega
  have h2 : t.flat.any badKind = false := List.any_eq_false.2 fun x hx => by simp [(hg x hx).1]
  have h3 : t.flat.any badSig = false := List.any_eq_false.2 fun x hx => by simp [(hg x hx).2]
  have h4 : oneM t.flat 0 = t.flat.length := by rw [skip_all]; simpa using skip_flat t [] ok
  simp [checkP, h1, h2, h3, h4]
/-- A tree that stands at a place of a list of nodes. -/
def TreeAt (p : List PNode) (k : Nat) (t : Tr) : Prop := ∃ r, p.drop k = t.flat ++ r
theorem TreeAt.root (t : Tr) : TreeAt t.flat 0 t := ⟨[], by simp⟩
theorem TreeAt.top {p : List PNode} {k : Nat} {t : Tr} (h : TreeAt p k t) : p[k]? = some t.top := by
  obtain ⟨r, h⟩ := h
  have : (p.drop k)[0]? = some t.top := by rw [h]; cases t <;> simp [Tr.flat, Tr.top]
  simpa using this
theorem TreeAt.le {p : List PNode} {k : Nat} {t : Tr} (h : TreeAt p k t) : k + t.size ≤ p.length := by
  obtain ⟨r, h⟩ := h
  have := congrArg List.length h
  have h2 := size_pos t
  simp [flat_size] at this; omega
theorem TreeAt.first {p : List PNode} {k : Nat} {x : PNode} {a b : Tr} (h : TreeAt p k (.two x a b)) : TreeAt p (k + 1) a := by
  obtain ⟨r, h⟩ := h
  refine ⟨b.flat ++ r, ?_⟩
  rw [← List.drop_drop, h]; simp [Tr.flat]
theorem TreeAt.second {p : List PNode} {k : Nat} {x : PNode} {a b : Tr} (h : TreeAt p k (.two x a b)) : TreeAt p (k + 1 + a.size) b := by
  obtain ⟨r, h⟩ := h
  refine ⟨r, ?_⟩
  rw [← List.drop_drop, ← List.drop_drop, h]; simp [Tr.flat, ← flat_size]
theorem TreeAt.one {p : List PNode} {k : Nat} {t : Tr} (h : TreeAt p k t) (ok : t.ok) : oneM p k = k + t.size := by
  have hl := h.le
  obtain ⟨r, h⟩ := h
  have h0 : ¬ (k : Int) < 0 := by omega
  simp only [oneM, h0, if_false, Int.toNat_natCast, h, skip_flat t r ok]
  have := congrArg List.length h
  have h2 := size_pos t
  simp [flat_size] at this; omega
theorem TreeAt.of_leaf {p : List PNode} {k : Nat} {x : PNode} (h : TreeAt p k (.leaf x)) (ok : (Tr.leaf x).ok) : ofP p k = (0, 0, (k : Int) + 1) := by
  have h1 := h.top; have h2 := h.one ok
  have ok' : Go.Proofs.YtgohhcnmkomafaaDoor.two x.kind = false := ok
  simp only [Tr.top] at h1
  simp only [ofP, h1, ok', h2, Tr.size]; simp
theorem TreeAt.of_two {p : List PNode} {k : Nat} {x : PNode} {a b : Tr} (h : TreeAt p k (.two x a b)) (ok : (Tr.two x a b).ok) : ofP p k = ((k : Int) + 1, (k : Int) + 1 + a.size, (k : Int) + (Tr.two x a b).size) := by
  have h1 := h.top; have h2 := h.one ok
  obtain ⟨o1, o2, o3⟩ := ok
  have h3 := h.first.one o2
  simp only [Tr.top] at h1
  rw [show ((k + 1 : Nat) : Int) = (k : Int) + 1 from by omega] at h3
  simp only [ofP, h1, o1, h2, h3]; simp
theorem good_leaf' {x : PNode} (hk : two x.kind = false) (hg : goodN x) : x.kind = 0 ∨ x.kind = 1 ∨ x.kind = 2 ∨ x.kind = 3 ∨ x.kind = 4 := by
  have h1 := hg.1
  simp [badKind] at h1; simp [two] at hk; omega
theorem good_two' {x : PNode} (hk : two x.kind = true) (hg : goodN x) : x.kind = 5 ∨ x.kind = 6 ∨ x.kind = 7 ∨ x.kind = 8 := by
  have h1 := hg.1
  simp [badKind] at h1; simp [two] at hk; omega
theorem leaf_sig' {x : PNode} (hg : goodN x) : 0 ≤ x.sig ∧ x.sig ≤ 2 := by
  have := hg.2
  simp only [badSig, Bool.or_eq_false_iff, decide_eq_false_iff_not, signsM] at this
  obtain ⟨h1, h2⟩ := this
  split at h2
  · simp at h2; omega
  · split at h2 <;> simp at h2 <;> omega
/-! one instant -/
structure StM where
  W : List Bool
  O : List Bool
def waitSt (s : StM) (k : Nat) : StM := ⟨s.W.set k true, s.O⟩
def emitSt (s : StM) (g : Int) : StM := ⟨s.W, s.O.set g.toNat true⟩
def choiceM (th wa : Int → Bool) (x : PNode) : Bool := if x.kind = 7 then th x.sig else wa x.sig
def beginT (th wa : Int → Bool) : Tr → Nat → StM → Bool × StM
  | .leaf x, k, s => if x.kind = 3 then (true, emitSt s x.sig) else if x.kind = 0 then (true, s) else (false, waitSt s k)
  | .two x a b, k, s =>
    if x.kind = 5 then
      if (beginT th wa a (k + 1) s).1 then beginT th wa b (k + 1 + a.size) (beginT th wa a (k + 1) s).2 else (false, (beginT th wa a (k + 1) s).2)
    else if x.kind = 6 then
      ((beginT th wa a (k + 1) s).1 && (beginT th wa b (k + 1 + a.size) (beginT th wa a (k + 1) s).2).1, (beginT th wa b (k + 1 + a.size) (beginT th wa a (k + 1) s).2).2)
    else if choiceM th wa x then beginT th wa a (k + 1) s else beginT th wa b (k + 1 + a.size) s
def someT (V : List Bool) (t : Tr) (k : Nat) : Bool := ((V.drop k).take t.size).contains true
def onT (th wa : Int → Bool) (V : List Bool) : Tr → Nat → StM → Bool × StM
  | .leaf x, k, s => if x.kind = 1 then (true, s) else if x.kind = 2 then (false, waitSt s k) else if th x.sig then (true, s) else (false, waitSt s k)
  | .two x a b, k, s =>
    if x.kind = 5 then
      if someT V a (k + 1) then
        if (onT th wa V a (k + 1) s).1 then beginT th wa b (k + 1 + a.size) (onT th wa V a (k + 1) s).2 else (false, (onT th wa V a (k + 1) s).2)
      else onT th wa V b (k + 1 + a.size) s
    else
      if someT V a (k + 1) then
        if someT V b (k + 1 + a.size) then
          ((onT th wa V a (k + 1) s).1 && (onT th wa V b (k + 1 + a.size) (onT th wa V a (k + 1) s).2).1, (onT th wa V b (k + 1 + a.size) (onT th wa V a (k + 1) s).2).2)
        else onT th wa V a (k + 1) s
      else if someT V b (k + 1 + a.size) then onT th wa V b (k + 1 + a.size) s
      else (true, s)
structure RestM where
  fresh : Bool
  waits : List Bool
  outs : List Bool
  deriving DecidableEq
def freshM (n : Nat) : RestM := ⟨true, List.replicate n false, [false, false, false]⟩
def thereM (ins : Int) (g : Int) : Bool := decide (ins / 2 ^ g.toNat % 2 = 1)
def wasM (O : List Bool) (g : Int) : Bool := O[g.toNat]?.getD false
def turnM (t : Tr) (r : RestM) (ins : Int) : Bool × StM :=
  if r.fresh then beginT (thereM ins) (wasM r.outs) t 0 ⟨List.replicate t.size false, [false, false, false]⟩
  else if someT r.waits t 0 then onT (thereM ins) (wasM r.outs) r.waits t 0 ⟨List.replicate t.size false, [false, false, false]⟩
  else (false, ⟨List.replicate t.size false, [false, false, false]⟩)
def turnR (t : Tr) (r : RestM) (ins : Int) : RestM := ⟨false, (turnM t r ins).2.W, (turnM t r ins).2.O⟩
def checkR (p : List PNode) (r : RestM) : Int :=
  if checkP p ≠ 0 then checkP p else if r.waits.length ≠ p.length ∨ r.outs.length ≠ 3 then 1
  else if (r.waits.zip p).any (fun y => y.1 && (r.fresh || !waitK y.2.kind)) then 1 else 0
/-! lengths, and what is written -/
theorem waitSt_len (s : StM) (k : Nat) : (waitSt s k).W.length = s.W.length ∧ (waitSt s k).O.length = s.O.length := by simp [waitSt]
theorem emitSt_len (s : StM) (g : Int) : (emitSt s g).W.length = s.W.length ∧ (emitSt s g).O.length = s.O.length := by simp [emitSt]
theorem beginT_len (th wa : Int → Bool) : ∀ (t : Tr) (k : Nat) (s : StM), (beginT th wa t k s).2.W.length = s.W.length ∧ (beginT th wa t k s).2.O.length = s.O.length
  | .leaf x, k, s => by
    simp only [beginT]; split
    · exact emitSt_len s _
    split
    · exact ⟨rfl, rfl⟩
    · exact waitSt_len s _
  | .two x a b, k, s => by
    have h1 := beginT_len th wa a (k + 1) s
    have h2 := beginT_len th wa b (k + 1 + a.size) (beginT th wa a (k + 1) s).2
    have h3 := beginT_len th wa b (k + 1 + a.size) s
    simp only [beginT]
    split
    · split
      · exact ⟨h2.1.trans h1.1, h2.2.trans h1.2⟩
      · exact h1
    split
    · exact ⟨h2.1.trans h1.1, h2.2.trans h1.2⟩
    · split
      · exact h1
      · exact h3
theorem onT_len (th wa : Int → Bool) (V : List Bool) : ∀ (t : Tr) (k : Nat) (s : StM), (onT th wa V t k s).2.W.length = s.W.length ∧ (onT th wa V t k s).2.O.length = s.O.length
  | .leaf x, k, s => by
    simp only [onT]; split
    · exact ⟨rfl, rfl⟩
    split
    · exact waitSt_len s _
    split
    · exact ⟨rfl, rfl⟩
    · exact waitSt_len s _
  | .two x a b, k, s => by
    have h1 := onT_len th wa V a (k + 1) s
    have h2 := onT_len th wa V b (k + 1 + a.size) (onT th wa V a (k + 1) s).2
    have h3 := onT_len th wa V b (k + 1 + a.size) s
    have h4 := beginT_len th wa b (k + 1 + a.size) (onT th wa V a (k + 1) s).2
    simp only [onT]
    split
    · split
      · split
        · exact ⟨h4.1.trans h1.1, h4.2.trans h1.2⟩
        · exact h1
      · exact h3
    · split
      · split
        · exact ⟨h2.1.trans h1.1, h2.2.trans h1.2⟩
        · exact h1
      · split
        · exact h3
        · exact ⟨rfl, rfl⟩
/-- Only places of a tree that may wait are written. -/
structure WritesW (t : Tr) (k : Nat) (s s' : StM) : Prop where
  at_ : ∀ j : Nat, s'.W[j]?.getD false = true → s.W[j]?.getD false = true ∨ (k ≤ j ∧ ∃ x, t.flat[j - k]? = some x ∧ waitK x.kind = true)
  keep : ∀ j : Nat, s.W[j]?.getD false = true → s'.W[j]?.getD false = true
theorem WritesW.refl (t : Tr) (k : Nat) (s : StM) : WritesW t k s s := ⟨fun j h => .inl h, fun j h => h⟩
theorem WritesW.same {t : Tr} {k : Nat} {s s' : StM} (h : s'.W = s.W) : WritesW t k s s' := ⟨fun j e => .inl (by rwa [h] at e), fun j e => by rwa [h]⟩
theorem WritesW.wait {x : PNode} {k : Nat} (s : StM) (hx : waitK x.kind = true) : WritesW (.leaf x) k s (waitSt s k) := by
  constructor
  · intro j h
    by_cases e : j = k
    · exact .inr ⟨by omega, x, by rw [e]; simp [Tr.flat], hx⟩
    · left; simp only [waitSt, List.getElem?_set] at h; rwa [if_neg (fun q => e q.symm)] at h
  · intro j h
    simp only [waitSt, List.getElem?_set]
    by_cases e : k = j
    · subst e; rw [if_pos rfl]; split
      · rfl
      · rename_i h2; rw [List.getElem?_eq_none (by omega)] at h; cases h
    · rwa [if_neg e]
theorem WritesW.trans {t : Tr} {k : Nat} {s s' s'' : StM} (h : WritesW t k s s') (g : WritesW t k s' s'') : WritesW t k s s'' :=
  ⟨fun j e => by
    rcases g.at_ j e with h1 | h1
    · exact h.at_ j h1
    · exact .inr h1, fun j e => g.keep j (h.keep j e)⟩
theorem WritesW.first {x : PNode} {a b : Tr} {k : Nat} {s s' : StM} (h : WritesW a (k + 1) s s') : WritesW (.two x a b) k s s' :=
  ⟨fun j e => by
    rcases h.at_ j e with h1 | ⟨h1, y, h2, h3⟩
    · exact .inl h1
    · refine .inr ⟨by omega, y, ?_, h3⟩
      rw [show j - k = (j - (k + 1)) + 1 from by omega]
      have := (List.getElem?_eq_some_iff.1 h2).1
      simp only [Tr.flat, List.getElem?_cons_succ, List.getElem?_append_left this]; exact h2, h.keep⟩
theorem WritesW.second {x : PNode} {a b : Tr} {k : Nat} {s s' : StM} (h : WritesW b (k + 1 + a.size) s s') : WritesW (.two x a b) k s s' :=
  ⟨fun j e => by
    rcases h.at_ j e with h1 | ⟨h1, y, h2, h3⟩
    · exact .inl h1
    · refine .inr ⟨by omega, y, ?_, h3⟩
      rw [show j - k = (a.size + (j - (k + 1 + a.size))) + 1 from by omega]
      simp only [Tr.flat, List.getElem?_cons_succ]
      rw [List.getElem?_append_right (by rw [flat_size]; omega), flat_size, Nat.add_sub_cancel_left]; exact h2, h.keep⟩
theorem wait_kind {x : PNode} (ok : two x.kind = false) (hg : goodN x) (h3 : ¬ x.kind = 3) (h0 : ¬ x.kind = 0) : waitK x.kind = true := by
  have := hg.1
  simp [badKind] at this; simp [two] at ok; simp [waitK]; omega
theorem sub_good {x : PNode} {a b : Tr} (hg : ∀ y ∈ (Tr.two x a b).flat, goodN y) : (∀ y ∈ a.flat, goodN y) ∧ (∀ y ∈ b.flat, goodN y) :=
  ⟨fun y hy => hg y (by simp [Tr.flat, hy]), fun y hy => hg y (by simp [Tr.flat, hy])⟩
theorem begin_writes (th wa : Int → Bool) : ∀ (t : Tr) (k : Nat) (s : StM), t.ok → (∀ x ∈ t.flat, goodN x) → WritesW t k s (beginT th wa t k s).2
  | .leaf x, k, s, ok, hg => by
    simp only [beginT]; split
    · exact .same rfl
    split
    · exact .refl _ _ _
    · exact .wait s (wait_kind ok (hg x (by simp [Tr.flat])) ‹_› ‹_›)
  | .two x a b, k, s, ok, hg => by
    have hgs := sub_good hg
    have h1 := (begin_writes th wa a (k + 1) s ok.2.1 hgs.1).first (x := x) (b := b)
    have h2 := (begin_writes th wa b (k + 1 + a.size) (beginT th wa a (k + 1) s).2 ok.2.2 hgs.2).second (x := x)
    have h3 := (begin_writes th wa b (k + 1 + a.size) s ok.2.2 hgs.2).second (x := x)
    simp only [beginT]
    split
    · split
      · exact h1.trans h2
      · exact h1
    split
    · exact h1.trans h2
    · split
      · exact h1
      · exact h3
/-- Where some wait in a leaf, it may wait. -/
def waitsOK (p : List PNode) (V : List Bool) : Prop := ∀ j : Nat, V[j]?.getD false = true → ∃ x, p[j]? = some x ∧ waitK x.kind = true
theorem some_leaf {V : List Bool} {x : PNode} {k : Nat} (h : someT V (.leaf x) k = true) : V[k]?.getD false = true := by
  simp only [someT, Tr.size, List.contains_eq_mem, decide_eq_true_eq] at h
  obtain ⟨i, hi⟩ := List.mem_iff_getElem?.1 h
  have h2 := (List.getElem?_eq_some_iff.1 hi).1
  rw [List.getElem?_take] at hi
  split at hi
  · rw [List.getElem?_drop] at hi
    have : i = 0 := by omega
    subst this; simp at hi; simp [hi]
  · cases hi
theorem some_two {p : List PNode} {V : List Bool} (hV : waitsOK p V) {x : PNode} {a b : Tr} {k : Nat} (ht : TreeAt p k (.two x a b)) (ok : (Tr.two x a b).ok) (h : someT V (.two x a b) k = true) :
    someT V a (k + 1) = true ∨ someT V b (k + 1 + a.size) = true := by
  have hx : waitK x.kind = false := by have := ok.1; simp [two] at this; simp [waitK]; omega
  simp only [someT, Tr.size, List.contains_eq_mem, decide_eq_true_eq] at h ⊢
  obtain ⟨i, hi⟩ := List.mem_iff_getElem?.1 h
  rw [List.getElem?_take] at hi
  split at hi
  · rename_i hlt
    rw [List.getElem?_drop] at hi
    rcases Nat.lt_or_ge i 1 with e | e
    · have : i = 0 := by omega
      subst this
      obtain ⟨y, g1, g2⟩ := hV k (by simp at hi; simp [hi])
      have := ht.top; rw [g1] at this; injection this with this; rw [this] at g2
      simp only [Tr.top] at g2; rw [hx] at g2; cases g2
    · rcases Nat.lt_or_ge i (1 + a.size) with e2 | e2
      · left; refine List.mem_iff_getElem?.2 ⟨i - 1, ?_⟩
        rw [List.getElem?_take, if_pos (by omega), List.getElem?_drop, show k + 1 + (i - 1) = k + i from by omega]; exact hi
      · right; refine List.mem_iff_getElem?.2 ⟨i - 1 - a.size, ?_⟩
        rw [List.getElem?_take, if_pos (by omega), List.getElem?_drop, show k + 1 + a.size + (i - 1 - a.size) = k + i from by omega]; exact hi
  · cases hi
theorem on_writes (th wa : Int → Bool) {p : List PNode} {V : List Bool} (hV : waitsOK p V) : ∀ (t : Tr) (k : Nat) (s : StM), TreeAt p k t → t.ok → (∀ x ∈ t.flat, goodN x) → someT V t k = true → WritesW t k s (onT th wa V t k s).2
  | .leaf x, k, s, ht, ok, hg, hs => by
    have hw : waitK x.kind = true := by
      obtain ⟨y, h1, h2⟩ := hV k (some_leaf hs)
      have := ht.top; rw [h1] at this; injection this with this; rw [this] at h2; exact h2
    simp only [onT]; split
    · exact .refl _ _ _
    split
    · exact .wait s hw
    split
    · exact .refl _ _ _
    · exact .wait s hw
  | .two x a b, k, s, ht, ok, hg, hs => by
    have hgs := sub_good hg
    have h4 := (begin_writes th wa b (k + 1 + a.size) (onT th wa V a (k + 1) s).2 ok.2.2 hgs.2).second (x := x)
    have h1 := fun h => (on_writes th wa hV a (k + 1) s ht.first ok.2.1 hgs.1 h).first (x := x) (b := b)
    have h2 := fun h => (on_writes th wa hV b (k + 1 + a.size) (onT th wa V a (k + 1) s).2 ht.second ok.2.2 hgs.2 h).second (x := x)
    have h3 := fun h => (on_writes th wa hV b (k + 1 + a.size) s ht.second ok.2.2 hgs.2 h).second (x := x)
    have hsplit : someT V (.two x a b) k = true → waitK x.kind = false → someT V a (k + 1) = true ∨ someT V b (k + 1 + a.size) = true := by
      intro h hx
      simp only [someT, Tr.size, List.contains_eq_mem, decide_eq_true_eq] at h ⊢
      obtain ⟨i, hi⟩ := List.mem_iff_getElem?.1 h
      rw [List.getElem?_take] at hi
      split at hi
      · rename_i hlt
        rw [List.getElem?_drop] at hi
        rcases Nat.lt_or_ge i 1 with e | e
        · have : i = 0 := by omega
          subst this
          obtain ⟨y, g1, g2⟩ := hV k (by simp at hi; simp [hi])
          have := ht.top; rw [g1] at this; injection this with this; rw [this] at g2
          simp only [Tr.top] at g2; rw [hx] at g2; cases g2
        · rcases Nat.lt_or_ge i (1 + a.size) with e2 | e2
          · left; refine List.mem_iff_getElem?.2 ⟨i - 1, ?_⟩
            rw [List.getElem?_take, if_pos (by omega), List.getElem?_drop, show k + 1 + (i - 1) = k + i from by omega]; exact hi
          · right; refine List.mem_iff_getElem?.2 ⟨i - 1 - a.size, ?_⟩
            rw [List.getElem?_take, if_pos (by omega), List.getElem?_drop, show k + 1 + a.size + (i - 1 - a.size) = k + i from by omega]; exact hi
      · cases hi
    have hx : waitK x.kind = false := by have := ok.1; simp [two] at this; simp [waitK]; omega
    have hor := hsplit hs hx
    simp only [onT]
    split
    · split
      · split
        · exact (h1 ‹_›).trans h4
        · exact h1 ‹_›
      · rename_i hn
        rcases hor with e | e
        · exact absurd e hn
        · exact h3 e
    · split
      · split
        · exact (h1 ‹_›).trans (h2 ‹_›)
        · exact h1 ‹_›
      · split
        · exact h3 ‹_›
        · exact .refl _ _ _
/-- Who is over waits nowhere. -/
theorem begin_over (th wa : Int → Bool) : ∀ (t : Tr) (k : Nat) (s : StM), (beginT th wa t k s).1 = true → (beginT th wa t k s).2.W = s.W
  | .leaf x, k, s, h => by
    simp only [beginT] at h ⊢; split
    · rfl
    · rename_i h3
      rw [if_neg h3] at h
      split
      · rfl
      · rename_i h0; rw [if_neg h0] at h; cases h
  | .two x a b, k, s, h => by
    have h1 := begin_over th wa a (k + 1) s
    have h2 := begin_over th wa b (k + 1 + a.size) (beginT th wa a (k + 1) s).2
    have h3 := begin_over th wa b (k + 1 + a.size) s
    simp only [beginT] at h ⊢
    split
    · rename_i e; rw [if_pos e] at h
      split
      · rename_i e2; rw [if_pos e2] at h; rw [h2 h, h1 e2]
      · rename_i e2; rw [if_neg e2] at h; cases h
    · rename_i e; rw [if_neg e] at h
      split
      · rename_i e2; rw [if_pos e2] at h
        simp only [Bool.and_eq_true] at h
        rw [h2 h.2, h1 h.1]
      · rename_i e2; rw [if_neg e2] at h
        split
        · rename_i e3; rw [if_pos e3] at h; exact h1 h
        · rename_i e3; rw [if_neg e3] at h; exact h3 h
theorem on_over (th wa : Int → Bool) (V : List Bool) : ∀ (t : Tr) (k : Nat) (s : StM), (onT th wa V t k s).1 = true → (onT th wa V t k s).2.W = s.W
  | .leaf x, k, s, h => by
    simp only [onT] at h ⊢; split
    · rfl
    · rename_i h3
      rw [if_neg h3] at h
      split
      · rename_i h0; rw [if_pos h0] at h; cases h
      · rename_i h0; rw [if_neg h0] at h
        split
        · rfl
        · rename_i h4; rw [if_neg h4] at h; cases h
  | .two x a b, k, s, h => by
    have h1 := on_over th wa V a (k + 1) s
    have h2 := on_over th wa V b (k + 1 + a.size) (onT th wa V a (k + 1) s).2
    have h3 := on_over th wa V b (k + 1 + a.size) s
    have h4 := begin_over th wa b (k + 1 + a.size) (onT th wa V a (k + 1) s).2
    simp only [onT] at h ⊢
    split
    · rename_i e; rw [if_pos e] at h
      split
      · rename_i e2; rw [if_pos e2] at h
        split
        · rename_i e3; rw [if_pos e3] at h; rw [h4 h, h1 e3]
        · rename_i e3; rw [if_neg e3] at h; cases h
      · rename_i e2; rw [if_neg e2] at h; exact h3 h
    · rename_i e; rw [if_neg e] at h
      split
      · rename_i e2; rw [if_pos e2] at h
        split
        · rename_i e3; rw [if_pos e3] at h
          simp only [Bool.and_eq_true] at h
          rw [h2 h.2, h1 h.1]
        · rename_i e3; rw [if_neg e3] at h; exact h1 h
      · rename_i e2; rw [if_neg e2] at h
        split
        · rename_i e3; rw [if_pos e3] at h; exact h3 h
        · rfl
end Go.Proofs.YtgohhcnmkomafaaDoor
/- Programs as text, in plain Lean: what is shown, and the two readers of it. Texts are lists of bytes. No Go in sight. -/
namespace Go.Proofs.YtgohhcnmkomafaaDoor
set_option linter.unusedVariables false
set_option linter.unusedSimpArgs false
def wNothing : List UInt8 := [110, 111, 116, 104, 105, 110, 103]
def wPause : List UInt8 := [112, 97, 117, 115, 101]
def wHalt : List UInt8 := [104, 97, 108, 116]
def wEmit : List UInt8 := [101, 109, 105, 116, 32]
def wAwait : List UInt8 := [97, 119, 97, 105, 116, 32]
def wIf : List UInt8 := [105, 102, 32]
def wWas : List UInt8 := [119, 97, 115, 32]
def wOpen : List UInt8 := [40]
def wClose : List UInt8 := [41]
def wSemi : List UInt8 := [59, 32]
def wBar : List UInt8 := [32, 124, 32]
def wThen : List UInt8 := [32, 116, 104, 101, 110, 32]
def wElse : List UInt8 := [32, 101, 108, 115, 101, 32]
def wEnd : List UInt8 := [32, 101, 110, 100]
def letter (from_ : Nat) (g : Int) : UInt8 := UInt8.ofNat (from_ + g.toNat)
def leafText (x : PNode) : List UInt8 :=
  if x.kind = 0 then wNothing else if x.kind = 1 then wPause else if x.kind = 2 then wHalt else if x.kind = 3 then wEmit ++ [letter 65 x.sig] else wAwait ++ [letter 120 x.sig]
def twoText (x : PNode) (a b : List UInt8) : List UInt8 :=
  if x.kind = 5 then wOpen ++ (a ++ (wSemi ++ (b ++ wClose)))
  else if x.kind = 6 then wOpen ++ (a ++ (wBar ++ (b ++ wClose)))
  else if x.kind = 7 then wIf ++ ([letter 120 x.sig] ++ (wThen ++ (a ++ (wElse ++ (b ++ wEnd)))))
  else wWas ++ ([letter 65 x.sig] ++ (wThen ++ (a ++ (wElse ++ (b ++ wEnd)))))
def textT : Tr → List UInt8
  | .leaf x => leafText x
  | .two x a b => twoText x (textT a) (textT b)
/-- What is behind a word that a text begins with. -/
def cutP : List UInt8 → List UInt8 → Option (List UInt8)
  | [], s => some s
  | _ :: _, [] => none
  | c :: w, d :: s => if c = d then cutP w s else none
/-- A letter's number: one of three from a first one on. -/
def signP (first : UInt8) : List UInt8 → Option (Int × List UInt8)
  | [] => none
  | c :: s => if c = first then some (0, s) else if c = first + 1 then some (1, s) else if c = first + 2 then some (2, s) else none
/-- The program's reader, over a reader of parts that is told how many nodes may come. -/
abbrev Rd := Nat → List UInt8 → Option (Tr × List UInt8)
def behindT (rd : Rd) (left : Nat) (w : List UInt8) (x : PNode) (a : Tr) (s : List UInt8) : Option (Tr × List UInt8) :=
  (rd (left - a.size) s).bind fun b => (cutP w b.2).map fun r => (.two x a b.1, r)
def forkT (rd : Rd) (left : Nat) (x : PNode) (s : List UInt8) : Option (Tr × List UInt8) :=
  (cutP wThen s).bind fun r => (rd left r).bind fun a => (cutP wElse a.2).bind fun r2 => behindT rd left wEnd x a.1 r2
def openT (rd : Rd) (left : Nat) (s : List UInt8) : Option (Tr × List UInt8) :=
  (rd left s).bind fun a =>
    match cutP wBar a.2 with
    | some r2 => behindT rd left wClose ⟨6, 0⟩ a.1 r2
    | none => (cutP wSemi a.2).bind fun r2 => behindT rd left wClose ⟨5, 0⟩ a.1 r2
def oneT (rd : Rd) (left : Nat) (s : List UInt8) : Option (Tr × List UInt8) :=
    match cutP wNothing s with
    | some r => some (.leaf ⟨0, 0⟩, r)
    | none =>
    match cutP wPause s with
    | some r => some (.leaf ⟨1, 0⟩, r)
    | none =>
    match cutP wHalt s with
    | some r => some (.leaf ⟨2, 0⟩, r)
    | none =>
    match cutP wEmit s with
    | some r => (signP 65 r).map fun y => (.leaf ⟨3, y.1⟩, y.2)
    | none =>
    match cutP wAwait s with
    | some r => (signP 120 r).map fun y => (.leaf ⟨4, y.1⟩, y.2)
    | none =>
    match cutP wIf s with
    | some r => (signP 120 r).bind fun y => forkT rd left ⟨7, y.1⟩ y.2
    | none =>
    match cutP wWas s with
    | some r => (signP 65 r).bind fun y => forkT rd left ⟨8, y.1⟩ y.2
    | none => (cutP wOpen s).bind fun r => openT rd left r
def readT : Nat → Rd
  | 0, _, _ => none
  | _ + 1, 0, _ => none
  | n + 1, left + 1, s => oneT (readT n) left s
theorem cutP_some : ∀ {w s r : List UInt8}, cutP w s = some r → s = w ++ r
  | [], s, r, h => by simp [cutP] at h; simp [h]
  | c :: w, [], r, h => by simp [cutP] at h
  | c :: w, d :: s, r, h => by
    simp only [cutP] at h
    split at h
    · rename_i e; subst e; rw [cutP_some h]; rfl
    · cases h
theorem cutP_app : ∀ (w r : List UInt8), cutP w (w ++ r) = some r
  | [], r => rfl
  | c :: w, r => by simp [cutP, cutP_app w r]
theorem signP_some {f : UInt8} {s r : List UInt8} {g : Int} (hf : f = 65 ∨ f = 120) (h : signP f s = some (g, r)) : (g = 0 ∨ g = 1 ∨ g = 2) ∧ s = letter f.toNat g :: r := by
  cases s with
  | nil => simp [signP] at h
  | cons c s =>
    simp only [signP] at h
    rcases hf with rfl | rfl
    all_goals
      split at h
      · simp at h; obtain ⟨rfl, rfl⟩ := h; exact ⟨.inl rfl, by rename_i e; rw [e]; rfl⟩
      split at h
      · simp at h; obtain ⟨rfl, rfl⟩ := h; exact ⟨.inr (.inl rfl), by rename_i e; rw [e]; rfl⟩
      split at h
      · simp at h; obtain ⟨rfl, rfl⟩ := h; exact ⟨.inr (.inr rfl), by rename_i e; rw [e]; rfl⟩
      · cases h
/-! sound: what is read is shown so -/
structure Reads (left : Nat) (t : Tr) (s r : List UInt8) : Prop where
  text : s = textT t ++ r
  ok : t.ok
  good : ∀ x ∈ t.flat, goodN x
  small : t.size ≤ left
def SoundR (rd : Rd) : Prop := ∀ left s t r, rd left s = some (t, r) → Reads left t s r
theorem leaf_reads {left : Nat} {x : PNode} {s r : List UInt8} (hs : s = leafText x ++ r) (hk : two x.kind = false) (hg : goodN x) : Reads (left + 1) (.leaf x) s r :=
  ⟨hs, hk, fun y hy => by simp [Tr.flat] at hy; subst hy; exact hg, by simp [Tr.size]⟩
theorem two_reads {left : Nat} {x : PNode} {a b : Tr} {s r sa ra sb rb : List UInt8} (ha : Reads left a sa ra) (hb : Reads (left - a.size) b sb rb) (hk : two x.kind = true) (hg : goodN x)
    (hs : s = twoText x (textT a) (textT b) ++ r) : Reads (left + 1) (.two x a b) s r :=
  ⟨hs, ⟨hk, ha.ok, hb.ok⟩, fun y hy => by
    simp only [Tr.flat, List.mem_cons, List.mem_append] at hy
    rcases hy with rfl | h | h
    · exact hg
    · exact ha.good y h
    · exact hb.good y h, by have := ha.small; have := hb.small; simp [Tr.size]; omega⟩
theorem behind_some {rd : Rd} {left : Nat} {w : List UInt8} {x : PNode} {a t : Tr} {s r : List UInt8} (h : behindT rd left w x a s = some (t, r)) :
    ∃ b rb, rd (left - a.size) s = some (b, rb) ∧ cutP w rb = some r ∧ t = .two x a b := by
  simp only [behindT, Option.bind_eq_some_iff, Option.map_eq_some_iff, Prod.mk.injEq] at h
  obtain ⟨⟨b, rb⟩, h1, r', h2, h3, rfl⟩ := h
  exact ⟨b, rb, h1, h2, h3.symm⟩
theorem fork_sound {rd : Rd} (hrd : SoundR rd) {left : Nat} {k g : Int} {s r : List UInt8} {t : Tr} (hk : k = 7 ∨ k = 8) (hg : g = 0 ∨ g = 1 ∨ g = 2) (h : forkT rd left ⟨k, g⟩ s = some (t, r)) :
    Reads (left + 1) t ((if k = 7 then wIf ++ [letter 120 g] else wWas ++ [letter 65 g]) ++ s) r := by
  simp only [forkT, Option.bind_eq_some_iff] at h
  obtain ⟨r1, h1, ⟨a, ra⟩, h2, r2, h3, h4⟩ := h
  obtain ⟨b, rb, h5, h6, rfl⟩ := behind_some h4
  have ha := hrd _ _ _ _ h2
  have hb := hrd _ _ _ _ h5
  have e1 := cutP_some h1; have e3 := cutP_some h3; have e6 := cutP_some h6
  refine two_reads ha hb (by rcases hk with rfl | rfl <;> rfl) (by rcases hk with rfl | rfl <;> rcases hg with rfl | rfl | rfl <;> exact ⟨rfl, rfl⟩) ?_
  simp only at e3
  rw [e1, ha.text, e3, hb.text, e6]
  rcases hk with rfl | rfl <;> simp [twoText]
theorem open_sound {rd : Rd} (hrd : SoundR rd) {left : Nat} {s r : List UInt8} {t : Tr} (h : openT rd left s = some (t, r)) : Reads (left + 1) t (wOpen ++ s) r := by
  simp only [openT, Option.bind_eq_some_iff] at h
  obtain ⟨⟨a, ra⟩, h2, h⟩ := h
  have ha := hrd _ _ _ _ h2
  simp only at h
  split at h
  · rename_i r2 h3
    obtain ⟨b, rb, h5, h6, rfl⟩ := behind_some h
    have hb := hrd _ _ _ _ h5
    refine two_reads ha hb (by decide) ⟨rfl, rfl⟩ ?_
    rw [ha.text, cutP_some h3, hb.text, cutP_some h6]; simp [twoText]
  · rw [Option.bind_eq_some_iff] at h
    obtain ⟨r2, h3, h⟩ := h
    obtain ⟨b, rb, h5, h6, rfl⟩ := behind_some h
    have hb := hrd _ _ _ _ h5
    refine two_reads ha hb (by decide) ⟨rfl, rfl⟩ ?_
    rw [ha.text, cutP_some h3, hb.text, cutP_some h6]; simp [twoText]
theorem one_sound {rd : Rd} (hrd : SoundR rd) {left : Nat} {s r : List UInt8} {t : Tr} (h : oneT rd left s = some (t, r)) : Reads (left + 1) t s r := by
  unfold oneT at h
  split at h
  · rename_i h1; simp at h; obtain ⟨rfl, rfl⟩ := h; exact leaf_reads (by rw [cutP_some h1]; rfl) rfl ⟨rfl, rfl⟩
  split at h
  · rename_i h1; simp at h; obtain ⟨rfl, rfl⟩ := h; exact leaf_reads (by rw [cutP_some h1]; rfl) rfl ⟨rfl, rfl⟩
  split at h
  · rename_i h1; simp at h; obtain ⟨rfl, rfl⟩ := h; exact leaf_reads (by rw [cutP_some h1]; rfl) rfl ⟨rfl, rfl⟩
  split at h
  · rename_i h1
    simp only [Option.map_eq_some_iff, Prod.mk.injEq] at h
    obtain ⟨⟨g, r'⟩, h2, rfl, rfl⟩ := h
    obtain ⟨hg, h3⟩ := signP_some (.inl rfl) h2
    exact leaf_reads (by rw [cutP_some h1, h3]; simp [leafText]) rfl (by rcases hg with rfl | rfl | rfl <;> exact ⟨rfl, rfl⟩)
  split at h
  · rename_i h1
    simp only [Option.map_eq_some_iff, Prod.mk.injEq] at h
    obtain ⟨⟨g, r'⟩, h2, rfl, rfl⟩ := h
    obtain ⟨hg, h3⟩ := signP_some (.inr rfl) h2
    exact leaf_reads (by rw [cutP_some h1, h3]; simp [leafText]) rfl (by rcases hg with rfl | rfl | rfl <;> exact ⟨rfl, rfl⟩)
  split at h
  · rename_i h1
    rw [Option.bind_eq_some_iff] at h
    obtain ⟨⟨g, r'⟩, h2, h⟩ := h
    obtain ⟨hg, h3⟩ := signP_some (.inr rfl) h2
    have := fork_sound hrd (.inl rfl) hg h
    rw [cutP_some h1, h3]; simpa using this
  split at h
  · rename_i h1
    rw [Option.bind_eq_some_iff] at h
    obtain ⟨⟨g, r'⟩, h2, h⟩ := h
    obtain ⟨hg, h3⟩ := signP_some (.inl rfl) h2
    have := fork_sound hrd (.inr rfl) hg h
    rw [cutP_some h1, h3]; simpa using this
  · rw [Option.bind_eq_some_iff] at h
    obtain ⟨r', h1, h⟩ := h
    have := open_sound hrd h
    rw [cutP_some h1]; exact this
theorem read_sound : ∀ n, SoundR (readT n)
  | 0, left, s, t, r, h => by simp [readT] at h
  | n + 1, 0, s, t, r, h => by simp [readT] at h
  | n + 1, left + 1, s, t, r, h => one_sound (read_sound n) h
/-! whole: what is shown is read -/
def WholeR (rd : Rd) (m : Nat) : Prop := ∀ (t : Tr) (left : Nat) (r : List UInt8), t.ok → (∀ x ∈ t.flat, goodN x) → t.size ≤ left → t.size ≤ m → rd left (textT t ++ r) = some (t, r)
theorem good_leaf {x : PNode} (hk : two x.kind = false) (hg : goodN x) : (x = ⟨0, 0⟩ ∨ x = ⟨1, 0⟩ ∨ x = ⟨2, 0⟩) ∨ (x.kind = 3 ∨ x.kind = 4) ∧ (x.sig = 0 ∨ x.sig = 1 ∨ x.sig = 2) := by
  obtain ⟨k, g⟩ := x
  obtain ⟨h1, h2⟩ := hg
  simp [badKind] at h1; simp [two] at hk; simp only [badSig, Bool.or_eq_false_iff, decide_eq_false_iff_not] at h2
  have hk5 : k = 0 ∨ k = 1 ∨ k = 2 ∨ k = 3 ∨ k = 4 := by omega
  rcases hk5 with rfl | rfl | rfl | rfl | rfl <;> simp [signsM] at h2 ⊢ <;> omega
theorem good_two {x : PNode} (hk : two x.kind = true) (hg : goodN x) : (x = ⟨5, 0⟩ ∨ x = ⟨6, 0⟩) ∨ (x.kind = 7 ∨ x.kind = 8) ∧ (x.sig = 0 ∨ x.sig = 1 ∨ x.sig = 2) := by
  obtain ⟨k, g⟩ := x
  obtain ⟨h1, h2⟩ := hg
  simp [badKind] at h1; simp [two] at hk; simp only [badSig, Bool.or_eq_false_iff, decide_eq_false_iff_not] at h2
  have hk5 : k = 5 ∨ k = 6 ∨ k = 7 ∨ k = 8 := by omega
  rcases hk5 with rfl | rfl | rfl | rfl <;> simp [signsM] at h2 ⊢ <;> omega
theorem behind_whole {rd : Rd} {m left : Nat} (h : WholeR rd m) {w : List UInt8} {x : PNode} {a b : Tr} {r : List UInt8} (ok : b.ok) (hg : ∀ y ∈ b.flat, goodN y) (hl : b.size ≤ left - a.size) (hm : b.size ≤ m) :
    behindT rd left w x a (textT b ++ (w ++ r)) = some (.two x a b, r) := by
  simp [behindT, h b _ (w ++ r) ok hg hl hm, cutP_app]
theorem fork_whole {rd : Rd} {m left : Nat} (h : WholeR rd m) {x : PNode} {a b : Tr} {r : List UInt8} (oa : a.ok) (ga : ∀ y ∈ a.flat, goodN y) (ob : b.ok) (gb : ∀ y ∈ b.flat, goodN y) (hl : a.size + b.size ≤ left) (hm : a.size + b.size ≤ m) :
    forkT rd left x (wThen ++ (textT a ++ (wElse ++ (textT b ++ (wEnd ++ r))))) = some (.two x a b, r) := by
  simp only [forkT, cutP_app, Option.bind_some, h a left _ oa ga (by omega) (by omega), behind_whole h (w := wEnd) (r := r) ob gb (by omega : b.size ≤ left - a.size) (by omega)]
theorem one_whole {rd : Rd} {m left : Nat} (h : WholeR rd m) : ∀ (t : Tr) (r : List UInt8), t.ok → (∀ x ∈ t.flat, goodN x) → t.size ≤ left + 1 → t.size ≤ m + 1 → oneT rd left (textT t ++ r) = some (t, r)
  | .leaf x, r, ok, hg, _, _ => by
    have hx := good_leaf ok (hg x (by simp [Tr.flat]))
    rcases hx with (rfl | rfl | rfl) | ⟨hk, hs⟩
    · simp only [textT, leafText]; rfl
    · simp only [textT, leafText]; rfl
    · simp only [textT, leafText]; rfl
    · obtain ⟨k, g⟩ := x
      simp only at hk hs
      rcases hk with rfl | rfl <;> rcases hs with rfl | rfl | rfl <;> rfl
  | .two x a b, r, ok, hg, hl, hm => by
    obtain ⟨hk, oa, ob⟩ := ok
    have hgs := sub_good hg
    simp only [Tr.size] at hl hm
    have hx := good_two hk (hg x (by simp [Tr.flat]))
    rcases hx with (rfl | rfl) | ⟨hk, hs⟩
    · have hb := behind_whole (left := left) (w := wClose) (x := ⟨5, 0⟩) (a := a) (r := r) h ob hgs.2 (by omega) (by omega)
      have e : textT (.two ⟨5, 0⟩ a b) ++ r = wOpen ++ (textT a ++ (wSemi ++ (textT b ++ (wClose ++ r)))) := by simp [textT, twoText]
      rw [e]
      have e2 : oneT rd left (wOpen ++ (textT a ++ (wSemi ++ (textT b ++ (wClose ++ r))))) = openT rd left (textT a ++ (wSemi ++ (textT b ++ (wClose ++ r)))) := rfl
      rw [e2, openT, h a left _ oa hgs.1 (by omega) (by omega), Option.bind_some]
      have e3 : cutP wBar (wSemi ++ (textT b ++ (wClose ++ r))) = none := rfl
      simp only [e3, cutP_app, Option.bind_some, hb]
    · have hb := behind_whole (left := left) (w := wClose) (x := ⟨6, 0⟩) (a := a) (r := r) h ob hgs.2 (by omega) (by omega)
      have e : textT (.two ⟨6, 0⟩ a b) ++ r = wOpen ++ (textT a ++ (wBar ++ (textT b ++ (wClose ++ r)))) := by simp [textT, twoText]
      rw [e]
      have e2 : oneT rd left (wOpen ++ (textT a ++ (wBar ++ (textT b ++ (wClose ++ r))))) = openT rd left (textT a ++ (wBar ++ (textT b ++ (wClose ++ r)))) := rfl
      rw [e2, openT, h a left _ oa hgs.1 (by omega) (by omega), Option.bind_some]
      simp only [cutP_app, hb]
    · obtain ⟨k, g⟩ := x
      simp only at hk hs
      have hf := fork_whole (left := left) (x := ⟨k, g⟩) (r := r) h oa hgs.1 ob hgs.2 (by omega) (by omega)
      rcases hk with rfl | rfl
      · have e : textT (.two ⟨7, g⟩ a b) ++ r = wIf ++ (letter 120 g :: (wThen ++ (textT a ++ (wElse ++ (textT b ++ (wEnd ++ r)))))) := by simp [textT, twoText]
        rw [e, ← hf]
        rcases hs with rfl | rfl | rfl <;> rfl
      · have e : textT (.two ⟨8, g⟩ a b) ++ r = wWas ++ (letter 65 g :: (wThen ++ (textT a ++ (wElse ++ (textT b ++ (wEnd ++ r)))))) := by simp [textT, twoText]
        rw [e, ← hf]
        rcases hs with rfl | rfl | rfl <;> rfl
theorem read_whole : ∀ n, WholeR (readT n) n
  | 0, t, left, r, _, _, _, h => by have := size_pos t; omega
  | n + 1, t, 0, r, _, _, h, _ => by have := size_pos t; omega
  | n + 1, t, left + 1, r, ok, hg, hl, hm => one_whole (read_whole n) t r ok hg hl hm
/-- What the program's Read tells of a text. -/
def progOfText (s : List UInt8) : Option Tr :=
  match readT 15 14 s with
  | some (t, []) => some t
  | _ => none
theorem progOf_some {s : List UInt8} {t : Tr} (h : progOfText s = some t) : s = textT t ∧ t.ok ∧ (∀ x ∈ t.flat, goodN x) ∧ t.size ≤ 14 := by
  unfold progOfText at h
  split at h
  · rename_i t' h1
    injection h with h; subst h
    have := read_sound 15 _ _ _ _ h1
    exact ⟨by simpa using this.text, this.ok, this.good, this.small⟩
  · cases h
theorem progOf_text {t : Tr} (ok : t.ok) (hg : ∀ x ∈ t.flat, goodN x) (hs : t.size ≤ 14) : progOfText (textT t) = some t := by
  have := read_whole 15 t 14 [] ok hg hs (by omega)
  simp at this
  simp [progOfText, this]
theorem leafText_len (x : PNode) : (leafText x).length ≤ 24 := by
  unfold leafText; repeat' split
  all_goals simp [wNothing, wPause, wHalt, wEmit, wAwait]
theorem twoText_len (x : PNode) (a b : List UInt8) : (twoText x a b).length ≤ 24 + a.length + b.length := by
  unfold twoText; repeat' split
  all_goals simp [wOpen, wSemi, wClose, wBar, wIf, wWas, wThen, wElse, wEnd]; omega
theorem text_len : ∀ t : Tr, (textT t).length ≤ 24 * t.size
  | .leaf x => leafText_len x
  | .two x a b => by
    have h1 := text_len a; have h2 := text_len b; have h3 := twoText_len x (textT a) (textT b)
    simp only [textT, Tr.size]; omega
end Go.Proofs.YtgohhcnmkomafaaDoor
/- The tree of a program, computed; one step of a walk as the document says; what a step leaves. -/
namespace Go.Proofs.YtgohhcnmkomafaaDoor
set_option linter.unusedVariables false
set_option linter.unusedSimpArgs false
def parseT : Nat → List PNode → Tr × List PNode
  | 0, l => (.leaf ⟨0, 0⟩, l)
  | _ + 1, [] => (.leaf ⟨0, 0⟩, [])
  | f + 1, x :: l => if two x.kind then (.two x (parseT f l).1 (parseT f (parseT f l).2).1, (parseT f (parseT f l).2).2) else (.leaf x, l)
theorem parse_flat : ∀ (t : Tr) (f : Nat) (r : List PNode), t.ok → t.size ≤ f → parseT f (t.flat ++ r) = (t, r)
  | .leaf x, 0, r, _, h => by simp [Tr.size] at h
  | .two x a b, 0, r, _, h => by simp [Tr.size] at h
  | .leaf x, f + 1, r, ok, _ => by
    have ok' : two x.kind = false := ok
    simp [Tr.flat, parseT, ok']
  | .two x a b, f + 1, r, ok, h => by
    obtain ⟨o1, o2, o3⟩ := ok
    simp only [Tr.size] at h
    have h1 := parse_flat a f (b.flat ++ r) o2 (by omega)
    have h2 := parse_flat b f r o3 (by omega)
    simp only [Tr.flat, List.cons_append, List.append_assoc, parseT, o1, if_true, h1, h2]
def treeOf (p : List PNode) : Tr := (parseT 15 p).1
theorem treeOf_flat {t : Tr} (ok : t.ok) (h : t.size ≤ 14) : treeOf t.flat = t := by
  have := parse_flat t 15 [] ok (by omega)
  rw [List.append_nil] at this
  simp [treeOf, this]
theorem tree_of {p : List PNode} (h : checkP p = 0) : (treeOf p).ok ∧ p = (treeOf p).flat ∧ (treeOf p).size ≤ 14 ∧ ∀ x ∈ (treeOf p).flat, goodN x := by
  obtain ⟨t, h1, h2, h3, h4⟩ := check_tree h
  have : treeOf p = t := by rw [h2]; exact treeOf_flat h1 h3
  rw [this]; exact ⟨h1, h2, h3, h4⟩
def zeroR : RestM := ⟨false, [], []⟩
def stepM (p : List PNode) (r : RestM) (ins : Int) : RestM × Bool × Int :=
  if checkR p r ≠ 0 then (zeroR, false, checkR p r) else if ins < 0 ∨ 8 ≤ ins then (zeroR, false, 3) else (turnR (treeOf p) r ins, (turnM (treeOf p) r ins).1, 0)
def beginM (p : List PNode) : RestM × Int := if checkP p ≠ 0 then (zeroR, checkP p) else (freshM p.length, 0)
theorem checkR_ok {p : List PNode} {r : RestM} (h : checkR p r = 0) : checkP p = 0 ∧ r.waits.length = p.length ∧ r.outs.length = 3 ∧ (r.waits.zip p).any (fun y => y.1 && (r.fresh || !waitK y.2.kind)) = false := by
  unfold checkR at h
  split at h
  · rename_i h0; exact absurd h h0
  rename_i h0
  split at h
  · cases h
  rename_i h1
  split at h
  · cases h
  rename_i h2
  refine ⟨by simpa using h0, by omega, by omega, by simpa using h2⟩
theorem checkR_waits {p : List PNode} {r : RestM} (h : checkR p r = 0) : waitsOK p r.waits := by
  obtain ⟨-, h2, -, h4⟩ := checkR_ok h
  intro j hj
  have hjl : j < r.waits.length := by
    rcases Nat.lt_or_ge j r.waits.length with q | q
    · exact q
    · rw [List.getElem?_eq_none q] at hj; cases hj
  have hjp : j < p.length := by omega
  refine ⟨p[j], List.getElem?_eq_getElem hjp, ?_⟩
  have := List.any_eq_false.1 h4 (r.waits[j], p[j]) (List.mem_iff_getElem.2 ⟨j, by simp; omega, by simp⟩)
  rw [List.getElem?_eq_getElem hjl] at hj
  simp only [Option.getD_some] at hj
  simp only [hj, Bool.true_and, Bool.or_eq_true, not_or, Bool.not_eq_true] at this
  simpa using this.2
theorem checkR_make {p : List PNode} {r : RestM} (h1 : checkP p = 0) (h2 : r.waits.length = p.length) (h3 : r.outs.length = 3) (hf : r.fresh = false) (hw : waitsOK p r.waits) : checkR p r = 0 := by
  unfold checkR
  rw [if_neg (by simpa using h1), if_neg (by omega), if_neg]
  rw [Bool.not_eq_true]
  refine List.any_eq_false.2 fun y hy => ?_
  obtain ⟨j, hj, e⟩ := List.mem_iff_getElem.1 hy
  rw [List.getElem_zip] at e
  subst e
  simp only [List.length_zip] at hj
  simp only [hf, Bool.false_or, Bool.and_eq_true, Bool.not_eq_true']
  rintro ⟨q1, q2⟩
  obtain ⟨x, hx1, hx2⟩ := hw j (by rw [List.getElem?_eq_getElem (by omega)]; simpa using q1)
  rw [List.getElem?_eq_getElem (by omega)] at hx1
  injection hx1 with hx1
  rw [← hx1] at hx2
  rw [q2] at hx2; cases hx2
theorem writes_waitsOK {t : Tr} {s s' : StM} (h : WritesW t 0 s s') (hs : ∀ j : Nat, s.W[j]?.getD false = false) : waitsOK t.flat s'.W := fun j hj => by
  rcases h.at_ j hj with q | ⟨-, x, q1, q2⟩
  · rw [hs j] at q; cases q
  · exact ⟨x, q1, q2⟩
theorem rep_false (n j : Nat) : (List.replicate n false)[j]?.getD false = false := by
  rw [List.getElem?_replicate]; split <;> rfl
theorem turn_len (t : Tr) (r : RestM) (ins : Int) : (turnM t r ins).2.W.length = t.size ∧ (turnM t r ins).2.O.length = 3 := by
  unfold turnM
  split
  · have := beginT_len (thereM ins) (wasM r.outs) t 0 ⟨List.replicate t.size false, [false, false, false]⟩; simpa using this
  split
  · have := onT_len (thereM ins) (wasM r.outs) r.waits t 0 ⟨List.replicate t.size false, [false, false, false]⟩; simpa using this
  · simp
theorem turn_waits {t : Tr} {r : RestM} (ins : Int) (ok : t.ok) (hg : ∀ x ∈ t.flat, goodN x) (hw : waitsOK t.flat r.waits) : waitsOK t.flat (turnM t r ins).2.W := by
  unfold turnM
  split
  · exact writes_waitsOK (begin_writes _ _ t 0 _ ok hg) (rep_false _)
  split
  · rename_i hs; exact writes_waitsOK (on_writes _ _ hw t 0 _ (TreeAt.root t) ok hg hs) (rep_false _)
  · intro j hj; rw [rep_false] at hj; cases hj
theorem turn_over {t : Tr} {r : RestM} {ins : Int} (h : (turnM t r ins).1 = true) : (turnM t r ins).2.W = List.replicate t.size false := by
  unfold turnM at h ⊢
  split
  · rename_i h1; rw [if_pos h1] at h; exact begin_over _ _ t 0 _ h
  rename_i h1; rw [if_neg h1] at h
  split
  · rename_i h2; rw [if_pos h2] at h; exact on_over _ _ _ t 0 _ h
  · rfl
/-- What comes of a step is right. -/
theorem step_ok {p : List PNode} {r : RestM} {ins : Int} (h : (stepM p r ins).2.2 = 0) : checkR p (stepM p r ins).1 = 0 ∧ (stepM p r ins).1.fresh = false ∧ (stepM p r ins).1.waits.length = p.length ∧ ((stepM p r ins).2.1 = true → (stepM p r ins).1.waits.contains true = false) := by
  unfold stepM at h ⊢
  split at h
  · rename_i h0; exact absurd h h0
  rename_i h0
  split at h
  · cases h
  rename_i h1
  rw [if_neg h0, if_neg h1]
  have hr : checkR p r = 0 := by simpa using h0
  obtain ⟨c1, c2, c3, c4⟩ := checkR_ok hr
  obtain ⟨t1, t2, t3, t4⟩ := tree_of c1
  have hw := checkR_waits hr
  have hl := turn_len (treeOf p) r ins
  have hpl : p.length = (treeOf p).size := by rw [← flat_size, ← t2]
  have hw2 : waitsOK p (turnM (treeOf p) r ins).2.W := by
    have := turn_waits (t := treeOf p) (r := r) ins t1 t4 (by rw [← t2]; exact hw)
    rwa [← t2] at this
  refine ⟨checkR_make c1 (by show _ = _; rw [hpl]; exact hl.1) hl.2 rfl hw2, rfl, by rw [hpl]; exact hl.1, fun ho => ?_⟩
  have := turn_over (t := treeOf p) (r := r) (ins := ins) ho
  show (turnM (treeOf p) r ins).2.W.contains true = false
  rw [this]; simp
end Go.Proofs.YtgohhcnmkomafaaDoor
/- Scripts, in plain Lean: what a line gives, read by the program's way and by the document's. Texts are lists of bytes. No Go in sight. -/
namespace Go.Proofs.YtgohhcnmkomafaaDoor
set_option linter.unusedVariables false
set_option linter.unusedSimpArgs false
/-! words -/
def tickB : List UInt8 := [116, 105, 99, 107]
def restB : List UInt8 := [114, 101, 115, 116]
def showB : List UInt8 := [115, 104, 111, 119]
def againB : List UInt8 := [97, 103, 97, 105, 110]
def okB : List UInt8 := [111, 107]
def overB : List UInt8 := [111, 118, 101, 114]
def errB : List UInt8 := [101, 114, 114, 111, 114, 32, 49]
def xyzB : List UInt8 := [120, 121, 122]
/-- The words of inputs, by their number. -/
def insWords (x : Nat) : List (List UInt8) := (if x % 2 = 1 then [[120]] else []) ++ (if x / 2 % 2 = 1 then [[121]] else []) ++ (if x / 4 % 2 = 1 then [[122]] else [])
def insText (x : Nat) : List UInt8 := ((insWords x).map (32 :: ·)).flatten
/-- The last input of a number of inputs: -1, if there is none. -/
def topX (x : Nat) : Int := if x = 0 then -1 else if x < 2 then 0 else if x < 4 then 1 else 2
def insOf (ws : List (List UInt8)) : Option Nat := (List.range 8).find? fun x => decide (insWords x = ws)
theorem insOf_some {ws : List (List UInt8)} {x : Nat} (h : insOf ws = some x) : x < 8 ∧ ws = insWords x := by
  have h1 := List.find?_some h
  have h2 := List.mem_of_find?_eq_some h
  exact ⟨List.mem_range.1 h2, (of_decide_eq_true h1).symm⟩
theorem insOf_none {ws : List (List UInt8)} (h : insOf ws = none) : ∀ x, x < 8 → ws ≠ insWords x := fun x hx e => by
  have := List.find?_eq_none.1 h x (List.mem_range.2 hx)
  simp [e] at this
theorem insOf_words : ∀ x, x < 8 → insOf (insWords x) = some x := by decide
theorem ins_next : ∀ x, x < 8 → ∀ k, k < 3 → topX x < (k : Nat) → insWords (x + 2 ^ k) = insWords x ++ [[UInt8.ofNat (120 + k)]] ∧ topX (x + 2 ^ k) = (k : Nat) ∧ x + 2 ^ k < 8 := by decide
theorem ins_only : ∀ x, x < 8 → ∀ y, y < 8 → (insWords y).take (insWords x).length = insWords x → ((insWords y)[(insWords x).length]?).all (fun w => (List.range 3).any fun k => decide (w = [UInt8.ofNat (120 + k)] ∧ topX x < (k : Nat))) = true := by decide
/-- Where one letter stands among x, y, z. -/
theorem xyz_one (c : UInt8) : (∃ k : Nat, k < 3 ∧ c = UInt8.ofNat (120 + k) ∧ Lib.index xyzB [c] = (k : Nat)) ∨ Lib.index xyzB [c] = -1 := by
  by_cases h0 : c = 120
  · subst h0; exact .inl ⟨0, by decide, by decide, by decide⟩
  by_cases h1 : c = 121
  · subst h1; exact .inl ⟨1, by decide, by decide, by decide⟩
  by_cases h2 : c = 122
  · subst h2; exact .inl ⟨2, by decide, by decide, by decide⟩
  right
  rw [Lib.index_one]
  have n0 : (120 : UInt8) ≠ c := fun e => h0 e.symm
  have n1 : (121 : UInt8) ≠ c := fun e => h1 e.symm
  have n2 : (122 : UInt8) ≠ c := fun e => h2 e.symm
  simp [xyzB, Lib.indexByte, n0, n1, n2]
/-- A word of inputs, good behind some others. -/
def goodW (x : Nat) (w : List UInt8) : Prop := w.length = 1 ∧ topX x < Lib.index xyzB w
theorem goodW_is {x : Nat} {w : List UInt8} (h : goodW x w) : ∃ k : Nat, k < 3 ∧ w = [UInt8.ofNat (120 + k)] ∧ Lib.index xyzB w = (k : Nat) ∧ topX x < (k : Nat) := by
  obtain ⟨h1, h2⟩ := h
  obtain ⟨c, rfl⟩ : ∃ c, w = [c] := by
    match w, h1 with
    | [c], _ => exact ⟨c, rfl⟩
  rcases xyz_one c with ⟨k, hk, rfl, hi⟩ | hi
  · exact ⟨k, hk, rfl, hi, by rw [← hi]; exact h2⟩
  · rw [hi] at h2
    unfold topX at h2; split at h2 <;> (try split at h2) <;> (try split at h2) <;> omega
theorem xyz_at : ∀ k : Nat, k < 3 → Lib.index xyzB [UInt8.ofNat (120 + k)] = (k : Nat) := by decide
/-- A word that is not good behind a good beginning spoils all. -/
theorem badW_none {ws : List (List UInt8)} {x j : Nat} {w : List UInt8} (hx : x < 8) (hp : ws.take j = insWords x) (hj : j = (insWords x).length) (hw : ws[j]? = some w) (hb : ¬ goodW x w) : insOf ws = none := by
  cases h : insOf ws with
  | none => rfl
  | some y =>
    exfalso
    obtain ⟨hy, rfl⟩ := insOf_some h
    have := ins_only x hx y hy (by rw [← hj]; exact hp)
    rw [← hj, hw] at this
    obtain ⟨k, hk, h2⟩ := List.any_eq_true.1 this
    obtain ⟨rfl, ht⟩ := of_decide_eq_true h2
    have hk3 := List.mem_range.1 hk
    exact hb ⟨rfl, by rw [xyz_at k hk3]; exact ht⟩
/-! a line's words -/
theorem intercalate_cons (c : UInt8) (a : List UInt8) {l : List (List UInt8)} (h : l ≠ []) : [c].intercalate (a :: l) = a ++ c :: [c].intercalate l := by
  cases l with
  | nil => exact absurd rfl h
  | cons b l => simp [List.intercalate]
theorem splitK_ne (sep : List UInt8) (k : Nat) (s : List UInt8) : Lib.splitK sep 0 k s ≠ [] := by
  cases k with
  | zero => simp [Lib.splitK]
  | succ k => unfold Lib.splitK; split <;> simp
theorem splitK_join (c : UInt8) : ∀ (k : Nat) (s : List UInt8), [c].intercalate (Lib.splitK [c] 0 k s) = s
  | 0, s => by simp [Lib.splitK, List.intercalate]
  | k + 1, s => by
    unfold Lib.splitK
    split
    · simp [List.intercalate]
    · rename_i h
      have hge : 0 ≤ Lib.indexByte s c := by
        have := Lib.indexByte_ge s c
        rw [Lib.index_one] at h
        have h' : Lib.indexByte s c ≠ -1 := by simpa using h
        omega
      obtain ⟨i, hi⟩ : ∃ i : Nat, Lib.indexByte s c = i := ⟨(Lib.indexByte s c).toNat, by omega⟩
      rw [intercalate_cons c _ (splitK_ne _ _ _), splitK_join c k, Lib.index_one, hi]
      obtain ⟨h1, -⟩ := Lib.indexByte_some hi
      obtain ⟨hlt, he⟩ := List.getElem?_eq_some_iff.1 h1
      simp only [Int.toNat_natCast, Nat.add_zero, List.length_cons, List.length_nil, Nat.zero_add]
      have := List.drop_eq_getElem_cons hlt
      rw [he] at this
      rw [← this, List.take_append_drop]
theorem split_join (s : List UInt8) : [32].intercalate (Lib.split s [32]) = s := splitK_join 32 _ s
/-- What stands behind 'tick' on a line: the number of the inputs. -/
def tickM (l : List UInt8) : Option Nat := (List.range 8).find? fun x => decide (tickB ++ insText x = l)
theorem tickM_some {l : List UInt8} {x : Nat} (h : tickM l = some x) : x < 8 ∧ l = tickB ++ insText x := by
  have h1 := List.find?_some h
  have h2 := List.mem_of_find?_eq_some h
  exact ⟨List.mem_range.1 h2, (of_decide_eq_true h1).symm⟩
theorem tickM_text : ∀ x, x < 8 → tickM (tickB ++ insText x) = some x := by decide
theorem split_text : ∀ x, x < 8 → Lib.split (tickB ++ insText x) [32] = tickB :: insWords x := by decide +kernel
theorem join_words : ∀ x, x < 8 → [32].intercalate (tickB :: insWords x) = tickB ++ insText x := by decide
/-- By the program: the first word is 'tick', the others are inputs. -/
theorem tick_words {l w : List UInt8} {ws : List (List UInt8)} (h : Lib.split l [32] = w :: ws) : (if w = tickB then insOf ws else none) = tickM l := by
  by_cases hw : w = tickB
  · rw [if_pos hw]
    subst hw
    cases hi : insOf ws with
    | some x =>
      obtain ⟨hx, rfl⟩ := insOf_some hi
      have := split_join l
      rw [h, join_words x hx] at this
      rw [← this, tickM_text x hx]
    | none =>
      cases ht : tickM l with
      | none => rfl
      | some x =>
        obtain ⟨hx, rfl⟩ := tickM_some ht
        rw [split_text x hx] at h
        injection h with _ h
        exact absurd h.symm (insOf_none hi x hx)
  · rw [if_neg hw]
    cases ht : tickM l with
    | none => rfl
    | some x =>
      obtain ⟨hx, rfl⟩ := tickM_some ht
      rw [split_text x hx] at h
      injection h with h _
      exact absurd h.symm hw
/-! what a line gives -/
def listedT (l : List (List UInt8)) : List UInt8 := if l = [] then [45] else [32].intercalate l
def digD (k : Nat) : List UInt8 := if k < 10 then [UInt8.ofNat (48 + k)] else [UInt8.ofNat (48 + k / 10), UInt8.ofNat (48 + k % 10)]
theorem dec_dig {k : Nat} (h : k < 100) : Lib.decDigits k = digD k := by
  rw [Lib.decDigits]
  unfold digD
  split
  · rfl
  · rw [Lib.decDigits, dif_pos (by omega)]; rfl
/-- The numbers of those that wait, from k on. -/
def waitW : List Bool → Nat → List (List UInt8)
  | [], _ => []
  | b :: l, k => (if b then [digD k] else []) ++ waitW l (k + 1)
/-- The letters of what is put out, from k on. -/
def outW : List Bool → Nat → List (List UInt8)
  | [], _ => []
  | b :: l, k => (if b then [[UInt8.ofNat (65 + k)]] else []) ++ outW l (k + 1)
def tickW (outs : List Bool) (over : Bool) : List (List UInt8) := outW outs 0 ++ (if over then [overB] else [])
/-- One line: the rest behind it, and what it gives. -/
def stepL (t : Tr) (r : RestM) (l : List UInt8) : RestM × List UInt8 :=
  match tickM l with
  | some x => (turnR t r x, listedT (tickW (turnR t r x).outs (turnM t r x).1))
  | none => if l = restB then (r, listedT (waitW r.waits 0)) else if l = showB then (r, textT t) else if l = againB then (freshM t.size, okB) else (r, errB)
def playL (t : Tr) : RestM → List (List UInt8) → List UInt8
  | _, [] => []
  | r, l :: ls => (stepL t r l).2 ++ 10 :: playL t (stepL t r l).1 ls
def afterL (t : Tr) : RestM → List (List UInt8) → RestM
  | r, [] => r
  | r, l :: ls => afterL t (stepL t r l).1 ls
theorem playL_snoc (t : Tr) (l : List UInt8) : ∀ (ls : List (List UInt8)) (r : RestM), playL t r (ls ++ [l]) = playL t r ls ++ ((stepL t (afterL t r ls) l).2 ++ [10])
  | [], r => by simp [playL, afterL]
  | m :: ls, r => by simp [playL, afterL, playL_snoc t l ls]
theorem afterL_snoc (t : Tr) (l : List UInt8) : ∀ (ls : List (List UInt8)) (r : RestM), afterL t r (ls ++ [l]) = (stepL t (afterL t r ls) l).1
  | [], r => rfl
  | m :: ls, r => by simp [afterL, afterL_snoc t l ls]
/-! the lines of a script -/
def linesFrom (cur : List UInt8) : List UInt8 → List (List UInt8)
  | [] => []
  | c :: s => if c = 10 then cur :: linesFrom [] s else linesFrom (cur ++ [c]) s
theorem linesFrom_piece : ∀ (a : List UInt8) (cur s : List UInt8), (10 : UInt8) ∉ a → linesFrom cur (a ++ 10 :: s) = (cur ++ a) :: linesFrom [] s
  | [], cur, s, _ => by simp [linesFrom]
  | c :: a, cur, s, h => by
    have hc : c ≠ 10 := fun e => h (by simp [e])
    simp only [List.cons_append, linesFrom, if_neg hc]
    rw [linesFrom_piece a (cur ++ [c]) s (fun e => h (by simp [e])), List.append_assoc]; rfl
theorem linesFrom_len : ∀ (s cur : List UInt8), (linesFrom cur s).length = s.count 10
  | [], _ => rfl
  | c :: s, cur => by
    simp only [linesFrom]
    by_cases hc : c = 10
    · subst hc; rw [if_pos rfl, List.length_cons, linesFrom_len s [], List.count_cons_self]
    · rw [if_neg hc, linesFrom_len s _, List.count_cons_of_ne hc]
/-- What Play refuses. -/
def playE (s t : List UInt8) : Int :=
  if 4096 < s.length then 2 else if progOfText s = none then 1 else if 4096 < t.length ∨ 40 < t.count 10 then 2 else if t ≠ [] ∧ t.getLast? ≠ some 10 then 1 else 0
def playV (s t : List UInt8) : List UInt8 :=
  match progOfText s with
  | some q => if playE s t = 0 then playL q (freshM q.size) (linesFrom [] t) else []
  | none => []
/-! how long it is -/
theorem intercalate_le (c : UInt8) (b : Nat) : ∀ l : List (List UInt8), (∀ x ∈ l, x.length ≤ b) → ([c].intercalate l).length ≤ l.length * (b + 1)
  | [], _ => by simp [List.intercalate]
  | a :: l, h => by
    have ha := h a (by simp)
    have ih := intercalate_le c b l (fun x hx => h x (by simp [hx]))
    rw [List.length_cons, Nat.succ_mul]
    by_cases hl : l = []
    · subst hl; simp [List.intercalate]; omega
    · rw [intercalate_cons c a hl, List.length_append, List.length_cons]; omega
theorem outW_len : ∀ (l : List Bool) (k : Nat), (outW l k).length ≤ l.length ∧ ∀ x ∈ outW l k, x.length ≤ 4
  | [], k => by simp [outW]
  | b :: l, k => by
    obtain ⟨h1, h2⟩ := outW_len l (k + 1)
    cases b
    · simp [outW]; exact ⟨by omega, h2⟩
    · simp [outW]; exact ⟨by omega, h2⟩
theorem waitW_len : ∀ (l : List Bool) (k : Nat), (waitW l k).length ≤ l.length ∧ ∀ x ∈ waitW l k, x.length ≤ 4
  | [], k => by simp [waitW]
  | b :: l, k => by
    obtain ⟨h1, h2⟩ := waitW_len l (k + 1)
    have hd : (digD k).length ≤ 4 := by unfold digD; split <;> simp
    cases b
    · simp [waitW]; exact ⟨by omega, h2⟩
    · simp only [waitW, if_true, List.length_append, List.length_cons, List.length_nil, List.mem_append, List.mem_cons, List.not_mem_nil, or_false]
      exact ⟨by omega, fun x hx => by rcases hx with rfl | hx; exact hd; exact h2 x hx⟩
theorem listedT_len {l : List (List UInt8)} {n : Nat} (h : l.length ≤ n) (hb : ∀ x ∈ l, x.length ≤ 4) : (listedT l).length ≤ 5 * n + 1 := by
  unfold listedT
  split
  · simp
  · have := intercalate_le 32 4 l hb; omega
theorem stepL_len {t : Tr} {r : RestM} (hs : t.size ≤ 14) (hw : r.waits.length = t.size) (l : List UInt8) : (stepL t r l).2.length ≤ 400 := by
  unfold stepL
  split
  · rename_i x _
    have h3 : (turnR t r x).outs.length = 3 := (turn_len t r x).2
    obtain ⟨h1, h2⟩ := outW_len (turnR t r x).outs 0
    have : (listedT (tickW (turnR t r x).outs (turnM t r x).1)).length ≤ 5 * 4 + 1 := by
      refine listedT_len ?_ ?_
      · unfold tickW; rw [List.length_append]; split <;> simp <;> omega
      · intro y hy
        unfold tickW at hy
        rcases List.mem_append.1 hy with hy | hy
        · exact h2 y hy
        · split at hy
          · simp at hy; subst hy; decide
          · simp at hy
    show (listedT _).length ≤ 400
    omega
  · split
    · obtain ⟨h1, h2⟩ := waitW_len r.waits 0
      have : (listedT (waitW r.waits 0)).length ≤ 5 * 14 + 1 := listedT_len (by omega) h2
      show (listedT _).length ≤ 400
      omega
    split
    · have := text_len t
      show (textT t).length ≤ 400
      omega
    split
    · show okB.length ≤ 400; decide
    · show errB.length ≤ 400; decide
/-- A rest that a script's lines keep right. -/
structure RestOK (t : Tr) (r : RestM) : Prop where
  wl : r.waits.length = t.size
  ol : r.outs.length = 3
  wo : waitsOK t.flat r.waits
  fr : r.fresh = true → ∀ b ∈ r.waits, b = false
theorem RestOK.start (t : Tr) : RestOK t (freshM t.size) := ⟨by simp [freshM], by simp [freshM], fun j h => by
  simp only [freshM, List.getElem?_replicate] at h
  split at h <;> simp at h, fun _ b hb => by simp [freshM] at hb; exact hb.2⟩
theorem RestOK.step {t : Tr} {r : RestM} (ok : t.ok) (hg : ∀ x ∈ t.flat, goodN x) (h : RestOK t r) (l : List UInt8) : RestOK t (stepL t r l).1 := by
  unfold stepL
  split
  · rename_i x _
    exact ⟨(turn_len t r x).1, (turn_len t r x).2, turn_waits x ok hg h.wo, fun e => by simp [turnR] at e⟩
  · split
    · exact h
    split
    · exact h
    split
    · exact .start t
    · exact h
theorem RestOK.after {t : Tr} (ok : t.ok) (hg : ∀ x ∈ t.flat, goodN x) : ∀ (ls : List (List UInt8)) (r : RestM), RestOK t r → RestOK t (afterL t r ls)
  | [], _, h => h
  | l :: ls, _, h => RestOK.after ok hg ls _ (h.step ok hg l)
theorem playL_len {t : Tr} (ok : t.ok) (hg : ∀ x ∈ t.flat, goodN x) (hs : t.size ≤ 14) : ∀ (ls : List (List UInt8)) (r : RestM), RestOK t r → (playL t r ls).length ≤ 401 * ls.length
  | [], _, _ => by simp [playL]
  | l :: ls, r, h => by
    have h1 := stepL_len hs h.wl l
    have h2 := playL_len ok hg hs ls _ (h.step ok hg l)
    simp only [playL, List.length_append, List.length_cons]
    omega
end Go.Proofs.YtgohhcnmkomafaaDoor
