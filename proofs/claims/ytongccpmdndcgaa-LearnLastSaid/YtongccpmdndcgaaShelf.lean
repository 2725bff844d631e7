/-
  DERIVED: THE SHELF's CONTRACTS AT THIS DUMP, IN PLAIN WORDS (tools/lay-plain.mjs out of 'TryShelf.lean', which tools/lay-shelf.mjs wrote): THE SAME DECLARATIONS UNDER THE SAME NAMES: 'import', 'namespace', 'open', 'def', 'theorem' AND NOTHING ELSE: no command of the shelf's: FOR A HAND-IN. Each laying: the table of numbers ('.._ren') and one theorem, a field a fact of the dump's own or the kernel's comparison; each contract: ONE APPLICATION.
-/
import Derived.Shelf.SlGeneric
import Derived.Shelf.SlIter.Nil
import Derived.Shelf.SortM.Plain
import Derived.Shelf.SortM.SortNone
import Derived.Ground.GgzProg
import Derived.Ground.SlgmProg
import Derived.Shelf.SlMaps.Clone
import Derived.Ground.SlmcProg
import Derived.Shelf.SlSortCmp.NoneTotal
import Derived.Ground.SlsfProg
import Derived.Shelf.Strings.Repeat
import Derived.Test.YtongccpmdndcgaaProg
namespace Go.Proofs
open Go.Shelf
def Try.lays105_ren : Go.Shelf.Ren := ⟨fun | 105 => 35 | 212 => 109 | 99 => 110 | 165 => 111 | 166 => 112 | 170 => 113 | 169 => 114 | 263 => 157 | 264 => 158 | 206 => 159 | 240 => 160 | 241 => 161 | 276 => 187 | 277 => 188 | n => n, fun | 9 => 9 | 3 => 3 | 4 => 4 | 20 => 20 | 0 => 0 | 46 => 180 | 109 => 181 | 5 => 5 | 72 => 186 | 76 => 190 | 51 => 241 | 146 => 242 | 53 => 126 | 148 => 244 | 70 => 184 | 37 => 152 | 75 => 189 | 127 => 246 | 164 => 268 | 80 => 192 | n => n, fun | n => n⟩
theorem Try.lays105 : Go.Proofs.Lays.n105 Try.prog Try.lays105_ren := {
  mixed := by kernel_rfl
  f99 := Try.func110.trans (congrArg some (by kernel_rfl))
  f105 := Try.func35.trans (congrArg some (by kernel_rfl))
  f165 := Try.func111.trans (congrArg some (by kernel_rfl))
  f166 := Try.func112.trans (congrArg some (by kernel_rfl))
  f169 := Try.func114.trans (congrArg some (by kernel_rfl))
  f170 := Try.func113.trans (congrArg some (by kernel_rfl))
  f206 := Try.func159.trans (congrArg some (by kernel_rfl))
  f212 := Try.func109.trans (congrArg some (by kernel_rfl))
  f240 := Try.func160.trans (congrArg some (by kernel_rfl))
  f241 := Try.func161.trans (congrArg some (by kernel_rfl))
  f263 := Try.func157.trans (congrArg some (by kernel_rfl))
  f264 := Try.func158.trans (congrArg some (by kernel_rfl))
  f276 := Try.func187.trans (congrArg some (by kernel_rfl))
  f277 := Try.func188.trans (congrArg some (by kernel_rfl))
  t0 := Try.underlying0
  a0 := Try.isAgg0
  z0 := Try.sizeOf0
  v0 := Try.zeroValue0
  t3 := Try.underlying3
  a3 := Try.isAgg3
  z3 := Try.sizeOf3
  v3 := Try.zeroValue3
  t4 := Try.underlying4
  a4 := Try.isAgg4
  z4 := Try.sizeOf4
  v4 := Try.zeroValue4
  t5 := Try.underlying5
  a5 := Try.isAgg5
  z5 := Try.sizeOf5
  v5 := Try.zeroValue5
  t9 := Try.underlying9
  a9 := Try.isAgg9
  z9 := Try.sizeOf9
  v9 := Try.zeroValue9
  t20 := Try.underlying20
  a20 := Try.isAgg20
  z20 := Try.sizeOf20
  v20 := Try.zeroValue20
  t37 := Try.underlying152
  a37 := Try.isAgg152
  z37 := Try.sizeOf152
  v37 := Try.zeroValue152
  t46 := Try.underlying180
  a46 := Try.isAgg180
  z46 := Try.sizeOf180
  v46 := Try.zeroValue180
  t51 := Try.underlying241
  a51 := Try.isAgg241
  z51 := Try.sizeOf241
  v51 := Try.zeroValue241
  t53 := Try.underlying126
  a53 := Try.isAgg126
  z53 := Try.sizeOf126
  v53 := Try.zeroValue126
  t70 := Try.underlying184
  a70 := Try.isAgg184
  z70 := Try.sizeOf184
  v70 := Try.zeroValue184
  t72 := Try.underlying186
  a72 := Try.isAgg186
  z72 := Try.sizeOf186
  v72 := Try.zeroValue186
  t75 := Try.underlying189
  a75 := Try.isAgg189
  z75 := Try.sizeOf189
  v75 := Try.zeroValue189
  t76 := Try.underlying190
  a76 := Try.isAgg190
  z76 := Try.sizeOf190
  v76 := Try.zeroValue190
  t109 := Try.underlying181
  a109 := Try.isAgg181
  z109 := Try.sizeOf181
  v109 := Try.zeroValue181
  t127 := Try.underlying246
  a127 := Try.isAgg246
  z127 := Try.sizeOf246
  v127 := Try.zeroValue246
  t146 := Try.underlying242
  a146 := Try.isAgg242
  z146 := Try.sizeOf242
  v146 := Try.zeroValue242
  t148 := Try.underlying244
  a148 := Try.isAgg244
  z148 := Try.sizeOf244
  v148 := Try.zeroValue244
  t164 := Try.underlying268
  a164 := Try.isAgg268
  z164 := Try.sizeOf268
  v164 := Try.zeroValue268 }
theorem Try.Builder_Extra_105 : Builder.Extra Try.prog Try.lays105_ren := {
  sizeBuilder := by kernel_rfl
  liesBuilder := by kernel_rfl
  t5 := Try.underlying5
  a5 := Try.isAgg5
  z5 := Try.sizeOf5
  v5 := Try.zeroValue5
  infoByte := by kernel_rfl
  cellsByte := by kernel_rfl
  sizeByte := by kernel_rfl
  neB5 := by decide }
open Go.RowKit Go.Lib in
/-- THE MAIN CASE: at least two copies of a string that is not empty. (LAID: no walk: one application.) -/
theorem Try.strings_Repeat_main (s : ByteArray) (c : Nat) (w : World) (hc2 : 2 ≤ c) (hc : c ≤ 9223372036854775807) (hlen : s.size * c ≤ 140737488355328) (h0 : 0 < s.size) :
    Calls Try.prog 35 #[.string s, .int .i64 c] w fun e w' => e = .returned (.string ⟨(Lib.repeatL s.data.toList c).toArray⟩) ∧ Below w.heap.size w w' := Any.strings_Repeat_main Try.lays105 Try.Builder_Extra_105 s c w hc2 hc hlen h0
open Go.RowKit Go.Lib in
theorem Try.strings_Repeat_zero (s : ByteArray) (w : World) :
    Calls Try.prog 35 #[.string s, .int .i64 0] w fun e w' => e = .returned (.string ⟨#[]⟩) ∧ w' = w := Any.strings_Repeat_zero Try.lays105 s w
open Go.RowKit Go.Lib in
theorem Try.strings_Repeat_one (s : ByteArray) (w : World) :
    Calls Try.prog 35 #[.string s, .int .i64 1] w fun e w' => e = .returned (.string s) ∧ w' = w := Any.strings_Repeat_one Try.lays105 s w
open Go.RowKit Go.Lib in
/-- Copies of the empty string. (LAID: no walk: one application.) -/
theorem Try.strings_Repeat_empty (s : ByteArray) (c : Nat) (w : World) (hc2 : 2 ≤ c) (hc : c ≤ 9223372036854775807) (h0 : s.size = 0) :
    Calls Try.prog 35 #[.string s, .int .i64 c] w fun e w' => e = .returned (.string ⟨#[]⟩) ∧ w' = w := Any.strings_Repeat_empty Try.lays105 s c w hc2 hc h0
open Go.RowKit Go.Lib in
/-- count < 0: "It panics if count is negative". (LAID: no walk: one application.) -/
theorem Try.strings_Repeat_negative (s : ByteArray) (c : Int) (w : World) (hc : c < 0) :
    Calls Try.prog 35 #[.string s, .int .i64 c] w fun e w' => e = .panicked [{ v := repeatPanic Try.lays105_ren "strings: negative Repeat count", recovered := false }] ∧ w' = w := Any.strings_Repeat_negative Try.lays105 s c w hc
open Go.RowKit Go.Lib in
/-- len(s) * count is no int: ".. or if the result of (len(s) * count) overflows". (LAID: no walk: one application.) -/
theorem Try.strings_Repeat_overflow (s : ByteArray) (c : Nat) (w : World) (hc : c ≤ 9223372036854775807) (hs : s.size ≤ 9223372036854775807) (hbig : 9223372036854775807 < s.size * c) :
    Calls Try.prog 35 #[.string s, .int .i64 c] w fun e w' => e = .panicked [{ v := repeatPanic Try.lays105_ren "strings: Repeat output length overflow", recovered := false }] ∧ w' = w := Any.strings_Repeat_overflow Try.lays105 s c w hc hs hbig
open Go.RowKit Go.Lib in
/-- **strings.Repeat: count ≥ 0, the result within one allocation: count copies of s.** (LAID: no walk: one application.) -/
theorem Try.strings_Repeat (s : ByteArray) (c : Nat) (w : World) (hc : c ≤ 9223372036854775807) (hlen : s.size * c ≤ 140737488355328) :
    Calls Try.prog 35 #[.string s, .int .i64 c] w fun e w' => e = .returned (.string ⟨(Lib.repeatL s.data.toList c).toArray⟩) ∧ Below w.heap.size w w' := Any.strings_Repeat Try.lays105 Try.Builder_Extra_105 s c w hc hlen
def Try.keys117_ren : Go.Shelf.Ren := ⟨fun | 7 => 117 | 10 => 164 | n => n, fun | 23 => 193 | 26 => 9 | 3 => 69 | 28 => 198 | 0 => 0 | 27 => 197 | 33 => 222 | 4 => 4 | n => n, fun | n => n⟩
theorem Try.keys117 : Go.Proofs.SlLaysZ.n7 Try.prog Try.keys117_ren := {
  mixed := by kernel_rfl
  f7 := ⟨Try.f117.name, by decide, Try.func117.trans (congrArg some (by kernel_rfl))⟩
  f10 := ⟨Try.f164.name, by decide, Try.func164.trans (congrArg some (by kernel_rfl))⟩
  t0 := Try.underlying0
  a0 := Try.isAgg0
  z0 := Try.sizeOf0
  v0 := Try.zeroValue0
  t4 := Try.underlying4
  a4 := Try.isAgg4
  z4 := Try.sizeOf4
  v4 := Try.zeroValue4
  t23 := Try.underlying193
  a23 := Try.isAgg193
  z23 := Try.sizeOf193
  v23 := Try.zeroValue193
  t26 := Try.underlying9
  a26 := Try.isAgg9
  z26 := Try.sizeOf9
  v26 := Try.zeroValue9
  t27 := Try.underlying197
  a27 := Try.isAgg197
  z27 := Try.sizeOf197
  v27 := Try.zeroValue197
  t28 := Try.underlying198
  a28 := Try.isAgg198
  z28 := Try.sizeOf198
  v28 := Try.zeroValue198
  t33 := Try.underlying222
  a33 := Try.isAgg222
  z33 := Try.sizeOf222
  v33 := Try.zeroValue222 }
def Try.sorted116_ren : Go.Shelf.Ren := ⟨fun | 6 => 116 | 8 => 162 | 9 => 163 | 11 => 189 | 13 => 150 | 12 => 190 | 23 => 183 | 24 => 184 | 14 => 202 | 15 => 203 | 16 => 204 | 17 => 205 | 18 => 206 | 19 => 207 | 20 => 208 | 21 => 209 | 22 => 210 | 25 => 214 | 26 => 198 | 27 => 199 | 28 => 215 | 29 => 216 | 30 => 186 | 31 => 217 | n => n, fun | 26 => 9 | 28 => 198 | 24 => 143 | 0 => 0 | 3 => 3 | 37 => 180 | 48 => 241 | 50 => 126 | 4 => 4 | 40 => 259 | 39 => 258 | 45 => 112 | 5 => 5 | 9 => 9 | 51 => 276 | 55 => 160 | 57 => 288 | 58 => 289 | 33 => 222 | n => n, fun | n => n⟩
theorem Try.sorted116 : Go.Proofs.SlLaysZ.n6 Try.prog Try.sorted116_ren := {
  mixed := by kernel_rfl
  f6 := ⟨Try.f116.name, by decide, Try.func116.trans (congrArg some (by kernel_rfl))⟩
  f8 := ⟨Try.f162.name, by decide, Try.func162.trans (congrArg some (by kernel_rfl))⟩
  f11 := ⟨Try.f189.name, by decide, Try.func189.trans (congrArg some (by kernel_rfl))⟩
  t0 := Try.underlying0
  a0 := Try.isAgg0
  z0 := Try.sizeOf0
  v0 := Try.zeroValue0
  t24 := Try.underlying143
  a24 := Try.isAgg143
  z24 := Try.sizeOf143
  v24 := Try.zeroValue143
  t26 := Try.underlying9
  a26 := Try.isAgg9
  z26 := Try.sizeOf9
  v26 := Try.zeroValue9
  t28 := Try.underlying198
  a28 := Try.isAgg198
  z28 := Try.sizeOf198
  v28 := Try.zeroValue198
  i26 := by kernel_rfl }
def Try.sort163_ren : Go.Shelf.Ren := ⟨fun | 6 => 163 | 8 => 150 | 9 => 190 | 19 => 183 | 20 => 184 | 21 => 202 | 22 => 203 | 23 => 204 | 24 => 205 | 25 => 206 | 26 => 207 | 27 => 208 | 28 => 209 | 29 => 210 | 36 => 214 | 31 => 198 | 32 => 199 | 37 => 215 | 38 => 216 | 39 => 186 | 41 => 217 | n => n, fun | 27 => 143 | 29 => 9 | 3 => 3 | 32 => 180 | 26 => 143 | 0 => 0 | 44 => 241 | 46 => 126 | 4 => 4 | 36 => 259 | 35 => 258 | 41 => 112 | 5 => 5 | 9 => 9 | 53 => 276 | 57 => 160 | 63 => 288 | 64 => 289 | n => n, fun | n => n⟩
theorem Try.sort163 : Go.Proofs.SlLaysM.n6 Try.prog Try.sort163_ren := {
  mixed := by kernel_rfl
  f6 := ⟨Try.f163.name, by decide, Try.func163.trans (congrArg some (by kernel_rfl))⟩
  f8 := Try.func150.trans (congrArg some (by kernel_rfl))
  f9 := ⟨Try.f190.name, by decide, Try.func190.trans (congrArg some (by kernel_rfl))⟩
  f19 := Try.func183.trans (congrArg some (by kernel_rfl))
  f20 := Try.func184.trans (congrArg some (by kernel_rfl))
  f21 := ⟨Try.f202.name, by decide, Try.func202.trans (congrArg some (by kernel_rfl))⟩
  f22 := ⟨Try.f203.name, by decide, Try.func203.trans (congrArg some (by kernel_rfl))⟩
  f23 := ⟨Try.f204.name, by decide, Try.func204.trans (congrArg some (by kernel_rfl))⟩
  f24 := ⟨Try.f205.name, by decide, Try.func205.trans (congrArg some (by kernel_rfl))⟩
  f25 := ⟨Try.f206.name, by decide, Try.func206.trans (congrArg some (by kernel_rfl))⟩
  f26 := ⟨Try.f207.name, by decide, Try.func207.trans (congrArg some (by kernel_rfl))⟩
  f27 := ⟨Try.f208.name, by decide, Try.func208.trans (congrArg some (by kernel_rfl))⟩
  f28 := ⟨Try.f209.name, by decide, Try.func209.trans (congrArg some (by kernel_rfl))⟩
  f29 := ⟨Try.f210.name, by decide, Try.func210.trans (congrArg some (by kernel_rfl))⟩
  f31 := Try.func198.trans (congrArg some (by kernel_rfl))
  f32 := Try.func199.trans (congrArg some (by kernel_rfl))
  f36 := ⟨Try.f214.name, by decide, Try.func214.trans (congrArg some (by kernel_rfl))⟩
  f37 := ⟨Try.f215.name, by decide, Try.func215.trans (congrArg some (by kernel_rfl))⟩
  f38 := ⟨Try.f216.name, by decide, Try.func216.trans (congrArg some (by kernel_rfl))⟩
  f39 := ⟨Try.f186.name, by decide, Try.func186.trans (congrArg some (by kernel_rfl))⟩
  f41 := ⟨Try.f217.name, by decide, Try.func217.trans (congrArg some (by kernel_rfl))⟩
  t0 := Try.underlying0
  a0 := Try.isAgg0
  z0 := Try.sizeOf0
  v0 := Try.zeroValue0
  t3 := Try.underlying3
  a3 := Try.isAgg3
  z3 := Try.sizeOf3
  v3 := Try.zeroValue3
  t4 := Try.underlying4
  a4 := Try.isAgg4
  z4 := Try.sizeOf4
  v4 := Try.zeroValue4
  t5 := Try.underlying5
  a5 := Try.isAgg5
  z5 := Try.sizeOf5
  v5 := Try.zeroValue5
  t9 := Try.underlying9
  a9 := Try.isAgg9
  z9 := Try.sizeOf9
  v9 := Try.zeroValue9
  t26 := Try.underlying143
  a26 := Try.isAgg143
  z26 := Try.sizeOf143
  v26 := Try.zeroValue143
  t27 := Try.underlying143
  a27 := Try.isAgg143
  z27 := Try.sizeOf143
  v27 := Try.zeroValue143
  t29 := Try.underlying9
  a29 := Try.isAgg9
  z29 := Try.sizeOf9
  v29 := Try.zeroValue9
  t32 := Try.underlying180
  a32 := Try.isAgg180
  z32 := Try.sizeOf180
  v32 := Try.zeroValue180
  t35 := Try.underlying258
  a35 := Try.isAgg258
  z35 := Try.sizeOf258
  v35 := Try.zeroValue258
  t36 := Try.underlying259
  a36 := Try.isAgg259
  z36 := Try.sizeOf259
  v36 := Try.zeroValue259
  t41 := Try.underlying112
  a41 := Try.isAgg112
  z41 := Try.sizeOf112
  v41 := Try.zeroValue112
  t44 := Try.underlying241
  a44 := Try.isAgg241
  z44 := Try.sizeOf241
  v44 := Try.zeroValue241
  t46 := Try.underlying126
  a46 := Try.isAgg126
  z46 := Try.sizeOf126
  v46 := Try.zeroValue126
  t53 := Try.underlying276
  a53 := Try.isAgg276
  z53 := Try.sizeOf276
  v53 := Try.zeroValue276
  t57 := Try.underlying160
  a57 := Try.isAgg160
  z57 := Try.sizeOf160
  v57 := Try.zeroValue160
  t63 := Try.underlying288
  a63 := Try.isAgg288
  z63 := Try.sizeOf288
  v63 := Try.zeroValue288
  t64 := Try.underlying289
  a64 := Try.isAgg289
  z64 := Try.sizeOf289
  v64 := Try.zeroValue289 }
def Try.keys135_ren : Go.Shelf.Ren := ⟨fun | 7 => 135 | 10 => 167 | n => n, fun | 23 => 167 | 26 => 9 | 3 => 212 | 28 => 198 | 0 => 0 | 27 => 197 | 33 => 222 | 4 => 4 | n => n, fun | n => n⟩
theorem Try.keys135 : Go.Proofs.SlLaysZ.n7 Try.prog Try.keys135_ren := {
  mixed := by kernel_rfl
  f7 := ⟨Try.f135.name, by decide, Try.func135.trans (congrArg some (by kernel_rfl))⟩
  f10 := ⟨Try.f167.name, by decide, Try.func167.trans (congrArg some (by kernel_rfl))⟩
  t0 := Try.underlying0
  a0 := Try.isAgg0
  z0 := Try.sizeOf0
  v0 := Try.zeroValue0
  t4 := Try.underlying4
  a4 := Try.isAgg4
  z4 := Try.sizeOf4
  v4 := Try.zeroValue4
  t23 := Try.underlying167
  a23 := Try.isAgg167
  z23 := Try.sizeOf167
  v23 := Try.zeroValue167
  t26 := Try.underlying9
  a26 := Try.isAgg9
  z26 := Try.sizeOf9
  v26 := Try.zeroValue9
  t27 := Try.underlying197
  a27 := Try.isAgg197
  z27 := Try.sizeOf197
  v27 := Try.zeroValue197
  t28 := Try.underlying198
  a28 := Try.isAgg198
  z28 := Try.sizeOf198
  v28 := Try.zeroValue198
  t33 := Try.underlying222
  a33 := Try.isAgg222
  z33 := Try.sizeOf222
  v33 := Try.zeroValue222 }
def Try.sortf101_ren : Go.Shelf.Ren := ⟨fun | 6 => 101 | 15 => 150 | 14 => 149 | 28 => 183 | 29 => 184 | 20 => 175 | 21 => 176 | 22 => 177 | 23 => 178 | 24 => 179 | 25 => 180 | 26 => 181 | 27 => 182 | 46 => 197 | 47 => 198 | 48 => 199 | 49 => 200 | 50 => 201 | 57 => 213 | n => n, fun | 22 => 27 | 24 => 32 | 25 => 172 | 3 => 3 | 39 => 180 | 0 => 0 | 53 => 241 | 55 => 126 | 4 => 4 | 46 => 259 | 45 => 258 | 50 => 112 | 5 => 5 | 9 => 9 | 66 => 276 | 70 => 160 | 76 => 288 | 77 => 289 | n => n, fun | n => n⟩
theorem Try.sortf101 : Go.Proofs.SlLaysF0.n6 Try.prog Try.sortf101_ren := {
  mixed := by kernel_rfl
  f6 := ⟨Try.f101.name, by decide, Try.func101.trans (congrArg some (by kernel_rfl))⟩
  f14 := ⟨Try.f149.name, by decide, Try.func149.trans (congrArg some (by kernel_rfl))⟩
  f15 := Try.func150.trans (congrArg some (by kernel_rfl))
  f20 := ⟨Try.f175.name, by decide, Try.func175.trans (congrArg some (by kernel_rfl))⟩
  f21 := ⟨Try.f176.name, by decide, Try.func176.trans (congrArg some (by kernel_rfl))⟩
  f22 := ⟨Try.f177.name, by decide, Try.func177.trans (congrArg some (by kernel_rfl))⟩
  f23 := ⟨Try.f178.name, by decide, Try.func178.trans (congrArg some (by kernel_rfl))⟩
  f24 := ⟨Try.f179.name, by decide, Try.func179.trans (congrArg some (by kernel_rfl))⟩
  f25 := ⟨Try.f180.name, by decide, Try.func180.trans (congrArg some (by kernel_rfl))⟩
  f26 := ⟨Try.f181.name, by decide, Try.func181.trans (congrArg some (by kernel_rfl))⟩
  f27 := ⟨Try.f182.name, by decide, Try.func182.trans (congrArg some (by kernel_rfl))⟩
  f28 := Try.func183.trans (congrArg some (by kernel_rfl))
  f29 := Try.func184.trans (congrArg some (by kernel_rfl))
  f46 := ⟨Try.f197.name, by decide, Try.func197.trans (congrArg some (by kernel_rfl))⟩
  f47 := Try.func198.trans (congrArg some (by kernel_rfl))
  f48 := Try.func199.trans (congrArg some (by kernel_rfl))
  f49 := ⟨Try.f200.name, by decide, Try.func200.trans (congrArg some (by kernel_rfl))⟩
  f50 := ⟨Try.f201.name, by decide, Try.func201.trans (congrArg some (by kernel_rfl))⟩
  f57 := ⟨Try.f213.name, by decide, Try.func213.trans (congrArg some (by kernel_rfl))⟩
  t0 := Try.underlying0
  a0 := Try.isAgg0
  z0 := Try.sizeOf0
  v0 := Try.zeroValue0
  t3 := Try.underlying3
  a3 := Try.isAgg3
  z3 := Try.sizeOf3
  v3 := Try.zeroValue3
  t4 := Try.underlying4
  a4 := Try.isAgg4
  z4 := Try.sizeOf4
  v4 := Try.zeroValue4
  t5 := Try.underlying5
  a5 := Try.isAgg5
  z5 := Try.sizeOf5
  v5 := Try.zeroValue5
  t9 := Try.underlying9
  a9 := Try.isAgg9
  z9 := Try.sizeOf9
  v9 := Try.zeroValue9
  t22 := Try.underlying27
  a22 := Try.isAgg27
  z22 := Try.sizeOf27
  v22 := Try.zeroValue27
  t25 := Try.underlying172
  a25 := Try.isAgg172
  z25 := Try.sizeOf172
  v25 := Try.zeroValue172
  t39 := Try.underlying180
  a39 := Try.isAgg180
  z39 := Try.sizeOf180
  v39 := Try.zeroValue180
  t45 := Try.underlying258
  a45 := Try.isAgg258
  z45 := Try.sizeOf258
  v45 := Try.zeroValue258
  t46 := Try.underlying259
  a46 := Try.isAgg259
  z46 := Try.sizeOf259
  v46 := Try.zeroValue259
  t50 := Try.underlying112
  a50 := Try.isAgg112
  z50 := Try.sizeOf112
  v50 := Try.zeroValue112
  t53 := Try.underlying241
  a53 := Try.isAgg241
  z53 := Try.sizeOf241
  v53 := Try.zeroValue241
  t55 := Try.underlying126
  a55 := Try.isAgg126
  z55 := Try.sizeOf126
  v55 := Try.zeroValue126
  t66 := Try.underlying276
  a66 := Try.isAgg276
  z66 := Try.sizeOf276
  v66 := Try.zeroValue276
  t70 := Try.underlying160
  a70 := Try.isAgg160
  z70 := Try.sizeOf160
  v70 := Try.zeroValue160
  t76 := Try.underlying288
  a76 := Try.isAgg288
  z76 := Try.sizeOf288
  v76 := Try.zeroValue288
  t77 := Try.underlying289
  a77 := Try.isAgg289
  z77 := Try.sizeOf289
  v77 := Try.zeroValue289 }
def Try.clone104_ren : Go.Shelf.Ren := ⟨fun | 5 => 104 | 7 => 155 | n => n, fun | 23 => 56 | 25 => 9 | 3 => 3 | 4 => 4 | 20 => 20 | n => n, fun | n => n⟩
theorem Try.clone104 : Go.Proofs.SlLaysW.n5 Try.prog Try.clone104_ren := {
  mixed := by kernel_rfl
  f5 := ⟨Try.f104.name, by decide, Try.func104.trans (congrArg some (by kernel_rfl))⟩
  f7 := Try.func155.trans (congrArg some (by kernel_rfl))
  t4 := Try.underlying4
  a4 := Try.isAgg4
  z4 := Try.sizeOf4
  v4 := Try.zeroValue4
  t20 := Try.underlying20
  a20 := Try.isAgg20
  z20 := Try.sizeOf20
  v20 := Try.zeroValue20
  t23 := Try.underlying56
  a23 := Try.isAgg56
  z23 := Try.sizeOf56
  v23 := Try.zeroValue56 }
def Try.clone122_ren : Go.Shelf.Ren := ⟨fun | 5 => 122 | 7 => 155 | n => n, fun | 23 => 193 | 25 => 9 | 3 => 69 | 4 => 4 | 20 => 20 | n => n, fun | n => n⟩
theorem Try.clone122 : Go.Proofs.SlLaysW.n5 Try.prog Try.clone122_ren := {
  mixed := by kernel_rfl
  f5 := ⟨Try.f122.name, by decide, Try.func122.trans (congrArg some (by kernel_rfl))⟩
  f7 := Try.func155.trans (congrArg some (by kernel_rfl))
  t4 := Try.underlying4
  a4 := Try.isAgg4
  z4 := Try.sizeOf4
  v4 := Try.zeroValue4
  t20 := Try.underlying20
  a20 := Try.isAgg20
  z20 := Try.sizeOf20
  v20 := Try.zeroValue20
  t23 := Try.underlying193
  a23 := Try.isAgg193
  z23 := Try.sizeOf193
  v23 := Try.zeroValue193 }
end Go.Proofs
