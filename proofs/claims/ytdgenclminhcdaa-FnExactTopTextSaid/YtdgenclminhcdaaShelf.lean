/-
  The library's join at this program: laid out of the kit's shelf by its own plain writer (lay-plain.mjs), the part that is used.
-/
import Derived.Shelf.Strings.OnBuilder
import Derived.Test.YtdgenclminhcdaaProg
namespace Go.Proofs.Ytdgenclminhcdaa
open Go.Shelf
def Try.lays156_ren : Go.Shelf.Ren := ⟨fun | 156 => 167 | 165 => 168 | 166 => 169 | 169 => 170 | 240 => 171 | 241 => 172 | 276 => 173 | 277 => 174 | n => n, fun | 31 => 178 | 9 => 9 | 3 => 3 | 4 => 4 | 0 => 0 | 20 => 20 | 72 => 193 | 76 => 197 | 70 => 191 | 37 => 179 | 75 => 196 | 127 => 200 | 164 => 201 | 5 => 5 | 80 => 199 | n => n, fun | n => n⟩
theorem Try.lays156 : Go.Proofs.Lays.n156 Try.prog Try.lays156_ren := {
  mixed := by kernel_rfl
  f156 := Try.func167.trans (congrArg some (by kernel_rfl))
  f165 := Try.func168.trans (congrArg some (by kernel_rfl))
  f166 := Try.func169.trans (congrArg some (by kernel_rfl))
  f169 := Try.func170.trans (congrArg some (by kernel_rfl))
  f240 := Try.func171.trans (congrArg some (by kernel_rfl))
  f241 := Try.func172.trans (congrArg some (by kernel_rfl))
  f276 := Try.func173.trans (congrArg some (by kernel_rfl))
  f277 := Try.func174.trans (congrArg some (by kernel_rfl))
  t0 := Try.underlying0
  a0 := Try.isAgg0
  z0 := Try.sizeOf0
  v0 := Try.zeroValue0
  t3 := Try.underlying3
  a3 := Try.isAgg3
  z3 := Try.sizeOf3
  v3 := Try.zeroValue3
  t4 := Try.underlying4
  a4 := Try.isAgg4
  z4 := Try.sizeOf4
  v4 := Try.zeroValue4
  t9 := Try.underlying9
  a9 := Try.isAgg9
  z9 := Try.sizeOf9
  v9 := Try.zeroValue9
  t20 := Try.underlying20
  a20 := Try.isAgg20
  z20 := Try.sizeOf20
  v20 := Try.zeroValue20
  t31 := Try.underlying178
  a31 := Try.isAgg178
  z31 := Try.sizeOf178
  v31 := Try.zeroValue178
  t37 := Try.underlying179
  a37 := Try.isAgg179
  z37 := Try.sizeOf179
  v37 := Try.zeroValue179
  t70 := Try.underlying191
  a70 := Try.isAgg191
  z70 := Try.sizeOf191
  v70 := Try.zeroValue191
  t72 := Try.underlying193
  a72 := Try.isAgg193
  z72 := Try.sizeOf193
  v72 := Try.zeroValue193
  t75 := Try.underlying196
  a75 := Try.isAgg196
  z75 := Try.sizeOf196
  v75 := Try.zeroValue196
  t76 := Try.underlying197
  a76 := Try.isAgg197
  z76 := Try.sizeOf197
  v76 := Try.zeroValue197
  t127 := Try.underlying200
  a127 := Try.isAgg200
  z127 := Try.sizeOf200
  v127 := Try.zeroValue200
  t164 := Try.underlying201
  a164 := Try.isAgg201
  z164 := Try.sizeOf201
  v164 := Try.zeroValue201 }
theorem Try.Builder_Extra_156 : Builder.Extra Try.prog Try.lays156_ren := {
  sizeBuilder := by kernel_rfl
  liesBuilder := by kernel_rfl
  t5 := Try.underlying5
  a5 := Try.isAgg5
  z5 := Try.sizeOf5
  v5 := Try.zeroValue5
  infoByte := by kernel_rfl
  cellsByte := by kernel_rfl
  sizeByte := by kernel_rfl
  neB5 := by decide }
open Go.RowKit in
theorem Try.strings_Join (bk o c : Nat) (xs : List ByteArray) (sep : ByteArray) (w : World) (hcells : ∀ (j : Nat) x, xs[j]? = some x → w.cell? ⟨bk, o + j, none⟩ = some (.string x)) (hbk : bk < w.heap.size) (hN : xs.length ≤ 140737488355328) (hcap : xs.length ≤ c) (hlen : (Lib.join (xs.map (·.data.toList)) sep.data.toList).length ≤ 140737488355328) :
    Calls Try.prog 167 #[.slice (some ⟨bk, o, none⟩) xs.length c, .string sep] w fun e w' => e = .returned (.string ⟨(Lib.join (xs.map (·.data.toList)) sep.data.toList).toArray⟩) ∧ Below w.heap.size w w' := Any.strings_Join Try.lays156 Try.Builder_Extra_156 bk o c xs sep w hcells hbk hN hcap hlen
end Go.Proofs.Ytdgenclminhcdaa
