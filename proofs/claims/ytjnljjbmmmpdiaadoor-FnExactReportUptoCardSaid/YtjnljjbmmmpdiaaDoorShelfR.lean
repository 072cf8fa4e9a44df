/-
 THE LIBRARY's CONTRACTS AT THIS PROGRAM, as the kit's tools lay-shelf and lay-plain wrote them for it. Conditions: each theorem's own.
-/
import Derived.Shelf.Strings.Builder1
import Derived.Shelf.Strings.Builder2
import Derived.Shelf.Strings.BuilderF
import Derived.Shelf.Strings.BuilderK
import Derived.Shelf.Utf8.RuneCount
import Derived.Shelf.Strings.Builder2Cap
import Derived.Shelf.Strings.Search1
import Derived.Shelf.Strings.Search2
import Derived.Shelf.Strings.Search3
import Derived.Shelf.Strings.Count
import Derived.Shelf.LaysM
import Derived.Shelf.Strings.Shaped
import Derived.Shelf.Strings.Split
import Derived.Shelf.Strings.Replace
import Derived.Shelf.Strings.SplitShaped
import Derived.Shelf.Unicode.Decode
import Derived.Shelf.Strings.RuneCount
import Derived.Shelf.Unicode.DecodeSlow
import Derived.Shelf.Unicode.DecodeAny
import Derived.Shelf.Strings.BuilderCap
import Derived.Test.YtjnljjbmmmpdiaaDoorProg
namespace Go.Proofs.YtjnljjbmmmpdiaaDoor
open Go.Shelf Go.Proofs
def lays155_ren : Go.Shelf.Ren := ⟨fun | 167 => 15 | 155 => 13 | 154 => 21 | 138 => 24 | 165 => 25 | 143 => 26 | 166 => 14 | 197 => 27 | 169 => 16 | 195 => 31 | 218 => 32 | 240 => 22 | 241 => 33 | 219 => 34 | 260 => 35 | 276 => 28 | 277 => 37 | 217 => 38 | 225 => 39 | 224 => 40 | 267 => 41 | 266 => 42 | 314 => 43 | n => n, fun | 9 => 9 | 3 => 3 | 4 => 4 | 72 => 38 | 0 => 0 | 76 => 42 | 105 => 53 | 21 => 21 | 5 => 5 | 70 => 35 | 20 => 20 | 37 => 36 | 75 => 41 | 127 => 49 | 164 => 55 | 46 => 50 | 119 => 62 | 139 => 65 | 138 => 64 | 146 => 67 | 51 => 66 | 80 => 45 | n => n, fun | 1 => 0 | 3 => 1 | 4 => 2 | n => n⟩
theorem lays155 : Go.Proofs.Lays.n155 Tryd.prog lays155_ren := {
 mixed := by kernel_rfl
 f138 := Tryd.func24.trans (congrArg some (by kernel_rfl))
 f143 := Tryd.func26.trans (congrArg some (by kernel_rfl))
 f154 := Tryd.func21.trans (congrArg some (by kernel_rfl))
 f155 := Tryd.func13.trans (congrArg some (by kernel_rfl))
 f165 := Tryd.func25.trans (congrArg some (by kernel_rfl))
 f166 := Tryd.func14.trans (congrArg some (by kernel_rfl))
 f169 := Tryd.func16.trans (congrArg some (by kernel_rfl))
 f195 := Tryd.func31.trans (congrArg some (by kernel_rfl))
 f197 := Tryd.func27.trans (congrArg some (by kernel_rfl))
 f217 := Tryd.func38.trans (congrArg some (by kernel_rfl))
 f218 := Tryd.func32.trans (congrArg some (by kernel_rfl))
 f219 := Tryd.func34.trans (congrArg some (by kernel_rfl))
 f224 := Tryd.func40.trans (congrArg some (by kernel_rfl))
 f225 := Tryd.func39.trans (congrArg some (by kernel_rfl))
 f240 := Tryd.func22.trans (congrArg some (by kernel_rfl))
 f241 := Tryd.func33.trans (congrArg some (by kernel_rfl))
 f260 := Tryd.func35.trans (congrArg some (by kernel_rfl))
 f266 := Tryd.func42.trans (congrArg some (by kernel_rfl))
 f267 := Tryd.func41.trans (congrArg some (by kernel_rfl))
 f276 := Tryd.func28.trans (congrArg some (by kernel_rfl))
 f277 := Tryd.func37.trans (congrArg some (by kernel_rfl))
 f314 := Tryd.func43.trans (congrArg some (by kernel_rfl))
 t0 := Tryd.underlying0
 a0 := Tryd.isAgg0
 z0 := Tryd.sizeOf0
 v0 := Tryd.zeroValue0
 t3 := Tryd.underlying3
 a3 := Tryd.isAgg3
 z3 := Tryd.sizeOf3
 v3 := Tryd.zeroValue3
 t4 := Tryd.underlying4
 a4 := Tryd.isAgg4
 z4 := Tryd.sizeOf4
 v4 := Tryd.zeroValue4
 t5 := Tryd.underlying5
 a5 := Tryd.isAgg5
 z5 := Tryd.sizeOf5
 v5 := Tryd.zeroValue5
 t9 := Tryd.underlying9
 a9 := Tryd.isAgg9
 z9 := Tryd.sizeOf9
 v9 := Tryd.zeroValue9
 t20 := Tryd.underlying20
 a20 := Tryd.isAgg20
 z20 := Tryd.sizeOf20
 v20 := Tryd.zeroValue20
 t21 := Tryd.underlying21
 a21 := Tryd.isAgg21
 z21 := Tryd.sizeOf21
 v21 := Tryd.zeroValue21
 t37 := Tryd.underlying36
 a37 := Tryd.isAgg36
 z37 := Tryd.sizeOf36
 v37 := Tryd.zeroValue36
 t46 := Tryd.underlying50
 a46 := Tryd.isAgg50
 z46 := Tryd.sizeOf50
 v46 := Tryd.zeroValue50
 t51 := Tryd.underlying66
 a51 := Tryd.isAgg66
 z51 := Tryd.sizeOf66
 v51 := Tryd.zeroValue66
 t70 := Tryd.underlying35
 a70 := Tryd.isAgg35
 z70 := Tryd.sizeOf35
 v70 := Tryd.zeroValue35
 t72 := Tryd.underlying38
 a72 := Tryd.isAgg38
 z72 := Tryd.sizeOf38
 v72 := Tryd.zeroValue38
 t75 := Tryd.underlying41
 a75 := Tryd.isAgg41
 z75 := Tryd.sizeOf41
 v75 := Tryd.zeroValue41
 t76 := Tryd.underlying42
 a76 := Tryd.isAgg42
 z76 := Tryd.sizeOf42
 v76 := Tryd.zeroValue42
 t105 := Tryd.underlying53
 a105 := Tryd.isAgg53
 z105 := Tryd.sizeOf53
 v105 := Tryd.zeroValue53
 t119 := Tryd.underlying62
 a119 := Tryd.isAgg62
 z119 := Tryd.sizeOf62
 t127 := Tryd.underlying49
 a127 := Tryd.isAgg49
 z127 := Tryd.sizeOf49
 v127 := Tryd.zeroValue49
 t138 := Tryd.underlying64
 a138 := Tryd.isAgg64
 z138 := Tryd.sizeOf64
 v138 := Tryd.zeroValue64
 t139 := Tryd.underlying65
 a139 := Tryd.isAgg65
 z139 := Tryd.sizeOf65
 v139 := Tryd.zeroValue65
 t146 := Tryd.underlying67
 a146 := Tryd.isAgg67
 z146 := Tryd.sizeOf67
 v146 := Tryd.zeroValue67
 t164 := Tryd.underlying55
 a164 := Tryd.isAgg55
 z164 := Tryd.sizeOf55
 v164 := Tryd.zeroValue55
 g1 := by kernel_rfl
 g3 := by kernel_rfl
 g4 := by kernel_rfl }
theorem Builder_Extra_155 : Builder.Extra Tryd.prog lays155_ren := {
 sizeBuilder := by kernel_rfl
 liesBuilder := by kernel_rfl
 t5 := Tryd.underlying5
 a5 := Tryd.isAgg5
 z5 := Tryd.sizeOf5
 v5 := Tryd.zeroValue5
 infoByte := by kernel_rfl
 cellsByte := by kernel_rfl
 sizeByte := by kernel_rfl
 neB5 := by decide }
open Go.RowKit Go.Lib in
theorem strings_ReplaceAll (s old new : ByteArray) (m : Int) (w : World) (hs : s.size < 4294967281) (hm : w.cell? ⟨0, 0, none⟩ = some (.int .i64 m)) (h1 : 1 ≤ old.size) (hlen : s.size + Lib.countB s old * new.size ≤ 140737488355328) :
  Calls Tryd.prog 13 #[.string s, .string old, .string new] w fun e w' =>
   e = .returned (.string ⟨(Lib.replaceAll s.data.toList old.data.toList new.data.toList).toArray⟩) ∧ Below w.heap.size w w' := Any.strings_ReplaceAll lays155 Builder_Extra_155 s old new m w hs hm h1 hlen
def lays169_ren : Go.Shelf.Ren := ⟨fun | 169 => 16 | n => n, fun | 70 => 35 | 9 => 9 | 0 => 0 | 72 => 38 | 37 => 36 | 127 => 49 | 3 => 3 | 5 => 5 | n => n, fun | n => n⟩
theorem lays169 : Go.Proofs.Lays.n169 Tryd.prog lays169_ren := {
 mixed := by kernel_rfl
 f169 := Tryd.func16.trans (congrArg some (by kernel_rfl))
 t0 := Tryd.underlying0
 a0 := Tryd.isAgg0
 z0 := Tryd.sizeOf0
 v0 := Tryd.zeroValue0
 t3 := Tryd.underlying3
 a3 := Tryd.isAgg3
 z3 := Tryd.sizeOf3
 v3 := Tryd.zeroValue3
 t9 := Tryd.underlying9
 a9 := Tryd.isAgg9
 z9 := Tryd.sizeOf9
 v9 := Tryd.zeroValue9
 t37 := Tryd.underlying36
 a37 := Tryd.isAgg36
 z37 := Tryd.sizeOf36
 v37 := Tryd.zeroValue36
 t70 := Tryd.underlying35
 a70 := Tryd.isAgg35
 z70 := Tryd.sizeOf35
 v70 := Tryd.zeroValue35
 t72 := Tryd.underlying38
 a72 := Tryd.isAgg38
 z72 := Tryd.sizeOf38
 v72 := Tryd.zeroValue38
 t127 := Tryd.underlying49
 a127 := Tryd.isAgg49
 z127 := Tryd.sizeOf49
 v127 := Tryd.zeroValue49 }
theorem Builder_Extra_169 : Builder.Extra Tryd.prog lays169_ren := {
 sizeBuilder := by kernel_rfl
 liesBuilder := by kernel_rfl
 t5 := Tryd.underlying5
 a5 := Tryd.isAgg5
 z5 := Tryd.sizeOf5
 v5 := Tryd.zeroValue5
 infoByte := by kernel_rfl
 cellsByte := by kernel_rfl
 sizeByte := by kernel_rfl
 neB5 := by decide }
open Go.RowKit in
theorem Builder_String_any (B b : Nat) (l : List UInt8) (w : World) (h : Lib.IsBuilder 38 5 B b (Lib.byteCells l) w) (hBw : B ≤ w.heap.size) :
  Calls Tryd.prog 16 #[.pointer (some ⟨b, 0, none⟩)] w fun e w' => e = .returned (.string ⟨l.toArray⟩) ∧ Below B w w' := Any.Builder_String_any lays169 Builder_Extra_169 B b l w h hBw
theorem lays166 : Go.Proofs.Lays.n166 Tryd.prog lays155_ren := { lays155 with }
theorem lays167 : Go.Proofs.Lays.n167 Tryd.prog lays155_ren := { lays155 with
 f167 := Tryd.func15.trans (congrArg some (by kernel_rfl)) }
open Go.RowKit in
theorem Builder_WriteString (B b : Nat) (bs : List Value) (s : ByteArray) (w : World) (h : Lib.IsBuilder 38 5 B b bs w) (hlen : bs.length + s.size ≤ 140737488355328) (hBw : B ≤ w.heap.size) :
  Calls Tryd.prog 14 #[.pointer (some ⟨b, 0, none⟩), .string s] w fun e w' => e = .returned (.tuple #[.int .i64 s.size, .nilIface]) ∧ (Lib.BuilderAt 38 5 B b (.pointer (some ⟨b, 0, none⟩)) (bs ++ Lib.strCells s) w' ∧ Below B w w') :=
 Any.Builder_WriteString lays166 Builder_Extra_155 B b bs s w h hlen hBw
open Go.RowKit in
theorem Builder_WriteByte (B b : Nat) (bs : List Value) (c : Int) (w : World) (h : Lib.IsBuilder 38 5 B b bs w) (hlen : bs.length + 1 ≤ 140737488355328) (hBw : B ≤ w.heap.size) :
  Calls Tryd.prog 15 #[.pointer (some ⟨b, 0, none⟩), .int .u8 c] w fun e w' => e = .returned .nilIface ∧ (Lib.BuilderAt 38 5 B b (.pointer (some ⟨b, 0, none⟩)) (bs ++ [.int .u8 c]) w' ∧ Below B w w') :=
 Any.Builder_WriteByte lays167 Builder_Extra_155 B b bs c w h hlen hBw
end Go.Proofs.YtjnljjbmmmpdiaaDoor
