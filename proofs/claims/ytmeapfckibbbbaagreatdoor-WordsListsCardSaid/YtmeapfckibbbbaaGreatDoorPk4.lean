/- Texts of this claim, joined. -/
import Derived.Test.YtmeapfckibbbbaaGreatDoorPk3
import Derived.Test.YtmeapfckibbbbaaGreatDoorProg
import Derived.Shelf.Strings.Builder1
import Derived.Shelf.Strings.Builder2
import Derived.Shelf.Strings.OnBuilder
import Derived.Shelf.Strings.Trim
import Derived.Shelf.Small.Utf8
import Derived.Shelf.Small.Strs
import Derived.Shelf.Strings.BuilderF
import Derived.Shelf.Strings.BuilderK
import Derived.Shelf.Utf8.RuneCount
import Derived.Shelf.Strings.Builder2Cap
import Derived.Shelf.Strconv.Atoi
import Derived.Shelf.Strconv.Itoa0
import Derived.Shelf.Strconv.Itoa1
import Derived.Shelf.LaysM
import Derived.Shelf.Strconv.Itoa2
import Derived.Shelf.Strconv.Itoa3
import Derived.Shelf.Strconv.Itoa4
import Derived.Shelf.Strconv.ParseIntEmpty
import Derived.Shelf.Strconv.Clone
import Derived.Shelf.Strconv.SyntaxError
import Derived.Shelf.LaysC
import Derived.Shelf.Strconv.ToError
import Derived.Shelf.Strconv.Lower
import Derived.Shelf.Strconv.ParseUint10
import Derived.Shelf.Strconv.ParseUint10Empty
import Derived.Shelf.Strconv.ParseUint10Any
import Derived.Shelf.Strconv.ParseInt10
import Derived.Shelf.Strconv.RangeError
import Derived.Shelf.Strconv.ToErrorRange
import Derived.Shelf.Strconv.ParseUintEmpty
import Derived.Shelf.Strconv.ParseUint10b64
import Derived.Shelf.Strconv.ParseUint10b32
import Derived.Shelf.Strconv.ParseUint10b16
import Derived.Shelf.Strconv.ParseUint10b8
import Derived.Shelf.Strconv.ParseUint10At
import Derived.Shelf.Strconv.ParseInt10At64
import Derived.Shelf.Strconv.ParseInt10At32
import Derived.Shelf.Strconv.ParseInt10At16
import Derived.Shelf.Strconv.ParseInt10At8
import Derived.Shelf.Strconv.ParseInt10All
import Derived.Shelf.Strconv.ParseIntPublic10
import Derived.Shelf.Strconv.ErrVarParseInt
import Derived.Shelf.Strings.Search1
import Derived.Shelf.Strings.Search2
import Derived.Shelf.Strings.Search3
import Derived.Shelf.Strings.Cut
import Derived.Shelf.Strings.Count
import Derived.Shelf.Strings.Shaped
import Derived.Shelf.Strings.Prefix
import Derived.Shelf.Strings.Split
import Derived.Shelf.Strings.SplitShaped
import Derived.Shelf.Unicode.Decode
import Derived.Shelf.Strings.Runes
import Derived.Shelf.Strings.RuneCount
import Derived.Shelf.Strings.AsciiSet
import Derived.Shelf.Strings.Explode
import Derived.Shelf.Bits.Mul64
import Derived.Shelf.Strings.Repeat
import Derived.Shelf.Unicode.DecodeSlow
import Derived.Shelf.Unicode.DecodeAny
import Derived.Shelf.Unicode.DecodeLast
import Derived.Shelf.Strings.BuilderCap
import Derived.Shelf.Strings.SlTrimAscii
import Derived.KernelRfl
import Derived.Lib.ItoaLen
set_option linter.unusedSimpArgs false
set_option linter.unusedVariables false
/- The table of the types. -/
namespace Go.Proofs.YtmeapfckibbbbaaGreatDoor.Am
def tys : Tys := [
  ⟨1, .other, 1, 8, [.nilFunc], false⟩,
  ⟨2, .int .i64, 1, 8, [.int .i64 0], false⟩,
  ⟨3, .int .i64, 1, 8, [.int .i64 0], false⟩,
  ⟨4, .bool, 1, 1, [.bool false], false⟩,
  ⟨5, .int .u8, 1, 1, [.int .u8 0], false⟩,
  ⟨9, .str, 1, 16, [.string ⟨#[]⟩], false⟩,
  ⟨12, .int .u64, 1, 8, [.int .u64 0], false⟩,
  ⟨15, .other, 1, 8, [.pointer none], false⟩,
  ⟨16, .other, 1, 8, [.pointer none], false⟩,
  ⟨17, .other, 1, 8, [.pointer none], false⟩,
  ⟨20, .other, 1, 16, [.nilIface], false⟩,
  ⟨21, .int .i32, 1, 4, [.int .i32 0], false⟩,
  ⟨22, .slice 3, 1, 24, [.slice none 0 0], false⟩,
  ⟨23, .other, 1, 8, [.nilFunc], false⟩,
  ⟨24, .int .i64, 1, 8, [.int .i64 0], false⟩,
  ⟨26, .other, 1, 8, [.nilFunc], false⟩,
  ⟨28, .other, 1, 8, [.nilFunc], false⟩,
  ⟨29, .other, 1, 8, [.nilFunc], false⟩,
  ⟨30, .other, 1, 8, [.nilFunc], false⟩,
  ⟨32, .other, 1, 8, [.nilFunc], false⟩,
  ⟨33, .other, 1, 8, [.nilFunc], false⟩,
  ⟨34, .slice 47, 1, 24, [.slice none 0 0], false⟩,
  ⟨36, .other, 1, 8, [.nilFunc], false⟩,
  ⟨37, .other, 1, 8, [.nilFunc], false⟩,
  ⟨38, .struct [(22, 0, 1), (2, 1, 1)], 2, 32, [.slice none 0 0, .int .i64 0], true⟩,
  ⟨39, .struct [(22, 0, 1), (2, 1, 1)], 2, 32, [.slice none 0 0, .int .i64 0], true⟩,
  ⟨40, .other, 1, 8, [.nilFunc], false⟩,
  ⟨41, .other, 1, 8, [.nilFunc], false⟩,
  ⟨42, .other, 1, 8, [.nilFunc], false⟩,
  ⟨43, .other, 1, 8, [.nilFunc], false⟩,
  ⟨44, .other, 1, 8, [.nilFunc], false⟩,
  ⟨45, .other, 1, 8, [.nilFunc], false⟩,
  ⟨46, .struct [(9, 0, 1), (4, 1, 1)], 2, 24, [.string ⟨#[]⟩, .bool false], true⟩,
  ⟨47, .struct [(9, 0, 1), (4, 1, 1)], 2, 24, [.string ⟨#[]⟩, .bool false], true⟩,
  ⟨48, .other, 1, 8, [.pointer none], false⟩,
  ⟨49, .slice 5, 1, 24, [.slice none 0 0], false⟩,
  ⟨50, .struct [(48, 0, 1), (49, 1, 1)], 2, 32, [.pointer none, .slice none 0 0], true⟩,
  ⟨51, .struct [(48, 0, 1), (49, 1, 1)], 2, 32, [.pointer none, .slice none 0 0], true⟩,
  ⟨52, .other, 1, 8, [.nilFunc], false⟩,
  ⟨53, .other, 1, 16, [.nilIface], false⟩,
  ⟨54, .other, 1, 16, [.nilIface], false⟩,
  ⟨55, .other, 1, 8, [.nilFunc], false⟩,
  ⟨57, .other, 1, 8, [.nilFunc], false⟩,
  ⟨58, .other, 1, 8, [.nilFunc], false⟩,
  ⟨59, .other, 1, 8, [.nilFunc], false⟩,
  ⟨60, .slice 67, 1, 24, [.slice none 0 0], false⟩,
  ⟨61, .slice 9, 1, 24, [.slice none 0 0], false⟩,
  ⟨62, .other, 1, 8, [.nilFunc], false⟩,
  ⟨64, .other, 1, 8, [.nilFunc], false⟩,
  ⟨65, .other, 1, 8, [.nilFunc], false⟩,
  ⟨66, .other, 1, 8, [.nilFunc], false⟩,
  ⟨67, .other, 2, 32, [.string ⟨#[]⟩, .string ⟨#[]⟩], true⟩,
  ⟨68, .other, 1, 8, [.nilFunc], false⟩,
  ⟨70, .other, 1, 8, [.nilFunc], false⟩,
  ⟨72, .other, 1, 8, [.nilFunc], false⟩,
  ⟨73, .other, 1, 8, [.nilFunc], false⟩,
  ⟨74, .other, 1, 8, [.nilFunc], false⟩,
  ⟨75, .other, 1, 8, [.nilFunc], false⟩,
  ⟨76, .other, 1, 8, [.nilFunc], false⟩,
  ⟨77, .other, 1, 8, [.nilFunc], false⟩,
  ⟨78, .other, 1, 8, [.nilFunc], false⟩,
  ⟨79, .other, 1, 8, [.nilFunc], false⟩,
  ⟨80, .int .u64, 1, 8, [.int .u64 0], false⟩,
  ⟨81, .other, 1, 8, [.nilFunc], false⟩,
  ⟨82, .other, 1, 8, [.pointer none], false⟩,
  ⟨83, .other, 1, 8, [.nilFunc], false⟩,
  ⟨84, .other, 1, 8, [.nilFunc], false⟩,
  ⟨85, .other, 1, 8, [.nilFunc], false⟩,
  ⟨86, .other, 1, 8, [.nilFunc], false⟩,
  ⟨87, .other, 1, 8, [.nilFunc], false⟩,
  ⟨89, .other, 1, 8, [.nilFunc], false⟩,
  ⟨90, .other, 1, 8, [.nilFunc], false⟩,
  ⟨91, .other, 1, 8, [.nilFunc], false⟩,
  ⟨95, .other, 1, 8, [.nilFunc], false⟩,
  ⟨96, .other, 1, 8, [.nilFunc], false⟩,
  ⟨97, .other, 1, 8, [.pointer none], false⟩,
  ⟨98, .other, 1, 8, [.nilFunc], false⟩,
  ⟨99, .struct [(5, 0, 1), (5, 1, 1)], 2, 2, [.int .u8 0, .int .u8 0], true⟩,
  ⟨100, .other, 10, 10, [.int .u8 0, .int .u8 0, .int .u8 0, .int .u8 0, .int .u8 0, .int .u8 0, .int .u8 0, .int .u8 0, .int .u8 0, .int .u8 0], true⟩,
  ⟨102, .other, 1, 8, [.nilFunc], false⟩,
  ⟨103, .other, 1, 8, [.nilFunc], false⟩,
  ⟨104, .other, 1, 8, [.nilFunc], false⟩,
  ⟨106, .other, 1, 8, [.nilFunc], false⟩,
  ⟨108, .other, 1, 8, [.pointer none], false⟩,
  ⟨109, .other, 1, 8, [.nilFunc], false⟩,
  ⟨110, .other, 1, 8, [.nilFunc], false⟩,
  ⟨111, .int .u64, 1, 8, [.int .u64 0], false⟩,
  ⟨113, .other, 1, 8, [.nilFunc], false⟩,
  ⟨114, .other, 1, 8, [.nilFunc], false⟩,
  ⟨116, .other, 1, 8, [.nilFunc], false⟩,
  ⟨117, .other, 1, 8, [.nilFunc], false⟩,
  ⟨118, .other, 24, 24, [.int .u8 0, .int .u8 0, .int .u8 0, .int .u8 0, .int .u8 0, .int .u8 0, .int .u8 0, .int .u8 0, .int .u8 0, .int .u8 0, .int .u8 0, .int .u8 0, .int .u8 0, .int .u8 0, .int .u8 0, .int .u8 0, .int .u8 0, .int .u8 0, .int .u8 0, .int .u8 0, .int .u8 0, .int .u8 0, .int .u8 0, .int .u8 0], true⟩,
  ⟨119, .other, 1, 8, [.nilFunc], false⟩,
  ⟨120, .other, 1, 8, [.nilFunc], false⟩,
  ⟨122, .other, 1, 8, [.nilFunc], false⟩,
  ⟨123, .other, 1, 8, [.nilFunc], false⟩,
  ⟨124, .other, 1, 8, [.nilFunc], false⟩,
  ⟨125, .int .u32, 1, 4, [.int .u32 0], false⟩,
  ⟨127, .other, 1, 8, [.nilFunc], false⟩,
  ⟨129, .other, 1, 8, [.nilFunc], false⟩,
  ⟨130, .struct [(9, 0, 1), (9, 1, 1), (54, 2, 1)], 3, 48, [.string ⟨#[]⟩, .string ⟨#[]⟩, .nilIface], true⟩,
  ⟨131, .struct [(9, 0, 1), (9, 1, 1), (54, 2, 1)], 3, 48, [.string ⟨#[]⟩, .string ⟨#[]⟩, .nilIface], true⟩,
  ⟨132, .other, 1, 8, [.nilFunc], false⟩,
  ⟨133, .other, 1, 8, [.nilFunc], false⟩,
  ⟨134, .other, 1, 8, [.nilFunc], false⟩,
  ⟨135, .other, 1, 8, [.nilFunc], false⟩,
  ⟨136, .other, 20, 160, [.int .u64 0, .int .u64 0, .int .u64 0, .int .u64 0, .int .u64 0, .int .u64 0, .int .u64 0, .int .u64 0, .int .u64 0, .int .u64 0, .int .u64 0, .int .u64 0, .int .u64 0, .int .u64 0, .int .u64 0, .int .u64 0, .int .u64 0, .int .u64 0, .int .u64 0, .int .u64 0], true⟩,
  ⟨138, .other, 1, 8, [.nilFunc], false⟩,
  ⟨139, .other, 1, 8, [.nilFunc], false⟩,
  ⟨140, .other, 1, 8, [.nilFunc], false⟩,
  ⟨141, .other, 1, 8, [.pointer none], false⟩,
  ⟨142, .struct [(9, 0, 1)], 1, 16, [.string ⟨#[]⟩], true⟩,
  ⟨143, .struct [(9, 0, 1)], 1, 16, [.string ⟨#[]⟩], true⟩,
  ⟨145, .struct [(5, 0, 1), (5, 1, 1)], 2, 2, [.int .u8 0, .int .u8 0], true⟩,
  ⟨146, .struct [(5, 0, 1), (5, 1, 1)], 2, 2, [.int .u8 0, .int .u8 0], true⟩,
  ⟨147, .other, 32, 32, [.int .u8 0, .int .u8 0, .int .u8 0, .int .u8 0, .int .u8 0, .int .u8 0, .int .u8 0, .int .u8 0, .int .u8 0, .int .u8 0, .int .u8 0, .int .u8 0, .int .u8 0, .int .u8 0, .int .u8 0, .int .u8 0, .int .u8 0, .int .u8 0, .int .u8 0, .int .u8 0, .int .u8 0, .int .u8 0, .int .u8 0, .int .u8 0, .int .u8 0, .int .u8 0, .int .u8 0, .int .u8 0, .int .u8 0, .int .u8 0, .int .u8 0, .int .u8 0], true⟩,
  ⟨148, .other, 1, 8, [.nilFunc], false⟩,
  ⟨149, .other, 32, 32, [.int .u8 0, .int .u8 0, .int .u8 0, .int .u8 0, .int .u8 0, .int .u8 0, .int .u8 0, .int .u8 0, .int .u8 0, .int .u8 0, .int .u8 0, .int .u8 0, .int .u8 0, .int .u8 0, .int .u8 0, .int .u8 0, .int .u8 0, .int .u8 0, .int .u8 0, .int .u8 0, .int .u8 0, .int .u8 0, .int .u8 0, .int .u8 0, .int .u8 0, .int .u8 0, .int .u8 0, .int .u8 0, .int .u8 0, .int .u8 0, .int .u8 0, .int .u8 0], true⟩,
  ⟨150, .other, 64, 64, [.int .u8 0, .int .u8 0, .int .u8 0, .int .u8 0, .int .u8 0, .int .u8 0, .int .u8 0, .int .u8 0, .int .u8 0, .int .u8 0, .int .u8 0, .int .u8 0, .int .u8 0, .int .u8 0, .int .u8 0, .int .u8 0, .int .u8 0, .int .u8 0, .int .u8 0, .int .u8 0, .int .u8 0, .int .u8 0, .int .u8 0, .int .u8 0, .int .u8 0, .int .u8 0, .int .u8 0, .int .u8 0, .int .u8 0, .int .u8 0, .int .u8 0, .int .u8 0, .int .u8 0, .int .u8 0, .int .u8 0, .int .u8 0, .int .u8 0, .int .u8 0, .int .u8 0, .int .u8 0, .int .u8 0, .int .u8 0, .int .u8 0, .int .u8 0, .int .u8 0, .int .u8 0, .int .u8 0, .int .u8 0, .int .u8 0, .int .u8 0, .int .u8 0, .int .u8 0, .int .u8 0, .int .u8 0, .int .u8 0, .int .u8 0, .int .u8 0, .int .u8 0, .int .u8 0, .int .u8 0, .int .u8 0, .int .u8 0, .int .u8 0, .int .u8 0], true⟩,
  ⟨158, .other, 1, 8, [.nilFunc], false⟩,
  ⟨161, .struct [(12, 0, 1), (12, 1, 1), (125, 2, 1), (156, 3, 1), (5, 4, 1), (5, 5, 1), (157, 6, 1), (158, 7, 1), (82, 8, 1), (159, 9, 1), (160, 10, 1)], 11, 48, [.int .u64 0, .int .u64 0, .int .u32 0, .int .u8 0, .int .u8 0, .int .u8 0, .int .u8 0, .nilFunc, .pointer none, .int .i32 0, .int .i32 0], true⟩]
set_option maxRecDepth 100000 in
set_option maxHeartbeats 4000000 in
theorem tysOk : tys.Ok Tryz.prog := by
  intro t ht
  unfold tys at ht
  simp only [List.mem_cons, List.not_mem_nil, or_false] at ht
  rcases ht with rfl | rfl | rfl | rfl | rfl | rfl | rfl | rfl | rfl | rfl | rfl | rfl | rfl | rfl | rfl | rfl | rfl | rfl | rfl | rfl | rfl | rfl | rfl | rfl | rfl | rfl | rfl | rfl | rfl | rfl | rfl | rfl | rfl | rfl | rfl | rfl | rfl | rfl | rfl | rfl | rfl | rfl | rfl | rfl | rfl | rfl | rfl | rfl | rfl | rfl | rfl | rfl | rfl | rfl | rfl | rfl | rfl | rfl | rfl | rfl | rfl | rfl | rfl | rfl | rfl | rfl | rfl | rfl | rfl | rfl | rfl | rfl | rfl | rfl | rfl | rfl | rfl | rfl | rfl | rfl | rfl | rfl | rfl | rfl | rfl | rfl | rfl | rfl | rfl | rfl | rfl | rfl | rfl | rfl | rfl | rfl | rfl | rfl | rfl | rfl | rfl | rfl | rfl | rfl | rfl | rfl | rfl | rfl | rfl | rfl | rfl | rfl | rfl | rfl | rfl | rfl | rfl | rfl | rfl | rfl | rfl
  · exact TI.mkOk (z := .nilFunc) (by kernel_rfl) Tryz.underlying1 trivial rfl rfl rfl rfl (.inl ⟨rfl, rfl, rfl⟩) (by decide)
  · exact TI.mkOk (z := .int .i64 0) (by kernel_rfl) Tryz.underlying2 rfl rfl rfl rfl rfl (.inl ⟨rfl, rfl, rfl⟩) (by decide)
  · exact TI.mkOk (z := .int .i64 0) (by kernel_rfl) Tryz.underlying3 rfl rfl rfl rfl rfl (.inl ⟨rfl, rfl, rfl⟩) (by decide)
  · exact TI.mkOk (z := .bool false) (by kernel_rfl) Tryz.underlying4 rfl rfl rfl rfl rfl (.inl ⟨rfl, rfl, rfl⟩) (by decide)
  · exact TI.mkOk (z := .int .u8 0) (by kernel_rfl) Tryz.underlying5 rfl rfl rfl rfl rfl (.inl ⟨rfl, rfl, rfl⟩) (by decide)
  · exact TI.mkOk (z := .string ⟨#[]⟩) (by kernel_rfl) Tryz.underlying9 rfl rfl rfl rfl rfl (.inl ⟨rfl, rfl, rfl⟩) (by decide)
  · exact TI.mkOk (z := .int .u64 0) (by kernel_rfl) Tryz.underlying12 rfl rfl rfl rfl rfl (.inl ⟨rfl, rfl, rfl⟩) (by decide)
  · exact TI.mkOk (z := .pointer none) (by kernel_rfl) Tryz.underlying15 trivial rfl rfl rfl rfl (.inl ⟨rfl, rfl, rfl⟩) (by decide)
  · exact TI.mkOk (z := .pointer none) (by kernel_rfl) Tryz.underlying16 trivial rfl rfl rfl rfl (.inl ⟨rfl, rfl, rfl⟩) (by decide)
  · exact TI.mkOk (z := .pointer none) (by kernel_rfl) Tryz.underlying17 trivial rfl rfl rfl rfl (.inl ⟨rfl, rfl, rfl⟩) (by decide)
  · exact TI.mkOk (z := .nilIface) (by kernel_rfl) Tryz.underlying20 trivial rfl rfl rfl rfl (.inl ⟨rfl, rfl, rfl⟩) (by decide)
  · exact TI.mkOk (z := .int .i32 0) (by kernel_rfl) Tryz.underlying21 rfl rfl rfl rfl rfl (.inl ⟨rfl, rfl, rfl⟩) (by decide)
  · exact TI.mkOk (z := .slice none 0 0) (by kernel_rfl) Tryz.underlying22 rfl rfl rfl rfl rfl (.inl ⟨rfl, rfl, rfl⟩) (by decide)
  · exact TI.mkOk (z := .nilFunc) (by kernel_rfl) Tryz.underlying23 trivial rfl rfl rfl rfl (.inl ⟨rfl, rfl, rfl⟩) (by decide)
  · exact TI.mkOk (z := .int .i64 0) (by kernel_rfl) Tryz.underlying24 rfl rfl rfl rfl rfl (.inl ⟨rfl, rfl, rfl⟩) (by decide)
  · exact TI.mkOk (z := .nilFunc) (by kernel_rfl) Tryz.underlying26 trivial rfl rfl rfl rfl (.inl ⟨rfl, rfl, rfl⟩) (by decide)
  · exact TI.mkOk (z := .nilFunc) (by kernel_rfl) Tryz.underlying28 trivial rfl rfl rfl rfl (.inl ⟨rfl, rfl, rfl⟩) (by decide)
  · exact TI.mkOk (z := .nilFunc) (by kernel_rfl) Tryz.underlying29 trivial rfl rfl rfl rfl (.inl ⟨rfl, rfl, rfl⟩) (by decide)
  · exact TI.mkOk (z := .nilFunc) (by kernel_rfl) Tryz.underlying30 trivial rfl rfl rfl rfl (.inl ⟨rfl, rfl, rfl⟩) (by decide)
  · exact TI.mkOk (z := .nilFunc) (by kernel_rfl) Tryz.underlying32 trivial rfl rfl rfl rfl (.inl ⟨rfl, rfl, rfl⟩) (by decide)
  · exact TI.mkOk (z := .nilFunc) (by kernel_rfl) Tryz.underlying33 trivial rfl rfl rfl rfl (.inl ⟨rfl, rfl, rfl⟩) (by decide)
  · exact TI.mkOk (z := .slice none 0 0) (by kernel_rfl) Tryz.underlying34 rfl rfl rfl rfl rfl (.inl ⟨rfl, rfl, rfl⟩) (by decide)
  · exact TI.mkOk (z := .nilFunc) (by kernel_rfl) Tryz.underlying36 trivial rfl rfl rfl rfl (.inl ⟨rfl, rfl, rfl⟩) (by decide)
  · exact TI.mkOk (z := .nilFunc) (by kernel_rfl) Tryz.underlying37 trivial rfl rfl rfl rfl (.inl ⟨rfl, rfl, rfl⟩) (by decide)
  · exact TI.mkOk (z := .agg #[.slice none 0 0, .int .i64 0]) (by kernel_rfl) Tryz.underlying38 ⟨_, rfl, by kernel_rfl, fieldsOk_of (by kernel_rfl)⟩ rfl rfl rfl rfl (.inr ⟨rfl, rfl⟩) (by decide)
  · exact TI.mkOk (z := .agg #[.slice none 0 0, .int .i64 0]) (by kernel_rfl) Tryz.underlying39 ⟨_, rfl, by kernel_rfl, fieldsOk_of (by kernel_rfl)⟩ rfl rfl rfl rfl (.inr ⟨rfl, rfl⟩) (by decide)
  · exact TI.mkOk (z := .nilFunc) (by kernel_rfl) Tryz.underlying40 trivial rfl rfl rfl rfl (.inl ⟨rfl, rfl, rfl⟩) (by decide)
  · exact TI.mkOk (z := .nilFunc) (by kernel_rfl) Tryz.underlying41 trivial rfl rfl rfl rfl (.inl ⟨rfl, rfl, rfl⟩) (by decide)
  · exact TI.mkOk (z := .nilFunc) (by kernel_rfl) Tryz.underlying42 trivial rfl rfl rfl rfl (.inl ⟨rfl, rfl, rfl⟩) (by decide)
  · exact TI.mkOk (z := .nilFunc) (by kernel_rfl) Tryz.underlying43 trivial rfl rfl rfl rfl (.inl ⟨rfl, rfl, rfl⟩) (by decide)
  · exact TI.mkOk (z := .nilFunc) (by kernel_rfl) Tryz.underlying44 trivial rfl rfl rfl rfl (.inl ⟨rfl, rfl, rfl⟩) (by decide)
  · exact TI.mkOk (z := .nilFunc) (by kernel_rfl) Tryz.underlying45 trivial rfl rfl rfl rfl (.inl ⟨rfl, rfl, rfl⟩) (by decide)
  · exact TI.mkOk (z := .agg #[.string ⟨#[]⟩, .bool false]) (by kernel_rfl) Tryz.underlying46 ⟨_, rfl, by kernel_rfl, fieldsOk_of (by kernel_rfl)⟩ rfl rfl rfl rfl (.inr ⟨rfl, rfl⟩) (by decide)
  · exact TI.mkOk (z := .agg #[.string ⟨#[]⟩, .bool false]) (by kernel_rfl) Tryz.underlying47 ⟨_, rfl, by kernel_rfl, fieldsOk_of (by kernel_rfl)⟩ rfl rfl rfl rfl (.inr ⟨rfl, rfl⟩) (by decide)
  · exact TI.mkOk (z := .pointer none) (by kernel_rfl) Tryz.underlying48 trivial rfl rfl rfl rfl (.inl ⟨rfl, rfl, rfl⟩) (by decide)
  · exact TI.mkOk (z := .slice none 0 0) (by kernel_rfl) Tryz.underlying49 rfl rfl rfl rfl rfl (.inl ⟨rfl, rfl, rfl⟩) (by decide)
  · exact TI.mkOk (z := .agg #[.pointer none, .slice none 0 0]) (by kernel_rfl) Tryz.underlying50 ⟨_, rfl, by kernel_rfl, fieldsOk_of (by kernel_rfl)⟩ rfl rfl rfl rfl (.inr ⟨rfl, rfl⟩) (by decide)
  · exact TI.mkOk (z := .agg #[.pointer none, .slice none 0 0]) (by kernel_rfl) Tryz.underlying51 ⟨_, rfl, by kernel_rfl, fieldsOk_of (by kernel_rfl)⟩ rfl rfl rfl rfl (.inr ⟨rfl, rfl⟩) (by decide)
  · exact TI.mkOk (z := .nilFunc) (by kernel_rfl) Tryz.underlying52 trivial rfl rfl rfl rfl (.inl ⟨rfl, rfl, rfl⟩) (by decide)
  · exact TI.mkOk (z := .nilIface) (by kernel_rfl) Tryz.underlying53 trivial rfl rfl rfl rfl (.inl ⟨rfl, rfl, rfl⟩) (by decide)
  · exact TI.mkOk (z := .nilIface) (by kernel_rfl) Tryz.underlying54 trivial rfl rfl rfl rfl (.inl ⟨rfl, rfl, rfl⟩) (by decide)
  · exact TI.mkOk (z := .nilFunc) (by kernel_rfl) Tryz.underlying55 trivial rfl rfl rfl rfl (.inl ⟨rfl, rfl, rfl⟩) (by decide)
  · exact TI.mkOk (z := .nilFunc) (by kernel_rfl) Tryz.underlying57 trivial rfl rfl rfl rfl (.inl ⟨rfl, rfl, rfl⟩) (by decide)
  · exact TI.mkOk (z := .nilFunc) (by kernel_rfl) Tryz.underlying58 trivial rfl rfl rfl rfl (.inl ⟨rfl, rfl, rfl⟩) (by decide)
  · exact TI.mkOk (z := .nilFunc) (by kernel_rfl) Tryz.underlying59 trivial rfl rfl rfl rfl (.inl ⟨rfl, rfl, rfl⟩) (by decide)
  · exact TI.mkOk (z := .slice none 0 0) (by kernel_rfl) Tryz.underlying60 rfl rfl rfl rfl rfl (.inl ⟨rfl, rfl, rfl⟩) (by decide)
  · exact TI.mkOk (z := .slice none 0 0) (by kernel_rfl) Tryz.underlying61 rfl rfl rfl rfl rfl (.inl ⟨rfl, rfl, rfl⟩) (by decide)
  · exact TI.mkOk (z := .nilFunc) (by kernel_rfl) Tryz.underlying62 trivial rfl rfl rfl rfl (.inl ⟨rfl, rfl, rfl⟩) (by decide)
  · exact TI.mkOk (z := .nilFunc) (by kernel_rfl) Tryz.underlying64 trivial rfl rfl rfl rfl (.inl ⟨rfl, rfl, rfl⟩) (by decide)
  · exact TI.mkOk (z := .nilFunc) (by kernel_rfl) Tryz.underlying65 trivial rfl rfl rfl rfl (.inl ⟨rfl, rfl, rfl⟩) (by decide)
  · exact TI.mkOk (z := .nilFunc) (by kernel_rfl) Tryz.underlying66 trivial rfl rfl rfl rfl (.inl ⟨rfl, rfl, rfl⟩) (by decide)
  · exact TI.mkOk (z := .agg #[.string ⟨#[]⟩, .string ⟨#[]⟩]) (by kernel_rfl) Tryz.underlying67 trivial rfl rfl rfl rfl (.inr ⟨rfl, rfl⟩) (by decide)
  · exact TI.mkOk (z := .nilFunc) (by kernel_rfl) Tryz.underlying68 trivial rfl rfl rfl rfl (.inl ⟨rfl, rfl, rfl⟩) (by decide)
  · exact TI.mkOk (z := .nilFunc) (by kernel_rfl) Tryz.underlying70 trivial rfl rfl rfl rfl (.inl ⟨rfl, rfl, rfl⟩) (by decide)
  · exact TI.mkOk (z := .nilFunc) (by kernel_rfl) Tryz.underlying72 trivial rfl rfl rfl rfl (.inl ⟨rfl, rfl, rfl⟩) (by decide)
  · exact TI.mkOk (z := .nilFunc) (by kernel_rfl) Tryz.underlying73 trivial rfl rfl rfl rfl (.inl ⟨rfl, rfl, rfl⟩) (by decide)
  · exact TI.mkOk (z := .nilFunc) (by kernel_rfl) Tryz.underlying74 trivial rfl rfl rfl rfl (.inl ⟨rfl, rfl, rfl⟩) (by decide)
  · exact TI.mkOk (z := .nilFunc) (by kernel_rfl) Tryz.underlying75 trivial rfl rfl rfl rfl (.inl ⟨rfl, rfl, rfl⟩) (by decide)
  · exact TI.mkOk (z := .nilFunc) (by kernel_rfl) Tryz.underlying76 trivial rfl rfl rfl rfl (.inl ⟨rfl, rfl, rfl⟩) (by decide)
  · exact TI.mkOk (z := .nilFunc) (by kernel_rfl) Tryz.underlying77 trivial rfl rfl rfl rfl (.inl ⟨rfl, rfl, rfl⟩) (by decide)
  · exact TI.mkOk (z := .nilFunc) (by kernel_rfl) Tryz.underlying78 trivial rfl rfl rfl rfl (.inl ⟨rfl, rfl, rfl⟩) (by decide)
  · exact TI.mkOk (z := .nilFunc) (by kernel_rfl) Tryz.underlying79 trivial rfl rfl rfl rfl (.inl ⟨rfl, rfl, rfl⟩) (by decide)
  · exact TI.mkOk (z := .int .u64 0) (by kernel_rfl) Tryz.underlying80 rfl rfl rfl rfl rfl (.inl ⟨rfl, rfl, rfl⟩) (by decide)
  · exact TI.mkOk (z := .nilFunc) (by kernel_rfl) Tryz.underlying81 trivial rfl rfl rfl rfl (.inl ⟨rfl, rfl, rfl⟩) (by decide)
  · exact TI.mkOk (z := .pointer none) (by kernel_rfl) Tryz.underlying82 trivial rfl rfl rfl rfl (.inl ⟨rfl, rfl, rfl⟩) (by decide)
  · exact TI.mkOk (z := .nilFunc) (by kernel_rfl) Tryz.underlying83 trivial rfl rfl rfl rfl (.inl ⟨rfl, rfl, rfl⟩) (by decide)
  · exact TI.mkOk (z := .nilFunc) (by kernel_rfl) Tryz.underlying84 trivial rfl rfl rfl rfl (.inl ⟨rfl, rfl, rfl⟩) (by decide)
  · exact TI.mkOk (z := .nilFunc) (by kernel_rfl) Tryz.underlying85 trivial rfl rfl rfl rfl (.inl ⟨rfl, rfl, rfl⟩) (by decide)
  · exact TI.mkOk (z := .nilFunc) (by kernel_rfl) Tryz.underlying86 trivial rfl rfl rfl rfl (.inl ⟨rfl, rfl, rfl⟩) (by decide)
  · exact TI.mkOk (z := .nilFunc) (by kernel_rfl) Tryz.underlying87 trivial rfl rfl rfl rfl (.inl ⟨rfl, rfl, rfl⟩) (by decide)
  · exact TI.mkOk (z := .nilFunc) (by kernel_rfl) Tryz.underlying89 trivial rfl rfl rfl rfl (.inl ⟨rfl, rfl, rfl⟩) (by decide)
  · exact TI.mkOk (z := .nilFunc) (by kernel_rfl) Tryz.underlying90 trivial rfl rfl rfl rfl (.inl ⟨rfl, rfl, rfl⟩) (by decide)
  · exact TI.mkOk (z := .nilFunc) (by kernel_rfl) Tryz.underlying91 trivial rfl rfl rfl rfl (.inl ⟨rfl, rfl, rfl⟩) (by decide)
  · exact TI.mkOk (z := .nilFunc) (by kernel_rfl) Tryz.underlying95 trivial rfl rfl rfl rfl (.inl ⟨rfl, rfl, rfl⟩) (by decide)
  · exact TI.mkOk (z := .nilFunc) (by kernel_rfl) Tryz.underlying96 trivial rfl rfl rfl rfl (.inl ⟨rfl, rfl, rfl⟩) (by decide)
  · exact TI.mkOk (z := .pointer none) (by kernel_rfl) Tryz.underlying97 trivial rfl rfl rfl rfl (.inl ⟨rfl, rfl, rfl⟩) (by decide)
  · exact TI.mkOk (z := .nilFunc) (by kernel_rfl) Tryz.underlying98 trivial rfl rfl rfl rfl (.inl ⟨rfl, rfl, rfl⟩) (by decide)
  · exact TI.mkOk (z := .agg #[.int .u8 0, .int .u8 0]) (by kernel_rfl) Tryz.underlying99 ⟨_, rfl, by kernel_rfl, fieldsOk_of (by kernel_rfl)⟩ rfl rfl rfl rfl (.inr ⟨rfl, rfl⟩) (by decide)
  · exact TI.mkOk (z := .agg #[.int .u8 0, .int .u8 0, .int .u8 0, .int .u8 0, .int .u8 0, .int .u8 0, .int .u8 0, .int .u8 0, .int .u8 0, .int .u8 0]) (by kernel_rfl) Tryz.underlying100 trivial rfl rfl rfl rfl (.inr ⟨rfl, rfl⟩) (by decide)
  · exact TI.mkOk (z := .nilFunc) (by kernel_rfl) Tryz.underlying102 trivial rfl rfl rfl rfl (.inl ⟨rfl, rfl, rfl⟩) (by decide)
  · exact TI.mkOk (z := .nilFunc) (by kernel_rfl) Tryz.underlying103 trivial rfl rfl rfl rfl (.inl ⟨rfl, rfl, rfl⟩) (by decide)
  · exact TI.mkOk (z := .nilFunc) (by kernel_rfl) Tryz.underlying104 trivial rfl rfl rfl rfl (.inl ⟨rfl, rfl, rfl⟩) (by decide)
  · exact TI.mkOk (z := .nilFunc) (by kernel_rfl) Tryz.underlying106 trivial rfl rfl rfl rfl (.inl ⟨rfl, rfl, rfl⟩) (by decide)
  · exact TI.mkOk (z := .pointer none) (by kernel_rfl) Tryz.underlying108 trivial rfl rfl rfl rfl (.inl ⟨rfl, rfl, rfl⟩) (by decide)
  · exact TI.mkOk (z := .nilFunc) (by kernel_rfl) Tryz.underlying109 trivial rfl rfl rfl rfl (.inl ⟨rfl, rfl, rfl⟩) (by decide)
  · exact TI.mkOk (z := .nilFunc) (by kernel_rfl) Tryz.underlying110 trivial rfl rfl rfl rfl (.inl ⟨rfl, rfl, rfl⟩) (by decide)
  · exact TI.mkOk (z := .int .u64 0) (by kernel_rfl) Tryz.underlying111 rfl rfl rfl rfl rfl (.inl ⟨rfl, rfl, rfl⟩) (by decide)
  · exact TI.mkOk (z := .nilFunc) (by kernel_rfl) Tryz.underlying113 trivial rfl rfl rfl rfl (.inl ⟨rfl, rfl, rfl⟩) (by decide)
  · exact TI.mkOk (z := .nilFunc) (by kernel_rfl) Tryz.underlying114 trivial rfl rfl rfl rfl (.inl ⟨rfl, rfl, rfl⟩) (by decide)
  · exact TI.mkOk (z := .nilFunc) (by kernel_rfl) Tryz.underlying116 trivial rfl rfl rfl rfl (.inl ⟨rfl, rfl, rfl⟩) (by decide)
  · exact TI.mkOk (z := .nilFunc) (by kernel_rfl) Tryz.underlying117 trivial rfl rfl rfl rfl (.inl ⟨rfl, rfl, rfl⟩) (by decide)
  · exact TI.mkOk (z := .agg #[.int .u8 0, .int .u8 0, .int .u8 0, .int .u8 0, .int .u8 0, .int .u8 0, .int .u8 0, .int .u8 0, .int .u8 0, .int .u8 0, .int .u8 0, .int .u8 0, .int .u8 0, .int .u8 0, .int .u8 0, .int .u8 0, .int .u8 0, .int .u8 0, .int .u8 0, .int .u8 0, .int .u8 0, .int .u8 0, .int .u8 0, .int .u8 0]) (by kernel_rfl) Tryz.underlying118 trivial rfl rfl rfl rfl (.inr ⟨rfl, rfl⟩) (by decide)
  · exact TI.mkOk (z := .nilFunc) (by kernel_rfl) Tryz.underlying119 trivial rfl rfl rfl rfl (.inl ⟨rfl, rfl, rfl⟩) (by decide)
  · exact TI.mkOk (z := .nilFunc) (by kernel_rfl) Tryz.underlying120 trivial rfl rfl rfl rfl (.inl ⟨rfl, rfl, rfl⟩) (by decide)
  · exact TI.mkOk (z := .nilFunc) (by kernel_rfl) Tryz.underlying122 trivial rfl rfl rfl rfl (.inl ⟨rfl, rfl, rfl⟩) (by decide)
  · exact TI.mkOk (z := .nilFunc) (by kernel_rfl) Tryz.underlying123 trivial rfl rfl rfl rfl (.inl ⟨rfl, rfl, rfl⟩) (by decide)
  · exact TI.mkOk (z := .nilFunc) (by kernel_rfl) Tryz.underlying124 trivial rfl rfl rfl rfl (.inl ⟨rfl, rfl, rfl⟩) (by decide)
  · exact TI.mkOk (z := .int .u32 0) (by kernel_rfl) Tryz.underlying125 rfl rfl rfl rfl rfl (.inl ⟨rfl, rfl, rfl⟩) (by decide)
  · exact TI.mkOk (z := .nilFunc) (by kernel_rfl) Tryz.underlying127 trivial rfl rfl rfl rfl (.inl ⟨rfl, rfl, rfl⟩) (by decide)
  · exact TI.mkOk (z := .nilFunc) (by kernel_rfl) Tryz.underlying129 trivial rfl rfl rfl rfl (.inl ⟨rfl, rfl, rfl⟩) (by decide)
  · exact TI.mkOk (z := .agg #[.string ⟨#[]⟩, .string ⟨#[]⟩, .nilIface]) (by kernel_rfl) Tryz.underlying130 ⟨_, rfl, by kernel_rfl, fieldsOk_of (by kernel_rfl)⟩ rfl rfl rfl rfl (.inr ⟨rfl, rfl⟩) (by decide)
  · exact TI.mkOk (z := .agg #[.string ⟨#[]⟩, .string ⟨#[]⟩, .nilIface]) (by kernel_rfl) Tryz.underlying131 ⟨_, rfl, by kernel_rfl, fieldsOk_of (by kernel_rfl)⟩ rfl rfl rfl rfl (.inr ⟨rfl, rfl⟩) (by decide)
  · exact TI.mkOk (z := .nilFunc) (by kernel_rfl) Tryz.underlying132 trivial rfl rfl rfl rfl (.inl ⟨rfl, rfl, rfl⟩) (by decide)
  · exact TI.mkOk (z := .nilFunc) (by kernel_rfl) Tryz.underlying133 trivial rfl rfl rfl rfl (.inl ⟨rfl, rfl, rfl⟩) (by decide)
  · exact TI.mkOk (z := .nilFunc) (by kernel_rfl) Tryz.underlying134 trivial rfl rfl rfl rfl (.inl ⟨rfl, rfl, rfl⟩) (by decide)
  · exact TI.mkOk (z := .nilFunc) (by kernel_rfl) Tryz.underlying135 trivial rfl rfl rfl rfl (.inl ⟨rfl, rfl, rfl⟩) (by decide)
  · exact TI.mkOk (z := .agg #[.int .u64 0, .int .u64 0, .int .u64 0, .int .u64 0, .int .u64 0, .int .u64 0, .int .u64 0, .int .u64 0, .int .u64 0, .int .u64 0, .int .u64 0, .int .u64 0, .int .u64 0, .int .u64 0, .int .u64 0, .int .u64 0, .int .u64 0, .int .u64 0, .int .u64 0, .int .u64 0]) (by kernel_rfl) Tryz.underlying136 trivial rfl rfl rfl rfl (.inr ⟨rfl, rfl⟩) (by decide)
  · exact TI.mkOk (z := .nilFunc) (by kernel_rfl) Tryz.underlying138 trivial rfl rfl rfl rfl (.inl ⟨rfl, rfl, rfl⟩) (by decide)
  · exact TI.mkOk (z := .nilFunc) (by kernel_rfl) Tryz.underlying139 trivial rfl rfl rfl rfl (.inl ⟨rfl, rfl, rfl⟩) (by decide)
  · exact TI.mkOk (z := .nilFunc) (by kernel_rfl) Tryz.underlying140 trivial rfl rfl rfl rfl (.inl ⟨rfl, rfl, rfl⟩) (by decide)
  · exact TI.mkOk (z := .pointer none) (by kernel_rfl) Tryz.underlying141 trivial rfl rfl rfl rfl (.inl ⟨rfl, rfl, rfl⟩) (by decide)
  · exact TI.mkOk (z := .agg #[.string ⟨#[]⟩]) (by kernel_rfl) Tryz.underlying142 ⟨_, rfl, by kernel_rfl, fieldsOk_of (by kernel_rfl)⟩ rfl rfl rfl rfl (.inr ⟨rfl, rfl⟩) (by decide)
  · exact TI.mkOk (z := .agg #[.string ⟨#[]⟩]) (by kernel_rfl) Tryz.underlying143 ⟨_, rfl, by kernel_rfl, fieldsOk_of (by kernel_rfl)⟩ rfl rfl rfl rfl (.inr ⟨rfl, rfl⟩) (by decide)
  · exact TI.mkOk (z := .agg #[.int .u8 0, .int .u8 0]) (by kernel_rfl) Tryz.underlying145 ⟨_, rfl, by kernel_rfl, fieldsOk_of (by kernel_rfl)⟩ rfl rfl rfl rfl (.inr ⟨rfl, rfl⟩) (by decide)
  · exact TI.mkOk (z := .agg #[.int .u8 0, .int .u8 0]) (by kernel_rfl) Tryz.underlying146 ⟨_, rfl, by kernel_rfl, fieldsOk_of (by kernel_rfl)⟩ rfl rfl rfl rfl (.inr ⟨rfl, rfl⟩) (by decide)
  · exact TI.mkOk (z := .agg #[.int .u8 0, .int .u8 0, .int .u8 0, .int .u8 0, .int .u8 0, .int .u8 0, .int .u8 0, .int .u8 0, .int .u8 0, .int .u8 0, .int .u8 0, .int .u8 0, .int .u8 0, .int .u8 0, .int .u8 0, .int .u8 0, .int .u8 0, .int .u8 0, .int .u8 0, .int .u8 0, .int .u8 0, .int .u8 0, .int .u8 0, .int .u8 0, .int .u8 0, .int .u8 0, .int .u8 0, .int .u8 0, .int .u8 0, .int .u8 0, .int .u8 0, .int .u8 0]) (by kernel_rfl) Tryz.underlying147 trivial rfl rfl rfl rfl (.inr ⟨rfl, rfl⟩) (by decide)
  · exact TI.mkOk (z := .nilFunc) (by kernel_rfl) Tryz.underlying148 trivial rfl rfl rfl rfl (.inl ⟨rfl, rfl, rfl⟩) (by decide)
  · exact TI.mkOk (z := .agg #[.int .u8 0, .int .u8 0, .int .u8 0, .int .u8 0, .int .u8 0, .int .u8 0, .int .u8 0, .int .u8 0, .int .u8 0, .int .u8 0, .int .u8 0, .int .u8 0, .int .u8 0, .int .u8 0, .int .u8 0, .int .u8 0, .int .u8 0, .int .u8 0, .int .u8 0, .int .u8 0, .int .u8 0, .int .u8 0, .int .u8 0, .int .u8 0, .int .u8 0, .int .u8 0, .int .u8 0, .int .u8 0, .int .u8 0, .int .u8 0, .int .u8 0, .int .u8 0]) (by kernel_rfl) Tryz.underlying149 trivial rfl rfl rfl rfl (.inr ⟨rfl, rfl⟩) (by decide)
  · exact TI.mkOk (z := .agg #[.int .u8 0, .int .u8 0, .int .u8 0, .int .u8 0, .int .u8 0, .int .u8 0, .int .u8 0, .int .u8 0, .int .u8 0, .int .u8 0, .int .u8 0, .int .u8 0, .int .u8 0, .int .u8 0, .int .u8 0, .int .u8 0, .int .u8 0, .int .u8 0, .int .u8 0, .int .u8 0, .int .u8 0, .int .u8 0, .int .u8 0, .int .u8 0, .int .u8 0, .int .u8 0, .int .u8 0, .int .u8 0, .int .u8 0, .int .u8 0, .int .u8 0, .int .u8 0, .int .u8 0, .int .u8 0, .int .u8 0, .int .u8 0, .int .u8 0, .int .u8 0, .int .u8 0, .int .u8 0, .int .u8 0, .int .u8 0, .int .u8 0, .int .u8 0, .int .u8 0, .int .u8 0, .int .u8 0, .int .u8 0, .int .u8 0, .int .u8 0, .int .u8 0, .int .u8 0, .int .u8 0, .int .u8 0, .int .u8 0, .int .u8 0, .int .u8 0, .int .u8 0, .int .u8 0, .int .u8 0, .int .u8 0, .int .u8 0, .int .u8 0, .int .u8 0]) (by kernel_rfl) Tryz.underlying150 trivial rfl rfl rfl rfl (.inr ⟨rfl, rfl⟩) (by decide)
  · exact TI.mkOk (z := .nilFunc) (by kernel_rfl) Tryz.underlying158 trivial rfl rfl rfl rfl (.inl ⟨rfl, rfl, rfl⟩) (by decide)
  · exact TI.mkOk (z := .agg #[.int .u64 0, .int .u64 0, .int .u32 0, .int .u8 0, .int .u8 0, .int .u8 0, .int .u8 0, .nilFunc, .pointer none, .int .i32 0, .int .i32 0]) (by kernel_rfl) Tryz.underlying161 ⟨_, rfl, by kernel_rfl, fieldsOk_of (by kernel_rfl)⟩ rfl rfl rfl rfl (.inr ⟨rfl, rfl⟩) (by decide)
end Go.Proofs.YtmeapfckibbbbaaGreatDoor.Am
/-
  DERIVED: THE SHELF's CONTRACTS AT THIS DUMP, IN PLAIN WORDS (tools/lay-plain.mjs out of 'TryzShelf.lean', which tools/lay-shelf.mjs wrote): THE SAME DECLARATIONS UNDER THE SAME NAMES: 'import', 'namespace', 'open', 'def', 'theorem' AND NOTHING ELSE: no command of the shelf's: FOR A HAND-IN. Each laying: the table of numbers ('.._ren') and one theorem, a field a fact of the dump's own or the kernel's comparison; each contract: ONE APPLICATION.
-/
namespace Go.Proofs
open Go.Shelf
def Tryz.lays156_ren : Go.Shelf.Ren := ⟨fun | 156 => 43 | 165 => 69 | 166 => 23 | 169 => 25 | 240 => 47 | 241 => 91 | 276 => 71 | 277 => 113 | n => n, fun | 31 => 61 | 9 => 9 | 3 => 3 | 4 => 4 | 0 => 0 | 20 => 20 | 72 => 51 | 76 => 56 | 70 => 48 | 37 => 49 | 75 => 54 | 127 => 82 | 164 => 101 | 5 => 5 | 80 => 59 | n => n, fun | n => n⟩
theorem Tryz.lays156 : Go.Proofs.Lays.n156 Tryz.prog Tryz.lays156_ren := {
  mixed := by kernel_rfl
  f156 := Tryz.func43.trans (congrArg some (by kernel_rfl))
  f165 := Tryz.func69.trans (congrArg some (by kernel_rfl))
  f166 := Tryz.func23.trans (congrArg some (by kernel_rfl))
  f169 := Tryz.func25.trans (congrArg some (by kernel_rfl))
  f240 := Tryz.func47.trans (congrArg some (by kernel_rfl))
  f241 := Tryz.func91.trans (congrArg some (by kernel_rfl))
  f276 := Tryz.func71.trans (congrArg some (by kernel_rfl))
  f277 := Tryz.func113.trans (congrArg some (by kernel_rfl))
  t0 := Tryz.underlying0
  a0 := Tryz.isAgg0
  z0 := Tryz.sizeOf0
  v0 := Tryz.zeroValue0
  t3 := Tryz.underlying3
  a3 := Tryz.isAgg3
  z3 := Tryz.sizeOf3
  v3 := Tryz.zeroValue3
  t4 := Tryz.underlying4
  a4 := Tryz.isAgg4
  z4 := Tryz.sizeOf4
  v4 := Tryz.zeroValue4
  t9 := Tryz.underlying9
  a9 := Tryz.isAgg9
  z9 := Tryz.sizeOf9
  v9 := Tryz.zeroValue9
  t20 := Tryz.underlying20
  a20 := Tryz.isAgg20
  z20 := Tryz.sizeOf20
  v20 := Tryz.zeroValue20
  t31 := Tryz.underlying61
  a31 := Tryz.isAgg61
  z31 := Tryz.sizeOf61
  v31 := Tryz.zeroValue61
  t37 := Tryz.underlying49
  a37 := Tryz.isAgg49
  z37 := Tryz.sizeOf49
  v37 := Tryz.zeroValue49
  t70 := Tryz.underlying48
  a70 := Tryz.isAgg48
  z70 := Tryz.sizeOf48
  v70 := Tryz.zeroValue48
  t72 := Tryz.underlying51
  a72 := Tryz.isAgg51
  z72 := Tryz.sizeOf51
  v72 := Tryz.zeroValue51
  t75 := Tryz.underlying54
  a75 := Tryz.isAgg54
  z75 := Tryz.sizeOf54
  v75 := Tryz.zeroValue54
  t76 := Tryz.underlying56
  a76 := Tryz.isAgg56
  z76 := Tryz.sizeOf56
  v76 := Tryz.zeroValue56
  t127 := Tryz.underlying82
  a127 := Tryz.isAgg82
  z127 := Tryz.sizeOf82
  v127 := Tryz.zeroValue82
  t164 := Tryz.underlying101
  a164 := Tryz.isAgg101
  z164 := Tryz.sizeOf101
  v164 := Tryz.zeroValue101 }
theorem Tryz.Builder_Extra_156 : Builder.Extra Tryz.prog Tryz.lays156_ren := {
  sizeBuilder := by kernel_rfl
  liesBuilder := by kernel_rfl
  t5 := Tryz.underlying5
  a5 := Tryz.isAgg5
  z5 := Tryz.sizeOf5
  v5 := Tryz.zeroValue5
  infoByte := by kernel_rfl
  cellsByte := by kernel_rfl
  sizeByte := by kernel_rfl
  neB5 := by decide }
def Tryz.lays160_ren : Go.Shelf.Ren := ⟨fun | 160 => 41 | 232 => 63 | 231 => 62 | 227 => 64 | 234 => 66 | 233 => 65 | 236 => 68 | 235 => 67 | 228 => 87 | 271 => 90 | 151 => 89 | 197 => 88 | 120 => 112 | 152 => 111 | 260 => 110 | 137 => 86 | 119 => 121 | 224 => 100 | 225 => 99 | 217 => 98 | 266 => 119 | n => n, fun | 9 => 9 | 4 => 4 | 3 => 3 | 5 => 5 | 117 => 94 | 116 => 93 | 0 => 0 | 124 => 97 | 21 => 21 | 105 => 115 | 46 => 80 | 119 => 144 | 139 => 147 | 138 => 146 | n => n, fun | 3 => 5 | 4 => 6 | n => n⟩
theorem Tryz.lays160 : Go.Proofs.Lays.n160 Tryz.prog Tryz.lays160_ren := {
  mixed := by kernel_rfl
  f119 := Tryz.func121.trans (congrArg some (by kernel_rfl))
  f120 := Tryz.func112.trans (congrArg some (by kernel_rfl))
  f137 := Tryz.func86.trans (congrArg some (by kernel_rfl))
  f151 := Tryz.func89.trans (congrArg some (by kernel_rfl))
  f152 := Tryz.func111.trans (congrArg some (by kernel_rfl))
  f160 := Tryz.func41.trans (congrArg some (by kernel_rfl))
  f197 := Tryz.func88.trans (congrArg some (by kernel_rfl))
  f217 := Tryz.func98.trans (congrArg some (by kernel_rfl))
  f224 := Tryz.func100.trans (congrArg some (by kernel_rfl))
  f225 := Tryz.func99.trans (congrArg some (by kernel_rfl))
  f227 := Tryz.func64.trans (congrArg some (by kernel_rfl))
  f228 := Tryz.func87.trans (congrArg some (by kernel_rfl))
  f231 := Tryz.func62.trans (congrArg some (by kernel_rfl))
  f232 := Tryz.func63.trans (congrArg some (by kernel_rfl))
  f233 := Tryz.func65.trans (congrArg some (by kernel_rfl))
  f234 := Tryz.func66.trans (congrArg some (by kernel_rfl))
  f235 := Tryz.func67.trans (congrArg some (by kernel_rfl))
  f236 := Tryz.func68.trans (congrArg some (by kernel_rfl))
  f260 := Tryz.func110.trans (congrArg some (by kernel_rfl))
  f266 := Tryz.func119.trans (congrArg some (by kernel_rfl))
  f271 := Tryz.func90.trans (congrArg some (by kernel_rfl))
  t0 := Tryz.underlying0
  a0 := Tryz.isAgg0
  z0 := Tryz.sizeOf0
  v0 := Tryz.zeroValue0
  t3 := Tryz.underlying3
  a3 := Tryz.isAgg3
  z3 := Tryz.sizeOf3
  v3 := Tryz.zeroValue3
  t4 := Tryz.underlying4
  a4 := Tryz.isAgg4
  z4 := Tryz.sizeOf4
  v4 := Tryz.zeroValue4
  t5 := Tryz.underlying5
  a5 := Tryz.isAgg5
  z5 := Tryz.sizeOf5
  v5 := Tryz.zeroValue5
  t9 := Tryz.underlying9
  a9 := Tryz.isAgg9
  z9 := Tryz.sizeOf9
  v9 := Tryz.zeroValue9
  t21 := Tryz.underlying21
  a21 := Tryz.isAgg21
  z21 := Tryz.sizeOf21
  v21 := Tryz.zeroValue21
  t46 := Tryz.underlying80
  a46 := Tryz.isAgg80
  z46 := Tryz.sizeOf80
  v46 := Tryz.zeroValue80
  t105 := Tryz.underlying115
  a105 := Tryz.isAgg115
  z105 := Tryz.sizeOf115
  v105 := Tryz.zeroValue115
  t116 := Tryz.underlying93
  a116 := Tryz.isAgg93
  z116 := Tryz.sizeOf93
  t117 := Tryz.underlying94
  a117 := Tryz.isAgg94
  z117 := Tryz.sizeOf94
  v117 := Tryz.zeroValue94
  t119 := Tryz.underlying144
  a119 := Tryz.isAgg144
  z119 := Tryz.sizeOf144
  t124 := Tryz.underlying97
  a124 := Tryz.isAgg97
  z124 := Tryz.sizeOf97
  v124 := Tryz.zeroValue97
  t138 := Tryz.underlying146
  a138 := Tryz.isAgg146
  z138 := Tryz.sizeOf146
  v138 := Tryz.zeroValue146
  t139 := Tryz.underlying147
  a139 := Tryz.isAgg147
  z139 := Tryz.sizeOf147
  v139 := Tryz.zeroValue147
  g3 := by kernel_rfl
  g4 := by kernel_rfl }
def Tryz.lays106_ren : Go.Shelf.Ren := ⟨fun | 106 => 52 | 213 => 77 | 265 => 103 | n => n, fun | 9 => 9 | 3 => 3 | n => n, fun | n => n⟩
theorem Tryz.lays106 : Go.Proofs.Lays.n106 Tryz.prog Tryz.lays106_ren := {
  mixed := by kernel_rfl
  f106 := Tryz.func52.trans (congrArg some (by kernel_rfl))
  f213 := Tryz.func77.trans (congrArg some (by kernel_rfl))
  f265 := Tryz.func103.trans (congrArg some (by kernel_rfl))
  t3 := Tryz.underlying3
  a3 := Tryz.isAgg3
  z3 := Tryz.sizeOf3
  v3 := Tryz.zeroValue3
  t9 := Tryz.underlying9
  a9 := Tryz.isAgg9
  z9 := Tryz.sizeOf9
  v9 := Tryz.zeroValue9 }
open Go.RowKit in
/-- strings.Compare: "Compare returns an integer comparing two strings lexicographically. The result will be 0 if a == b, -1 if a < b, and +1 if a > b.": IT RETURNS 'Lib.compareBytes a b'; the world is as it was. (LAID: no walk: one application.) -/
theorem Tryz.strings_Compare (a b : ByteArray) (w : World) :
    Calls Tryz.prog 52 #[.string a, .string b] w fun e w' => e = .returned (.int .i64 (Lib.compareBytes a.data.toList b.data.toList)) ∧ w' = w := Any.strings_Compare Tryz.lays106 a b w
def Tryz.lays137_ren : Go.Shelf.Ren := ⟨fun | 137 => 86 | 217 => 98 | 266 => 119 | n => n, fun | 9 => 9 | 5 => 5 | 3 => 3 | n => n, fun | n => n⟩
theorem Tryz.lays137 : Go.Proofs.Lays.n137 Tryz.prog Tryz.lays137_ren := {
  mixed := by kernel_rfl
  f137 := Tryz.func86.trans (congrArg some (by kernel_rfl))
  f217 := Tryz.func98.trans (congrArg some (by kernel_rfl))
  f266 := Tryz.func119.trans (congrArg some (by kernel_rfl))
  t3 := Tryz.underlying3
  a3 := Tryz.isAgg3
  z3 := Tryz.sizeOf3
  v3 := Tryz.zeroValue3
  t5 := Tryz.underlying5
  a5 := Tryz.isAgg5
  z5 := Tryz.sizeOf5
  v5 := Tryz.zeroValue5
  t9 := Tryz.underlying9
  a9 := Tryz.isAgg9
  z9 := Tryz.sizeOf9
  v9 := Tryz.zeroValue9 }
open Go.RowKit in
/-- strings.IndexByte: "IndexByte returns the index of the first instance of c in s, or -1 if c is not present in s.": IT RETURNS 'Lib.indexByte s c'; the world is as it was. (LAID: no walk: one application.) -/
theorem Tryz.strings_IndexByte (s : ByteArray) (c : Int) (w : World) :
    Calls Tryz.prog 86 #[.string s, .int .u8 c] w fun e w' => e = .returned (.int .i64 (Lib.indexByte s.data.toList c.toNat.toUInt8)) ∧ w' = w := Any.strings_IndexByte Tryz.lays137 s c w
def Tryz.lays172_ren : Go.Shelf.Ren := ⟨fun | 172 => 32 | 244 => 56 | 245 => 57 | 247 => 59 | 279 => 81 | 280 => 82 | 281 => 83 | 282 => 84 | 287 => 85 | 316 => 106 | 171 => 24 | 205 => 107 | 321 => 108 | 322 => 109 | 243 => 48 | 246 => 70 | 283 => 92 | 284 => 93 | 285 => 94 | 286 => 95 | 129 => 115 | 317 => 114 | 318 => 116 | 319 => 117 | 320 => 118 | 337 => 122 | 338 => 123 | n => n, fun | 9 => 9 | 3 => 3 | 75 => 54 | 76 => 56 | 4 => 4 | 5 => 5 | 167 => 107 | 37 => 49 | 0 => 0 | 85 => 69 | 2 => 2 | 168 => 108 | 53 => 111 | 175 => 112 | 46 => 80 | 210 => 131 | 127 => 82 | 145 => 143 | 143 => 141 | 21 => 21 | 171 => 118 | 173 => 121 | 212 => 136 | 51 => 125 | 20 => 20 | 213 => 137 | 232 => 149 | 233 => 150 | 80 => 59 | n => n, fun | 15 => 2 | 16 => 3 | 17 => 4 | 18 => 7 | 19 => 8 | n => n⟩
theorem Tryz.lays172 : Go.Proofs.Lays.n172 Tryz.prog Tryz.lays172_ren := {
  mixed := by kernel_rfl
  f129 := Tryz.func115.trans (congrArg some (by kernel_rfl))
  f171 := Tryz.func24.trans (congrArg some (by kernel_rfl))
  f172 := Tryz.func32.trans (congrArg some (by kernel_rfl))
  f205 := Tryz.func107.trans (congrArg some (by kernel_rfl))
  f243 := Tryz.func48.trans (congrArg some (by kernel_rfl))
  f244 := Tryz.func56.trans (congrArg some (by kernel_rfl))
  f245 := Tryz.func57.trans (congrArg some (by kernel_rfl))
  f246 := Tryz.func70.trans (congrArg some (by kernel_rfl))
  f247 := Tryz.func59.trans (congrArg some (by kernel_rfl))
  f279 := Tryz.func81.trans (congrArg some (by kernel_rfl))
  f280 := Tryz.func82.trans (congrArg some (by kernel_rfl))
  f281 := Tryz.func83.trans (congrArg some (by kernel_rfl))
  f282 := Tryz.func84.trans (congrArg some (by kernel_rfl))
  f283 := Tryz.func92.trans (congrArg some (by kernel_rfl))
  f284 := Tryz.func93.trans (congrArg some (by kernel_rfl))
  f285 := Tryz.func94.trans (congrArg some (by kernel_rfl))
  f286 := Tryz.func95.trans (congrArg some (by kernel_rfl))
  f287 := Tryz.func85.trans (congrArg some (by kernel_rfl))
  f316 := Tryz.func106.trans (congrArg some (by kernel_rfl))
  f317 := Tryz.func114.trans (congrArg some (by kernel_rfl))
  f318 := Tryz.func116.trans (congrArg some (by kernel_rfl))
  f319 := Tryz.func117.trans (congrArg some (by kernel_rfl))
  f320 := Tryz.func118.trans (congrArg some (by kernel_rfl))
  f321 := Tryz.func108.trans (congrArg some (by kernel_rfl))
  f322 := Tryz.func109.trans (congrArg some (by kernel_rfl))
  f337 := Tryz.func122.trans (congrArg some (by kernel_rfl))
  f338 := Tryz.func123.trans (congrArg some (by kernel_rfl))
  t0 := Tryz.underlying0
  a0 := Tryz.isAgg0
  z0 := Tryz.sizeOf0
  v0 := Tryz.zeroValue0
  t2 := Tryz.underlying2
  a2 := Tryz.isAgg2
  z2 := Tryz.sizeOf2
  v2 := Tryz.zeroValue2
  t3 := Tryz.underlying3
  a3 := Tryz.isAgg3
  z3 := Tryz.sizeOf3
  v3 := Tryz.zeroValue3
  t4 := Tryz.underlying4
  a4 := Tryz.isAgg4
  z4 := Tryz.sizeOf4
  v4 := Tryz.zeroValue4
  t5 := Tryz.underlying5
  a5 := Tryz.isAgg5
  z5 := Tryz.sizeOf5
  v5 := Tryz.zeroValue5
  t9 := Tryz.underlying9
  a9 := Tryz.isAgg9
  z9 := Tryz.sizeOf9
  v9 := Tryz.zeroValue9
  t20 := Tryz.underlying20
  a20 := Tryz.isAgg20
  z20 := Tryz.sizeOf20
  v20 := Tryz.zeroValue20
  t21 := Tryz.underlying21
  a21 := Tryz.isAgg21
  z21 := Tryz.sizeOf21
  v21 := Tryz.zeroValue21
  t37 := Tryz.underlying49
  a37 := Tryz.isAgg49
  z37 := Tryz.sizeOf49
  v37 := Tryz.zeroValue49
  t46 := Tryz.underlying80
  a46 := Tryz.isAgg80
  z46 := Tryz.sizeOf80
  v46 := Tryz.zeroValue80
  t51 := Tryz.underlying125
  a51 := Tryz.isAgg125
  z51 := Tryz.sizeOf125
  v51 := Tryz.zeroValue125
  t53 := Tryz.underlying111
  a53 := Tryz.isAgg111
  z53 := Tryz.sizeOf111
  v53 := Tryz.zeroValue111
  t75 := Tryz.underlying54
  a75 := Tryz.isAgg54
  z75 := Tryz.sizeOf54
  v75 := Tryz.zeroValue54
  t76 := Tryz.underlying56
  a76 := Tryz.isAgg56
  z76 := Tryz.sizeOf56
  v76 := Tryz.zeroValue56
  t85 := Tryz.underlying69
  a85 := Tryz.isAgg69
  z85 := Tryz.sizeOf69
  v85 := Tryz.zeroValue69
  t127 := Tryz.underlying82
  a127 := Tryz.isAgg82
  z127 := Tryz.sizeOf82
  v127 := Tryz.zeroValue82
  t143 := Tryz.underlying141
  a143 := Tryz.isAgg141
  z143 := Tryz.sizeOf141
  v143 := Tryz.zeroValue141
  t145 := Tryz.underlying143
  a145 := Tryz.isAgg143
  z145 := Tryz.sizeOf143
  v145 := Tryz.zeroValue143
  t167 := Tryz.underlying107
  a167 := Tryz.isAgg107
  z167 := Tryz.sizeOf107
  v167 := Tryz.zeroValue107
  t168 := Tryz.underlying108
  a168 := Tryz.isAgg108
  z168 := Tryz.sizeOf108
  v168 := Tryz.zeroValue108
  t171 := Tryz.underlying118
  a171 := Tryz.isAgg118
  z171 := Tryz.sizeOf118
  v171 := Tryz.zeroValue118
  t173 := Tryz.underlying121
  a173 := Tryz.isAgg121
  z173 := Tryz.sizeOf121
  v173 := Tryz.zeroValue121
  t175 := Tryz.underlying112
  a175 := Tryz.isAgg112
  z175 := Tryz.sizeOf112
  v175 := Tryz.zeroValue112
  t210 := Tryz.underlying131
  a210 := Tryz.isAgg131
  z210 := Tryz.sizeOf131
  v210 := Tryz.zeroValue131
  t212 := Tryz.underlying136
  a212 := Tryz.isAgg136
  z212 := Tryz.sizeOf136
  v212 := Tryz.zeroValue136
  t213 := Tryz.underlying137
  a213 := Tryz.isAgg137
  z213 := Tryz.sizeOf137
  t232 := Tryz.underlying149
  a232 := Tryz.isAgg149
  z232 := Tryz.sizeOf149
  v232 := Tryz.zeroValue149
  t233 := Tryz.underlying150
  a233 := Tryz.isAgg150
  z233 := Tryz.sizeOf150
  v233 := Tryz.zeroValue150
  g15 := by kernel_rfl
  g16 := by kernel_rfl
  g17 := by kernel_rfl
  g18 := by kernel_rfl
  g19 := by kernel_rfl }
open Go.RowKit in
/-- strconv.Atoi: "Atoi is equivalent to ParseInt(s, 10, 0), converted to type int.": AT A DECIMAL NUMERAL OF AT MOST 18 BYTES: its value, and a nil error. The world behind the call: the one new row that the library's '[]byte(s)' lays. (LAID: no walk: one application.) -/
theorem Tryz.strconv_Atoi (s : ByteArray) (n : Int) (hl : s.size ≤ 18) (h : Lib.atoi s.data.toList = some n) (w : World) :
    Calls Tryz.prog 32 #[.string s] w fun e w' => e = .returned (.tuple #[.int .i64 n, .nilIface]) ∧ ∃ t, w' = Lib.bytesWorld w 5 t := Any.strconv_Atoi Tryz.lays172 s n hl h w
def Tryz.laysM171_ren : Go.Shelf.Ren := ⟨fun | 171 => 24 | 243 => 48 | 246 => 70 | 283 => 92 | 284 => 93 | 285 => 94 | 286 => 95 | 129 => 115 | 317 => 114 | 318 => 116 | 319 => 117 | 320 => 118 | 337 => 122 | 338 => 123 | n => n, fun | 3 => 3 | 9 => 9 | 2 => 2 | 4 => 4 | 171 => 118 | 0 => 0 | 53 => 111 | 37 => 49 | 5 => 5 | 173 => 121 | 212 => 136 | 51 => 125 | 20 => 20 | 213 => 137 | 46 => 80 | 232 => 149 | 233 => 150 | n => n, fun | 17 => 4 | 18 => 7 | 19 => 8 | n => n⟩
theorem Tryz.laysM171 : Go.Proofs.LaysM.n171 Tryz.prog Tryz.laysM171_ren := {
  mixed := by kernel_rfl
  f129 := Tryz.func115.trans (congrArg some (by kernel_rfl))
  f171 := Tryz.func24.trans (congrArg some (by kernel_rfl))
  f243 := Tryz.func48.trans (congrArg some (by kernel_rfl))
  f246 := Tryz.func70.trans (congrArg some (by kernel_rfl))
  f283 := Tryz.func92.trans (congrArg some (by kernel_rfl))
  f284 := Tryz.func93.trans (congrArg some (by kernel_rfl))
  f285 := Tryz.func94.trans (congrArg some (by kernel_rfl))
  f286 := Tryz.func95.trans (congrArg some (by kernel_rfl))
  f317 := Tryz.func114.trans (congrArg some (by kernel_rfl))
  f318 := Tryz.func116.trans (congrArg some (by kernel_rfl))
  f319 := Tryz.func117.trans (congrArg some (by kernel_rfl))
  f320 := Tryz.func118.trans (congrArg some (by kernel_rfl))
  f337 := Tryz.func122.trans (congrArg some (by kernel_rfl))
  f338 := Tryz.func123.trans (congrArg some (by kernel_rfl))
  t0 := Tryz.underlying0
  a0 := Tryz.isAgg0
  z0 := Tryz.sizeOf0
  v0 := Tryz.zeroValue0
  t2 := Tryz.underlying2
  a2 := Tryz.isAgg2
  z2 := Tryz.sizeOf2
  v2 := Tryz.zeroValue2
  t3 := Tryz.underlying3
  a3 := Tryz.isAgg3
  z3 := Tryz.sizeOf3
  v3 := Tryz.zeroValue3
  t4 := Tryz.underlying4
  a4 := Tryz.isAgg4
  z4 := Tryz.sizeOf4
  v4 := Tryz.zeroValue4
  t5 := Tryz.underlying5
  a5 := Tryz.isAgg5
  z5 := Tryz.sizeOf5
  v5 := Tryz.zeroValue5
  t9 := Tryz.underlying9
  a9 := Tryz.isAgg9
  z9 := Tryz.sizeOf9
  v9 := Tryz.zeroValue9
  t20 := Tryz.underlying20
  a20 := Tryz.isAgg20
  z20 := Tryz.sizeOf20
  v20 := Tryz.zeroValue20
  t37 := Tryz.underlying49
  a37 := Tryz.isAgg49
  z37 := Tryz.sizeOf49
  v37 := Tryz.zeroValue49
  t46 := Tryz.underlying80
  a46 := Tryz.isAgg80
  z46 := Tryz.sizeOf80
  v46 := Tryz.zeroValue80
  t51 := Tryz.underlying125
  a51 := Tryz.isAgg125
  z51 := Tryz.sizeOf125
  v51 := Tryz.zeroValue125
  t53 := Tryz.underlying111
  a53 := Tryz.isAgg111
  z53 := Tryz.sizeOf111
  v53 := Tryz.zeroValue111
  t171 := Tryz.underlying118
  a171 := Tryz.isAgg118
  z171 := Tryz.sizeOf118
  v171 := Tryz.zeroValue118
  t173 := Tryz.underlying121
  a173 := Tryz.isAgg121
  z173 := Tryz.sizeOf121
  v173 := Tryz.zeroValue121
  t212 := Tryz.underlying136
  a212 := Tryz.isAgg136
  z212 := Tryz.sizeOf136
  v212 := Tryz.zeroValue136
  t213 := Tryz.underlying137
  a213 := Tryz.isAgg137
  z213 := Tryz.sizeOf137
  t232 := Tryz.underlying149
  a232 := Tryz.isAgg149
  z232 := Tryz.sizeOf149
  v232 := Tryz.zeroValue149
  t233 := Tryz.underlying150
  a233 := Tryz.isAgg150
  z233 := Tryz.sizeOf150
  v233 := Tryz.zeroValue150
  g17 := by kernel_rfl
  g18 := by kernel_rfl
  g19 := by kernel_rfl
  i0 := by kernel_rfl
  i2 := by kernel_rfl
  i3 := by kernel_rfl
  i4 := by kernel_rfl
  i5 := by kernel_rfl
  i9 := by kernel_rfl
  i20 := by kernel_rfl
  i37 := by kernel_rfl
  i46 := by kernel_rfl
  i51 := by kernel_rfl
  i53 := by kernel_rfl
  i171 := by kernel_rfl
  i173 := by kernel_rfl
  i212 := by kernel_rfl
  i232 := by kernel_rfl
  i233 := by kernel_rfl
  m17 := by kernel_rfl
  m18 := by kernel_rfl
  m19 := by kernel_rfl }
open Go.RowKit Go.Sort Go.Lib in
/-- strconv.Itoa: "Itoa is equivalent to FormatInt(int64(i), 10).": i's DECIMAL NUMERAL ('Lib.itoa': a '-' where i is negative, then the digits), FOR EVERY int. The world behind the call: the world before it, new blocks behind the heap (the library's 'var a [24]byte'), draws. (LAID: no walk: one application.) -/
theorem Tryz.strconv_Itoa (n : Int) (h0 : -9223372036854775808 ≤ n) (h1 : n ≤ 9223372036854775807) (w : World) (htab : Lib.TabIs Tryz.prog w "internal/strconv.uint64pow10" .u64 Lib.pow10Tab) :
    Calls Tryz.prog 24 #[.int .i64 n] w fun e w' => e = .returned (.string ⟨(Lib.itoa n).toArray⟩) ∧ ∃ k os, w' = grow (w.drewN k) os := Any.strconv_Itoa Tryz.laysM171 n h0 h1 w htab
def Tryz.laysC174_ren : Go.Shelf.Ren := ⟨fun | 174 => 38 | 247 => 59 | 245 => 57 | 287 => 85 | 279 => 81 | 280 => 82 | 281 => 83 | 282 => 84 | 321 => 108 | 322 => 109 | 316 => 106 | 171 => 24 | 205 => 107 | 243 => 48 | 246 => 70 | 283 => 92 | 284 => 93 | 285 => 94 | 286 => 95 | 129 => 115 | 317 => 114 | 318 => 116 | 319 => 117 | 320 => 118 | 337 => 122 | 338 => 123 | n => n, fun | 9 => 9 | 3 => 3 | 2 => 2 | 75 => 54 | 85 => 69 | 4 => 4 | 167 => 107 | 5 => 5 | 53 => 111 | 175 => 112 | 46 => 80 | 168 => 108 | 37 => 49 | 0 => 0 | 210 => 131 | 21 => 21 | 127 => 82 | 145 => 143 | 143 => 141 | 171 => 118 | 173 => 121 | 212 => 136 | 51 => 125 | 20 => 20 | 213 => 137 | 232 => 149 | 233 => 150 | 80 => 59 | n => n, fun | 15 => 2 | 16 => 3 | 17 => 4 | 18 => 7 | 19 => 8 | n => n⟩
theorem Tryz.laysC174 : Go.Proofs.LaysC.n174 Tryz.prog Tryz.laysC174_ren := {
  mixed := by kernel_rfl
  f129 := Tryz.func115.trans (congrArg some (by kernel_rfl))
  f171 := Tryz.func24.trans (congrArg some (by kernel_rfl))
  f174 := Tryz.func38.trans (congrArg some (by kernel_rfl))
  f205 := Tryz.func107.trans (congrArg some (by kernel_rfl))
  f243 := Tryz.func48.trans (congrArg some (by kernel_rfl))
  f245 := Tryz.func57.trans (congrArg some (by kernel_rfl))
  f246 := Tryz.func70.trans (congrArg some (by kernel_rfl))
  f247 := Tryz.func59.trans (congrArg some (by kernel_rfl))
  f279 := Tryz.func81.trans (congrArg some (by kernel_rfl))
  f280 := Tryz.func82.trans (congrArg some (by kernel_rfl))
  f281 := Tryz.func83.trans (congrArg some (by kernel_rfl))
  f282 := Tryz.func84.trans (congrArg some (by kernel_rfl))
  f283 := Tryz.func92.trans (congrArg some (by kernel_rfl))
  f284 := Tryz.func93.trans (congrArg some (by kernel_rfl))
  f285 := Tryz.func94.trans (congrArg some (by kernel_rfl))
  f286 := Tryz.func95.trans (congrArg some (by kernel_rfl))
  f287 := Tryz.func85.trans (congrArg some (by kernel_rfl))
  f316 := Tryz.func106.trans (congrArg some (by kernel_rfl))
  f317 := Tryz.func114.trans (congrArg some (by kernel_rfl))
  f318 := Tryz.func116.trans (congrArg some (by kernel_rfl))
  f319 := Tryz.func117.trans (congrArg some (by kernel_rfl))
  f320 := Tryz.func118.trans (congrArg some (by kernel_rfl))
  f321 := Tryz.func108.trans (congrArg some (by kernel_rfl))
  f322 := Tryz.func109.trans (congrArg some (by kernel_rfl))
  f337 := Tryz.func122.trans (congrArg some (by kernel_rfl))
  f338 := Tryz.func123.trans (congrArg some (by kernel_rfl))
  t0 := Tryz.underlying0
  a0 := Tryz.isAgg0
  z0 := Tryz.sizeOf0
  v0 := Tryz.zeroValue0
  t2 := Tryz.underlying2
  a2 := Tryz.isAgg2
  z2 := Tryz.sizeOf2
  v2 := Tryz.zeroValue2
  t3 := Tryz.underlying3
  a3 := Tryz.isAgg3
  z3 := Tryz.sizeOf3
  v3 := Tryz.zeroValue3
  t4 := Tryz.underlying4
  a4 := Tryz.isAgg4
  z4 := Tryz.sizeOf4
  v4 := Tryz.zeroValue4
  t5 := Tryz.underlying5
  a5 := Tryz.isAgg5
  z5 := Tryz.sizeOf5
  v5 := Tryz.zeroValue5
  t9 := Tryz.underlying9
  a9 := Tryz.isAgg9
  z9 := Tryz.sizeOf9
  v9 := Tryz.zeroValue9
  t20 := Tryz.underlying20
  a20 := Tryz.isAgg20
  z20 := Tryz.sizeOf20
  v20 := Tryz.zeroValue20
  t21 := Tryz.underlying21
  a21 := Tryz.isAgg21
  z21 := Tryz.sizeOf21
  v21 := Tryz.zeroValue21
  t37 := Tryz.underlying49
  a37 := Tryz.isAgg49
  z37 := Tryz.sizeOf49
  v37 := Tryz.zeroValue49
  t46 := Tryz.underlying80
  a46 := Tryz.isAgg80
  z46 := Tryz.sizeOf80
  v46 := Tryz.zeroValue80
  t51 := Tryz.underlying125
  a51 := Tryz.isAgg125
  z51 := Tryz.sizeOf125
  v51 := Tryz.zeroValue125
  t53 := Tryz.underlying111
  a53 := Tryz.isAgg111
  z53 := Tryz.sizeOf111
  v53 := Tryz.zeroValue111
  t75 := Tryz.underlying54
  a75 := Tryz.isAgg54
  z75 := Tryz.sizeOf54
  v75 := Tryz.zeroValue54
  t85 := Tryz.underlying69
  a85 := Tryz.isAgg69
  z85 := Tryz.sizeOf69
  v85 := Tryz.zeroValue69
  t127 := Tryz.underlying82
  a127 := Tryz.isAgg82
  z127 := Tryz.sizeOf82
  v127 := Tryz.zeroValue82
  t143 := Tryz.underlying141
  a143 := Tryz.isAgg141
  z143 := Tryz.sizeOf141
  v143 := Tryz.zeroValue141
  t145 := Tryz.underlying143
  a145 := Tryz.isAgg143
  z145 := Tryz.sizeOf143
  v145 := Tryz.zeroValue143
  t167 := Tryz.underlying107
  a167 := Tryz.isAgg107
  z167 := Tryz.sizeOf107
  v167 := Tryz.zeroValue107
  t168 := Tryz.underlying108
  a168 := Tryz.isAgg108
  z168 := Tryz.sizeOf108
  v168 := Tryz.zeroValue108
  t171 := Tryz.underlying118
  a171 := Tryz.isAgg118
  z171 := Tryz.sizeOf118
  v171 := Tryz.zeroValue118
  t173 := Tryz.underlying121
  a173 := Tryz.isAgg121
  z173 := Tryz.sizeOf121
  v173 := Tryz.zeroValue121
  t175 := Tryz.underlying112
  a175 := Tryz.isAgg112
  z175 := Tryz.sizeOf112
  v175 := Tryz.zeroValue112
  t210 := Tryz.underlying131
  a210 := Tryz.isAgg131
  z210 := Tryz.sizeOf131
  v210 := Tryz.zeroValue131
  t212 := Tryz.underlying136
  a212 := Tryz.isAgg136
  z212 := Tryz.sizeOf136
  v212 := Tryz.zeroValue136
  t213 := Tryz.underlying137
  a213 := Tryz.isAgg137
  z213 := Tryz.sizeOf137
  t232 := Tryz.underlying149
  a232 := Tryz.isAgg149
  z232 := Tryz.sizeOf149
  v232 := Tryz.zeroValue149
  t233 := Tryz.underlying150
  a233 := Tryz.isAgg150
  z233 := Tryz.sizeOf150
  v233 := Tryz.zeroValue150
  g15 := by kernel_rfl
  g16 := by kernel_rfl
  g17 := by kernel_rfl
  g18 := by kernel_rfl
  g19 := by kernel_rfl
  t80 := Tryz.underlying59
  a80 := Tryz.isAgg59
  z80 := Tryz.sizeOf59
  v80 := Tryz.zeroValue59
  i0 := by kernel_rfl
  i2 := by kernel_rfl
  i3 := by kernel_rfl
  i4 := by kernel_rfl
  i5 := by kernel_rfl
  i9 := by kernel_rfl
  i20 := by kernel_rfl
  i21 := by kernel_rfl
  i37 := by kernel_rfl
  i46 := by kernel_rfl
  i51 := by kernel_rfl
  i53 := by kernel_rfl
  i75 := by kernel_rfl
  i80 := by kernel_rfl
  i85 := by kernel_rfl
  i127 := by kernel_rfl
  i143 := by kernel_rfl
  i145 := by kernel_rfl
  i167 := by kernel_rfl
  i168 := by kernel_rfl
  i171 := by kernel_rfl
  i173 := by kernel_rfl
  i175 := by kernel_rfl
  i210 := by kernel_rfl
  i212 := by kernel_rfl
  i232 := by kernel_rfl
  i233 := by kernel_rfl
  m15 := by kernel_rfl
  m16 := by kernel_rfl
  m17 := by kernel_rfl
  m18 := by kernel_rfl
  m19 := by kernel_rfl
  c0 := by kernel_rfl
  c2 := by kernel_rfl
  c3 := by kernel_rfl
  c4 := by kernel_rfl
  c5 := by kernel_rfl
  c9 := by kernel_rfl
  c20 := by kernel_rfl
  c21 := by kernel_rfl
  c37 := by kernel_rfl
  c46 := by kernel_rfl
  c51 := by kernel_rfl
  c53 := by kernel_rfl
  c75 := by kernel_rfl
  c80 := by kernel_rfl
  c85 := by kernel_rfl
  c127 := by kernel_rfl
  c143 := by kernel_rfl
  c145 := by kernel_rfl
  c167 := by kernel_rfl
  c168 := by kernel_rfl
  c171 := by kernel_rfl
  c173 := by kernel_rfl
  c175 := by kernel_rfl
  c210 := by kernel_rfl
  c212 := by kernel_rfl
  c213 := by kernel_rfl
  c232 := by kernel_rfl
  c233 := by kernel_rfl }
open Go.RowKit in
/-- strconv.ParseInt(s, 10, 64), AT EVERY STRING THAT SPELLS AN int64 ('Lib.parseIntB 64 s.data.toList = .ok v'): v, AND NO ERROR. (LAID: no walk: one application.) -/
theorem Tryz.strconv_ParseInt_10_at64_ok (s : ByteArray) (hmax : s.size ≤ 9223372036854775806) (v : Int) (h : Lib.parseIntB 64 s.data.toList = .ok v) (w : World) :
    Calls Tryz.prog 38 #[.string s, .int .i64 10, .int .i64 64] w fun e w' => e = .returned (.tuple #[.int .i64 v, .nilIface]) ∧ (w' = w ∨ ∃ t, w' = Lib.bytesWorld w 5 t) := Any.strconv_ParseInt_10_at64_ok Tryz.laysC174 s hmax v h w
open Go.RowKit in
/-- strconv.ParseInt(s, 10, 64), AT EVERY NUMERAL THAT NO int64 HOLDS: THE GREATEST OR THE LEAST int64, BY THE SIGN ('Lib.intSat 64'), AND AN ERROR THAT IS NOT nil: a *NumError in a new block N: {Func: "ParseInt", Num: s's bytes, Err: what the variable ErrRange holds}. Of what was there nothing has turned. (LAID: no walk: one application.) -/
theorem Tryz.strconv_ParseInt_10_at64_range (s : ByteArray) (hlim : s.size ≤ 281474976710656) (h : Lib.parseIntB 64 s.data.toList = .range) (ev : Value) (w : World) (hv : w.cell? ⟨3, 0, none⟩ = some ev) (hev : ev = .nilIface ∨ ∃ te pe, ev = .iface te pe) :
    Calls Tryz.prog 38 #[.string s, .int .i64 10, .int .i64 64] w fun e w' => ∃ N, e = .returned (.tuple #[.int .i64 (Lib.intSat 64 s.data.toList), .iface 108 (.pointer (some ⟨N, 0, none⟩))]) ∧ w.heap.size ≤ N ∧ w'.heap[N]? = some (.cells #[.string ⟨#[80, 97, 114, 115, 101, 73, 110, 116]⟩, .string s, ev] 131 (0, 0)) ∧ Below w.heap.size w w' := Any.strconv_ParseInt_10_at64_range Tryz.laysC174 s hlim h ev w hv hev
def Tryz.lays145_ren : Go.Shelf.Ren := ⟨fun | 145 => 28 | 220 => 50 | 219 => 75 | 217 => 98 | 225 => 99 | 224 => 100 | 267 => 101 | 266 => 119 | 314 => 120 | n => n, fun | 9 => 9 | 4 => 4 | 59 => 63 | 3 => 3 | 5 => 5 | 46 => 80 | 146 => 126 | 51 => 125 | n => n, fun | 1 => 1 | n => n⟩
theorem Tryz.lays145 : Go.Proofs.Lays.n145 Tryz.prog Tryz.lays145_ren := {
  mixed := by kernel_rfl
  f145 := Tryz.func28.trans (congrArg some (by kernel_rfl))
  f217 := Tryz.func98.trans (congrArg some (by kernel_rfl))
  f219 := Tryz.func75.trans (congrArg some (by kernel_rfl))
  f220 := Tryz.func50.trans (congrArg some (by kernel_rfl))
  f224 := Tryz.func100.trans (congrArg some (by kernel_rfl))
  f225 := Tryz.func99.trans (congrArg some (by kernel_rfl))
  f266 := Tryz.func119.trans (congrArg some (by kernel_rfl))
  f267 := Tryz.func101.trans (congrArg some (by kernel_rfl))
  f314 := Tryz.func120.trans (congrArg some (by kernel_rfl))
  t3 := Tryz.underlying3
  a3 := Tryz.isAgg3
  z3 := Tryz.sizeOf3
  v3 := Tryz.zeroValue3
  t4 := Tryz.underlying4
  a4 := Tryz.isAgg4
  z4 := Tryz.sizeOf4
  v4 := Tryz.zeroValue4
  t5 := Tryz.underlying5
  a5 := Tryz.isAgg5
  z5 := Tryz.sizeOf5
  v5 := Tryz.zeroValue5
  t9 := Tryz.underlying9
  a9 := Tryz.isAgg9
  z9 := Tryz.sizeOf9
  v9 := Tryz.zeroValue9
  t46 := Tryz.underlying80
  a46 := Tryz.isAgg80
  z46 := Tryz.sizeOf80
  v46 := Tryz.zeroValue80
  t51 := Tryz.underlying125
  a51 := Tryz.isAgg125
  z51 := Tryz.sizeOf125
  v51 := Tryz.zeroValue125
  t59 := Tryz.underlying63
  a59 := Tryz.isAgg63
  z59 := Tryz.sizeOf63
  v59 := Tryz.zeroValue63
  t146 := Tryz.underlying126
  a146 := Tryz.isAgg126
  z146 := Tryz.sizeOf126
  v146 := Tryz.zeroValue126
  g1 := by kernel_rfl }
open Go.RowKit Go.Lib in
/-- strings.Cut: "Cut slices s around the first instance of sep, returning the text before and after sep. The found result reports whether sep appears in s. If sep does not appear in s, cut returns s, "", false.": IT RETURNS 'Lib.cut s sep'; the world is as it was but for the count of draws. (LAID: no walk: one application.) -/
theorem Tryz.strings_Cut (s sep : ByteArray) (m : Int) (w : World) (hs : s.size < 4294967281) (hm : w.cell? ⟨1, 0, none⟩ = some (.int .i64 m)) :
    Calls Tryz.prog 28 #[.string s, .string sep] w fun e w' => e = .returned (.tuple #[.string ⟨(Lib.cut s.data.toList sep.data.toList).1.toArray⟩, .string ⟨(Lib.cut s.data.toList sep.data.toList).2.1.toArray⟩, .bool (Lib.cut s.data.toList sep.data.toList).2.2]) ∧ ∃ n, w' = w.drewN n := Any.strings_Cut Tryz.lays145 s sep m w hs hm
def Tryz.lays101_ren : Go.Shelf.Ren := ⟨fun | 101 => 51 | 208 => 76 | 206 => 102 | n => n, fun | 9 => 9 | 4 => 4 | 3 => 3 | n => n, fun | n => n⟩
theorem Tryz.lays101 : Go.Proofs.Lays.n101 Tryz.prog Tryz.lays101_ren := {
  mixed := by kernel_rfl
  f101 := Tryz.func51.trans (congrArg some (by kernel_rfl))
  f206 := Tryz.func102.trans (congrArg some (by kernel_rfl))
  f208 := Tryz.func76.trans (congrArg some (by kernel_rfl))
  t3 := Tryz.underlying3
  a3 := Tryz.isAgg3
  z3 := Tryz.sizeOf3
  v3 := Tryz.zeroValue3
  t4 := Tryz.underlying4
  a4 := Tryz.isAgg4
  z4 := Tryz.sizeOf4
  v4 := Tryz.zeroValue4
  t9 := Tryz.underlying9
  a9 := Tryz.isAgg9
  z9 := Tryz.sizeOf9
  v9 := Tryz.zeroValue9 }
open Go.RowKit Go.Lib in
/-- strings.TrimPrefix: "TrimPrefix returns s without the provided leading prefix string. If s doesn't start with prefix, s is returned unchanged.": IT RETURNS 'Lib.trimPrefix s prefix'; the world is as it was. (LAID: no walk: one application.) -/
theorem Tryz.strings_TrimPrefix (s p : ByteArray) (w : World) :
    Calls Tryz.prog 51 #[.string s, .string p] w fun e w' => e = .returned (.string ⟨(Lib.trimPrefix s.data.toList p.data.toList).toArray⟩) ∧ w' = w := Any.strings_TrimPrefix Tryz.lays101 s p w
def Tryz.lays146_ren : Go.Shelf.Ren := ⟨fun | 146 => 27 | 221 => 49 | 268 => 72 | 138 => 73 | 143 => 74 | 195 => 96 | 197 => 88 | 218 => 97 | 219 => 75 | 260 => 110 | 217 => 98 | 225 => 99 | 224 => 100 | 267 => 101 | 266 => 119 | 314 => 120 | n => n, fun | 9 => 9 | 31 => 61 | 3 => 3 | 4 => 4 | 0 => 0 | 105 => 115 | 21 => 21 | 5 => 5 | 46 => 80 | 119 => 144 | 139 => 147 | 138 => 146 | 146 => 126 | 51 => 125 | n => n, fun | 1 => 1 | 3 => 5 | 4 => 6 | n => n⟩
theorem Tryz.lays146 : Go.Proofs.Lays.n146 Tryz.prog Tryz.lays146_ren := {
  mixed := by kernel_rfl
  f138 := Tryz.func73.trans (congrArg some (by kernel_rfl))
  f143 := Tryz.func74.trans (congrArg some (by kernel_rfl))
  f146 := Tryz.func27.trans (congrArg some (by kernel_rfl))
  f195 := Tryz.func96.trans (congrArg some (by kernel_rfl))
  f197 := Tryz.func88.trans (congrArg some (by kernel_rfl))
  f217 := Tryz.func98.trans (congrArg some (by kernel_rfl))
  f218 := Tryz.func97.trans (congrArg some (by kernel_rfl))
  f219 := Tryz.func75.trans (congrArg some (by kernel_rfl))
  f221 := Tryz.func49.trans (congrArg some (by kernel_rfl))
  f224 := Tryz.func100.trans (congrArg some (by kernel_rfl))
  f225 := Tryz.func99.trans (congrArg some (by kernel_rfl))
  f260 := Tryz.func110.trans (congrArg some (by kernel_rfl))
  f266 := Tryz.func119.trans (congrArg some (by kernel_rfl))
  f267 := Tryz.func101.trans (congrArg some (by kernel_rfl))
  f268 := Tryz.func72.trans (congrArg some (by kernel_rfl))
  f314 := Tryz.func120.trans (congrArg some (by kernel_rfl))
  t0 := Tryz.underlying0
  a0 := Tryz.isAgg0
  z0 := Tryz.sizeOf0
  v0 := Tryz.zeroValue0
  t3 := Tryz.underlying3
  a3 := Tryz.isAgg3
  z3 := Tryz.sizeOf3
  v3 := Tryz.zeroValue3
  t4 := Tryz.underlying4
  a4 := Tryz.isAgg4
  z4 := Tryz.sizeOf4
  v4 := Tryz.zeroValue4
  t5 := Tryz.underlying5
  a5 := Tryz.isAgg5
  z5 := Tryz.sizeOf5
  v5 := Tryz.zeroValue5
  t9 := Tryz.underlying9
  a9 := Tryz.isAgg9
  z9 := Tryz.sizeOf9
  v9 := Tryz.zeroValue9
  t21 := Tryz.underlying21
  a21 := Tryz.isAgg21
  z21 := Tryz.sizeOf21
  v21 := Tryz.zeroValue21
  t31 := Tryz.underlying61
  a31 := Tryz.isAgg61
  z31 := Tryz.sizeOf61
  v31 := Tryz.zeroValue61
  t46 := Tryz.underlying80
  a46 := Tryz.isAgg80
  z46 := Tryz.sizeOf80
  v46 := Tryz.zeroValue80
  t51 := Tryz.underlying125
  a51 := Tryz.isAgg125
  z51 := Tryz.sizeOf125
  v51 := Tryz.zeroValue125
  t105 := Tryz.underlying115
  a105 := Tryz.isAgg115
  z105 := Tryz.sizeOf115
  v105 := Tryz.zeroValue115
  t119 := Tryz.underlying144
  a119 := Tryz.isAgg144
  z119 := Tryz.sizeOf144
  t138 := Tryz.underlying146
  a138 := Tryz.isAgg146
  z138 := Tryz.sizeOf146
  v138 := Tryz.zeroValue146
  t139 := Tryz.underlying147
  a139 := Tryz.isAgg147
  z139 := Tryz.sizeOf147
  v139 := Tryz.zeroValue147
  t146 := Tryz.underlying126
  a146 := Tryz.isAgg126
  z146 := Tryz.sizeOf126
  v146 := Tryz.zeroValue126
  g1 := by kernel_rfl
  g3 := by kernel_rfl
  g4 := by kernel_rfl }
open Go.RowKit Go.Lib in
/-- strings.Split. (LAID: no walk: one application.) -/
theorem Tryz.strings_Split (s sep : ByteArray) (m : Int) (w : World) (hs : s.size < 4294967281) (hm : w.cell? ⟨1, 0, none⟩ = some (.int .i64 m)) (h1 : 1 ≤ sep.size) :
    Calls Tryz.prog 27 #[.string s, .string sep] w fun e w' =>
      e = .returned (.slice (some ⟨w.heap.size, 0, none⟩) (Lib.countB s sep + 1) (Lib.countB s sep + 1)) ∧ w' = w.alloc (.cells ((Lib.splitB sep 0 (Lib.countB s sep) s).map Value.string).toArray 9) := Any.strings_Split Tryz.lays146 (by kernel_rfl) s sep m w hs hm h1
def Tryz.lays105_ren : Go.Shelf.Ren := ⟨fun | 105 => 55 | 212 => 79 | 99 => 80 | 165 => 69 | 166 => 23 | 170 => 21 | 169 => 25 | 263 => 104 | 264 => 105 | 206 => 102 | 240 => 47 | 241 => 91 | 276 => 71 | 277 => 113 | n => n, fun | 9 => 9 | 3 => 3 | 4 => 4 | 20 => 20 | 0 => 0 | 46 => 80 | 109 => 105 | 5 => 5 | 72 => 51 | 76 => 56 | 51 => 125 | 146 => 126 | 53 => 111 | 148 => 128 | 70 => 48 | 37 => 49 | 75 => 54 | 127 => 82 | 164 => 101 | 80 => 59 | n => n, fun | n => n⟩
theorem Tryz.lays105 : Go.Proofs.Lays.n105 Tryz.prog Tryz.lays105_ren := {
  mixed := by kernel_rfl
  f99 := Tryz.func80.trans (congrArg some (by kernel_rfl))
  f105 := Tryz.func55.trans (congrArg some (by kernel_rfl))
  f165 := Tryz.func69.trans (congrArg some (by kernel_rfl))
  f166 := Tryz.func23.trans (congrArg some (by kernel_rfl))
  f169 := Tryz.func25.trans (congrArg some (by kernel_rfl))
  f170 := Tryz.func21.trans (congrArg some (by kernel_rfl))
  f206 := Tryz.func102.trans (congrArg some (by kernel_rfl))
  f212 := Tryz.func79.trans (congrArg some (by kernel_rfl))
  f240 := Tryz.func47.trans (congrArg some (by kernel_rfl))
  f241 := Tryz.func91.trans (congrArg some (by kernel_rfl))
  f263 := Tryz.func104.trans (congrArg some (by kernel_rfl))
  f264 := Tryz.func105.trans (congrArg some (by kernel_rfl))
  f276 := Tryz.func71.trans (congrArg some (by kernel_rfl))
  f277 := Tryz.func113.trans (congrArg some (by kernel_rfl))
  t0 := Tryz.underlying0
  a0 := Tryz.isAgg0
  z0 := Tryz.sizeOf0
  v0 := Tryz.zeroValue0
  t3 := Tryz.underlying3
  a3 := Tryz.isAgg3
  z3 := Tryz.sizeOf3
  v3 := Tryz.zeroValue3
  t4 := Tryz.underlying4
  a4 := Tryz.isAgg4
  z4 := Tryz.sizeOf4
  v4 := Tryz.zeroValue4
  t5 := Tryz.underlying5
  a5 := Tryz.isAgg5
  z5 := Tryz.sizeOf5
  v5 := Tryz.zeroValue5
  t9 := Tryz.underlying9
  a9 := Tryz.isAgg9
  z9 := Tryz.sizeOf9
  v9 := Tryz.zeroValue9
  t20 := Tryz.underlying20
  a20 := Tryz.isAgg20
  z20 := Tryz.sizeOf20
  v20 := Tryz.zeroValue20
  t37 := Tryz.underlying49
  a37 := Tryz.isAgg49
  z37 := Tryz.sizeOf49
  v37 := Tryz.zeroValue49
  t46 := Tryz.underlying80
  a46 := Tryz.isAgg80
  z46 := Tryz.sizeOf80
  v46 := Tryz.zeroValue80
  t51 := Tryz.underlying125
  a51 := Tryz.isAgg125
  z51 := Tryz.sizeOf125
  v51 := Tryz.zeroValue125
  t53 := Tryz.underlying111
  a53 := Tryz.isAgg111
  z53 := Tryz.sizeOf111
  v53 := Tryz.zeroValue111
  t70 := Tryz.underlying48
  a70 := Tryz.isAgg48
  z70 := Tryz.sizeOf48
  v70 := Tryz.zeroValue48
  t72 := Tryz.underlying51
  a72 := Tryz.isAgg51
  z72 := Tryz.sizeOf51
  v72 := Tryz.zeroValue51
  t75 := Tryz.underlying54
  a75 := Tryz.isAgg54
  z75 := Tryz.sizeOf54
  v75 := Tryz.zeroValue54
  t76 := Tryz.underlying56
  a76 := Tryz.isAgg56
  z76 := Tryz.sizeOf56
  v76 := Tryz.zeroValue56
  t109 := Tryz.underlying105
  a109 := Tryz.isAgg105
  z109 := Tryz.sizeOf105
  v109 := Tryz.zeroValue105
  t127 := Tryz.underlying82
  a127 := Tryz.isAgg82
  z127 := Tryz.sizeOf82
  v127 := Tryz.zeroValue82
  t146 := Tryz.underlying126
  a146 := Tryz.isAgg126
  z146 := Tryz.sizeOf126
  v146 := Tryz.zeroValue126
  t148 := Tryz.underlying128
  a148 := Tryz.isAgg128
  z148 := Tryz.sizeOf128
  v148 := Tryz.zeroValue128
  t164 := Tryz.underlying101
  a164 := Tryz.isAgg101
  z164 := Tryz.sizeOf101
  v164 := Tryz.zeroValue101 }
theorem Tryz.Builder_Extra_105 : Builder.Extra Tryz.prog Tryz.lays105_ren := {
  sizeBuilder := by kernel_rfl
  liesBuilder := by kernel_rfl
  t5 := Tryz.underlying5
  a5 := Tryz.isAgg5
  z5 := Tryz.sizeOf5
  v5 := Tryz.zeroValue5
  infoByte := by kernel_rfl
  cellsByte := by kernel_rfl
  sizeByte := by kernel_rfl
  neB5 := by decide }
open Go.RowKit Go.Lib in
/-- **strings.Repeat: count ≥ 0, the result within one allocation: count copies of s.** (LAID: no walk: one application.) -/
theorem Tryz.strings_Repeat (s : ByteArray) (c : Nat) (w : World) (hc : c ≤ 9223372036854775807) (hlen : s.size * c ≤ 140737488355328) :
    Calls Tryz.prog 55 #[.string s, .int .i64 c] w fun e w' => e = .returned (.string ⟨(Lib.repeatL s.data.toList c).toArray⟩) ∧ Below w.heap.size w w' := Any.strings_Repeat Tryz.lays105 Tryz.Builder_Extra_105 s c w hc hlen
end Go.Proofs
/- The words: contracts of the library's functions. -/
set_option linter.unusedVariables false
namespace Go.Proofs.YtmeapfckibbbbaaGreatDoor.Am
open Go.RowKit Lw Go.Shelf
/-- What the words' package and the library read of laid variables: escapes, MaxLen, ErrRange, the powers of ten. -/
abbrev escL : List Nat := [34, 34, 92, 92, 10, 110, 13, 114, 9, 116]
abbrev escD (j : Nat) : DC := .c (.int .u8 (escL.getD j 0 : Nat))
abbrev powD (j : Nat) : DC := .c (.int .u64 (Lib.pow10Tab.getD j 0))
abbrev glC (m : Int) (te : TypeId) (pe : Value) : List Chunk := [.stat 0 0 10 escD, .stat 1 1 1 (fun _ => .c (.int .i64 m)), .stat 2 3 1 (fun _ => .c (.iface te pe)), .stat 3 4 20 powD]
theorem glC_all (m : Int) (te : TypeId) (pe : Value) : allStat (glC m te pe) = true := rfl
section
variable {w : World} {S : Nat → Prop} {ν : Nat → Value} {m : Int} {te : TypeId} {pe : Value}
theorem gl_max (h : ∀ c ∈ glC m te pe, c.holds w S ν) : w.cell? ⟨1, 0, none⟩ = some (.int .i64 m) := by
  obtain ⟨_, _, h3, _⟩ := h _ (List.mem_cons_of_mem _ (List.mem_cons_self ..))
  obtain ⟨u, h4, h5⟩ := h3 0 (by decide)
  rw [h4, h5.1]
theorem gl_err (h : ∀ c ∈ glC m te pe, c.holds w S ν) : w.cell? ⟨3, 0, none⟩ = some (.iface te pe) := by
  obtain ⟨_, _, h3, _⟩ := h _ (List.mem_cons_of_mem _ (List.mem_cons_of_mem _ (List.mem_cons_self ..)))
  obtain ⟨u, h4, h5⟩ := h3 0 (by decide)
  rw [h4, h5.1]
theorem gl_pow (h : ∀ c ∈ glC m te pe, c.holds w S ν) : Lib.TabIs Tryz.prog w "internal/strconv.uint64pow10" .u64 Lib.pow10Tab := by
  obtain ⟨_, _, h3, cs, T, fr, h6, h7⟩ := h _ (List.mem_cons_of_mem _ (List.mem_cons_of_mem _ (List.mem_cons_of_mem _ (List.mem_cons_self ..))))
  unfold Lib.TabIs World.var?
  rw [show Tryz.prog.globalNamed "internal/strconv.uint64pow10" = some 4 by kernel_rfl]
  simp only [Option.bind_some, h6]
  congr 1
  refine Array.ext (by rw [h7]; rfl) fun i h1 h2 => ?_
  obtain ⟨u, h4, h5⟩ := h3 i (by omega)
  have h8 : w.cell? ⟨4, i, none⟩ = cs[i]? := by simp [World.cell?, h6]
  rw [h8, Array.getElem?_eq_getElem h1] at h4
  have h9 : cs[i] = u := Option.some.inj h4
  rw [h9, h5.1]
  have h10 : i < Lib.pow10Tab.length := by simpa using h2
  simp [List.getElem?_eq_getElem h10]
end
theorem args3 {w : World} {S : Nat → Prop} {ν : Nat → Value} {v u x : Value} {vs : List Value} (h : All2 (AV.rel w S ν) [.o (.c v), .o (.c u), .o (.c x)] vs) : vs = [v, u, x] := by
  obtain ⟨r, rfl, h2⟩ := argsC h
  obtain rfl := args2 h2
  rfl
theorem below_gr (w : World) (k : Nat) (os : Array Obj) : Below w.heap.size w (Go.Sort.grow (w.drewN k) os) :=
  ⟨rfl, rfl, rfl, by simp [Go.Sort.grow, World.drewN], fun i hi => by simp [Go.Sort.grow, World.drewN, Array.getElem?_append_left hi]⟩
set_option maxRecDepth 20000 in
theorem trim_c (l cs : List UInt8) (hl : l.length ≤ 1000000) (hcs : cs.length ≤ 1000) (ha : ∀ (j : Nat) b, cs[j]? = some b → b.toNat < 128) : Con Tryz.prog 41 [.o (.c (.string (sB l))), .o (.c (.string (sB cs)))] [] 0 0 U (fun _ => .o (.c (.string (sB (Lib.trimS l cs))))) G0 := by
  refine con_below (takes := []) (fn := Tryz.f41) Tryz.func41 (by kernel_rfl) (by kernel_rfl) rfl rfl (Nat.le_refl _) (fun _ => rfl) rfl fun w S ν vs hv _ => ?_
  obtain rfl := args2 hv
  refine Calls.mono (Any.strings_Trim_laid Tryz.lays160 (by kernel_rfl) (sB l) (sB cs) w (by rw [sB_size]; omega) (by rw [sB_size]; omega) ha) ?_
  rintro e w' ⟨rfl, hb⟩
  exact ⟨(), _, rfl, trivial, fun _ _ _ => ⟨rfl, rfl⟩, hb⟩
set_option maxRecDepth 20000 in
theorem tpre_c (l p : List UInt8) : Con Tryz.prog 51 [.o (.c (.string (sB l))), .o (.c (.string (sB p)))] [] 0 0 U (fun _ => .o (.c (.string (sB (Lib.trimPrefix l p))))) G0 := by
  refine con_same (fn := Tryz.f51) Tryz.func51 (by kernel_rfl) (by kernel_rfl) (fun _ => rfl) fun w S ν vs hv => ?_
  obtain rfl := args2 hv
  refine Calls.mono (Tryz.strings_TrimPrefix (sB l) (sB p) w) ?_
  rintro e w' ⟨rfl, rfl⟩
  exact ⟨(), _, rfl, trivial, ⟨rfl, rfl⟩, rfl⟩
set_option maxRecDepth 20000 in
theorem ixb_c (l : List UInt8) (c : UInt8) : Con Tryz.prog 86 [.o (.c (.string (sB l))), .o (.c (.int .u8 c.toNat))] [] 0 0 U (fun _ => .o (.c (.int .i64 (Lib.indexByte l c)))) G0 := by
  refine con_same (fn := Tryz.f86) Tryz.func86 (by kernel_rfl) (by kernel_rfl) (fun _ => rfl) fun w S ν vs hv => ?_
  obtain rfl := args2 hv
  refine Calls.mono (Tryz.strings_IndexByte (sB l) (c.toNat : Int) w) ?_
  rintro e w' ⟨rfl, rfl⟩
  exact ⟨(), _, rfl, trivial, ⟨by simp, rfl⟩, rfl⟩
set_option maxRecDepth 20000 in
theorem cut_c (m : Int) (te : TypeId) (pe : Value) (l p : List UInt8) (hl : l.length ≤ 1000000) : Con Tryz.prog 28 [.o (.c (.string (sB l))), .o (.c (.string (sB p)))] (glC m te pe) 4 4 U (fun _ => .t [.inl (.c (.string (sB (Lib.cut l p).1))), .inl (.c (.string (sB (Lib.cut l p).2.1))), .inl (.c (.bool (Lib.cut l p).2.2))]) (fun _ => glC m te pe) := by
  refine con_below (fn := Tryz.f28) Tryz.func28 (by kernel_rfl) (by kernel_rfl) rfl rfl (Nat.le_refl _) (fun _ => rfl) rfl fun w S ν vs hv hg => ?_
  obtain rfl := args2 hv
  refine Calls.mono (Tryz.strings_Cut (sB l) (sB p) m w (by rw [sB_size]; omega) (gl_max hg)) ?_
  rintro e w' ⟨rfl, n, rfl⟩
  exact ⟨(), _, rfl, trivial, fun _ _ _ => ⟨_, rfl, ⟨rfl, rfl⟩, ⟨rfl, rfl⟩, ⟨rfl, rfl⟩, trivial⟩, ⟨rfl, rfl, rfl, Nat.le_refl _, fun _ _ => rfl⟩⟩
set_option maxRecDepth 20000 in
theorem itoa_c (m : Int) (te : TypeId) (pe : Value) (n : Int) (hn : -9223372036854775808 ≤ n ∧ n ≤ 9223372036854775807) : Con Tryz.prog 24 [.o (.c (.int .i64 n))] (glC m te pe) 4 4 U (fun _ => .o (.c (.string (sB (Lib.itoa n))))) (fun _ => glC m te pe) := by
  refine con_below (fn := Tryz.f24) Tryz.func24 (by kernel_rfl) (by kernel_rfl) rfl rfl (Nat.le_refl _) (fun _ => rfl) rfl fun w S ν vs hv hg => ?_
  obtain rfl := args1 hv
  refine Calls.mono (Tryz.strconv_Itoa n hn.1 hn.2 w (gl_pow hg)) ?_
  rintro e w' ⟨rfl, k, os, rfl⟩
  exact ⟨(), _, rfl, trivial, fun _ _ _ => ⟨rfl, rfl⟩, below_gr _ _ _⟩
set_option maxRecDepth 20000 in
theorem parseOk_c (m : Int) (te : TypeId) (pe : Value) (l : List UInt8) (hl : l.length ≤ 1000000) (z : Int) (h : Lib.parseIntB 64 l = .ok z) : Con Tryz.prog 38 [.o (.c (.string (sB l))), .o (.c (.int .i64 10)), .o (.c (.int .i64 64))] (glC m te pe) 4 4 U (fun _ => .t [.inl (.c (.int .i64 z)), .inl (.c .nilIface)]) (fun _ => glC m te pe) := by
  refine con_below (fn := Tryz.f38) Tryz.func38 (by kernel_rfl) (by kernel_rfl) rfl rfl (Nat.le_refl _) (fun _ => rfl) rfl fun w S ν vs hv hg => ?_
  obtain rfl := args3 hv
  refine Calls.mono (Tryz.strconv_ParseInt_10_at64_ok (sB l) (by rw [sB_size]; omega) z h w) ?_
  rintro e w' ⟨rfl, hw⟩
  refine ⟨(), _, rfl, trivial, fun _ _ _ => ⟨_, rfl, ⟨rfl, rfl⟩, ⟨rfl, rfl⟩, trivial⟩, ?_⟩
  rcases hw with rfl | ⟨t, rfl⟩
  · exact Below.refl _ _
  · exact Lib.bytesWorld_below _ _ _
set_option maxRecDepth 20000 in
theorem parseR_c (m : Int) (te : TypeId) (pe : Value) (l : List UInt8) (hl : l.length ≤ 1000000) (h : Lib.parseIntB 64 l = .range) : Con Tryz.prog 38 [.o (.c (.string (sB l))), .o (.c (.int .i64 10)), .o (.c (.int .i64 64))] (glC m te pe) 4 4 (fun v : Value => ∃ tp p, v = .iface tp p) (fun v => .t [.inl (.c (.int .i64 (Lib.intSat 64 l))), .inl (.c v)]) (fun _ => glC m te pe) := by
  refine con_below (fn := Tryz.f38) Tryz.func38 (by kernel_rfl) (by kernel_rfl) rfl rfl (Nat.le_refl _) (fun _ => rfl) rfl fun w S ν vs hv hg => ?_
  obtain rfl := args3 hv
  refine Calls.mono (Tryz.strconv_ParseInt_10_at64_range (sB l) (by rw [sB_size]; omega) h (.iface te pe) w (gl_err hg) (.inr ⟨_, _, rfl⟩)) ?_
  rintro e w' ⟨N, rfl, _, _, hb⟩
  exact ⟨_, _, rfl, ⟨_, _, rfl⟩, fun _ _ _ => ⟨_, rfl, ⟨rfl, rfl⟩, ⟨rfl, rfl⟩, trivial⟩, hb⟩
end Go.Proofs.YtmeapfckibbbbaaGreatDoor.Am
/- The words: a strings.Builder and what is written on it. -/
set_option linter.unusedVariables false
namespace Go.Proofs.YtmeapfckibbbbaaGreatDoor.Am
open Go.RowKit Lw Go.Shelf
section
variable {P : Program}
/-- A function that leaves the world as it was, the chunks that it takes among it. -/
theorem con_id {ι : Type} {f : FuncId} {args : List AV} {takes : List Chunk} {m : Nat} {pre : ι → Prop} {res : ι → AV} {fn : Func} (hf : P.funcs[f]? = some fn) (hn : (fn.name == "runtime.NumGoroutine") = false) (hb : fn.body.isNone = false) (wfT : allB (Chunk.ltB m) takes = true) (wf : ∀ x, (res x).ltB m = true)
    (h : ∀ w S ν vs, All2 (AV.rel w S ν) args vs → (∀ c ∈ takes, c.holds w S ν) → Calls P f vs.toArray w fun e w' => ∃ x u, e = .returned u ∧ pre x ∧ (res x).rel w S ν u ∧ w' = w) : Con P f args takes m m pre res (fun _ => takes) := by
  refine ⟨⟨fn, hf, hn, hb⟩, wfT, Nat.le_refl _, fun x => ⟨wf x, wfT⟩, fun w S ν vs ha ht hnd hbk hS => Calls.mono (h w S ν vs ha ht) ?_⟩
  rintro e w' ⟨x, u, he, hp, hr, rfl⟩
  exact ⟨x, S, ν, u, he, hp, hr, Fr.refl _ _, fun _ _ => rfl, fun _ h => h, fun b hb => ⟨hS b hb, .inl hb⟩, ht, hnd, fun b hb => ⟨(hbk b hb).1, (hbk b hb).2, .inl hb⟩⟩
end
/-- A builder that nothing was written on, one that was written on. -/
abbrev blN (l : List UInt8) : List Chunk := [.box 0 51 [.c (.pointer none), .own 1], .own 1 5 1 (bytesC l)]
abbrev blC (l : List UInt8) : List Chunk := [.box 0 51 [.ptr 0 0, .own 1], .own 1 5 1 (bytesC l)]
abbrev blG (l : List UInt8) : List Chunk := [.box 0 51 [.ptr 0 0, .own 2], .own 2 5 1 (bytesC l)]
set_option maxRecDepth 20000 in
theorem ccU_c (l : List UInt8) : Con Tryz.prog 47 [.o (.ptr 0 0)] (blC l) 2 2 U (fun _ => .t []) (fun _ => blC l) := by
  refine con_id (fn := Tryz.f47) Tryz.func47 (by kernel_rfl) (by kernel_rfl) rfl (fun _ => rfl) fun w S ν vs hv ht => ?_
  obtain ⟨b, us, h1, h2, h3⟩ := ht _ (List.mem_cons_self ..)
  cases vs with
  | nil => exact hv.elim
  | cons v vs =>
    cases vs with
    | cons _ _ => exact hv.2.elim
    | nil =>
      obtain ⟨⟨b', k1, k2⟩, _⟩ := hv
      rw [h1] at k1
      cases k1
      cases us with
      | nil => exact h3.elim
      | cons u us =>
        obtain ⟨⟨b2, g1, g2⟩, _⟩ := h3
        rw [h1] at g1
        cases g1
        dsimp only at k2 g2
        subst k2
        have c0 : w.cell? ⟨b, 0, none⟩ = some (.pointer (some ⟨b, 0, none⟩)) := by rw [Lib.cell_of_heap h2, g2]; rfl
        refine Calls.mono (Any.Builder_copyCheck_used (ρ := Tryz.lays156_ren) { Tryz.lays156 with } Tryz.Builder_Extra_156.toX72 b w c0) ?_
        rintro e w' ⟨rfl, rfl⟩
        exact ⟨(), _, rfl, trivial, ⟨[], rfl, trivial⟩, rfl⟩
set_option maxRecDepth 20000 in
theorem ccN_c (l : List UInt8) : Con Tryz.prog 47 [.o (.ptr 0 0)] (blN l) 2 2 U (fun _ => .t []) (fun _ => blC l) := by
  refine ⟨⟨Tryz.f47, Tryz.func47, by kernel_rfl, by kernel_rfl⟩, rfl, Nat.le_refl _, fun x => ⟨rfl, rfl⟩, fun w S ν vs hv ht hnd hbk hS => ?_⟩
  obtain ⟨b, us, h1, h2, h3⟩ := ht _ (List.mem_cons_self ..)
  have ho := ht _ (List.mem_cons_of_mem _ (List.mem_cons_self ..))
  cases vs with
  | nil => exact hv.elim
  | cons v vs =>
    cases vs with
    | cons _ _ => exact hv.2.elim
    | nil =>
      obtain ⟨⟨b', k1, k2⟩, _⟩ := hv
      rw [h1] at k1
      cases k1
      match us, h3, h2 with
      | [u0, u1], ⟨g0, g1, _⟩, h2 =>
        obtain ⟨g0, _⟩ := g0
        subst g0
        dsimp only at k2
        subst k2
        have c0 : w.cell? ⟨b, 0, none⟩ = some (.pointer none) := by rw [Lib.cell_of_heap h2]; rfl
        have hsh : w.shape? b = some (51, 2) := by simp [World.shape?, h2]
        have hfz : w.frozen? ⟨b, 0, none⟩ = false := Lib.frozen_of_heap h2 0
        have hbk0 : b ∈ blks ν (blN l) := mem_blks.2 ⟨_, List.mem_cons_self .., by simp [Chunk.blk, h1]⟩
        have hne : ∀ k, (Chunk.own 1 5 1 (bytesC l)).blk ν = some k → k ≠ b := by
          intro k hk e
          subst e
          simp only [blks, blN, List.filterMap_cons, List.filterMap_nil, hk] at hnd
          have e0 : (Chunk.box 0 51 [.c (.pointer none), .own 1]).blk ν = some k := by simp [Chunk.blk, h1]
          rw [e0] at hnd
          simp at hnd
        have gr : Gr w (w.setCell ⟨b, 0, none⟩ (.pointer (some ⟨b, 0, none⟩))) S S := ⟨by simp [World.setCell], fun k hs _ => Below.heap_setCell w ⟨b, 0, none⟩ _ k fun e => (hbk b hbk0).2 (by have e : k = b := e; rw [← e]; exact hs), fun _ h => h⟩
        have eb : ∀ {A B : List A1}, blks ν [.box 0 51 A, .own 1 5 1 (bytesC l)] = blks ν [.box 0 51 B, .own 1 5 1 (bytesC l)] := rfl
        refine Calls.mono (Any.Builder_copyCheck_fresh (ρ := Tryz.lays156_ren) { Tryz.lays156 with } Tryz.Builder_Extra_156.toX72 b w c0 hsh hfz) ?_
        rintro e w' ⟨rfl, rfl⟩
        refine ⟨(), S, ν, _, rfl, trivial, ⟨[], rfl, trivial⟩, ⟨rfl, rfl, rfl, by simp [World.setCell], fun k hk hn => Below.heap_setCell w ⟨b, 0, none⟩ _ k fun e => hn (by have e : k = b := e; rw [e]; exact hbk0)⟩, fun _ _ => rfl, fun _ h => h, fun k hk => ⟨by have := hS k hk; simpa [World.setCell] using this, .inl hk⟩, ?_, ?_, ?_⟩
        · intro c hc
          rcases List.mem_cons.1 hc with rfl | hc
          · exact ⟨b, [.pointer (some ⟨b, 0, none⟩), u1], h1, heap_setCell_same h2, ⟨b, h1, rfl⟩, A1.mono (m := 2) gr (fun _ _ => rfl) (show 1 < 2 by decide) g1, trivial⟩
          · rw [List.mem_singleton.1 hc]
            exact Chunk.mono (m := 2) gr (fun _ _ => rfl) (show 1 < 2 by decide) (fun k hk => Below.heap_setCell w ⟨b, 0, none⟩ _ k (hne k hk)) ho
        · exact hnd
        · intro k hk
          have := hbk k hk
          exact ⟨by simpa [World.setCell] using this.1, this.2, .inl hk⟩
section
variable {P : Program} {st : AS} {o : Oper} {K : Nat → Bool}
/-- unsafe.SliceData of a slice of the call's own that is not empty. -/
theorem m_sliceData {c : Call} {x : Operand} {t id E sz : Nat} {ct : Ct} (ho : o.op = .call c) (hc : c.callee = .builtin .unsafeSliceData) (hx : c.args.toList = [x]) (ht : c.argTypes.toList = [t]) (hv : aop st x = some (.o (.own id))) (hf : findOwn (fun _ => true) st.hp id = some (E, sz, ct)) (hn : 0 < ct.n) : StepTo P K o st (· = st.put o.dst (.o (.optr id sz 0 0))) := by
  intro X S ν a w Q K' hd sat hk
  obtain ⟨xs, h1, _⟩ := sat.hp _ (findOwn_ok hf).1
  obtain ⟨⟨h2, _⟩, h3⟩ := aop_ok sat hv
  obtain ⟨g, cap, e1, e2⟩ : ∃ g cap, ν id = .slice (some ⟨g, 0, none⟩) ct.n cap ∧ ct.n ≤ cap := by
    rcases h1.2 with ⟨_, hz⟩ | ⟨g, cap, cur, e1, _, _, e4, _⟩
    · omega
    · exact ⟨g, cap, e1, e4⟩
  obtain ⟨cs, ex⟩ := exec_builtin (a := a) ho hc hx (show c.argTypes = #[t] by rw [← Array.toList_inj]; exact ht)
  refine wp_value (w' := w) (u := .pointer (some ⟨g, 0, none⟩)) ?_ (hk _ S ν _ _ rfl (sat.put hd (v := .o (.optr id sz 0 0)) ⟨g, ct.n, cap, e1, by simp⟩ h3) ⟨Nat.le_refl _, fun _ h => h, fun ch hc hk => ⟨by rw [(AS.put_hp _ _ _).1]; exact hc, rfl⟩, fun _ _ => rfl⟩)
  rw [ex]
  have hr := Lib.run_unsafeSliceData_row (P := P) (w := w) #[t] o.type ⟨g, 0, none⟩ ct.n cap (by omega)
  simp only [builtin, List.map_cons, List.map_nil, Sem.run_bind, h2, e1]
  rw [hr]
  rfl
/-- unsafe.String of all bytes of a slice of the call's own: the slice is given up. -/
theorem m_unsafeString {c : Call} {p x : Operand} {pt it id E : Nat} {l : List UInt8} {rest : List Chunk} (ho : o.op = .call c) (hc : c.callee = .builtin .unsafeString) (hx : c.args.toList = [p, x]) (ht : c.argTypes.toList = [pt, it]) (hp : P.underlying pt = some (.pointer E)) (hE : P.cellsOf E = 1) (hv : aop st p = some (.o (.optr id 1 0 0))) (hl : aop st x = some (.o (.c (.int .i64 (l.length : Nat))))) (hf : takeOwn (fun i => !K i) st.hp id = some (E, 1, bytesC l, rest)) (hn : l ≠ []) : StepTo P K o st (· = (AS.mk st.env rest st.nid).put o.dst (.o (.c (.string (sB l))))) := by
  intro X S ν a w Q K' hd sat hk
  obtain ⟨hperm, hK⟩ := takeOwn_perm hf
  have hmem : Chunk.own id E 1 (bytesC l) ∈ st.hp := hperm.symm.subset (List.mem_cons_self ..)
  obtain ⟨xs, h1, h1b⟩ := sat.hp _ hmem
  have hn0 : 0 < l.length := List.length_pos_iff.2 hn
  have hbn : (bytesC l).n = l.length := rfl
  rw [hbn] at h1 h1b
  obtain ⟨g, cap, cur, e1, e3, e4, e5, e6, e7⟩ : ∃ g cap cur, ν id = .slice (some ⟨g, 0, none⟩) l.length cap ∧ w.heap[g]? = some (.cells cur E (0, 0)) ∧ l.length ≤ cap ∧ cap ≤ maxLen ∧ cur.size = cap * 1 ∧ cur.toList.take (l.length * 1) = xs := by
    rcases h1.2 with ⟨_, hz⟩ | ⟨g, cap, cur, e1, _, e3, e4, e5, e6, e7⟩
    · omega
    · exact ⟨g, cap, cur, e1, e3, e4, e5, e6, e7⟩
  have hblk : (Chunk.own id E 1 (bytesC l)).blk ν = some g := by simp [Chunk.blk, e1, Value.ownBlock]
  obtain ⟨⟨g', n', cp', k1, k2⟩, _⟩ := aop_ok sat hv
  rw [e1] at k1
  cases k1
  have hl2 : a.eval x = .int .i64 (l.length : Nat) := (aop_ok sat hl).1.1
  obtain ⟨cs, ex⟩ := exec_builtin (a := a) ho hc hx (show c.argTypes = #[pt, it] by rw [← Array.toList_inj]; exact ht)
  have hcell : ∀ j x, l[j]? = some x → w.cell? ((⟨g, 0, none⟩ : Addr).add j) = some (.int .u8 x.toNat) := fun j x hj => by
    have hjl : j < l.length := (List.getElem?_eq_some_iff.1 hj).1
    obtain ⟨u, u1, u2⟩ := h1b j 0 hjl (by decide)
    have hadd : (⟨g, 0, none⟩ : Addr).add j = ⟨g, j, none⟩ := (Lib.add_plain g 0 j).trans (by rw [Nat.zero_add])
    rw [hadd, Lib.cell_of_heap e3]
    have : xs[j]? = cur[j]? := by
      rw [← e7, List.getElem?_take, if_pos (by omega)]
      simp
    rw [Nat.mul_one, Nat.add_zero, this] at u1
    rw [u1, u2.1]
    show some (Value.int .u8 ((l.getD j 0).toNat : Int)) = _
    rw [List.getD_eq_getElem?_getD, hj, Option.getD_some]
  have hrun := Lib.run_unsafeString_row (P := P) w pt it o.type E hp hE g cur.size (by simp [World.shape?, e3]) l hn (by omega) (by unfold maxLen at e5; omega) hcell
  have hw' : (w.freeze ⟨g, 0, none⟩ l.length).heap.size = w.heap.size ∧ ∀ k, k ≠ g → (w.freeze ⟨g, 0, none⟩ l.length).heap[k]? = w.heap[k]? := by
    unfold World.freeze
    rw [if_neg (by omega)]
    refine ⟨by simp, fun k hk => ?_⟩
    simp only [Array.getElem?_modify]
    rw [if_neg (fun e => hk e.symm)]
  have hos : (w.freeze ⟨g, 0, none⟩ l.length).os = w.os ∧ (w.freeze ⟨g, 0, none⟩ l.length).tape = w.tape ∧ (w.freeze ⟨g, 0, none⟩ l.length).output = w.output := by
    unfold World.freeze
    rw [if_neg (by omega)]
    exact ⟨rfl, rfl, rfl⟩
  have hgb : g ∈ blks ν st.hp := mem_blks.2 ⟨_, hmem, hblk⟩
  obtain ⟨s1, s2⟩ := swap_kp (takes := [.own id E 1 (bytesC l)]) (gives := []) (rest := rest) (nid := st.nid) (ν' := ν) (S' := S) (K := K) (w' := w.freeze ⟨g, 0, none⟩ l.length) (o := o) (av := .o (.c (.string (sB l)))) (u := .string (sB l)) hd sat hperm
    (fun ch hc => by rw [List.mem_singleton.1 hc]; show K id = false; simpa using hK) ⟨hos.1, hos.2.1, hos.2.2, by rw [hw'.1]; exact Nat.le_refl _, fun k hk hn => hw'.2 k fun e => hn (mem_blks.2 ⟨_, List.mem_singleton.2 rfl, by rw [e]; exact hblk⟩)⟩ (fun _ _ => rfl) (fun _ h => h)
    (fun b hb => ⟨by rw [hw'.1]; exact (sat.imm b hb).1, .inl hb⟩) (fun c hc => nomatch hc) List.nodup_nil (fun b hb => nomatch hb) (fun c hc => nomatch hc) (Nat.le_refl _) ⟨rfl, rfl⟩ trivial
  refine wp_value (w' := w.freeze ⟨g, 0, none⟩ l.length) (u := .string (sB l)) ?_ (hk _ S ν _ _ rfl s1 s2)
  rw [ex]
  have k2' : a.eval p = .pointer (some ⟨g, 0, none⟩) := by rw [k2]
  simp only [builtin, List.map_cons, List.map_nil, Sem.run_bind, k2', hl2]
  rw [hrun]
  rfl
end
theorem str_ap (l s : List UInt8) : LeDC 1 (appC (bytesC l) (strC (sB s))) (bytesC (l ++ s)) := bytes_app (LeDC.refl _ _) (LeDC.refl _ _) rfl
set_option maxRecDepth 20000 in
theorem blWB_c (l : List UInt8) (c : UInt8) (hl : l.length ≤ 1000000) : Con Tryz.prog 22 [.o (.ptr 0 0), .o (.c (.int .u8 c.toNat))] (blC l) 2 3 U (fun _ => .o (.c .nilIface)) (fun _ => blG (l ++ [c])) := by
  refine con_of Tryz.func22 rfl (by kernel_rfl) Tryz.ntmps22 rfl (by first | exact Nat.zero_le _ | decide) (fun _ => ⟨rfl, rfl⟩) fun w S ν => ?_
  (repeat (first | (with_reducible refine AllP.go ?_; (first | exact trivial | exact fun i _ => ⟨_, rfl⟩ | ((try simp only [OS]); repeat' (first | omega | exact fun i _ => ⟨_, rfl⟩ | refine And.intro ?_ ?_)))) | (refine TE.rgo tysOk rfl (by rfl) ?_ ?_) | (with_reducible first | refine t1 ?_ | refine t2 ?_ | refine t3 ?_ | refine t4 ?_ | refine t5 ?_ | refine t6 ?_ | refine t7 ?_ | refine t8 ?_ | refine t9 ?_ | refine tA ?_ | refine tB ?_ | refine tC ?_ | refine tD rfl ?_ | refine tE ?_ | refine tF ?_ | refine tG ?_ | refine tH ?_ | refine tI ?_ | refine tJ ?_ | refine tK ?_ | refine tL ?_) | (with_reducible first | exact PanicOk.body | exact rd.panic | refine PanicOk.then' ?_ | refine PanicOk.block ?_ | refine PanicOk.jump ?_) | (refine TE.drawC (by rfl) (by rfl) (by rfl) (by rfl) ?_) | (refine TE.drawN (by rfl) (by rfl) (by rfl) ?_) | (refine TL.done (by rfl) ?_) | (refine TL.auto tysOk rfl ?_ (by rfl) ?_ ?_) | ((refine TL.one (by rfl) ?_); first | (refine StepL.mem tysOk rfl rfl rfl rfl (by rfl) ?_ (by rfl) ?_) | (refine StepL.pure tysOk rfl rfl rfl rfl (by rfl) ?_ (by rfl) ?_)) | (refine StepL.mem tysOk rfl rfl rfl rfl (by rfl) ?_ (by rfl) ?_) | refine TE.cond_true (by rfl) ?_ | refine TE.cond_false (by rfl) ?_))
  refine TE.callW (ccU_c l) rfl (by rfl) (by rfl) rfl (by rfl) (by (first | exact trivial | ((with_reducible refine AllP.go ?_); dsimp only [AllP, appP]; repeat' (first | with_reducible rfl | with_reducible exact LeD.refl | refine And.intro ?_ ?_ | (refine congrArg (Value.int _) ?_; first | omega | rfl | (simp only [Int.toNat_natCast]; omega)) | rfl | (refine congrArg Value.bool ?_; assumption) | assumption | exact LeD.refl)))) ?_
  intro _ _
  ((refine TE.run tysOk rfl (by rfl) ?_ ?_); (repeat (first | (with_reducible refine AllP.go ?_; (first | exact trivial | exact fun i _ => ⟨_, rfl⟩ | ((try simp only [OS]); repeat' (first | omega | exact fun i _ => ⟨_, rfl⟩ | refine And.intro ?_ ?_)))) | (refine TE.rgo tysOk rfl (by rfl) ?_ ?_) | (with_reducible first | refine t1 ?_ | refine t2 ?_ | refine t3 ?_ | refine t4 ?_ | refine t5 ?_ | refine t6 ?_ | refine t7 ?_ | refine t8 ?_ | refine t9 ?_ | refine tA ?_ | refine tB ?_ | refine tC ?_ | refine tD rfl ?_ | refine tE ?_ | refine tF ?_ | refine tG ?_ | refine tH ?_ | refine tI ?_ | refine tJ ?_ | refine tK ?_ | refine tL ?_) | (with_reducible first | exact PanicOk.body | exact rd.panic | refine PanicOk.then' ?_ | refine PanicOk.block ?_ | refine PanicOk.jump ?_) | (refine TE.drawC (by rfl) (by rfl) (by rfl) (by rfl) ?_) | (refine TE.drawN (by rfl) (by rfl) (by rfl) ?_) | (refine TL.done (by rfl) ?_) | (refine TL.auto tysOk rfl ?_ (by rfl) ?_ ?_) | ((refine TL.one (by rfl) ?_); first | (refine StepL.mem tysOk rfl rfl rfl rfl (by rfl) ?_ (by rfl) ?_) | (refine StepL.pure tysOk rfl rfl rfl rfl (by rfl) ?_ (by rfl) ?_)) | (refine StepL.mem tysOk rfl rfl rfl rfl (by rfl) ?_ (by rfl) ?_) | refine TE.cond_true (by rfl) ?_ | refine TE.cond_false (by rfl) ?_)))
  (refine TE.ret' (by first | exact .inl rfl | exact .inr rfl) rfl tysOk (()) ?_ rfl (by rfl) ?_; all_goals (try (first | exact trivial | ((with_reducible refine AllP.go ?_); dsimp only [AllP, appP]; repeat' (first | with_reducible rfl | with_reducible exact LeD.refl | refine And.intro ?_ ?_ | (refine congrArg (Value.int _) ?_; first | omega | rfl | (simp only [Int.toNat_natCast]; omega)) | rfl | (refine congrArg Value.bool ?_; assumption) | exact LeD.refl)))))
  exact bytes_app (LeDC.refl _ _) (byte_lit rfl) rfl
set_option maxRecDepth 20000 in
theorem blWSN_c (l s : List UInt8) (hl : l.length + s.length ≤ 1000000) : Con Tryz.prog 23 [.o (.ptr 0 0), .o (.c (.string (sB s)))] (blN l) 2 3 U (fun _ => .t [.inl (.c (.int .i64 (s.length : Nat))), .inl (.c .nilIface)]) (fun _ => blG (l ++ s)) := by
  refine con_of Tryz.func23 rfl (by kernel_rfl) Tryz.ntmps23 rfl (by first | exact Nat.zero_le _ | decide) (fun _ => ⟨rfl, rfl⟩) fun w S ν => ?_
  have hz := sB_size s
  (repeat (first | (with_reducible refine AllP.go ?_; (first | exact trivial | exact fun i _ => ⟨_, rfl⟩ | ((try simp only [OS]); repeat' (first | omega | exact fun i _ => ⟨_, rfl⟩ | refine And.intro ?_ ?_)))) | (refine TE.rgo tysOk rfl (by rfl) ?_ ?_) | (with_reducible first | refine t1 ?_ | refine t2 ?_ | refine t3 ?_ | refine t4 ?_ | refine t5 ?_ | refine t6 ?_ | refine t7 ?_ | refine t8 ?_ | refine t9 ?_ | refine tA ?_ | refine tB ?_ | refine tC ?_ | refine tD rfl ?_ | refine tE ?_ | refine tF ?_ | refine tG ?_ | refine tH ?_ | refine tI ?_ | refine tJ ?_ | refine tK ?_ | refine tL ?_) | (with_reducible first | exact PanicOk.body | exact rd.panic | refine PanicOk.then' ?_ | refine PanicOk.block ?_ | refine PanicOk.jump ?_) | (refine TE.drawC (by rfl) (by rfl) (by rfl) (by rfl) ?_) | (refine TE.drawN (by rfl) (by rfl) (by rfl) ?_) | (refine TL.done (by rfl) ?_) | (refine TL.auto tysOk rfl ?_ (by rfl) ?_ ?_) | ((refine TL.one (by rfl) ?_); first | (refine StepL.mem tysOk rfl rfl rfl rfl (by rfl) ?_ (by rfl) ?_) | (refine StepL.pure tysOk rfl rfl rfl rfl (by rfl) ?_ (by rfl) ?_)) | (refine StepL.mem tysOk rfl rfl rfl rfl (by rfl) ?_ (by rfl) ?_) | refine TE.cond_true (by rfl) ?_ | refine TE.cond_false (by rfl) ?_))
  refine TE.callW (ccN_c l) rfl (by rfl) (by rfl) rfl (by rfl) (by (first | exact trivial | ((with_reducible refine AllP.go ?_); dsimp only [AllP, appP]; repeat' (first | with_reducible rfl | with_reducible exact LeD.refl | refine And.intro ?_ ?_ | (refine congrArg (Value.int _) ?_; first | omega | rfl | (simp only [Int.toNat_natCast]; omega)) | rfl | (refine congrArg Value.bool ?_; assumption) | assumption | exact LeD.refl)))) ?_
  intro _ _
  ((refine TE.run tysOk rfl (by rfl) ?_ ?_); (repeat' (first | (with_reducible refine AllP.go ?_; (first | exact trivial | exact fun i _ => ⟨_, rfl⟩ | ((try simp only [OS]); repeat' (first | omega | exact fun i _ => ⟨_, rfl⟩ | refine And.intro ?_ ?_)))) | (refine TE.rgo tysOk rfl (by rfl) ?_ ?_) | (with_reducible first | refine t1 ?_ | refine t2 ?_ | refine t3 ?_ | refine t4 ?_ | refine t5 ?_ | refine t6 ?_ | refine t7 ?_ | refine t8 ?_ | refine t9 ?_ | refine tA ?_ | refine tB ?_ | refine tC ?_ | refine tD rfl ?_ | refine tE ?_ | refine tF ?_ | refine tG ?_ | refine tH ?_ | refine tI ?_ | refine tJ ?_ | refine tK ?_ | refine tL ?_) | (with_reducible first | exact PanicOk.body | exact rd.panic | refine PanicOk.then' ?_ | refine PanicOk.block ?_ | refine PanicOk.jump ?_) | (refine TE.drawC (by rfl) (by rfl) (by rfl) (by rfl) ?_) | (refine TE.drawN (by rfl) (by rfl) (by rfl) ?_) | (refine TL.done (by rfl) ?_) | (refine TL.auto tysOk rfl ?_ (by rfl) ?_ ?_) | ((refine TL.one (by rfl) ?_); first | (refine StepL.mem tysOk rfl rfl rfl rfl (by rfl) ?_ (by rfl) ?_) | (refine StepL.pure tysOk rfl rfl rfl rfl (by rfl) ?_ (by rfl) ?_)) | (refine StepL.mem tysOk rfl rfl rfl rfl (by rfl) ?_ (by rfl) ?_) | refine TE.cond_true (by rfl) ?_ | refine TE.cond_false (by rfl) ?_ | ((refine TE.gsplit (by rfl) (by rfl) ?_ ?_ <;> intro h <;> (try simp only [NS] at h) <;> (try (exfalso; first | omega | exact h trivial | exact h | exact h rfl | contradiction))) <;> (refine TE.run tysOk rfl (by rfl) ?_ ?_)) | ((first | refine TL.gsplit (by rfl) (by rfl) ?_ ?_ | refine TE.cond_split (by rfl) ?_ ?_) <;> intro h <;> (try simp only [NS] at h) <;> (try (exfalso; first | omega | exact h trivial | exact h | exact h rfl | contradiction))))))
  rw [hz]
  (refine TE.ret' (by first | exact .inl rfl | exact .inr rfl) rfl tysOk (()) ?_ rfl (by rfl) ?_; all_goals (try (first | exact trivial | ((with_reducible refine AllP.go ?_); dsimp only [AllP, appP]; repeat' (first | with_reducible rfl | with_reducible exact LeD.refl | refine And.intro ?_ ?_ | (refine congrArg (Value.int _) ?_; first | omega | rfl | (simp only [Int.toNat_natCast]; omega)) | rfl | (refine congrArg Value.bool ?_; assumption) | exact LeD.refl)))))
  exact str_ap l s
set_option maxRecDepth 20000 in
theorem blWS_c (l s : List UInt8) (hl : l.length + s.length ≤ 1000000) : Con Tryz.prog 23 [.o (.ptr 0 0), .o (.c (.string (sB s)))] (blC l) 2 3 U (fun _ => .t [.inl (.c (.int .i64 (s.length : Nat))), .inl (.c .nilIface)]) (fun _ => blG (l ++ s)) := by
  refine con_of Tryz.func23 rfl (by kernel_rfl) Tryz.ntmps23 rfl (by first | exact Nat.zero_le _ | decide) (fun _ => ⟨rfl, rfl⟩) fun w S ν => ?_
  have hz := sB_size s
  (repeat (first | (with_reducible refine AllP.go ?_; (first | exact trivial | exact fun i _ => ⟨_, rfl⟩ | ((try simp only [OS]); repeat' (first | omega | exact fun i _ => ⟨_, rfl⟩ | refine And.intro ?_ ?_)))) | (refine TE.rgo tysOk rfl (by rfl) ?_ ?_) | (with_reducible first | refine t1 ?_ | refine t2 ?_ | refine t3 ?_ | refine t4 ?_ | refine t5 ?_ | refine t6 ?_ | refine t7 ?_ | refine t8 ?_ | refine t9 ?_ | refine tA ?_ | refine tB ?_ | refine tC ?_ | refine tD rfl ?_ | refine tE ?_ | refine tF ?_ | refine tG ?_ | refine tH ?_ | refine tI ?_ | refine tJ ?_ | refine tK ?_ | refine tL ?_) | (with_reducible first | exact PanicOk.body | exact rd.panic | refine PanicOk.then' ?_ | refine PanicOk.block ?_ | refine PanicOk.jump ?_) | (refine TE.drawC (by rfl) (by rfl) (by rfl) (by rfl) ?_) | (refine TE.drawN (by rfl) (by rfl) (by rfl) ?_) | (refine TL.done (by rfl) ?_) | (refine TL.auto tysOk rfl ?_ (by rfl) ?_ ?_) | ((refine TL.one (by rfl) ?_); first | (refine StepL.mem tysOk rfl rfl rfl rfl (by rfl) ?_ (by rfl) ?_) | (refine StepL.pure tysOk rfl rfl rfl rfl (by rfl) ?_ (by rfl) ?_)) | (refine StepL.mem tysOk rfl rfl rfl rfl (by rfl) ?_ (by rfl) ?_) | refine TE.cond_true (by rfl) ?_ | refine TE.cond_false (by rfl) ?_))
  refine TE.callW (ccU_c l) rfl (by rfl) (by rfl) rfl (by rfl) (by (first | exact trivial | ((with_reducible refine AllP.go ?_); dsimp only [AllP, appP]; repeat' (first | with_reducible rfl | with_reducible exact LeD.refl | refine And.intro ?_ ?_ | (refine congrArg (Value.int _) ?_; first | omega | rfl | (simp only [Int.toNat_natCast]; omega)) | rfl | (refine congrArg Value.bool ?_; assumption) | assumption | exact LeD.refl)))) ?_
  intro _ _
  ((refine TE.run tysOk rfl (by rfl) ?_ ?_); (repeat' (first | (with_reducible refine AllP.go ?_; (first | exact trivial | exact fun i _ => ⟨_, rfl⟩ | ((try simp only [OS]); repeat' (first | omega | exact fun i _ => ⟨_, rfl⟩ | refine And.intro ?_ ?_)))) | (refine TE.rgo tysOk rfl (by rfl) ?_ ?_) | (with_reducible first | refine t1 ?_ | refine t2 ?_ | refine t3 ?_ | refine t4 ?_ | refine t5 ?_ | refine t6 ?_ | refine t7 ?_ | refine t8 ?_ | refine t9 ?_ | refine tA ?_ | refine tB ?_ | refine tC ?_ | refine tD rfl ?_ | refine tE ?_ | refine tF ?_ | refine tG ?_ | refine tH ?_ | refine tI ?_ | refine tJ ?_ | refine tK ?_ | refine tL ?_) | (with_reducible first | exact PanicOk.body | exact rd.panic | refine PanicOk.then' ?_ | refine PanicOk.block ?_ | refine PanicOk.jump ?_) | (refine TE.drawC (by rfl) (by rfl) (by rfl) (by rfl) ?_) | (refine TE.drawN (by rfl) (by rfl) (by rfl) ?_) | (refine TL.done (by rfl) ?_) | (refine TL.auto tysOk rfl ?_ (by rfl) ?_ ?_) | ((refine TL.one (by rfl) ?_); first | (refine StepL.mem tysOk rfl rfl rfl rfl (by rfl) ?_ (by rfl) ?_) | (refine StepL.pure tysOk rfl rfl rfl rfl (by rfl) ?_ (by rfl) ?_)) | (refine StepL.mem tysOk rfl rfl rfl rfl (by rfl) ?_ (by rfl) ?_) | refine TE.cond_true (by rfl) ?_ | refine TE.cond_false (by rfl) ?_ | ((refine TE.gsplit (by rfl) (by rfl) ?_ ?_ <;> intro h <;> (try simp only [NS] at h) <;> (try (exfalso; first | omega | exact h trivial | exact h | exact h rfl | contradiction))) <;> (refine TE.run tysOk rfl (by rfl) ?_ ?_)) | ((first | refine TL.gsplit (by rfl) (by rfl) ?_ ?_ | refine TE.cond_split (by rfl) ?_ ?_) <;> intro h <;> (try simp only [NS] at h) <;> (try (exfalso; first | omega | exact h trivial | exact h | exact h rfl | contradiction))))))
  rw [hz]
  (refine TE.ret' (by first | exact .inl rfl | exact .inr rfl) rfl tysOk (()) ?_ rfl (by rfl) ?_; all_goals (try (first | exact trivial | ((with_reducible refine AllP.go ?_); dsimp only [AllP, appP]; repeat' (first | with_reducible rfl | with_reducible exact LeD.refl | refine And.intro ?_ ?_ | (refine congrArg (Value.int _) ?_; first | omega | rfl | (simp only [Int.toNat_natCast]; omega)) | rfl | (refine congrArg Value.bool ?_; assumption) | exact LeD.refl)))))
  exact str_ap l s
set_option maxRecDepth 20000 in
theorem blLenN_c (l : List UInt8) : Con Tryz.prog 21 [.o (.ptr 0 0)] (blN l) 2 2 U (fun _ => .o (.c (.int .i64 (l.length : Nat)))) (fun _ => blN l) := by
  refine con_of Tryz.func21 rfl (by kernel_rfl) Tryz.ntmps21 rfl (by first | exact Nat.zero_le _ | decide) (fun _ => ⟨rfl, rfl⟩) fun w S ν => ?_
  (repeat' (first | (with_reducible refine AllP.go ?_; (first | exact trivial | exact fun i _ => ⟨_, rfl⟩ | ((try simp only [OS]); repeat' (first | omega | exact fun i _ => ⟨_, rfl⟩ | refine And.intro ?_ ?_)))) | (refine TE.rgo tysOk rfl (by rfl) ?_ ?_) | (with_reducible first | refine t1 ?_ | refine t2 ?_ | refine t3 ?_ | refine t4 ?_ | refine t5 ?_ | refine t6 ?_ | refine t7 ?_ | refine t8 ?_ | refine t9 ?_ | refine tA ?_ | refine tB ?_ | refine tC ?_ | refine tD rfl ?_ | refine tE ?_ | refine tF ?_ | refine tG ?_ | refine tH ?_ | refine tI ?_ | refine tJ ?_ | refine tK ?_ | refine tL ?_) | (with_reducible first | exact PanicOk.body | exact rd.panic | refine PanicOk.then' ?_ | refine PanicOk.block ?_ | refine PanicOk.jump ?_) | (refine TE.drawC (by rfl) (by rfl) (by rfl) (by rfl) ?_) | (refine TE.drawN (by rfl) (by rfl) (by rfl) ?_) | (refine TL.done (by rfl) ?_) | (refine TL.auto tysOk rfl ?_ (by rfl) ?_ ?_) | ((refine TL.one (by rfl) ?_); first | (refine StepL.mem tysOk rfl rfl rfl rfl (by rfl) ?_ (by rfl) ?_) | (refine StepL.pure tysOk rfl rfl rfl rfl (by rfl) ?_ (by rfl) ?_)) | (refine StepL.mem tysOk rfl rfl rfl rfl (by rfl) ?_ (by rfl) ?_) | refine TE.cond_true (by rfl) ?_ | refine TE.cond_false (by rfl) ?_ | ((refine TE.gsplit (by rfl) (by rfl) ?_ ?_ <;> intro h <;> (try simp only [NS] at h) <;> (try (exfalso; first | omega | exact h trivial | exact h | exact h rfl | contradiction))) <;> (refine TE.run tysOk rfl (by rfl) ?_ ?_)) | ((first | refine TL.gsplit (by rfl) (by rfl) ?_ ?_ | refine TE.cond_split (by rfl) ?_ ?_) <;> intro h <;> (try simp only [NS] at h) <;> (try (exfalso; first | omega | exact h trivial | exact h | exact h rfl | contradiction)))))
  (refine TE.ret' (by first | exact .inl rfl | exact .inr rfl) rfl tysOk (()) ?_ rfl (by rfl) ?_; all_goals (try (first | exact trivial | ((with_reducible refine AllP.go ?_); dsimp only [AllP, appP]; repeat' (first | with_reducible rfl | with_reducible exact LeD.refl | refine And.intro ?_ ?_ | (refine congrArg (Value.int _) ?_; first | omega | rfl | (simp only [Int.toNat_natCast]; omega)) | rfl | (refine congrArg Value.bool ?_; assumption) | exact LeD.refl)))))
set_option maxRecDepth 20000 in
theorem blLen_c (l : List UInt8) : Con Tryz.prog 21 [.o (.ptr 0 0)] (blC l) 2 2 U (fun _ => .o (.c (.int .i64 (l.length : Nat)))) (fun _ => blC l) := by
  refine con_of Tryz.func21 rfl (by kernel_rfl) Tryz.ntmps21 rfl (by first | exact Nat.zero_le _ | decide) (fun _ => ⟨rfl, rfl⟩) fun w S ν => ?_
  (repeat' (first | (with_reducible refine AllP.go ?_; (first | exact trivial | exact fun i _ => ⟨_, rfl⟩ | ((try simp only [OS]); repeat' (first | omega | exact fun i _ => ⟨_, rfl⟩ | refine And.intro ?_ ?_)))) | (refine TE.rgo tysOk rfl (by rfl) ?_ ?_) | (with_reducible first | refine t1 ?_ | refine t2 ?_ | refine t3 ?_ | refine t4 ?_ | refine t5 ?_ | refine t6 ?_ | refine t7 ?_ | refine t8 ?_ | refine t9 ?_ | refine tA ?_ | refine tB ?_ | refine tC ?_ | refine tD rfl ?_ | refine tE ?_ | refine tF ?_ | refine tG ?_ | refine tH ?_ | refine tI ?_ | refine tJ ?_ | refine tK ?_ | refine tL ?_) | (with_reducible first | exact PanicOk.body | exact rd.panic | refine PanicOk.then' ?_ | refine PanicOk.block ?_ | refine PanicOk.jump ?_) | (refine TE.drawC (by rfl) (by rfl) (by rfl) (by rfl) ?_) | (refine TE.drawN (by rfl) (by rfl) (by rfl) ?_) | (refine TL.done (by rfl) ?_) | (refine TL.auto tysOk rfl ?_ (by rfl) ?_ ?_) | ((refine TL.one (by rfl) ?_); first | (refine StepL.mem tysOk rfl rfl rfl rfl (by rfl) ?_ (by rfl) ?_) | (refine StepL.pure tysOk rfl rfl rfl rfl (by rfl) ?_ (by rfl) ?_)) | (refine StepL.mem tysOk rfl rfl rfl rfl (by rfl) ?_ (by rfl) ?_) | refine TE.cond_true (by rfl) ?_ | refine TE.cond_false (by rfl) ?_ | ((refine TE.gsplit (by rfl) (by rfl) ?_ ?_ <;> intro h <;> (try simp only [NS] at h) <;> (try (exfalso; first | omega | exact h trivial | exact h | exact h rfl | contradiction))) <;> (refine TE.run tysOk rfl (by rfl) ?_ ?_)) | ((first | refine TL.gsplit (by rfl) (by rfl) ?_ ?_ | refine TE.cond_split (by rfl) ?_ ?_) <;> intro h <;> (try simp only [NS] at h) <;> (try (exfalso; first | omega | exact h trivial | exact h | exact h rfl | contradiction)))))
  (refine TE.ret' (by first | exact .inl rfl | exact .inr rfl) rfl tysOk (()) ?_ rfl (by rfl) ?_; all_goals (try (first | exact trivial | ((with_reducible refine AllP.go ?_); dsimp only [AllP, appP]; repeat' (first | with_reducible rfl | with_reducible exact LeD.refl | refine And.intro ?_ ?_ | (refine congrArg (Value.int _) ?_; first | omega | rfl | (simp only [Int.toNat_natCast]; omega)) | rfl | (refine congrArg Value.bool ?_; assumption) | exact LeD.refl)))))
set_option maxRecDepth 20000 in
theorem blStr_c (l : List UInt8) (hl : l ≠ []) : Con Tryz.prog 25 [.o (.ptr 0 0)] (blC l) 2 2 U (fun _ => .o (.c (.string (sB l)))) (fun _ => []) := by
  refine con_of Tryz.func25 rfl (by kernel_rfl) Tryz.ntmps25 rfl (by first | exact Nat.zero_le _ | decide) (fun _ => ⟨rfl, rfl⟩) fun w S ν => ?_
  have h0 : 0 < (bytesC l).n := List.length_pos_iff.2 hl
  (repeat' (first | (with_reducible refine AllP.go ?_; (first | exact trivial | exact fun i _ => ⟨_, rfl⟩ | ((try simp only [OS]); repeat' (first | omega | exact fun i _ => ⟨_, rfl⟩ | refine And.intro ?_ ?_)))) | (refine TE.rgo tysOk rfl (by rfl) ?_ ?_) | (with_reducible first | refine t1 ?_ | refine t2 ?_ | refine t3 ?_ | refine t4 ?_ | refine t5 ?_ | refine t6 ?_ | refine t7 ?_ | refine t8 ?_ | refine t9 ?_ | refine tA ?_ | refine tB ?_ | refine tC ?_ | refine tD rfl ?_ | refine tE ?_ | refine tF ?_ | refine tG ?_ | refine tH ?_ | refine tI ?_ | refine tJ ?_ | refine tK ?_ | refine tL ?_) | refine TE.cond_true (by rfl) ?_ | refine TE.cond_false (by rfl) ?_ | ((refine TE.gsplit (by rfl) (by rfl) ?_ ?_ <;> intro h <;> (try simp only [NS] at h) <;> (try (exfalso; first | omega | exact h trivial | exact h | exact h rfl | contradiction))) <;> (refine TE.run tysOk rfl (by rfl) ?_ ?_)) | ((first | refine TL.gsplit (by rfl) (by rfl) ?_ ?_ | refine TE.cond_split (by rfl) ?_ ?_) <;> intro h <;> (try simp only [NS] at h) <;> (try (exfalso; first | omega | exact h trivial | exact h | exact h rfl | contradiction)))))
  (refine TE.drawK (fun _ => false) (by rfl) (by rfl) (by rfl) ?_)
  repeat' (first | (with_reducible refine AllP.go ?_; (first | exact trivial | exact fun i _ => ⟨_, rfl⟩ | ((try simp only [OS]); repeat' (first | omega | exact fun i _ => ⟨_, rfl⟩ | refine And.intro ?_ ?_)))) | (with_reducible first | exact PanicOk.body | exact rd.panic | refine PanicOk.then' ?_ | refine PanicOk.block ?_ | refine PanicOk.jump ?_) | (refine TL.done (by rfl) ?_) | (refine TL.auto tysOk rfl ?_ (by rfl) ?_ ?_) | (refine StepL.mem tysOk rfl rfl rfl rfl (by rfl) ?_ (by rfl) ?_) | (refine StepL.pure tysOk rfl rfl rfl rfl (by rfl) ?_ (by rfl) ?_) | (refine TL.one (by rfl) ?_) | (refine TL.two (by rfl) ?_ ?_) | (refine TL.three (by rfl) ?_ ?_ ?_) | (refine TL.four (by rfl) ?_ ?_ ?_ ?_) | (refine StepL.law rfl rfl rfl (fun _ h => nomatch h) (by rfl) (m_sliceData rfl rfl rfl rfl rfl (by rfl) ?_) (by rfl) ?_; rotate_left; rintro _ rfl; rotate_right) | (refine StepL.law rfl rfl rfl (fun _ h => nomatch h) (by rfl) (m_unsafeString rfl rfl rfl rfl rfl (by kernel_rfl) rfl rfl (by rfl) hl) (by rfl) ?_; rintro _ rfl))
  all_goals first | exact h0 | skip
  all_goals (repeat' (first | (with_reducible refine AllP.go ?_; (first | exact trivial | exact fun i _ => ⟨_, rfl⟩ | ((try simp only [OS]); repeat' (first | omega | exact fun i _ => ⟨_, rfl⟩ | refine And.intro ?_ ?_)))) | (refine TE.rgo tysOk rfl (by rfl) ?_ ?_) | (with_reducible first | refine t1 ?_ | refine t2 ?_ | refine t3 ?_ | refine t4 ?_ | refine t5 ?_ | refine t6 ?_ | refine t7 ?_ | refine t8 ?_ | refine t9 ?_ | refine tA ?_ | refine tB ?_ | refine tC ?_ | refine tD rfl ?_ | refine tE ?_ | refine tF ?_ | refine tG ?_ | refine tH ?_ | refine tI ?_ | refine tJ ?_ | refine tK ?_ | refine tL ?_) | refine TE.cond_true (by rfl) ?_ | refine TE.cond_false (by rfl) ?_ | ((refine TE.gsplit (by rfl) (by rfl) ?_ ?_ <;> intro h <;> (try simp only [NS] at h) <;> (try (exfalso; first | omega | exact h trivial | exact h | exact h rfl | contradiction))) <;> (refine TE.run tysOk rfl (by rfl) ?_ ?_)) | ((first | refine TL.gsplit (by rfl) (by rfl) ?_ ?_ | refine TE.cond_split (by rfl) ?_ ?_) <;> intro h <;> (try simp only [NS] at h) <;> (try (exfalso; first | omega | exact h trivial | exact h | exact h rfl | contradiction)))))
  all_goals (refine TE.ret' (by first | exact .inl rfl | exact .inr rfl) rfl tysOk (()) ?_ rfl (by rfl) ?_; all_goals (try (first | exact trivial | ((with_reducible refine AllP.go ?_); dsimp only [AllP, appP]; repeat' (first | with_reducible rfl | with_reducible exact LeD.refl | refine And.intro ?_ ?_ | (refine congrArg (Value.int _) ?_; first | omega | rfl | (simp only [Int.toNat_natCast]; omega)) | rfl | (refine congrArg Value.bool ?_; assumption) | exact LeD.refl)))))
end Go.Proofs.YtmeapfckibbbbaaGreatDoor.Am
/- The words: a list of numbers written, the program's. -/
set_option linter.unusedVariables false
namespace Go.Proofs.YtmeapfckibbbbaaGreatDoor.Am
open Go.RowKit Lw Wo

abbrev intC (l : List Int) : Ct := listC intR 0 l
set_option maxRecDepth 20000 in
set_option maxHeartbeats 8000000 in
theorem List_c (m : Int) (te : TypeId) (pe : Value) (l : List Int) (hl : l.length ≤ 1000000) : Con Tryz.prog 7 [.o (.ro 1 l.length (intC l).cell)] (glC m te pe) 4 4 U (fun _ => .t [.inl (.c (.string (sB (listI l).1))), .inl (.c (.int .i64 (listI l).2))]) (fun _ => glC m te pe) := by
  refine con_of Tryz.func7 rfl (by kernel_rfl) Tryz.ntmps7 rfl (by first | exact Nat.zero_le _ | decide) (fun _ => ⟨rfl, rfl⟩) fun w S ν => ?_
  (repeat' (first | (with_reducible refine AllP.go ?_; (first | exact trivial | exact fun i _ => ⟨_, rfl⟩ | ((try simp only [OS]); repeat' (first | omega | exact fun i _ => ⟨_, rfl⟩ | refine And.intro ?_ ?_)))) | (refine TE.rgo tysOk rfl (by rfl) ?_ ?_) | (with_reducible first | refine t1 ?_ | refine t2 ?_ | refine t3 ?_ | refine t4 ?_ | refine t5 ?_ | refine t6 ?_ | refine t7 ?_ | refine t8 ?_ | refine t9 ?_ | refine tA ?_ | refine tB ?_ | refine tC ?_ | refine tD rfl ?_ | refine tE ?_ | refine tF ?_ | refine tG ?_ | refine tH ?_ | refine tI ?_ | refine tJ ?_ | refine tK ?_ | refine tL ?_) | refine TE.cond_true (by rfl) ?_ | refine TE.cond_false (by rfl) ?_ | ((refine TE.gsplit (by rfl) (by rfl) ?_ ?_ <;> intro h <;> (try simp only [NS] at h) <;> (try (exfalso; first | omega | exact h trivial | exact h | exact h rfl | contradiction))) <;> (refine TE.run tysOk rfl (by rfl) ?_ ?_)) | ((first | refine TL.gsplit (by rfl) (by rfl) ?_ ?_ | refine TE.cond_split (by rfl) ?_ ?_) <;> intro h <;> (try simp only [NS] at h) <;> (try (exfalso; first | omega | exact h trivial | exact h | exact h rfl | contradiction)))))
  · rw [show listI l = ([], 3) from if_pos (by omega)]
    (refine TE.ret' (by first | exact .inl rfl | exact .inr rfl) rfl tysOk (()) ?_ rfl (by rfl) ?_; all_goals (try (first | exact trivial | ((with_reducible refine AllP.go ?_); dsimp only [AllP, appP]; repeat' (first | with_reducible rfl | with_reducible exact LeD.refl | refine And.intro ?_ ?_ | (refine congrArg (Value.int _) ?_; first | omega | rfl | (simp only [Int.toNat_natCast]; omega)) | rfl | (refine congrArg Value.bool ?_; assumption) | exact LeD.refl)))))
  have hl2 : l.length ≤ 500 := by omega
  refine TE.nilBox 4 1 5 1 (by rfl) (by rfl) ?_
  (refine TE.only [6, 5, 4, 0] (by rfl) ?_)
  refine TE.loopG (fun q : Nat => q ≤ l.length ∧ ∀ k, k < q → 0 ≤ l.getD k 0 ∧ l.getD k 0 ≤ 1000000000) (fun q => [(6, .o (.c (.int .i64 q))), (4, .o (.c (.int .i64 (formI l q))))]) [] (fun _ => []) (fun q => l.length - q) 0 (by rfl) ⟨Nat.zero_le _, fun k hk => absurd hk (Nat.not_lt_zero _)⟩ ?_ ?_
  · (refine Ent.of rfl rfl (by rfl) ?_; (try (first | exact trivial | ((with_reducible refine AllP.go ?_); dsimp only [AllP, appP]; repeat' (first | with_reducible rfl | with_reducible exact LeD.refl | refine And.intro ?_ ?_ | (refine congrArg (Value.int _) ?_; first | omega | rfl | (simp only [Int.toNat_natCast]; omega)) | rfl | (refine congrArg Value.bool ?_; assumption) | exact LeD.refl)))))
  rintro q ⟨g1, g2⟩
  have hq1 : ((q : Int) - 1).toNat = q - 1 := by omega
  (repeat' (first | (with_reducible refine AllP.go ?_; (first | exact trivial | exact fun i _ => ⟨_, rfl⟩ | ((try simp only [OS]); repeat' (first | omega | exact fun i _ => ⟨_, rfl⟩ | refine And.intro ?_ ?_)))) | (refine TE.rgo tysOk rfl (by rfl) ?_ ?_) | (with_reducible first | refine t1 ?_ | refine t2 ?_ | refine t3 ?_ | refine t4 ?_ | refine t5 ?_ | refine t6 ?_ | refine t7 ?_ | refine t8 ?_ | refine t9 ?_ | refine tA ?_ | refine tB ?_ | refine tC ?_ | refine tD rfl ?_ | refine tE ?_ | refine tF ?_ | refine tG ?_ | refine tH ?_ | refine tI ?_ | refine tJ ?_ | refine tK ?_ | refine tL ?_) | refine TE.cond_true (by rfl) ?_ | refine TE.cond_false (by rfl) ?_ | ((refine TE.gsplit (by rfl) (by rfl) ?_ ?_ <;> intro h <;> (try simp only [NS] at h) <;> (try (exfalso; first | omega | exact h trivial | exact h | exact h rfl | contradiction))) <;> (refine TE.run tysOk rfl (by rfl) ?_ ?_)) | ((first | refine TL.gsplit (by rfl) (by rfl) ?_ ?_ | refine TE.cond_split (by rfl) ?_ ?_) <;> intro h <;> (try simp only [NS] at h) <;> (try (exfalso; first | omega | exact h trivial | exact h | exact h rfl | contradiction)))))
  · rw [show listI l = ([], 7) by
      unfold listI
      rw [if_neg (by omega), if_pos (allN_no (k := q) (by omega) (by omega))]]
    (refine TE.ret' (by first | exact .inl rfl | exact .inr rfl) rfl tysOk (()) ?_ rfl (by rfl) ?_; all_goals (try (first | exact trivial | ((with_reducible refine AllP.go ?_); dsimp only [AllP, appP]; repeat' (first | with_reducible rfl | with_reducible exact LeD.refl | refine And.intro ?_ ?_ | (refine congrArg (Value.int _) ?_; first | omega | rfl | (simp only [Int.toNat_natCast]; omega)) | rfl | (refine congrArg Value.bool ?_; assumption) | exact LeD.refl)))))
  · rw [show listI l = ([], 7) by
      unfold listI
      rw [if_neg (by omega), if_pos (allN_no (k := q) (by omega) (by omega))]]
    (refine TE.ret' (by first | exact .inl rfl | exact .inr rfl) rfl tysOk (()) ?_ rfl (by rfl) ?_; all_goals (try (first | exact trivial | ((with_reducible refine AllP.go ?_); dsimp only [AllP, appP]; repeat' (first | with_reducible rfl | with_reducible exact LeD.refl | refine And.intro ?_ ?_ | (refine congrArg (Value.int _) ?_; first | omega | rfl | (simp only [Int.toNat_natCast]; omega)) | rfl | (refine congrArg Value.bool ?_; assumption) | exact LeD.refl)))))
  · have hf : formI l (q + 1) = 6 := if_pos ⟨by omega, by rw [← hq1]; assumption⟩
    refine TE.again' (q + 1) ⟨by omega, fun k hk => ?_⟩ (by omega) ?_
    · rcases Nat.lt_or_ge k q with hk2 | hk2
      · exact g2 k hk2
      · obtain rfl : k = q := by omega
        exact ⟨by assumption, by assumption⟩
    · rw [hf]
      (refine Ent.of rfl rfl (by rfl) ?_; (try (first | exact trivial | ((with_reducible refine AllP.go ?_); dsimp only [AllP, appP]; repeat' (first | with_reducible rfl | with_reducible exact LeD.refl | refine And.intro ?_ ?_ | (refine congrArg (Value.int _) ?_; first | omega | rfl | (simp only [Int.toNat_natCast]; omega)) | rfl | (refine congrArg Value.bool ?_; assumption) | exact LeD.refl)))))
  · have hf : formI l (q + 1) = formI l q := if_neg (fun k => by have := k.2; rw [← hq1] at this; omega)
    refine TE.again' (q + 1) ⟨by omega, fun k hk => ?_⟩ (by omega) ?_
    · rcases Nat.lt_or_ge k q with hk2 | hk2
      · exact g2 k hk2
      · obtain rfl : k = q := by omega
        exact ⟨by assumption, by assumption⟩
    · rw [hf]
      (refine Ent.of rfl rfl (by rfl) ?_; (try (first | exact trivial | ((with_reducible refine AllP.go ?_); dsimp only [AllP, appP]; repeat' (first | with_reducible rfl | with_reducible exact LeD.refl | refine And.intro ?_ ?_ | (refine congrArg (Value.int _) ?_; first | omega | rfl | (simp only [Int.toNat_natCast]; omega)) | rfl | (refine congrArg Value.bool ?_; assumption) | exact LeD.refl)))))
  · have hf : formI l (q + 1) = formI l q := if_neg (fun k => by omega)
    refine TE.again' (q + 1) ⟨by omega, fun k hk => ?_⟩ (by omega) ?_
    · rcases Nat.lt_or_ge k q with hk2 | hk2
      · exact g2 k hk2
      · obtain rfl : k = q := by omega
        exact ⟨by assumption, by assumption⟩
    · rw [hf]
      (refine Ent.of rfl rfl (by rfl) ?_; (try (first | exact trivial | ((with_reducible refine AllP.go ?_); dsimp only [AllP, appP]; repeat' (first | with_reducible rfl | with_reducible exact LeD.refl | refine And.intro ?_ ?_ | (refine congrArg (Value.int _) ?_; first | omega | rfl | (simp only [Int.toNat_natCast]; omega)) | rfl | (refine congrArg Value.bool ?_; assumption) | exact LeD.refl)))))
  obtain rfl : q = l.length := by omega
  have hok := allN_ok g2
  have hi : listI l = if formI l l.length ≠ 0 then ([], 6) else if l = [] then ([45], 0) else (Wo.listX l, 0) := by
    unfold listI
    rw [if_neg (by omega), if_neg (by rw [hok]; decide)]
  clear h hq1 g1
  (refine TE.only [8, 5, 4, 0] (by rfl) ?_)
  rcases formI_01 l l.length with hf | hf
  rotate_left
  · rw [hf] at hi ⊢
    rw [if_pos (by decide)] at hi
    rw [hi]
    refine TE.loopG (fun _ : Unit => True) (fun _ => [(8, .o (.c (.int .i64 0)))]) [] (fun _ => []) (fun _ => 0) () (by rfl) trivial ?_ ?_
    · (refine Ent.of rfl rfl (by rfl) ?_; (try (first | exact trivial | ((with_reducible refine AllP.go ?_); dsimp only [AllP, appP]; repeat' (first | with_reducible rfl | with_reducible exact LeD.refl | refine And.intro ?_ ?_ | (refine congrArg (Value.int _) ?_; first | omega | rfl | (simp only [Int.toNat_natCast]; omega)) | rfl | (refine congrArg Value.bool ?_; assumption) | exact LeD.refl)))))
    rintro ⟨⟩ _
    (repeat' (first | (with_reducible refine AllP.go ?_; (first | exact trivial | exact fun i _ => ⟨_, rfl⟩ | ((try simp only [OS]); repeat' (first | omega | exact fun i _ => ⟨_, rfl⟩ | refine And.intro ?_ ?_)))) | (refine TE.rgo tysOk rfl (by rfl) ?_ ?_) | (with_reducible first | refine t1 ?_ | refine t2 ?_ | refine t3 ?_ | refine t4 ?_ | refine t5 ?_ | refine t6 ?_ | refine t7 ?_ | refine t8 ?_ | refine t9 ?_ | refine tA ?_ | refine tB ?_ | refine tC ?_ | refine tD rfl ?_ | refine tE ?_ | refine tF ?_ | refine tG ?_ | refine tH ?_ | refine tI ?_ | refine tJ ?_ | refine tK ?_ | refine tL ?_) | refine TE.cond_true (by rfl) ?_ | refine TE.cond_false (by rfl) ?_ | ((refine TE.gsplit (by rfl) (by rfl) ?_ ?_ <;> intro h <;> (try simp only [NS] at h) <;> (try (exfalso; first | omega | exact h trivial | exact h | exact h rfl | contradiction))) <;> (refine TE.run tysOk rfl (by rfl) ?_ ?_)) | ((first | refine TL.gsplit (by rfl) (by rfl) ?_ ?_ | refine TE.cond_split (by rfl) ?_ ?_) <;> intro h <;> (try simp only [NS] at h) <;> (try (exfalso; first | omega | exact h trivial | exact h | exact h rfl | contradiction)))))
    all_goals (refine TE.ret' (by first | exact .inl rfl | exact .inr rfl) rfl tysOk (()) ?_ rfl (by rfl) ?_; all_goals (try (first | exact trivial | ((with_reducible refine AllP.go ?_); dsimp only [AllP, appP]; repeat' (first | with_reducible rfl | with_reducible exact LeD.refl | refine And.intro ?_ ?_ | (refine congrArg (Value.int _) ?_; first | omega | rfl | (simp only [Int.toNat_natCast]; omega)) | rfl | (refine congrArg Value.bool ?_; assumption) | exact LeD.refl)))))
  rw [hf] at hi ⊢
  rw [if_neg (fun k => k rfl)] at hi
  refine TE.loop' (ι := Option (Nat × Bs)) (fun x => match x with
    | none => True
    | some p => 0 < p.1 ∧ p.1 ≤ l.length ∧ p.2 ≠ [] ∧ p.2.length ≤ 44 * p.1 ∧ p.2 ++ tailG (l.drop p.1) = Wo.listX l)
    (fun x => match x with
    | none => ⟨[(8, .o (.c (.int .i64 0))), (5, .o (.ptr 4 0)), (4, .o (.c (.int .i64 0))), (0, .o (.ro 1 l.length (intC l).cell))], .box 4 51 [.c (.pointer none), .own 5] :: .own 5 5 1 (bytesC []) :: glC m te pe, 6⟩
    | some p => ⟨[(8, .o (.c (.int .i64 p.1))), (5, .o (.ptr 4 0)), (4, .o (.c (.int .i64 0))), (0, .o (.ro 1 l.length (intC l).cell))], .box 4 51 [.ptr 4 0, .own 6] :: .own 6 5 1 (bytesC p.2) :: glC m te pe, 7⟩)
    (fun x => match x with
    | none => l.length + 1
    | some p => l.length - p.1) none trivial ?_ ?_
  · (refine Ent.of rfl rfl (by rfl) ?_; (try (first | exact trivial | ((with_reducible refine AllP.go ?_); dsimp only [AllP, appP]; repeat' (first | with_reducible rfl | with_reducible exact LeD.refl | refine And.intro ?_ ?_ | (refine congrArg (Value.int _) ?_; first | omega | rfl | (simp only [Int.toNat_natCast]; omega)) | rfl | (refine congrArg Value.bool ?_; assumption) | exact LeD.refl)))))
    exact LeDC.nil rfl rfl
  rintro (_ | ⟨i, out⟩) hpre
  · clear hpre
    by_cases hlt : 0 < l.length
    · have hr := g2 0 hlt
      obtain ⟨a, ha⟩ : ∃ a, a = l.getD 0 0 := ⟨_, rfl⟩
      rw [← ha] at hr
      (repeat (with_reducible first | refine t1 ?_ | refine t2 ?_ | refine t3 ?_ | refine t4 ?_ | refine t5 ?_ | refine t6 ?_ | refine t7 ?_ | refine t8 ?_ | refine t9 ?_ | refine tA ?_ | refine tB ?_ | refine tC ?_ | refine tD rfl ?_ | refine tE ?_ | refine tF ?_ | refine tG ?_ | refine tH ?_ | refine tI ?_ | refine tJ ?_ | refine tK ?_ | refine tL ?_))
      ((refine TE.rgo tysOk rfl (by rfl) ?_ ?_); try (with_reducible refine AllP.go ?_; (first | exact trivial | exact fun i _ => ⟨_, rfl⟩ | ((try simp only [OS]); repeat' (first | omega | exact fun i _ => ⟨_, rfl⟩ | refine And.intro ?_ ?_)))))
      ((refine TE.gsplit (by rfl) (by rfl) ?_ ?_ <;> intro h <;> (try simp only [NS] at h) <;> (try (exfalso; first | omega | exact h trivial | exact h | exact h rfl | contradiction))) <;> (refine TE.run tysOk rfl (by rfl) (by (first | exact trivial | exact fun i _ => ⟨_, rfl⟩ | ((try simp only [OS]); repeat' (first | omega | exact fun i _ => ⟨_, rfl⟩ | refine And.intro ?_ ?_)))) ?_))
      (repeat (with_reducible first | refine t1 ?_ | refine t2 ?_ | refine t3 ?_ | refine t4 ?_ | refine t5 ?_ | refine t6 ?_ | refine t7 ?_ | refine t8 ?_ | refine t9 ?_ | refine tA ?_ | refine tB ?_ | refine tC ?_ | refine tD rfl ?_ | refine tE ?_ | refine tF ?_ | refine tG ?_ | refine tH ?_ | refine tI ?_ | refine tJ ?_ | refine tK ?_ | refine tL ?_))
      (refine TE.cond_split (by rfl) ?_ ?_ <;> intro h <;> (try simp only [NS] at h) <;> (try (exfalso; first | omega | exact h trivial | exact h | exact h rfl | contradiction)))
      (repeat (with_reducible first | refine t1 ?_ | refine t2 ?_ | refine t3 ?_ | refine t4 ?_ | refine t5 ?_ | refine t6 ?_ | refine t7 ?_ | refine t8 ?_ | refine t9 ?_ | refine tA ?_ | refine tB ?_ | refine tC ?_ | refine tD rfl ?_ | refine tE ?_ | refine tF ?_ | refine tG ?_ | refine tH ?_ | refine tI ?_ | refine tJ ?_ | refine tK ?_ | refine tL ?_))
      ((refine TE.rgo tysOk rfl (by rfl) ?_ ?_); try (with_reducible refine AllP.go ?_; (first | exact trivial | exact fun i _ => ⟨_, rfl⟩ | ((try simp only [OS]); repeat' (first | omega | exact fun i _ => ⟨_, rfl⟩ | refine And.intro ?_ ?_)))))
      refine TE.done (TE.thenN ?_)
      refine TE.seqM (ι := Nat) (fun k => k < l.length ∧ (∀ j, j < k → l.getD (j + 1) 0 = a + j + 1) ∧ (k + 1 < l.length → l.getD (k + 1) 0 ≠ a + k + 1)) (fun k => ⟨[(9, .o (.c (.int .i64 a))), (8, .o (.c (.int .i64 ((k : Nat) : Int)))), (5, .o (.ptr 4 0)), (4, .o (.c (.int .i64 0))), (0, .o (.ro 1 l.length (intC l).cell))], .box 4 51 [.c (.pointer none), .own 5] :: .own 5 5 1 (bytesC []) :: glC m te pe, 6⟩) ?_ ?_
      · (refine TE.only [9, 8, 5, 4, 0] (by rfl) ?_)
        (repeat (with_reducible first | refine t1 ?_ | refine t2 ?_ | refine t3 ?_ | refine t4 ?_ | refine t5 ?_ | refine t6 ?_ | refine t7 ?_ | refine t8 ?_ | refine t9 ?_ | refine tA ?_ | refine tB ?_ | refine tC ?_ | refine tD rfl ?_ | refine tE ?_ | refine tF ?_ | refine tG ?_ | refine tH ?_ | refine tI ?_ | refine tJ ?_ | refine tK ?_ | refine tL ?_))
        refine TE.loopG (fun k : Nat => k < l.length ∧ ∀ j, j < k → l.getD (j + 1) 0 = a + j + 1) (fun k => [(8, .o (.c (.int .i64 ((k : Nat) : Int))))]) [] (fun _ => []) (fun k => l.length - k) 0 (by rfl) ⟨by omega, fun j hj => absurd hj (Nat.not_lt_zero _)⟩ ?_ ?_
        · (refine Ent.of rfl rfl (by rfl) ?_; (try (first | exact trivial | ((with_reducible refine AllP.go ?_); dsimp only [AllP, appP]; repeat' (first | with_reducible rfl | with_reducible exact LeD.refl | refine And.intro ?_ ?_ | (refine congrArg (Value.int _) ?_; first | omega | rfl | (simp only [Int.toNat_natCast]; omega)) | rfl | (refine congrArg Value.bool ?_; assumption) | exact LeD.refl)))))
        rintro k ⟨k1, k2⟩
        have hk3 : l.getD (k) 0 = a + k := by
          cases k with
          | zero => rw [ha]; simp
          | succ k => have := k2 k (Nat.lt_succ_self k); rw [this]; omega
        have hix : (((k : Nat) : Int) + 1).toNat = k + 1 := by omega
        have hr2 := g2 (k) k1
        (repeat' (first | (with_reducible refine AllP.go ?_; (first | exact trivial | exact fun i _ => ⟨_, rfl⟩ | ((try simp only [OS]); repeat' (first | omega | exact fun i _ => ⟨_, rfl⟩ | refine And.intro ?_ ?_)))) | (refine TE.rgo tysOk rfl (by rfl) ?_ ?_) | (with_reducible first | refine t1 ?_ | refine t2 ?_ | refine t3 ?_ | refine t4 ?_ | refine t5 ?_ | refine t6 ?_ | refine t7 ?_ | refine t8 ?_ | refine t9 ?_ | refine tA ?_ | refine tB ?_ | refine tC ?_ | refine tD rfl ?_ | refine tE ?_ | refine tF ?_ | refine tG ?_ | refine tH ?_ | refine tI ?_ | refine tJ ?_ | refine tK ?_ | refine tL ?_) | (with_reducible first | exact PanicOk.body | exact rd.panic | refine PanicOk.then' ?_ | refine PanicOk.block ?_ | refine PanicOk.jump ?_) | (refine TE.drawC (by rfl) (by rfl) (by rfl) (by rfl) ?_) | (refine TE.drawN (by rfl) (by rfl) (by rfl) ?_) | (refine TL.done (by rfl) ?_) | (refine TL.auto tysOk rfl ?_ (by rfl) ?_ ?_) | ((refine TL.one (by rfl) ?_); first | (refine StepL.mem tysOk rfl rfl rfl rfl (by rfl) ?_ (by rfl) ?_) | (refine StepL.pure tysOk rfl rfl rfl rfl (by rfl) ?_ (by rfl) ?_)) | (refine StepL.mem tysOk rfl rfl rfl rfl (by rfl) ?_ (by rfl) ?_) | refine TE.cond_true (by rfl) ?_ | refine TE.cond_false (by rfl) ?_ | ((refine TE.gsplit (by rfl) (by rfl) ?_ ?_ <;> intro h <;> (try simp only [NS] at h) <;> (try (exfalso; first | omega | exact h trivial | exact h | exact h rfl | contradiction))) <;> (refine TE.run tysOk rfl (by rfl) ?_ ?_)) | ((first | refine TL.gsplit (by rfl) (by rfl) ?_ ?_ | refine TE.cond_split (by rfl) ?_ ?_) <;> intro h <;> (try simp only [NS] at h) <;> (try (exfalso; first | omega | exact h trivial | exact h | exact h rfl | contradiction)))))
        · refine TE.again' (k + 1) ⟨by omega, fun j hj => ?_⟩ (by omega) ?_
          · rcases Nat.lt_or_ge j k with hj2 | hj2
            · exact k2 j hj2
            · obtain rfl : j = k := by omega
              have h : l.getD (((j : Nat) : Int) + 1).toNat 0 = l.getD (j) 0 + 1 := by assumption
              rw [hix, hk3] at h
              exact h
          · (refine Ent.of rfl rfl (by rfl) ?_; (try (first | exact trivial | ((with_reducible refine AllP.go ?_); dsimp only [AllP, appP]; repeat' (first | with_reducible rfl | with_reducible exact LeD.refl | refine And.intro ?_ ?_ | (refine congrArg (Value.int _) ?_; first | omega | rfl | (simp only [Int.toNat_natCast]; omega)) | rfl | (refine congrArg Value.bool ?_; assumption) | exact LeD.refl)))))
        · refine TE.at k ⟨k1, k2, fun _ e => ?_⟩ ?_
          · have h : ¬ l.getD (((k : Nat) : Int) + 1).toNat 0 = l.getD (k) 0 + 1 := by assumption
            rw [hix, hk3] at h
            exact h e
          · (refine Ent.of rfl rfl (by rfl) ?_; (try (first | exact trivial | ((with_reducible refine AllP.go ?_); dsimp only [AllP, appP]; repeat' (first | with_reducible rfl | with_reducible exact LeD.refl | refine And.intro ?_ ?_ | (refine congrArg (Value.int _) ?_; first | omega | rfl | (simp only [Int.toNat_natCast]; omega)) | rfl | (refine congrArg Value.bool ?_; assumption) | exact LeD.refl)))))
            all_goals exact congrArg (Value.int _) ha.symm
        · refine TE.at k ⟨k1, k2, fun e => absurd e (by omega)⟩ ?_
          (refine Ent.of rfl rfl (by rfl) ?_; (try (first | exact trivial | ((with_reducible refine AllP.go ?_); dsimp only [AllP, appP]; repeat' (first | with_reducible rfl | with_reducible exact LeD.refl | refine And.intro ?_ ?_ | (refine congrArg (Value.int _) ?_; first | omega | rfl | (simp only [Int.toNat_natCast]; omega)) | rfl | (refine congrArg Value.bool ?_; assumption) | exact LeD.refl)))))
          all_goals exact congrArg (Value.int _) ha.symm
      rintro k ⟨k1, k2, k3⟩
      have hk3 : l.getD (k) 0 = a + k := by
        cases k with
        | zero => rw [ha]; simp
        | succ k => have := k2 k (Nat.lt_succ_self k); rw [this]; omega
      have hr2 := g2 (k) k1
      have hi1 := Lib.itoa_length_le a (by omega) (by omega)
      have hi2 := Lib.itoa_length_le (a + k) (by omega) (by omega)
      (repeat' (first | (with_reducible refine AllP.go ?_; (first | exact trivial | exact fun i _ => ⟨_, rfl⟩ | ((try simp only [OS]); repeat' (first | omega | exact fun i _ => ⟨_, rfl⟩ | refine And.intro ?_ ?_)))) | (refine TE.rgo tysOk rfl (by rfl) ?_ ?_) | (with_reducible first | refine t1 ?_ | refine t2 ?_ | refine t3 ?_ | refine t4 ?_ | refine t5 ?_ | refine t6 ?_ | refine t7 ?_ | refine t8 ?_ | refine t9 ?_ | refine tA ?_ | refine tB ?_ | refine tC ?_ | refine tD rfl ?_ | refine tE ?_ | refine tF ?_ | refine tG ?_ | refine tH ?_ | refine tI ?_ | refine tJ ?_ | refine tK ?_ | refine tL ?_) | refine TE.cond_true (by rfl) ?_ | refine TE.cond_false (by rfl) ?_ | ((refine TE.gsplit (by rfl) (by rfl) ?_ ?_ <;> intro h <;> (try simp only [NS] at h) <;> (try (exfalso; first | omega | exact h trivial | exact h | exact h rfl | contradiction))) <;> (refine TE.run tysOk rfl (by rfl) ?_ ?_)) | ((first | refine TL.gsplit (by rfl) (by rfl) ?_ ?_ | refine TE.cond_split (by rfl) ?_ ?_) <;> intro h <;> (try simp only [NS] at h) <;> (try (exfalso; first | omega | exact h trivial | exact h | exact h rfl | contradiction)))))
      refine TE.callW (blLenN_c []) rfl (by rfl) (by rfl) rfl (by rfl) (by (first | exact trivial | ((with_reducible refine AllP.go ?_); dsimp only [AllP, appP]; repeat' (first | with_reducible rfl | with_reducible exact LeD.refl | refine And.intro ?_ ?_ | (refine congrArg (Value.int _) ?_; first | omega | rfl | (simp only [Int.toNat_natCast]; omega)) | rfl | (refine congrArg Value.bool ?_; assumption) | assumption | exact LeD.refl)))) ?_
      intro _ _
      ((refine TE.run tysOk rfl (by rfl) ?_ ?_); (repeat' (first | (with_reducible refine AllP.go ?_; (first | exact trivial | exact fun i _ => ⟨_, rfl⟩ | ((try simp only [OS]); repeat' (first | omega | exact fun i _ => ⟨_, rfl⟩ | refine And.intro ?_ ?_)))) | (refine TE.rgo tysOk rfl (by rfl) ?_ ?_) | (with_reducible first | refine t1 ?_ | refine t2 ?_ | refine t3 ?_ | refine t4 ?_ | refine t5 ?_ | refine t6 ?_ | refine t7 ?_ | refine t8 ?_ | refine t9 ?_ | refine tA ?_ | refine tB ?_ | refine tC ?_ | refine tD rfl ?_ | refine tE ?_ | refine tF ?_ | refine tG ?_ | refine tH ?_ | refine tI ?_ | refine tJ ?_ | refine tK ?_ | refine tL ?_) | refine TE.cond_true (by rfl) ?_ | refine TE.cond_false (by rfl) ?_ | ((refine TE.gsplit (by rfl) (by rfl) ?_ ?_ <;> intro h <;> (try simp only [NS] at h) <;> (try (exfalso; first | omega | exact h trivial | exact h | exact h rfl | contradiction))) <;> (refine TE.run tysOk rfl (by rfl) ?_ ?_)) | ((first | refine TL.gsplit (by rfl) (by rfl) ?_ ?_ | refine TE.cond_split (by rfl) ?_ ?_) <;> intro h <;> (try simp only [NS] at h) <;> (try (exfalso; first | omega | exact h trivial | exact h | exact h rfl | contradiction))))))
      refine TE.callW (itoa_c m te pe a (by omega)) rfl (by rfl) (by rfl) rfl (by rfl) (by (first | exact trivial | ((with_reducible refine AllP.go ?_); dsimp only [AllP, appP]; repeat' (first | with_reducible rfl | with_reducible exact LeD.refl | refine And.intro ?_ ?_ | (refine congrArg (Value.int _) ?_; first | omega | rfl | (simp only [Int.toNat_natCast]; omega)) | rfl | (refine congrArg Value.bool ?_; assumption) | assumption | exact LeD.refl)))) ?_
      intro _ _
      ((refine TE.run tysOk rfl (by rfl) ?_ ?_); try (with_reducible refine AllP.go ?_; (first | exact trivial | exact fun i _ => ⟨_, rfl⟩ | ((try simp only [OS]); repeat' (first | omega | exact fun i _ => ⟨_, rfl⟩ | refine And.intro ?_ ?_)))))
      refine TE.callW (blWSN_c [] (Lib.itoa a) (by simp; omega)) rfl (by rfl) (by rfl) rfl (by rfl) (by (first | exact trivial | ((with_reducible refine AllP.go ?_); dsimp only [AllP, appP]; repeat' (first | with_reducible rfl | with_reducible exact LeD.refl | refine And.intro ?_ ?_ | (refine congrArg (Value.int _) ?_; first | omega | rfl | (simp only [Int.toNat_natCast]; omega)) | rfl | (refine congrArg Value.bool ?_; assumption) | assumption | exact LeD.refl)))) ?_
      intro _ _
      rw [List.nil_append]
      ((refine TE.run tysOk rfl (by rfl) ?_ ?_); (repeat' (first | (with_reducible refine AllP.go ?_; (first | exact trivial | exact fun i _ => ⟨_, rfl⟩ | ((try simp only [OS]); repeat' (first | omega | exact fun i _ => ⟨_, rfl⟩ | refine And.intro ?_ ?_)))) | (refine TE.rgo tysOk rfl (by rfl) ?_ ?_) | (with_reducible first | refine t1 ?_ | refine t2 ?_ | refine t3 ?_ | refine t4 ?_ | refine t5 ?_ | refine t6 ?_ | refine t7 ?_ | refine t8 ?_ | refine t9 ?_ | refine tA ?_ | refine tB ?_ | refine tC ?_ | refine tD rfl ?_ | refine tE ?_ | refine tF ?_ | refine tG ?_ | refine tH ?_ | refine tI ?_ | refine tJ ?_ | refine tK ?_ | refine tL ?_) | refine TE.cond_true (by rfl) ?_ | refine TE.cond_false (by rfl) ?_ | ((refine TE.gsplit (by rfl) (by rfl) ?_ ?_ <;> intro h <;> (try simp only [NS] at h) <;> (try (exfalso; first | omega | exact h trivial | exact h | exact h rfl | contradiction))) <;> (refine TE.run tysOk rfl (by rfl) ?_ ?_)) | ((first | refine TL.gsplit (by rfl) (by rfl) ?_ ?_ | refine TE.cond_split (by rfl) ?_ ?_) <;> intro h <;> (try simp only [NS] at h) <;> (try (exfalso; first | omega | exact h trivial | exact h | exact h rfl | contradiction))))))
      · refine TE.callW (itoa_c m te pe (a + k) (by omega)) rfl (by rfl) (by rfl) rfl (by rfl) (by (first | exact trivial | ((with_reducible refine AllP.go ?_); dsimp only [AllP, appP]; repeat' (first | with_reducible rfl | with_reducible exact LeD.refl | refine And.intro ?_ ?_ | (refine congrArg (Value.int _) ?_; first | omega | rfl | (simp only [Int.toNat_natCast]; omega)) | rfl | (refine congrArg Value.bool ?_; assumption) | assumption | exact LeD.refl)))) ?_
        intro _ _
        have hz := sB_size (Lib.itoa (a + k))
        have hm1 : (ByteArray.mk #[45]).size = 1 := rfl
        have hk0 : k ≠ 0 := fun e => by subst e; rw [hk3] at h; omega
        have hrs := runS_k a hk0
        have hrl : (runS a k).length ≤ 43 := by rw [hrs]; simp; omega
        ((refine TE.run tysOk rfl (by rfl) ?_ ?_); try (with_reducible refine AllP.go ?_; (first | exact trivial | exact fun i _ => ⟨_, rfl⟩ | ((try simp only [OS]); repeat' (first | omega | exact fun i _ => ⟨_, rfl⟩ | refine And.intro ?_ ?_)))))
        rw [show (ByteArray.mk #[45]) ++ sB (Lib.itoa (a + k)) = sB (45 :: Lib.itoa (a + k)) from sB_app [45] _]
        refine TE.callW (blWS_c (Lib.itoa a) (45 :: Lib.itoa (a + k)) (by simp; omega)) rfl (by rfl) (by rfl) rfl (by rfl) (by (first | exact trivial | ((with_reducible refine AllP.go ?_); dsimp only [AllP, appP]; repeat' (first | with_reducible rfl | with_reducible exact LeD.refl | refine And.intro ?_ ?_ | (refine congrArg (Value.int _) ?_; first | omega | rfl | (simp only [Int.toNat_natCast]; omega)) | rfl | (refine congrArg Value.bool ?_; assumption) | assumption | exact LeD.refl)))) ?_
        intro _ _
        rw [show (Lib.itoa a) ++ 45 :: Lib.itoa (a + k) = (runS a k) from hrs.symm]
        ((refine TE.run tysOk rfl (by rfl) ?_ ?_); (repeat' (first | (with_reducible refine AllP.go ?_; (first | exact trivial | exact fun i _ => ⟨_, rfl⟩ | ((try simp only [OS]); repeat' (first | omega | exact fun i _ => ⟨_, rfl⟩ | refine And.intro ?_ ?_)))) | (refine TE.rgo tysOk rfl (by rfl) ?_ ?_) | (with_reducible first | refine t1 ?_ | refine t2 ?_ | refine t3 ?_ | refine t4 ?_ | refine t5 ?_ | refine t6 ?_ | refine t7 ?_ | refine t8 ?_ | refine t9 ?_ | refine tA ?_ | refine tB ?_ | refine tC ?_ | refine tD rfl ?_ | refine tE ?_ | refine tF ?_ | refine tG ?_ | refine tH ?_ | refine tI ?_ | refine tJ ?_ | refine tK ?_ | refine tL ?_) | refine TE.cond_true (by rfl) ?_ | refine TE.cond_false (by rfl) ?_ | ((refine TE.gsplit (by rfl) (by rfl) ?_ ?_ <;> intro h <;> (try simp only [NS] at h) <;> (try (exfalso; first | omega | exact h trivial | exact h | exact h rfl | contradiction))) <;> (refine TE.run tysOk rfl (by rfl) ?_ ?_)) | ((first | refine TL.gsplit (by rfl) (by rfl) ?_ ?_ | refine TE.cond_split (by rfl) ?_ ?_) <;> intro h <;> (try simp only [NS] at h) <;> (try (exfalso; first | omega | exact h trivial | exact h | exact h rfl | contradiction))))))
        refine TE.again' (some (k + 1, (runS a k))) ⟨Nat.succ_pos _, by dsimp only; omega, by rw [hrs]; simp, by dsimp only; omega, list_zero k1 ha.symm k2 k3⟩ (by dsimp only; omega) ?_
        (refine Ent.of rfl rfl (by rfl) ?_; (try (first | exact trivial | ((with_reducible refine AllP.go ?_); dsimp only [AllP, appP]; repeat' (first | with_reducible rfl | with_reducible exact LeD.refl | refine And.intro ?_ ?_ | (refine congrArg (Value.int _) ?_; first | omega | rfl | (simp only [Int.toNat_natCast]; omega)) | rfl | (refine congrArg Value.bool ?_; assumption) | exact LeD.refl)))))
      · have hk0 : k = 0 := by omega
        have hrs : runS a k = Lib.itoa a := by rw [hk0]; exact runS_0 a
        have hrl : (runS a k).length ≤ 43 := by rw [hrs]; omega
        rw [← hrs]
        refine TE.again' (some (k + 1, (runS a k))) ⟨Nat.succ_pos _, by dsimp only; omega, by rw [hrs]; exact itoa_ne a, by dsimp only; omega, list_zero k1 ha.symm k2 k3⟩ (by dsimp only; omega) ?_
        (refine Ent.of rfl rfl (by rfl) ?_; (try (first | exact trivial | ((with_reducible refine AllP.go ?_); dsimp only [AllP, appP]; repeat' (first | with_reducible rfl | with_reducible exact LeD.refl | refine And.intro ?_ ?_ | (refine congrArg (Value.int _) ?_; first | omega | rfl | (simp only [Int.toNat_natCast]; omega)) | rfl | (refine congrArg Value.bool ?_; assumption) | exact LeD.refl)))))
    · have hn : l = [] := List.length_eq_zero_iff.1 (by omega)
      rw [if_pos hn] at hi
      (repeat' (first | (with_reducible refine AllP.go ?_; (first | exact trivial | exact fun i _ => ⟨_, rfl⟩ | ((try simp only [OS]); repeat' (first | omega | exact fun i _ => ⟨_, rfl⟩ | refine And.intro ?_ ?_)))) | (refine TE.rgo tysOk rfl (by rfl) ?_ ?_) | (with_reducible first | refine t1 ?_ | refine t2 ?_ | refine t3 ?_ | refine t4 ?_ | refine t5 ?_ | refine t6 ?_ | refine t7 ?_ | refine t8 ?_ | refine t9 ?_ | refine tA ?_ | refine tB ?_ | refine tC ?_ | refine tD rfl ?_ | refine tE ?_ | refine tF ?_ | refine tG ?_ | refine tH ?_ | refine tI ?_ | refine tJ ?_ | refine tK ?_ | refine tL ?_) | refine TE.cond_true (by rfl) ?_ | refine TE.cond_false (by rfl) ?_ | ((refine TE.gsplit (by rfl) (by rfl) ?_ ?_ <;> intro h <;> (try simp only [NS] at h) <;> (try (exfalso; first | omega | exact h trivial | exact h | exact h rfl | contradiction))) <;> (refine TE.run tysOk rfl (by rfl) ?_ ?_)) | ((first | refine TL.gsplit (by rfl) (by rfl) ?_ ?_ | refine TE.cond_split (by rfl) ?_ ?_) <;> intro h <;> (try simp only [NS] at h) <;> (try (exfalso; first | omega | exact h trivial | exact h | exact h rfl | contradiction)))))
      rw [hi]
      (refine TE.ret' (by first | exact .inl rfl | exact .inr rfl) rfl tysOk (()) ?_ rfl (by rfl) ?_; all_goals (try (first | exact trivial | ((with_reducible refine AllP.go ?_); dsimp only [AllP, appP]; repeat' (first | with_reducible rfl | with_reducible exact LeD.refl | refine And.intro ?_ ?_ | (refine congrArg (Value.int _) ?_; first | omega | rfl | (simp only [Int.toNat_natCast]; omega)) | rfl | (refine congrArg Value.bool ?_; assumption) | exact LeD.refl)))))
  · obtain ⟨p1, p2, p3, p4, p5⟩ := hpre
    dsimp only at p1 p2 p3 p4 p5
    by_cases hlt : i < l.length
    · have hr := g2 i hlt
      obtain ⟨a, ha⟩ : ∃ a, a = l.getD i 0 := ⟨_, rfl⟩
      rw [← ha] at hr
      (repeat (with_reducible first | refine t1 ?_ | refine t2 ?_ | refine t3 ?_ | refine t4 ?_ | refine t5 ?_ | refine t6 ?_ | refine t7 ?_ | refine t8 ?_ | refine t9 ?_ | refine tA ?_ | refine tB ?_ | refine tC ?_ | refine tD rfl ?_ | refine tE ?_ | refine tF ?_ | refine tG ?_ | refine tH ?_ | refine tI ?_ | refine tJ ?_ | refine tK ?_ | refine tL ?_))
      ((refine TE.rgo tysOk rfl (by rfl) ?_ ?_); try (with_reducible refine AllP.go ?_; (first | exact trivial | exact fun i _ => ⟨_, rfl⟩ | ((try simp only [OS]); repeat' (first | omega | exact fun i _ => ⟨_, rfl⟩ | refine And.intro ?_ ?_)))))
      ((refine TE.gsplit (by rfl) (by rfl) ?_ ?_ <;> intro h <;> (try simp only [NS] at h) <;> (try (exfalso; first | omega | exact h trivial | exact h | exact h rfl | contradiction))) <;> (refine TE.run tysOk rfl (by rfl) (by (first | exact trivial | exact fun i _ => ⟨_, rfl⟩ | ((try simp only [OS]); repeat' (first | omega | exact fun i _ => ⟨_, rfl⟩ | refine And.intro ?_ ?_)))) ?_))
      (repeat (with_reducible first | refine t1 ?_ | refine t2 ?_ | refine t3 ?_ | refine t4 ?_ | refine t5 ?_ | refine t6 ?_ | refine t7 ?_ | refine t8 ?_ | refine t9 ?_ | refine tA ?_ | refine tB ?_ | refine tC ?_ | refine tD rfl ?_ | refine tE ?_ | refine tF ?_ | refine tG ?_ | refine tH ?_ | refine tI ?_ | refine tJ ?_ | refine tK ?_ | refine tL ?_))
      (refine TE.cond_split (by rfl) ?_ ?_ <;> intro h <;> (try simp only [NS] at h) <;> (try (exfalso; first | omega | exact h trivial | exact h | exact h rfl | contradiction)))
      (repeat (with_reducible first | refine t1 ?_ | refine t2 ?_ | refine t3 ?_ | refine t4 ?_ | refine t5 ?_ | refine t6 ?_ | refine t7 ?_ | refine t8 ?_ | refine t9 ?_ | refine tA ?_ | refine tB ?_ | refine tC ?_ | refine tD rfl ?_ | refine tE ?_ | refine tF ?_ | refine tG ?_ | refine tH ?_ | refine tI ?_ | refine tJ ?_ | refine tK ?_ | refine tL ?_))
      ((refine TE.rgo tysOk rfl (by rfl) ?_ ?_); try (with_reducible refine AllP.go ?_; (first | exact trivial | exact fun i _ => ⟨_, rfl⟩ | ((try simp only [OS]); repeat' (first | omega | exact fun i _ => ⟨_, rfl⟩ | refine And.intro ?_ ?_)))))
      refine TE.done (TE.thenN ?_)
      refine TE.seqM (ι := Nat) (fun k => i + k < l.length ∧ (∀ j, j < k → l.getD (i + j + 1) 0 = a + j + 1) ∧ (i + k + 1 < l.length → l.getD (i + k + 1) 0 ≠ a + k + 1)) (fun k => ⟨[(9, .o (.c (.int .i64 a))), (8, .o (.c (.int .i64 ((i + k : Nat) : Int)))), (5, .o (.ptr 4 0)), (4, .o (.c (.int .i64 0))), (0, .o (.ro 1 l.length (intC l).cell))], .box 4 51 [.ptr 4 0, .own 6] :: .own 6 5 1 (bytesC out) :: glC m te pe, 7⟩) ?_ ?_
      · (refine TE.only [9, 8, 5, 4, 0] (by rfl) ?_)
        (repeat (with_reducible first | refine t1 ?_ | refine t2 ?_ | refine t3 ?_ | refine t4 ?_ | refine t5 ?_ | refine t6 ?_ | refine t7 ?_ | refine t8 ?_ | refine t9 ?_ | refine tA ?_ | refine tB ?_ | refine tC ?_ | refine tD rfl ?_ | refine tE ?_ | refine tF ?_ | refine tG ?_ | refine tH ?_ | refine tI ?_ | refine tJ ?_ | refine tK ?_ | refine tL ?_))
        refine TE.loopG (fun k : Nat => i + k < l.length ∧ ∀ j, j < k → l.getD (i + j + 1) 0 = a + j + 1) (fun k => [(8, .o (.c (.int .i64 ((i + k : Nat) : Int))))]) [] (fun _ => []) (fun k => l.length - k) 0 (by rfl) ⟨by omega, fun j hj => absurd hj (Nat.not_lt_zero _)⟩ ?_ ?_
        · (refine Ent.of rfl rfl (by rfl) ?_; (try (first | exact trivial | ((with_reducible refine AllP.go ?_); dsimp only [AllP, appP]; repeat' (first | with_reducible rfl | with_reducible exact LeD.refl | refine And.intro ?_ ?_ | (refine congrArg (Value.int _) ?_; first | omega | rfl | (simp only [Int.toNat_natCast]; omega)) | rfl | (refine congrArg Value.bool ?_; assumption) | exact LeD.refl)))))
        rintro k ⟨k1, k2⟩
        have hk3 : l.getD (i + k) 0 = a + k := by
          cases k with
          | zero => rw [ha]; simp
          | succ k => have := k2 k (Nat.lt_succ_self k); rw [← Nat.add_assoc, this]; omega
        have hix : (((i + k : Nat) : Int) + 1).toNat = i + k + 1 := by omega
        have hr2 := g2 (i + k) k1
        (repeat' (first | (with_reducible refine AllP.go ?_; (first | exact trivial | exact fun i _ => ⟨_, rfl⟩ | ((try simp only [OS]); repeat' (first | omega | exact fun i _ => ⟨_, rfl⟩ | refine And.intro ?_ ?_)))) | (refine TE.rgo tysOk rfl (by rfl) ?_ ?_) | (with_reducible first | refine t1 ?_ | refine t2 ?_ | refine t3 ?_ | refine t4 ?_ | refine t5 ?_ | refine t6 ?_ | refine t7 ?_ | refine t8 ?_ | refine t9 ?_ | refine tA ?_ | refine tB ?_ | refine tC ?_ | refine tD rfl ?_ | refine tE ?_ | refine tF ?_ | refine tG ?_ | refine tH ?_ | refine tI ?_ | refine tJ ?_ | refine tK ?_ | refine tL ?_) | (with_reducible first | exact PanicOk.body | exact rd.panic | refine PanicOk.then' ?_ | refine PanicOk.block ?_ | refine PanicOk.jump ?_) | (refine TE.drawC (by rfl) (by rfl) (by rfl) (by rfl) ?_) | (refine TE.drawN (by rfl) (by rfl) (by rfl) ?_) | (refine TL.done (by rfl) ?_) | (refine TL.auto tysOk rfl ?_ (by rfl) ?_ ?_) | ((refine TL.one (by rfl) ?_); first | (refine StepL.mem tysOk rfl rfl rfl rfl (by rfl) ?_ (by rfl) ?_) | (refine StepL.pure tysOk rfl rfl rfl rfl (by rfl) ?_ (by rfl) ?_)) | (refine StepL.mem tysOk rfl rfl rfl rfl (by rfl) ?_ (by rfl) ?_) | refine TE.cond_true (by rfl) ?_ | refine TE.cond_false (by rfl) ?_ | ((refine TE.gsplit (by rfl) (by rfl) ?_ ?_ <;> intro h <;> (try simp only [NS] at h) <;> (try (exfalso; first | omega | exact h trivial | exact h | exact h rfl | contradiction))) <;> (refine TE.run tysOk rfl (by rfl) ?_ ?_)) | ((first | refine TL.gsplit (by rfl) (by rfl) ?_ ?_ | refine TE.cond_split (by rfl) ?_ ?_) <;> intro h <;> (try simp only [NS] at h) <;> (try (exfalso; first | omega | exact h trivial | exact h | exact h rfl | contradiction)))))
        · refine TE.again' (k + 1) ⟨by omega, fun j hj => ?_⟩ (by omega) ?_
          · rcases Nat.lt_or_ge j k with hj2 | hj2
            · exact k2 j hj2
            · obtain rfl : j = k := by omega
              have h : l.getD (((i + j : Nat) : Int) + 1).toNat 0 = l.getD (i + j) 0 + 1 := by assumption
              rw [hix, hk3] at h
              exact h
          · (refine Ent.of rfl rfl (by rfl) ?_; (try (first | exact trivial | ((with_reducible refine AllP.go ?_); dsimp only [AllP, appP]; repeat' (first | with_reducible rfl | with_reducible exact LeD.refl | refine And.intro ?_ ?_ | (refine congrArg (Value.int _) ?_; first | omega | rfl | (simp only [Int.toNat_natCast]; omega)) | rfl | (refine congrArg Value.bool ?_; assumption) | exact LeD.refl)))))
        · refine TE.at k ⟨k1, k2, fun _ e => ?_⟩ ?_
          · have h : ¬ l.getD (((i + k : Nat) : Int) + 1).toNat 0 = l.getD (i + k) 0 + 1 := by assumption
            rw [hix, hk3] at h
            exact h e
          · (refine Ent.of rfl rfl (by rfl) ?_; (try (first | exact trivial | ((with_reducible refine AllP.go ?_); dsimp only [AllP, appP]; repeat' (first | with_reducible rfl | with_reducible exact LeD.refl | refine And.intro ?_ ?_ | (refine congrArg (Value.int _) ?_; first | omega | rfl | (simp only [Int.toNat_natCast]; omega)) | rfl | (refine congrArg Value.bool ?_; assumption) | exact LeD.refl)))))
            all_goals exact congrArg (Value.int _) ha.symm
        · refine TE.at k ⟨k1, k2, fun e => absurd e (by omega)⟩ ?_
          (refine Ent.of rfl rfl (by rfl) ?_; (try (first | exact trivial | ((with_reducible refine AllP.go ?_); dsimp only [AllP, appP]; repeat' (first | with_reducible rfl | with_reducible exact LeD.refl | refine And.intro ?_ ?_ | (refine congrArg (Value.int _) ?_; first | omega | rfl | (simp only [Int.toNat_natCast]; omega)) | rfl | (refine congrArg Value.bool ?_; assumption) | exact LeD.refl)))))
          all_goals exact congrArg (Value.int _) ha.symm
      rintro k ⟨k1, k2, k3⟩
      have hk3 : l.getD (i + k) 0 = a + k := by
        cases k with
        | zero => rw [ha]; simp
        | succ k => have := k2 k (Nat.lt_succ_self k); rw [← Nat.add_assoc, this]; omega
      have hr2 := g2 (i + k) k1
      have hi1 := Lib.itoa_length_le a (by omega) (by omega)
      have hi2 := Lib.itoa_length_le (a + k) (by omega) (by omega)
      (repeat' (first | (with_reducible refine AllP.go ?_; (first | exact trivial | exact fun i _ => ⟨_, rfl⟩ | ((try simp only [OS]); repeat' (first | omega | exact fun i _ => ⟨_, rfl⟩ | refine And.intro ?_ ?_)))) | (refine TE.rgo tysOk rfl (by rfl) ?_ ?_) | (with_reducible first | refine t1 ?_ | refine t2 ?_ | refine t3 ?_ | refine t4 ?_ | refine t5 ?_ | refine t6 ?_ | refine t7 ?_ | refine t8 ?_ | refine t9 ?_ | refine tA ?_ | refine tB ?_ | refine tC ?_ | refine tD rfl ?_ | refine tE ?_ | refine tF ?_ | refine tG ?_ | refine tH ?_ | refine tI ?_ | refine tJ ?_ | refine tK ?_ | refine tL ?_) | refine TE.cond_true (by rfl) ?_ | refine TE.cond_false (by rfl) ?_ | ((refine TE.gsplit (by rfl) (by rfl) ?_ ?_ <;> intro h <;> (try simp only [NS] at h) <;> (try (exfalso; first | omega | exact h trivial | exact h | exact h rfl | contradiction))) <;> (refine TE.run tysOk rfl (by rfl) ?_ ?_)) | ((first | refine TL.gsplit (by rfl) (by rfl) ?_ ?_ | refine TE.cond_split (by rfl) ?_ ?_) <;> intro h <;> (try simp only [NS] at h) <;> (try (exfalso; first | omega | exact h trivial | exact h | exact h rfl | contradiction)))))
      refine TE.callW (blLen_c out) rfl (by rfl) (by rfl) rfl (by rfl) (by (first | exact trivial | ((with_reducible refine AllP.go ?_); dsimp only [AllP, appP]; repeat' (first | with_reducible rfl | with_reducible exact LeD.refl | refine And.intro ?_ ?_ | (refine congrArg (Value.int _) ?_; first | omega | rfl | (simp only [Int.toNat_natCast]; omega)) | rfl | (refine congrArg Value.bool ?_; assumption) | assumption | exact LeD.refl)))) ?_
      intro _ _
      have ho1 : 0 < out.length := List.length_pos_iff.2 p3
      ((refine TE.run tysOk rfl (by rfl) ?_ ?_); (repeat' (first | (with_reducible refine AllP.go ?_; (first | exact trivial | exact fun i _ => ⟨_, rfl⟩ | ((try simp only [OS]); repeat' (first | omega | exact fun i _ => ⟨_, rfl⟩ | refine And.intro ?_ ?_)))) | (refine TE.rgo tysOk rfl (by rfl) ?_ ?_) | (with_reducible first | refine t1 ?_ | refine t2 ?_ | refine t3 ?_ | refine t4 ?_ | refine t5 ?_ | refine t6 ?_ | refine t7 ?_ | refine t8 ?_ | refine t9 ?_ | refine tA ?_ | refine tB ?_ | refine tC ?_ | refine tD rfl ?_ | refine tE ?_ | refine tF ?_ | refine tG ?_ | refine tH ?_ | refine tI ?_ | refine tJ ?_ | refine tK ?_ | refine tL ?_) | refine TE.cond_true (by rfl) ?_ | refine TE.cond_false (by rfl) ?_ | ((refine TE.gsplit (by rfl) (by rfl) ?_ ?_ <;> intro h <;> (try simp only [NS] at h) <;> (try (exfalso; first | omega | exact h trivial | exact h | exact h rfl | contradiction))) <;> (refine TE.run tysOk rfl (by rfl) ?_ ?_)) | ((first | refine TL.gsplit (by rfl) (by rfl) ?_ ?_ | refine TE.cond_split (by rfl) ?_ ?_) <;> intro h <;> (try simp only [NS] at h) <;> (try (exfalso; first | omega | exact h trivial | exact h | exact h rfl | contradiction))))))
      refine TE.callW (blWB_c out 44 (by omega)) rfl (by rfl) (by rfl) rfl (by rfl) (by (first | exact trivial | ((with_reducible refine AllP.go ?_); dsimp only [AllP, appP]; repeat' (first | with_reducible rfl | with_reducible exact LeD.refl | refine And.intro ?_ ?_ | (refine congrArg (Value.int _) ?_; first | omega | rfl | (simp only [Int.toNat_natCast]; omega)) | rfl | (refine congrArg Value.bool ?_; assumption) | assumption | exact LeD.refl)))) ?_
      intro _ _
      ((refine TE.run tysOk rfl (by rfl) ?_ ?_); (repeat' (first | (with_reducible refine AllP.go ?_; (first | exact trivial | exact fun i _ => ⟨_, rfl⟩ | ((try simp only [OS]); repeat' (first | omega | exact fun i _ => ⟨_, rfl⟩ | refine And.intro ?_ ?_)))) | (refine TE.rgo tysOk rfl (by rfl) ?_ ?_) | (with_reducible first | refine t1 ?_ | refine t2 ?_ | refine t3 ?_ | refine t4 ?_ | refine t5 ?_ | refine t6 ?_ | refine t7 ?_ | refine t8 ?_ | refine t9 ?_ | refine tA ?_ | refine tB ?_ | refine tC ?_ | refine tD rfl ?_ | refine tE ?_ | refine tF ?_ | refine tG ?_ | refine tH ?_ | refine tI ?_ | refine tJ ?_ | refine tK ?_ | refine tL ?_) | refine TE.cond_true (by rfl) ?_ | refine TE.cond_false (by rfl) ?_ | ((refine TE.gsplit (by rfl) (by rfl) ?_ ?_ <;> intro h <;> (try simp only [NS] at h) <;> (try (exfalso; first | omega | exact h trivial | exact h | exact h rfl | contradiction))) <;> (refine TE.run tysOk rfl (by rfl) ?_ ?_)) | ((first | refine TL.gsplit (by rfl) (by rfl) ?_ ?_ | refine TE.cond_split (by rfl) ?_ ?_) <;> intro h <;> (try simp only [NS] at h) <;> (try (exfalso; first | omega | exact h trivial | exact h | exact h rfl | contradiction))))))
      refine TE.callW (itoa_c m te pe a (by omega)) rfl (by rfl) (by rfl) rfl (by rfl) (by (first | exact trivial | ((with_reducible refine AllP.go ?_); dsimp only [AllP, appP]; repeat' (first | with_reducible rfl | with_reducible exact LeD.refl | refine And.intro ?_ ?_ | (refine congrArg (Value.int _) ?_; first | omega | rfl | (simp only [Int.toNat_natCast]; omega)) | rfl | (refine congrArg Value.bool ?_; assumption) | assumption | exact LeD.refl)))) ?_
      intro _ _
      ((refine TE.run tysOk rfl (by rfl) ?_ ?_); try (with_reducible refine AllP.go ?_; (first | exact trivial | exact fun i _ => ⟨_, rfl⟩ | ((try simp only [OS]); repeat' (first | omega | exact fun i _ => ⟨_, rfl⟩ | refine And.intro ?_ ?_)))))
      refine TE.callW (blWS_c (out ++ [44]) (Lib.itoa a) (by simp; omega)) rfl (by rfl) (by rfl) rfl (by rfl) (by (first | exact trivial | ((with_reducible refine AllP.go ?_); dsimp only [AllP, appP]; repeat' (first | with_reducible rfl | with_reducible exact LeD.refl | refine And.intro ?_ ?_ | (refine congrArg (Value.int _) ?_; first | omega | rfl | (simp only [Int.toNat_natCast]; omega)) | rfl | (refine congrArg Value.bool ?_; assumption) | assumption | exact LeD.refl)))) ?_
      intro _ _
      ((refine TE.run tysOk rfl (by rfl) ?_ ?_); (repeat' (first | (with_reducible refine AllP.go ?_; (first | exact trivial | exact fun i _ => ⟨_, rfl⟩ | ((try simp only [OS]); repeat' (first | omega | exact fun i _ => ⟨_, rfl⟩ | refine And.intro ?_ ?_)))) | (refine TE.rgo tysOk rfl (by rfl) ?_ ?_) | (with_reducible first | refine t1 ?_ | refine t2 ?_ | refine t3 ?_ | refine t4 ?_ | refine t5 ?_ | refine t6 ?_ | refine t7 ?_ | refine t8 ?_ | refine t9 ?_ | refine tA ?_ | refine tB ?_ | refine tC ?_ | refine tD rfl ?_ | refine tE ?_ | refine tF ?_ | refine tG ?_ | refine tH ?_ | refine tI ?_ | refine tJ ?_ | refine tK ?_ | refine tL ?_) | refine TE.cond_true (by rfl) ?_ | refine TE.cond_false (by rfl) ?_ | ((refine TE.gsplit (by rfl) (by rfl) ?_ ?_ <;> intro h <;> (try simp only [NS] at h) <;> (try (exfalso; first | omega | exact h trivial | exact h | exact h rfl | contradiction))) <;> (refine TE.run tysOk rfl (by rfl) ?_ ?_)) | ((first | refine TL.gsplit (by rfl) (by rfl) ?_ ?_ | refine TE.cond_split (by rfl) ?_ ?_) <;> intro h <;> (try simp only [NS] at h) <;> (try (exfalso; first | omega | exact h trivial | exact h | exact h rfl | contradiction))))))
      · refine TE.callW (itoa_c m te pe (a + k) (by omega)) rfl (by rfl) (by rfl) rfl (by rfl) (by (first | exact trivial | ((with_reducible refine AllP.go ?_); dsimp only [AllP, appP]; repeat' (first | with_reducible rfl | with_reducible exact LeD.refl | refine And.intro ?_ ?_ | (refine congrArg (Value.int _) ?_; first | omega | rfl | (simp only [Int.toNat_natCast]; omega)) | rfl | (refine congrArg Value.bool ?_; assumption) | assumption | exact LeD.refl)))) ?_
        intro _ _
        have hz := sB_size (Lib.itoa (a + k))
        have hm1 : (ByteArray.mk #[45]).size = 1 := rfl
        have hk0 : k ≠ 0 := fun e => by subst e; rw [hk3] at h; omega
        have hrs := runS_k a hk0
        have hrl : (runS a k).length ≤ 43 := by rw [hrs]; simp; omega
        ((refine TE.run tysOk rfl (by rfl) ?_ ?_); try (with_reducible refine AllP.go ?_; (first | exact trivial | exact fun i _ => ⟨_, rfl⟩ | ((try simp only [OS]); repeat' (first | omega | exact fun i _ => ⟨_, rfl⟩ | refine And.intro ?_ ?_)))))
        rw [show (ByteArray.mk #[45]) ++ sB (Lib.itoa (a + k)) = sB (45 :: Lib.itoa (a + k)) from sB_app [45] _]
        refine TE.callW (blWS_c (out ++ [44] ++ Lib.itoa a) (45 :: Lib.itoa (a + k)) (by simp; omega)) rfl (by rfl) (by rfl) rfl (by rfl) (by (first | exact trivial | ((with_reducible refine AllP.go ?_); dsimp only [AllP, appP]; repeat' (first | with_reducible rfl | with_reducible exact LeD.refl | refine And.intro ?_ ?_ | (refine congrArg (Value.int _) ?_; first | omega | rfl | (simp only [Int.toNat_natCast]; omega)) | rfl | (refine congrArg Value.bool ?_; assumption) | assumption | exact LeD.refl)))) ?_
        intro _ _
        rw [show (out ++ [44] ++ Lib.itoa a) ++ 45 :: Lib.itoa (a + k) = (out ++ [44] ++ runS a k) from by rw [hrs]; simp]
        ((refine TE.run tysOk rfl (by rfl) ?_ ?_); (repeat' (first | (with_reducible refine AllP.go ?_; (first | exact trivial | exact fun i _ => ⟨_, rfl⟩ | ((try simp only [OS]); repeat' (first | omega | exact fun i _ => ⟨_, rfl⟩ | refine And.intro ?_ ?_)))) | (refine TE.rgo tysOk rfl (by rfl) ?_ ?_) | (with_reducible first | refine t1 ?_ | refine t2 ?_ | refine t3 ?_ | refine t4 ?_ | refine t5 ?_ | refine t6 ?_ | refine t7 ?_ | refine t8 ?_ | refine t9 ?_ | refine tA ?_ | refine tB ?_ | refine tC ?_ | refine tD rfl ?_ | refine tE ?_ | refine tF ?_ | refine tG ?_ | refine tH ?_ | refine tI ?_ | refine tJ ?_ | refine tK ?_ | refine tL ?_) | refine TE.cond_true (by rfl) ?_ | refine TE.cond_false (by rfl) ?_ | ((refine TE.gsplit (by rfl) (by rfl) ?_ ?_ <;> intro h <;> (try simp only [NS] at h) <;> (try (exfalso; first | omega | exact h trivial | exact h | exact h rfl | contradiction))) <;> (refine TE.run tysOk rfl (by rfl) ?_ ?_)) | ((first | refine TL.gsplit (by rfl) (by rfl) ?_ ?_ | refine TE.cond_split (by rfl) ?_ ?_) <;> intro h <;> (try simp only [NS] at h) <;> (try (exfalso; first | omega | exact h trivial | exact h | exact h rfl | contradiction))))))
        refine TE.again' (some (i + k + 1, (out ++ [44] ++ runS a k))) ⟨Nat.succ_pos _, by dsimp only; omega, by simp, by simp; omega, list_step p5 k1 ha.symm k2 k3⟩ (by dsimp only; omega) ?_
        (refine Ent.of rfl rfl (by rfl) ?_; (try (first | exact trivial | ((with_reducible refine AllP.go ?_); dsimp only [AllP, appP]; repeat' (first | with_reducible rfl | with_reducible exact LeD.refl | refine And.intro ?_ ?_ | (refine congrArg (Value.int _) ?_; first | omega | rfl | (simp only [Int.toNat_natCast]; omega)) | rfl | (refine congrArg Value.bool ?_; assumption) | exact LeD.refl)))))
      · have hk0 : k = 0 := by omega
        have hrs : runS a k = Lib.itoa a := by rw [hk0]; exact runS_0 a
        have hrl : (runS a k).length ≤ 43 := by rw [hrs]; omega
        rw [← hrs]
        refine TE.again' (some (i + k + 1, (out ++ [44] ++ runS a k))) ⟨Nat.succ_pos _, by dsimp only; omega, by simp, by simp; omega, list_step p5 k1 ha.symm k2 k3⟩ (by dsimp only; omega) ?_
        (refine Ent.of rfl rfl (by rfl) ?_; (try (first | exact trivial | ((with_reducible refine AllP.go ?_); dsimp only [AllP, appP]; repeat' (first | with_reducible rfl | with_reducible exact LeD.refl | refine And.intro ?_ ?_ | (refine congrArg (Value.int _) ?_; first | omega | rfl | (simp only [Int.toNat_natCast]; omega)) | rfl | (refine congrArg Value.bool ?_; assumption) | exact LeD.refl)))))
    · obtain rfl : i = l.length := by omega
      rw [List.drop_of_length_le (Nat.le_refl _)] at p5
      rw [if_neg (fun e => by rw [e] at p1; exact absurd p1 (Nat.lt_irrefl _))] at hi
      (repeat' (first | (with_reducible refine AllP.go ?_; (first | exact trivial | exact fun i _ => ⟨_, rfl⟩ | ((try simp only [OS]); repeat' (first | omega | exact fun i _ => ⟨_, rfl⟩ | refine And.intro ?_ ?_)))) | (refine TE.rgo tysOk rfl (by rfl) ?_ ?_) | (with_reducible first | refine t1 ?_ | refine t2 ?_ | refine t3 ?_ | refine t4 ?_ | refine t5 ?_ | refine t6 ?_ | refine t7 ?_ | refine t8 ?_ | refine t9 ?_ | refine tA ?_ | refine tB ?_ | refine tC ?_ | refine tD rfl ?_ | refine tE ?_ | refine tF ?_ | refine tG ?_ | refine tH ?_ | refine tI ?_ | refine tJ ?_ | refine tK ?_ | refine tL ?_) | refine TE.cond_true (by rfl) ?_ | refine TE.cond_false (by rfl) ?_ | ((refine TE.gsplit (by rfl) (by rfl) ?_ ?_ <;> intro h <;> (try simp only [NS] at h) <;> (try (exfalso; first | omega | exact h trivial | exact h | exact h rfl | contradiction))) <;> (refine TE.run tysOk rfl (by rfl) ?_ ?_)) | ((first | refine TL.gsplit (by rfl) (by rfl) ?_ ?_ | refine TE.cond_split (by rfl) ?_ ?_) <;> intro h <;> (try simp only [NS] at h) <;> (try (exfalso; first | omega | exact h trivial | exact h | exact h rfl | contradiction)))))
      refine TE.callW (blStr_c out p3) rfl (by rfl) (by rfl) rfl (by rfl) (by (first | exact trivial | ((with_reducible refine AllP.go ?_); dsimp only [AllP, appP]; repeat' (first | with_reducible rfl | with_reducible exact LeD.refl | refine And.intro ?_ ?_ | (refine congrArg (Value.int _) ?_; first | omega | rfl | (simp only [Int.toNat_natCast]; omega)) | rfl | (refine congrArg Value.bool ?_; assumption) | assumption | exact LeD.refl)))) ?_
      intro _ _
      ((refine TE.run tysOk rfl (by rfl) ?_ ?_); (repeat' (first | (with_reducible refine AllP.go ?_; (first | exact trivial | exact fun i _ => ⟨_, rfl⟩ | ((try simp only [OS]); repeat' (first | omega | exact fun i _ => ⟨_, rfl⟩ | refine And.intro ?_ ?_)))) | (refine TE.rgo tysOk rfl (by rfl) ?_ ?_) | (with_reducible first | refine t1 ?_ | refine t2 ?_ | refine t3 ?_ | refine t4 ?_ | refine t5 ?_ | refine t6 ?_ | refine t7 ?_ | refine t8 ?_ | refine t9 ?_ | refine tA ?_ | refine tB ?_ | refine tC ?_ | refine tD rfl ?_ | refine tE ?_ | refine tF ?_ | refine tG ?_ | refine tH ?_ | refine tI ?_ | refine tJ ?_ | refine tK ?_ | refine tL ?_) | refine TE.cond_true (by rfl) ?_ | refine TE.cond_false (by rfl) ?_ | ((refine TE.gsplit (by rfl) (by rfl) ?_ ?_ <;> intro h <;> (try simp only [NS] at h) <;> (try (exfalso; first | omega | exact h trivial | exact h | exact h rfl | contradiction))) <;> (refine TE.run tysOk rfl (by rfl) ?_ ?_)) | ((first | refine TL.gsplit (by rfl) (by rfl) ?_ ?_ | refine TE.cond_split (by rfl) ?_ ?_) <;> intro h <;> (try simp only [NS] at h) <;> (try (exfalso; first | omega | exact h trivial | exact h | exact h rfl | contradiction))))))
      rw [hi, ← p5, show tailG [] = [] from rfl, List.append_nil]
      (refine TE.ret' (by first | exact .inl rfl | exact .inr rfl) rfl tysOk (()) ?_ rfl (by rfl) ?_; all_goals (try (first | exact trivial | ((with_reducible refine AllP.go ?_); dsimp only [AllP, appP]; repeat' (first | with_reducible rfl | with_reducible exact LeD.refl | refine And.intro ?_ ?_ | (refine congrArg (Value.int _) ?_; first | omega | rfl | (simp only [Int.toNat_natCast]; omega)) | rfl | (refine congrArg Value.bool ?_; assumption) | exact LeD.refl)))))
end Go.Proofs.YtmeapfckibbbbaaGreatDoor.Am
/- The words: names and numbers, the program's. -/
set_option linter.unusedVariables false
namespace Go.Proofs.YtmeapfckibbbbaaGreatDoor.Am
open Go.RowKit Lw Wo
theorem word_ascii : ∀ (j : Nat) b, wordL[j]? = some b → b.toNat < 128 := by
  intro j b h
  have := List.mem_of_getElem? h
  exact (by decide : ∀ b ∈ wordL, b.toNat < 128) b this
theorem dig_ascii : ∀ (j : Nat) b, digL[j]? = some b → b.toNat < 128 := by
  intro j b h
  have := List.mem_of_getElem? h
  exact (by decide : ∀ b ∈ digL, b.toNat < 128) b this
theorem str_nil (l : Bs) : (sB l = (ByteArray.mk #[])) ↔ l = [] := sB_inj (b := [])
theorem trim_word (l : Bs) : decide (sB (Lib.trimS l wordL) = ByteArray.mk #[]) = l.all wordC := by
  have : (l.all (wordL.contains ·)) = l.all wordC := by congr 1; funext c; exact word_in c
  rw [← this]
  by_cases h : l.all (wordL.contains ·) = true
  · rw [h]; exact decide_eq_true ((str_nil _).2 ((trim_nil l wordL).2 h))
  · rw [Bool.not_eq_true] at h
    rw [h]; exact decide_eq_false fun e => by
      have := (trim_nil l wordL).1 ((str_nil _).1 e)
      rw [h] at this; cases this
theorem trim_dig (l : Bs) : decide (sB (Lib.trimS l digL) = ByteArray.mk #[]) = l.all digC := by
  have : (l.all (digL.contains ·)) = l.all digC := by congr 1; funext c; exact dig_in c
  rw [← this]
  by_cases h : l.all (digL.contains ·) = true
  · rw [h]; exact decide_eq_true ((str_nil _).2 ((trim_nil l digL).2 h))
  · rw [Bool.not_eq_true] at h
    rw [h]; exact decide_eq_false fun e => by
      have := (trim_nil l digL).1 ((str_nil _).1 e)
      rw [h] at this; cases this
theorem dig_no {t : Bs} (h : ¬ (sB (Lib.trimS t digL)).size = 0) : t.all digC = false := by
  rw [← trim_dig]
  exact decide_eq_false fun e => h (by rw [e]; rfl)
theorem dig_yes {t : Bs} (h : (sB (Lib.trimS t digL)).size = 0) : t.all digC = true := by
  rw [← trim_dig]
  rw [sB_size] at h
  exact decide_eq_true ((str_nil _).2 (List.length_eq_zero_iff.1 h))
theorem n48 {t : Bs} (h : ¬ ((t.getD (Int.toNat 0) 0).toNat : Int) = 48) : t.getD 0 0 ≠ 48 := fun e => h (by
  show ((t.getD 0 0).toNat : Int) = 48
  rw [e]; rfl)
theorem y48 {t : Bs} (h : ((t.getD (Int.toNat 0) 0).toNat : Int) = 48) : t.getD 0 0 = 48 := UInt8.toNat_inj.1 (by
  have h : ((t.getD 0 0).toNat : Int) = 48 := h
  rw [show (48 : UInt8).toNat = 48 from rfl]; omega)
theorem name_no {l : Bs} (h : ¬ (1 ≤ l.length ∧ l.length ≤ 16 ∧ 97 ≤ (l.getD 0 0).toNat ∧ (l.getD 0 0).toNat ≤ 122)) : nameI l = false := by
  unfold nameI lowC
  by_cases h1 : 1 ≤ l.length ∧ l.length ≤ 16
  · have h2 : ¬ (97 ≤ (l.getD 0 0).toNat ∧ (l.getD 0 0).toNat ≤ 122) := fun h2 => h ⟨h1.1, h1.2, h2⟩
    rw [decide_eq_false h2]; simp
  · rw [decide_eq_false h1]; simp
theorem name_yes {l : Bs} (h : 1 ≤ l.length ∧ l.length ≤ 16 ∧ 97 ≤ (l.getD 0 0).toNat ∧ (l.getD 0 0).toNat ≤ 122) : nameI l = l.all wordC := by
  unfold nameI lowC
  rw [decide_eq_true ⟨h.1, h.2.1⟩, decide_eq_true ⟨h.2.2.1, h.2.2.2⟩]; simp
set_option maxRecDepth 20000 in
theorem Name_c (l : Bs) (hl : l.length ≤ 1000000) : Con Tryz.prog 15 [.o (.c (.string (sB l)))] [] 0 0 U (fun _ => .o (.sb (nameI l))) G0 := by
  refine con_of Tryz.func15 rfl (by kernel_rfl) Tryz.ntmps15 rfl (by first | exact Nat.zero_le _ | decide) (fun _ => ⟨rfl, rfl⟩) fun w S ν => ?_
  have hz := sB_size l
  have h0 : l.getD (Int.toNat 0) 0 = l.getD 0 0 := rfl
  (repeat' (first | (with_reducible refine AllP.go ?_; (first | exact trivial | exact fun i _ => ⟨_, rfl⟩ | ((try simp only [OS]); repeat' (first | omega | exact fun i _ => ⟨_, rfl⟩ | refine And.intro ?_ ?_)))) | (refine TE.rgo tysOk rfl (by rfl) ?_ ?_) | (with_reducible first | refine t1 ?_ | refine t2 ?_ | refine t3 ?_ | refine t4 ?_ | refine t5 ?_ | refine t6 ?_ | refine t7 ?_ | refine t8 ?_ | refine t9 ?_ | refine tA ?_ | refine tB ?_ | refine tC ?_ | refine tD rfl ?_ | refine tE ?_ | refine tF ?_ | refine tG ?_ | refine tH ?_ | refine tI ?_ | refine tJ ?_ | refine tK ?_ | refine tL ?_) | (with_reducible first | exact PanicOk.body | exact rd.panic | refine PanicOk.then' ?_ | refine PanicOk.block ?_ | refine PanicOk.jump ?_) | (refine TE.drawC (by rfl) (by rfl) (by rfl) (by rfl) ?_) | (refine TE.drawN (by rfl) (by rfl) (by rfl) ?_) | (refine TL.done (by rfl) ?_) | (refine TL.auto tysOk rfl ?_ (by rfl) ?_ ?_) | ((refine TL.one (by rfl) ?_); first | (refine StepL.mem tysOk rfl rfl rfl rfl (by rfl) ?_ (by rfl) ?_) | (refine StepL.pure tysOk rfl rfl rfl rfl (by rfl) ?_ (by rfl) ?_)) | (refine StepL.mem tysOk rfl rfl rfl rfl (by rfl) ?_ (by rfl) ?_) | refine TE.cond_true (by rfl) ?_ | refine TE.cond_false (by rfl) ?_ | ((refine TE.gsplit (by rfl) (by rfl) ?_ ?_ <;> intro h <;> (try simp only [NS] at h) <;> (try (exfalso; first | omega | exact h trivial | exact h | exact h rfl | contradiction))) <;> (refine TE.run tysOk rfl (by rfl) ?_ ?_)) | ((first | refine TL.gsplit (by rfl) (by rfl) ?_ ?_ | refine TE.cond_split (by rfl) ?_ ?_) <;> intro h <;> (try simp only [NS] at h) <;> (try (exfalso; first | omega | exact h trivial | exact h | exact h rfl | contradiction)))))
  · rw [name_no (by omega)]; (refine TE.ret' (by first | exact .inl rfl | exact .inr rfl) rfl tysOk (()) ?_ rfl (by rfl) ?_; all_goals (try (first | exact trivial | ((with_reducible refine AllP.go ?_); dsimp only [AllP, appP]; repeat' (first | with_reducible rfl | with_reducible exact LeD.refl | refine And.intro ?_ ?_ | (refine congrArg (Value.int _) ?_; first | omega | rfl | (simp only [Int.toNat_natCast]; omega)) | rfl | (refine congrArg Value.bool ?_; assumption) | exact LeD.refl)))))
  · rw [name_no (by omega)]; (refine TE.ret' (by first | exact .inl rfl | exact .inr rfl) rfl tysOk (()) ?_ rfl (by rfl) ?_; all_goals (try (first | exact trivial | ((with_reducible refine AllP.go ?_); dsimp only [AllP, appP]; repeat' (first | with_reducible rfl | with_reducible exact LeD.refl | refine And.intro ?_ ?_ | (refine congrArg (Value.int _) ?_; first | omega | rfl | (simp only [Int.toNat_natCast]; omega)) | rfl | (refine congrArg Value.bool ?_; assumption) | exact LeD.refl)))))
  · rw [name_no (by rw [h0] at *; omega)]; (refine TE.ret' (by first | exact .inl rfl | exact .inr rfl) rfl tysOk (()) ?_ rfl (by rfl) ?_; all_goals (try (first | exact trivial | ((with_reducible refine AllP.go ?_); dsimp only [AllP, appP]; repeat' (first | with_reducible rfl | with_reducible exact LeD.refl | refine And.intro ?_ ?_ | (refine congrArg (Value.int _) ?_; first | omega | rfl | (simp only [Int.toNat_natCast]; omega)) | rfl | (refine congrArg Value.bool ?_; assumption) | exact LeD.refl)))))
  · rw [name_no (by rw [h0] at *; omega)]; (refine TE.ret' (by first | exact .inl rfl | exact .inr rfl) rfl tysOk (()) ?_ rfl (by rfl) ?_; all_goals (try (first | exact trivial | ((with_reducible refine AllP.go ?_); dsimp only [AllP, appP]; repeat' (first | with_reducible rfl | with_reducible exact LeD.refl | refine And.intro ?_ ?_ | (refine congrArg (Value.int _) ?_; first | omega | rfl | (simp only [Int.toNat_natCast]; omega)) | rfl | (refine congrArg Value.bool ?_; assumption) | exact LeD.refl)))))
  · refine TE.callW (trim_c l wordL hl (by decide) word_ascii) rfl (by rfl) (by rfl) rfl (by rfl) (by (first | exact trivial | ((with_reducible refine AllP.go ?_); dsimp only [AllP, appP]; repeat' (first | with_reducible rfl | with_reducible exact LeD.refl | refine And.intro ?_ ?_ | (refine congrArg (Value.int _) ?_; first | omega | rfl | (simp only [Int.toNat_natCast]; omega)) | rfl | (refine congrArg Value.bool ?_; assumption) | assumption | exact LeD.refl)))) ?_
    intro _ _
    ((refine TE.run tysOk rfl (by rfl) ?_ ?_); (repeat' (first | (with_reducible refine AllP.go ?_; (first | exact trivial | exact fun i _ => ⟨_, rfl⟩ | ((try simp only [OS]); repeat' (first | omega | exact fun i _ => ⟨_, rfl⟩ | refine And.intro ?_ ?_)))) | (refine TE.rgo tysOk rfl (by rfl) ?_ ?_) | (with_reducible first | refine t1 ?_ | refine t2 ?_ | refine t3 ?_ | refine t4 ?_ | refine t5 ?_ | refine t6 ?_ | refine t7 ?_ | refine t8 ?_ | refine t9 ?_ | refine tA ?_ | refine tB ?_ | refine tC ?_ | refine tD rfl ?_ | refine tE ?_ | refine tF ?_ | refine tG ?_ | refine tH ?_ | refine tI ?_ | refine tJ ?_ | refine tK ?_ | refine tL ?_) | (with_reducible first | exact PanicOk.body | exact rd.panic | refine PanicOk.then' ?_ | refine PanicOk.block ?_ | refine PanicOk.jump ?_) | (refine TE.drawC (by rfl) (by rfl) (by rfl) (by rfl) ?_) | (refine TE.drawN (by rfl) (by rfl) (by rfl) ?_) | (refine TL.done (by rfl) ?_) | (refine TL.auto tysOk rfl ?_ (by rfl) ?_ ?_) | ((refine TL.one (by rfl) ?_); first | (refine StepL.mem tysOk rfl rfl rfl rfl (by rfl) ?_ (by rfl) ?_) | (refine StepL.pure tysOk rfl rfl rfl rfl (by rfl) ?_ (by rfl) ?_)) | (refine StepL.mem tysOk rfl rfl rfl rfl (by rfl) ?_ (by rfl) ?_) | refine TE.cond_true (by rfl) ?_ | refine TE.cond_false (by rfl) ?_ | ((refine TE.gsplit (by rfl) (by rfl) ?_ ?_ <;> intro h <;> (try simp only [NS] at h) <;> (try (exfalso; first | omega | exact h trivial | exact h | exact h rfl | contradiction))) <;> (refine TE.run tysOk rfl (by rfl) ?_ ?_)) | ((first | refine TL.gsplit (by rfl) (by rfl) ?_ ?_ | refine TE.cond_split (by rfl) ?_ ?_) <;> intro h <;> (try simp only [NS] at h) <;> (try (exfalso; first | omega | exact h trivial | exact h | exact h rfl | contradiction))))))
    rw [name_yes (by rw [h0] at *; omega), ← trim_word]
    (refine TE.ret' (by first | exact .inl rfl | exact .inr rfl) rfl tysOk (()) ?_ rfl (by rfl) ?_; all_goals (try (first | exact trivial | ((with_reducible refine AllP.go ?_); dsimp only [AllP, appP]; repeat' (first | with_reducible rfl | with_reducible exact LeD.refl | refine And.intro ?_ ?_ | (refine congrArg (Value.int _) ?_; first | omega | rfl | (simp only [Int.toNat_natCast]; omega)) | rfl | (refine congrArg Value.bool ?_; assumption) | exact LeD.refl)))))
set_option maxRecDepth 20000 in
theorem isDec_c (l : Bs) (hl : l.length ≤ 1000000) : Con Tryz.prog 29 [.o (.c (.string (sB l)))] [] 0 0 U (fun _ => .o (.sb (decI l))) G0 := by
  refine con_of Tryz.func29 rfl (by kernel_rfl) Tryz.ntmps29 rfl (by first | exact Nat.zero_le _ | decide) (fun _ => ⟨rfl, rfl⟩) fun w S ν => ?_
  have hz := sB_size l
  (repeat' (first | (with_reducible refine AllP.go ?_; (first | exact trivial | exact fun i _ => ⟨_, rfl⟩ | ((try simp only [OS]); repeat' (first | omega | exact fun i _ => ⟨_, rfl⟩ | refine And.intro ?_ ?_)))) | (refine TE.rgo tysOk rfl (by rfl) ?_ ?_) | (with_reducible first | refine t1 ?_ | refine t2 ?_ | refine t3 ?_ | refine t4 ?_ | refine t5 ?_ | refine t6 ?_ | refine t7 ?_ | refine t8 ?_ | refine t9 ?_ | refine tA ?_ | refine tB ?_ | refine tC ?_ | refine tD rfl ?_ | refine tE ?_ | refine tF ?_ | refine tG ?_ | refine tH ?_ | refine tI ?_ | refine tJ ?_ | refine tK ?_ | refine tL ?_) | (with_reducible first | exact PanicOk.body | exact rd.panic | refine PanicOk.then' ?_ | refine PanicOk.block ?_ | refine PanicOk.jump ?_) | (refine TE.drawC (by rfl) (by rfl) (by rfl) (by rfl) ?_) | (refine TE.drawN (by rfl) (by rfl) (by rfl) ?_) | (refine TL.done (by rfl) ?_) | (refine TL.auto tysOk rfl ?_ (by rfl) ?_ ?_) | ((refine TL.one (by rfl) ?_); first | (refine StepL.mem tysOk rfl rfl rfl rfl (by rfl) ?_ (by rfl) ?_) | (refine StepL.pure tysOk rfl rfl rfl rfl (by rfl) ?_ (by rfl) ?_)) | (refine StepL.mem tysOk rfl rfl rfl rfl (by rfl) ?_ (by rfl) ?_) | refine TE.cond_true (by rfl) ?_ | refine TE.cond_false (by rfl) ?_ | ((refine TE.gsplit (by rfl) (by rfl) ?_ ?_ <;> intro h <;> (try simp only [NS] at h) <;> (try (exfalso; first | omega | exact h trivial | exact h | exact h rfl | contradiction))) <;> (refine TE.run tysOk rfl (by rfl) ?_ ?_)) | ((first | refine TL.gsplit (by rfl) (by rfl) ?_ ?_ | refine TE.cond_split (by rfl) ?_ ?_) <;> intro h <;> (try simp only [NS] at h) <;> (try (exfalso; first | omega | exact h trivial | exact h | exact h rfl | contradiction)))))
  refine TE.callW (tpre_c l [45]) rfl (by rfl) (by rfl) rfl (by rfl) (by (first | exact trivial | ((with_reducible refine AllP.go ?_); dsimp only [AllP, appP]; repeat' (first | with_reducible rfl | with_reducible exact LeD.refl | refine And.intro ?_ ?_ | (refine congrArg (Value.int _) ?_; first | omega | rfl | (simp only [Int.toNat_natCast]; omega)) | rfl | (refine congrArg Value.bool ?_; assumption) | assumption | exact LeD.refl)))) ?_
  intro _ _
  rw [pre_body]
  obtain ⟨t, ht⟩ : ∃ t, t = bodyI l := ⟨_, rfl⟩
  have hd : decI l = (!t.isEmpty && t.all digC && (decide (t.getD 0 0 ≠ 48) || decide (l = [48]))) := by rw [ht]; rfl
  have htl : t.length ≤ l.length := by
    rw [ht]; unfold bodyI; split
    · simp
    · exact Nat.le_refl _
  rw [← ht]
  have hz2 := sB_size t
  ((refine TE.run tysOk rfl (by rfl) ?_ ?_); (repeat' (first | (with_reducible refine AllP.go ?_; (first | exact trivial | exact fun i _ => ⟨_, rfl⟩ | ((try simp only [OS]); repeat' (first | omega | exact fun i _ => ⟨_, rfl⟩ | refine And.intro ?_ ?_)))) | (refine TE.rgo tysOk rfl (by rfl) ?_ ?_) | (with_reducible first | refine t1 ?_ | refine t2 ?_ | refine t3 ?_ | refine t4 ?_ | refine t5 ?_ | refine t6 ?_ | refine t7 ?_ | refine t8 ?_ | refine t9 ?_ | refine tA ?_ | refine tB ?_ | refine tC ?_ | refine tD rfl ?_ | refine tE ?_ | refine tF ?_ | refine tG ?_ | refine tH ?_ | refine tI ?_ | refine tJ ?_ | refine tK ?_ | refine tL ?_) | (with_reducible first | exact PanicOk.body | exact rd.panic | refine PanicOk.then' ?_ | refine PanicOk.block ?_ | refine PanicOk.jump ?_) | (refine TE.drawC (by rfl) (by rfl) (by rfl) (by rfl) ?_) | (refine TE.drawN (by rfl) (by rfl) (by rfl) ?_) | (refine TL.done (by rfl) ?_) | (refine TL.auto tysOk rfl ?_ (by rfl) ?_ ?_) | ((refine TL.one (by rfl) ?_); first | (refine StepL.mem tysOk rfl rfl rfl rfl (by rfl) ?_ (by rfl) ?_) | (refine StepL.pure tysOk rfl rfl rfl rfl (by rfl) ?_ (by rfl) ?_)) | (refine StepL.mem tysOk rfl rfl rfl rfl (by rfl) ?_ (by rfl) ?_) | refine TE.cond_true (by rfl) ?_ | refine TE.cond_false (by rfl) ?_ | ((refine TE.gsplit (by rfl) (by rfl) ?_ ?_ <;> intro h <;> (try simp only [NS] at h) <;> (try (exfalso; first | omega | exact h trivial | exact h | exact h rfl | contradiction))) <;> (refine TE.run tysOk rfl (by rfl) ?_ ?_)) | ((first | refine TL.gsplit (by rfl) (by rfl) ?_ ?_ | refine TE.cond_split (by rfl) ?_ ?_) <;> intro h <;> (try simp only [NS] at h) <;> (try (exfalso; first | omega | exact h trivial | exact h | exact h rfl | contradiction))))))
  · have : t = [] := List.length_eq_zero_iff.1 (by omega)
    rw [hd, this]
    (refine TE.ret' (by first | exact .inl rfl | exact .inr rfl) rfl tysOk (()) ?_ rfl (by rfl) ?_; all_goals (try (first | exact trivial | ((with_reducible refine AllP.go ?_); dsimp only [AllP, appP]; repeat' (first | with_reducible rfl | with_reducible exact LeD.refl | refine And.intro ?_ ?_ | (refine congrArg (Value.int _) ?_; first | omega | rfl | (simp only [Int.toNat_natCast]; omega)) | rfl | (refine congrArg Value.bool ?_; assumption) | exact LeD.refl)))))
  · refine TE.callW (trim_c t digL (by omega) (by decide) dig_ascii) rfl (by rfl) (by rfl) rfl (by rfl) (by (first | exact trivial | ((with_reducible refine AllP.go ?_); dsimp only [AllP, appP]; repeat' (first | with_reducible rfl | with_reducible exact LeD.refl | refine And.intro ?_ ?_ | (refine congrArg (Value.int _) ?_; first | omega | rfl | (simp only [Int.toNat_natCast]; omega)) | rfl | (refine congrArg Value.bool ?_; assumption) | assumption | exact LeD.refl)))) ?_
    intro _ _
    have hne : t.isEmpty = false := by
      cases t with
      | nil => exact absurd hz2 (by omega)
      | cons c r => rfl
    ((refine TE.run tysOk rfl (by rfl) ?_ ?_); (repeat' (first | (with_reducible refine AllP.go ?_; (first | exact trivial | exact fun i _ => ⟨_, rfl⟩ | ((try simp only [OS]); repeat' (first | omega | exact fun i _ => ⟨_, rfl⟩ | refine And.intro ?_ ?_)))) | (refine TE.rgo tysOk rfl (by rfl) ?_ ?_) | (with_reducible first | refine t1 ?_ | refine t2 ?_ | refine t3 ?_ | refine t4 ?_ | refine t5 ?_ | refine t6 ?_ | refine t7 ?_ | refine t8 ?_ | refine t9 ?_ | refine tA ?_ | refine tB ?_ | refine tC ?_ | refine tD rfl ?_ | refine tE ?_ | refine tF ?_ | refine tG ?_ | refine tH ?_ | refine tI ?_ | refine tJ ?_ | refine tK ?_ | refine tL ?_) | (with_reducible first | exact PanicOk.body | exact rd.panic | refine PanicOk.then' ?_ | refine PanicOk.block ?_ | refine PanicOk.jump ?_) | (refine TE.drawC (by rfl) (by rfl) (by rfl) (by rfl) ?_) | (refine TE.drawN (by rfl) (by rfl) (by rfl) ?_) | (refine TL.done (by rfl) ?_) | (refine TL.auto tysOk rfl ?_ (by rfl) ?_ ?_) | ((refine TL.one (by rfl) ?_); first | (refine StepL.mem tysOk rfl rfl rfl rfl (by rfl) ?_ (by rfl) ?_) | (refine StepL.pure tysOk rfl rfl rfl rfl (by rfl) ?_ (by rfl) ?_)) | (refine StepL.mem tysOk rfl rfl rfl rfl (by rfl) ?_ (by rfl) ?_) | refine TE.cond_true (by rfl) ?_ | refine TE.cond_false (by rfl) ?_ | ((refine TE.gsplit (by rfl) (by rfl) ?_ ?_ <;> intro h <;> (try simp only [NS] at h) <;> (try (exfalso; first | omega | exact h trivial | exact h | exact h rfl | contradiction))) <;> (refine TE.run tysOk rfl (by rfl) ?_ ?_)) | ((first | refine TL.gsplit (by rfl) (by rfl) ?_ ?_ | refine TE.cond_split (by rfl) ?_ ?_) <;> intro h <;> (try simp only [NS] at h) <;> (try (exfalso; first | omega | exact h trivial | exact h | exact h rfl | contradiction))))))
    · rw [hd, dig_no (by assumption)]
      simp only [Bool.and_false, Bool.false_and]
      (refine TE.ret' (by first | exact .inl rfl | exact .inr rfl) rfl tysOk (()) ?_ rfl (by rfl) ?_; all_goals (try (first | exact trivial | ((with_reducible refine AllP.go ?_); dsimp only [AllP, appP]; repeat' (first | with_reducible rfl | with_reducible exact LeD.refl | refine And.intro ?_ ?_ | (refine congrArg (Value.int _) ?_; first | omega | rfl | (simp only [Int.toNat_natCast]; omega)) | rfl | (refine congrArg Value.bool ?_; assumption) | exact LeD.refl)))))
    · rw [hd, hne, dig_yes (by assumption), decide_eq_true (show t.getD 0 0 ≠ 48 from fun e => n48 (by assumption) e)]
      (refine TE.ret' (by first | exact .inl rfl | exact .inr rfl) rfl tysOk (()) ?_ rfl (by rfl) ?_; all_goals (try (first | exact trivial | ((with_reducible refine AllP.go ?_); dsimp only [AllP, appP]; repeat' (first | with_reducible rfl | with_reducible exact LeD.refl | refine And.intro ?_ ?_ | (refine congrArg (Value.int _) ?_; first | omega | rfl | (simp only [Int.toNat_natCast]; omega)) | rfl | (refine congrArg Value.bool ?_; assumption) | exact LeD.refl)))))
    · rw [hd, hne, dig_yes (by assumption), decide_eq_false (show ¬ t.getD 0 0 ≠ 48 from fun e => e (y48 (by assumption))), show decide (l = [48]) = decide (sB l = ByteArray.mk #[48]) from decide_eq_decide.2 (sB_inj (b := [48])).symm]
      (refine TE.ret' (by first | exact .inl rfl | exact .inr rfl) rfl tysOk (()) ?_ rfl (by rfl) ?_; all_goals (try (first | exact trivial | ((with_reducible refine AllP.go ?_); dsimp only [AllP, appP]; repeat' (first | with_reducible rfl | with_reducible exact LeD.refl | refine And.intro ?_ ?_ | (refine congrArg (Value.int _) ?_; first | omega | rfl | (simp only [Int.toNat_natCast]; omega)) | rfl | (refine congrArg Value.bool ?_; assumption) | exact LeD.refl)))))
set_option maxRecDepth 20000 in
theorem Int_c (m : Int) (te : TypeId) (pe : Value) (l : Bs) (low high : Int) (hl : l.length ≤ 1000000) : Con Tryz.prog 12 [.o (.c (.string (sB l))), .o (.c (.int .i64 low)), .o (.c (.int .i64 high))] (glC m te pe) 4 4 U (fun _ => .t [.inl (.c (.int .i64 (intI l low high).1)), .inl (.c (.int .i64 (intI l low high).2))]) (fun _ => glC m te pe) := by
  refine con_of Tryz.func12 rfl (by kernel_rfl) Tryz.ntmps12 rfl (by first | exact Nat.zero_le _ | decide) (fun _ => ⟨rfl, rfl⟩) fun w S ν => ?_
  obtain ⟨R, hR⟩ : ∃ R, R = intI l low high := ⟨_, rfl⟩
  obtain ⟨D, hD⟩ : ∃ D, D = decI l := ⟨_, rfl⟩
  obtain ⟨V, hV⟩ : ∃ V, V = valI l := ⟨_, rfl⟩
  obtain ⟨Z, hZ⟩ : ∃ Z, Z = Lib.intSat 64 l := ⟨_, rfl⟩
  have c1 := isDec_c l hl
  have hp : D = true → Lib.parseIntB 64 l = if V < -9223372036854775808 ∨ 9223372036854775807 < V then .range else .ok V := fun h => by rw [hV]; exact parse_dec (hD ▸ h)
  have hi : R = if D = false then (0, 6) else if V < -9223372036854775808 ∨ 9223372036854775807 < V ∨ V < low ∨ high < V then (0, 7) else (V, 0) := by rw [hR, hD, hV]; rfl
  have c2 := fun h => parseR_c m te pe l hl h
  have c3 := fun h => parseOk_c m te pe l hl V h
  rw [← hD] at c1
  rw [← hR]
  rw [← hZ] at c2
  generalize Lib.parseIntB 64 l = PP at *
  clear hR hD hV hZ
  (repeat' (first | (with_reducible refine AllP.go ?_; (first | exact trivial | exact fun i _ => ⟨_, rfl⟩ | ((try simp only [OS]); repeat' (first | omega | exact fun i _ => ⟨_, rfl⟩ | refine And.intro ?_ ?_)))) | (refine TE.rgo tysOk rfl (by rfl) ?_ ?_) | (with_reducible first | refine t1 ?_ | refine t2 ?_ | refine t3 ?_ | refine t4 ?_ | refine t5 ?_ | refine t6 ?_ | refine t7 ?_ | refine t8 ?_ | refine t9 ?_ | refine tA ?_ | refine tB ?_ | refine tC ?_ | refine tD rfl ?_ | refine tE ?_ | refine tF ?_ | refine tG ?_ | refine tH ?_ | refine tI ?_ | refine tJ ?_ | refine tK ?_ | refine tL ?_) | (with_reducible first | exact PanicOk.body | exact rd.panic | refine PanicOk.then' ?_ | refine PanicOk.block ?_ | refine PanicOk.jump ?_) | (refine TE.drawC (by rfl) (by rfl) (by rfl) (by rfl) ?_) | (refine TE.drawN (by rfl) (by rfl) (by rfl) ?_) | (refine TL.done (by rfl) ?_) | (refine TL.auto tysOk rfl ?_ (by rfl) ?_ ?_) | ((refine TL.one (by rfl) ?_); first | (refine StepL.mem tysOk rfl rfl rfl rfl (by rfl) ?_ (by rfl) ?_) | (refine StepL.pure tysOk rfl rfl rfl rfl (by rfl) ?_ (by rfl) ?_)) | (refine StepL.mem tysOk rfl rfl rfl rfl (by rfl) ?_ (by rfl) ?_) | refine TE.cond_true (by rfl) ?_ | refine TE.cond_false (by rfl) ?_ | ((refine TE.gsplit (by rfl) (by rfl) ?_ ?_ <;> intro h <;> (try simp only [NS] at h) <;> (try (exfalso; first | omega | exact h trivial | exact h | exact h rfl | contradiction))) <;> (refine TE.run tysOk rfl (by rfl) ?_ ?_)) | ((first | refine TL.gsplit (by rfl) (by rfl) ?_ ?_ | refine TE.cond_split (by rfl) ?_ ?_) <;> intro h <;> (try simp only [NS] at h) <;> (try (exfalso; first | omega | exact h trivial | exact h | exact h rfl | contradiction)))))
  refine TE.callW (c1) rfl (by rfl) (by rfl) rfl (by rfl) (by (first | exact trivial | ((with_reducible refine AllP.go ?_); dsimp only [AllP, appP]; repeat' (first | with_reducible rfl | with_reducible exact LeD.refl | refine And.intro ?_ ?_ | (refine congrArg (Value.int _) ?_; first | omega | rfl | (simp only [Int.toNat_natCast]; omega)) | rfl | (refine congrArg Value.bool ?_; assumption) | assumption | exact LeD.refl)))) ?_
  intro _ _
  ((refine TE.run tysOk rfl (by rfl) ?_ ?_); (repeat' (first | (with_reducible refine AllP.go ?_; (first | exact trivial | exact fun i _ => ⟨_, rfl⟩ | ((try simp only [OS]); repeat' (first | omega | exact fun i _ => ⟨_, rfl⟩ | refine And.intro ?_ ?_)))) | (refine TE.rgo tysOk rfl (by rfl) ?_ ?_) | (with_reducible first | refine t1 ?_ | refine t2 ?_ | refine t3 ?_ | refine t4 ?_ | refine t5 ?_ | refine t6 ?_ | refine t7 ?_ | refine t8 ?_ | refine t9 ?_ | refine tA ?_ | refine tB ?_ | refine tC ?_ | refine tD rfl ?_ | refine tE ?_ | refine tF ?_ | refine tG ?_ | refine tH ?_ | refine tI ?_ | refine tJ ?_ | refine tK ?_ | refine tL ?_) | (with_reducible first | exact PanicOk.body | exact rd.panic | refine PanicOk.then' ?_ | refine PanicOk.block ?_ | refine PanicOk.jump ?_) | (refine TE.drawC (by rfl) (by rfl) (by rfl) (by rfl) ?_) | (refine TE.drawN (by rfl) (by rfl) (by rfl) ?_) | (refine TL.done (by rfl) ?_) | (refine TL.auto tysOk rfl ?_ (by rfl) ?_ ?_) | ((refine TL.one (by rfl) ?_); first | (refine StepL.mem tysOk rfl rfl rfl rfl (by rfl) ?_ (by rfl) ?_) | (refine StepL.pure tysOk rfl rfl rfl rfl (by rfl) ?_ (by rfl) ?_)) | (refine StepL.mem tysOk rfl rfl rfl rfl (by rfl) ?_ (by rfl) ?_) | refine TE.cond_true (by rfl) ?_ | refine TE.cond_false (by rfl) ?_ | ((refine TE.gsplit (by rfl) (by rfl) ?_ ?_ <;> intro h <;> (try simp only [NS] at h) <;> (try (exfalso; first | omega | exact h trivial | exact h | exact h rfl | contradiction))) <;> (refine TE.run tysOk rfl (by rfl) ?_ ?_)) | ((first | refine TL.gsplit (by rfl) (by rfl) ?_ ?_ | refine TE.cond_split (by rfl) ?_ ?_) <;> intro h <;> (try simp only [NS] at h) <;> (try (exfalso; first | omega | exact h trivial | exact h | exact h rfl | contradiction))))))
  · have he : R = (0, 6) := by rw [hi, if_pos (by assumption)]
    rw [he]
    (refine TE.ret' (by first | exact .inl rfl | exact .inr rfl) rfl tysOk (()) ?_ rfl (by rfl) ?_; all_goals (try (first | exact trivial | ((with_reducible refine AllP.go ?_); dsimp only [AllP, appP]; repeat' (first | with_reducible rfl | with_reducible exact LeD.refl | refine And.intro ?_ ?_ | (refine congrArg (Value.int _) ?_; first | omega | rfl | (simp only [Int.toNat_natCast]; omega)) | rfl | (refine congrArg Value.bool ?_; assumption) | exact LeD.refl)))))
  · have hp := hp (by assumption)
    rw [if_neg (by simp_all)] at hi
    by_cases hr : V < -9223372036854775808 ∨ 9223372036854775807 < V
    · rw [if_pos hr] at hp
      rw [hi, if_pos (by omega)]
      refine TE.callW (c2 hp) rfl (by rfl) (by rfl) rfl (by rfl) (by (first | exact trivial | ((with_reducible refine AllP.go ?_); dsimp only [AllP, appP]; repeat' (first | with_reducible rfl | with_reducible exact LeD.refl | refine And.intro ?_ ?_ | (refine congrArg (Value.int _) ?_; first | omega | rfl | (simp only [Int.toNat_natCast]; omega)) | rfl | (refine congrArg Value.bool ?_; assumption) | assumption | exact LeD.refl)))) ?_
      rintro v ⟨tp, p, rfl⟩
      ((refine TE.run tysOk rfl (by rfl) ?_ ?_); try (with_reducible refine AllP.go ?_; (first | exact trivial | exact fun i _ => ⟨_, rfl⟩ | ((try simp only [OS]); repeat' (first | omega | exact fun i _ => ⟨_, rfl⟩ | refine And.intro ?_ ?_)))))
      (repeat (with_reducible first | refine t1 ?_ | refine t2 ?_ | refine t3 ?_ | refine t4 ?_ | refine t5 ?_ | refine t6 ?_ | refine t7 ?_ | refine t8 ?_ | refine t9 ?_ | refine tA ?_ | refine tB ?_ | refine tC ?_ | refine tD rfl ?_ | refine tE ?_ | refine tF ?_ | refine tG ?_ | refine tH ?_ | refine tI ?_ | refine tJ ?_ | refine tK ?_ | refine tL ?_))
      ((refine TE.rgo tysOk rfl (by rfl) ?_ ?_); try (with_reducible refine AllP.go ?_; (first | exact trivial | exact fun i _ => ⟨_, rfl⟩ | ((try simp only [OS]); repeat' (first | omega | exact fun i _ => ⟨_, rfl⟩ | refine And.intro ?_ ?_)))))
      (refine TE.step rfl rfl rfl (fun _ h => nomatch h) (m_ifNil (b := false) rfl (by first | exact .inl rfl | exact .inr rfl) (by kernel_rfl) rfl (.inr ⟨⟨_, _, rfl⟩, rfl⟩)) ?_; rintro _ rfl)
      ((refine TE.run tysOk rfl (by rfl) ?_ ?_); (repeat' (first | (with_reducible refine AllP.go ?_; (first | exact trivial | exact fun i _ => ⟨_, rfl⟩ | ((try simp only [OS]); repeat' (first | omega | exact fun i _ => ⟨_, rfl⟩ | refine And.intro ?_ ?_)))) | (refine TE.rgo tysOk rfl (by rfl) ?_ ?_) | (with_reducible first | refine t1 ?_ | refine t2 ?_ | refine t3 ?_ | refine t4 ?_ | refine t5 ?_ | refine t6 ?_ | refine t7 ?_ | refine t8 ?_ | refine t9 ?_ | refine tA ?_ | refine tB ?_ | refine tC ?_ | refine tD rfl ?_ | refine tE ?_ | refine tF ?_ | refine tG ?_ | refine tH ?_ | refine tI ?_ | refine tJ ?_ | refine tK ?_ | refine tL ?_) | (with_reducible first | exact PanicOk.body | exact rd.panic | refine PanicOk.then' ?_ | refine PanicOk.block ?_ | refine PanicOk.jump ?_) | (refine TE.drawC (by rfl) (by rfl) (by rfl) (by rfl) ?_) | (refine TE.drawN (by rfl) (by rfl) (by rfl) ?_) | (refine TL.done (by rfl) ?_) | (refine TL.auto tysOk rfl ?_ (by rfl) ?_ ?_) | ((refine TL.one (by rfl) ?_); first | (refine StepL.mem tysOk rfl rfl rfl rfl (by rfl) ?_ (by rfl) ?_) | (refine StepL.pure tysOk rfl rfl rfl rfl (by rfl) ?_ (by rfl) ?_)) | (refine StepL.mem tysOk rfl rfl rfl rfl (by rfl) ?_ (by rfl) ?_) | refine TE.cond_true (by rfl) ?_ | refine TE.cond_false (by rfl) ?_ | ((refine TE.gsplit (by rfl) (by rfl) ?_ ?_ <;> intro h <;> (try simp only [NS] at h) <;> (try (exfalso; first | omega | exact h trivial | exact h | exact h rfl | contradiction))) <;> (refine TE.run tysOk rfl (by rfl) ?_ ?_)) | ((first | refine TL.gsplit (by rfl) (by rfl) ?_ ?_ | refine TE.cond_split (by rfl) ?_ ?_) <;> intro h <;> (try simp only [NS] at h) <;> (try (exfalso; first | omega | exact h trivial | exact h | exact h rfl | contradiction))))))
      (refine TE.ret' (by first | exact .inl rfl | exact .inr rfl) rfl tysOk (()) ?_ rfl (by rfl) ?_; all_goals (try (first | exact trivial | ((with_reducible refine AllP.go ?_); dsimp only [AllP, appP]; repeat' (first | with_reducible rfl | with_reducible exact LeD.refl | refine And.intro ?_ ?_ | (refine congrArg (Value.int _) ?_; first | omega | rfl | (simp only [Int.toNat_natCast]; omega)) | rfl | (refine congrArg Value.bool ?_; assumption) | exact LeD.refl)))))
    · rw [if_neg hr] at hp
      refine TE.callW (c3 hp) rfl (by rfl) (by rfl) rfl (by rfl) (by (first | exact trivial | ((with_reducible refine AllP.go ?_); dsimp only [AllP, appP]; repeat' (first | with_reducible rfl | with_reducible exact LeD.refl | refine And.intro ?_ ?_ | (refine congrArg (Value.int _) ?_; first | omega | rfl | (simp only [Int.toNat_natCast]; omega)) | rfl | (refine congrArg Value.bool ?_; assumption) | assumption | exact LeD.refl)))) ?_
      intro _ _
      ((refine TE.run tysOk rfl (by rfl) ?_ ?_); try (with_reducible refine AllP.go ?_; (first | exact trivial | exact fun i _ => ⟨_, rfl⟩ | ((try simp only [OS]); repeat' (first | omega | exact fun i _ => ⟨_, rfl⟩ | refine And.intro ?_ ?_)))))
      (repeat (with_reducible first | refine t1 ?_ | refine t2 ?_ | refine t3 ?_ | refine t4 ?_ | refine t5 ?_ | refine t6 ?_ | refine t7 ?_ | refine t8 ?_ | refine t9 ?_ | refine tA ?_ | refine tB ?_ | refine tC ?_ | refine tD rfl ?_ | refine tE ?_ | refine tF ?_ | refine tG ?_ | refine tH ?_ | refine tI ?_ | refine tJ ?_ | refine tK ?_ | refine tL ?_))
      ((refine TE.rgo tysOk rfl (by rfl) ?_ ?_); try (with_reducible refine AllP.go ?_; (first | exact trivial | exact fun i _ => ⟨_, rfl⟩ | ((try simp only [OS]); repeat' (first | omega | exact fun i _ => ⟨_, rfl⟩ | refine And.intro ?_ ?_)))))
      (refine TE.step rfl rfl rfl (fun _ h => nomatch h) (m_ifNil (b := true) rfl (by first | exact .inl rfl | exact .inr rfl) (by kernel_rfl) rfl (.inl ⟨rfl, rfl⟩)) ?_; rintro _ rfl)
      ((refine TE.run tysOk rfl (by rfl) ?_ ?_); (repeat' (first | (with_reducible refine AllP.go ?_; (first | exact trivial | exact fun i _ => ⟨_, rfl⟩ | ((try simp only [OS]); repeat' (first | omega | exact fun i _ => ⟨_, rfl⟩ | refine And.intro ?_ ?_)))) | (refine TE.rgo tysOk rfl (by rfl) ?_ ?_) | (with_reducible first | refine t1 ?_ | refine t2 ?_ | refine t3 ?_ | refine t4 ?_ | refine t5 ?_ | refine t6 ?_ | refine t7 ?_ | refine t8 ?_ | refine t9 ?_ | refine tA ?_ | refine tB ?_ | refine tC ?_ | refine tD rfl ?_ | refine tE ?_ | refine tF ?_ | refine tG ?_ | refine tH ?_ | refine tI ?_ | refine tJ ?_ | refine tK ?_ | refine tL ?_) | (with_reducible first | exact PanicOk.body | exact rd.panic | refine PanicOk.then' ?_ | refine PanicOk.block ?_ | refine PanicOk.jump ?_) | (refine TE.drawC (by rfl) (by rfl) (by rfl) (by rfl) ?_) | (refine TE.drawN (by rfl) (by rfl) (by rfl) ?_) | (refine TL.done (by rfl) ?_) | (refine TL.auto tysOk rfl ?_ (by rfl) ?_ ?_) | ((refine TL.one (by rfl) ?_); first | (refine StepL.mem tysOk rfl rfl rfl rfl (by rfl) ?_ (by rfl) ?_) | (refine StepL.pure tysOk rfl rfl rfl rfl (by rfl) ?_ (by rfl) ?_)) | (refine StepL.mem tysOk rfl rfl rfl rfl (by rfl) ?_ (by rfl) ?_) | refine TE.cond_true (by rfl) ?_ | refine TE.cond_false (by rfl) ?_ | ((refine TE.gsplit (by rfl) (by rfl) ?_ ?_ <;> intro h <;> (try simp only [NS] at h) <;> (try (exfalso; first | omega | exact h trivial | exact h | exact h rfl | contradiction))) <;> (refine TE.run tysOk rfl (by rfl) ?_ ?_)) | ((first | refine TL.gsplit (by rfl) (by rfl) ?_ ?_ | refine TE.cond_split (by rfl) ?_ ?_) <;> intro h <;> (try simp only [NS] at h) <;> (try (exfalso; first | omega | exact h trivial | exact h | exact h rfl | contradiction))))))
      · rw [hi, if_pos (by omega)]; (refine TE.ret' (by first | exact .inl rfl | exact .inr rfl) rfl tysOk (()) ?_ rfl (by rfl) ?_; all_goals (try (first | exact trivial | ((with_reducible refine AllP.go ?_); dsimp only [AllP, appP]; repeat' (first | with_reducible rfl | with_reducible exact LeD.refl | refine And.intro ?_ ?_ | (refine congrArg (Value.int _) ?_; first | omega | rfl | (simp only [Int.toNat_natCast]; omega)) | rfl | (refine congrArg Value.bool ?_; assumption) | exact LeD.refl)))))
      · rw [hi, if_pos (by omega)]; (refine TE.ret' (by first | exact .inl rfl | exact .inr rfl) rfl tysOk (()) ?_ rfl (by rfl) ?_; all_goals (try (first | exact trivial | ((with_reducible refine AllP.go ?_); dsimp only [AllP, appP]; repeat' (first | with_reducible rfl | with_reducible exact LeD.refl | refine And.intro ?_ ?_ | (refine congrArg (Value.int _) ?_; first | omega | rfl | (simp only [Int.toNat_natCast]; omega)) | rfl | (refine congrArg Value.bool ?_; assumption) | exact LeD.refl)))))
      · rw [hi, if_neg (by omega)]; (refine TE.ret' (by first | exact .inl rfl | exact .inr rfl) rfl tysOk (()) ?_ rfl (by rfl) ?_; all_goals (try (first | exact trivial | ((with_reducible refine AllP.go ?_); dsimp only [AllP, appP]; repeat' (first | with_reducible rfl | with_reducible exact LeD.refl | refine And.intro ?_ ?_ | (refine congrArg (Value.int _) ?_; first | omega | rfl | (simp only [Int.toNat_natCast]; omega)) | rfl | (refine congrArg Value.bool ?_; assumption) | exact LeD.refl)))))
end Go.Proofs.YtmeapfckibbbbaaGreatDoor.Am
/- The words: names and numbers, the reference's. -/
set_option linter.unusedVariables false
namespace Go.Proofs.YtmeapfckibbbbaaGreatDoor.Am
open Go.RowKit Lw Wo
set_option maxRecDepth 20000 in
theorem dig1_c (c : UInt8) : Con Tryz.prog 58 [.o (.c (.int .u8 c.toNat))] [] 0 0 U (fun _ => .o (.sb (digC c))) G0 := by
  refine con_of Tryz.func58 rfl (by kernel_rfl) Tryz.ntmps58 rfl (by first | exact Nat.zero_le _ | decide) (fun _ => ⟨rfl, rfl⟩) fun w S ν => ?_
  (repeat' (first | (with_reducible refine AllP.go ?_; (first | exact trivial | exact fun i _ => ⟨_, rfl⟩ | ((try simp only [OS]); repeat' (first | omega | exact fun i _ => ⟨_, rfl⟩ | refine And.intro ?_ ?_)))) | (refine TE.rgo tysOk rfl (by rfl) ?_ ?_) | (with_reducible first | refine t1 ?_ | refine t2 ?_ | refine t3 ?_ | refine t4 ?_ | refine t5 ?_ | refine t6 ?_ | refine t7 ?_ | refine t8 ?_ | refine t9 ?_ | refine tA ?_ | refine tB ?_ | refine tC ?_ | refine tD rfl ?_ | refine tE ?_ | refine tF ?_ | refine tG ?_ | refine tH ?_ | refine tI ?_ | refine tJ ?_ | refine tK ?_ | refine tL ?_) | (with_reducible first | exact PanicOk.body | exact rd.panic | refine PanicOk.then' ?_ | refine PanicOk.block ?_ | refine PanicOk.jump ?_) | (refine TE.drawC (by rfl) (by rfl) (by rfl) (by rfl) ?_) | (refine TE.drawN (by rfl) (by rfl) (by rfl) ?_) | (refine TL.done (by rfl) ?_) | (refine TL.auto tysOk rfl ?_ (by rfl) ?_ ?_) | ((refine TL.one (by rfl) ?_); first | (refine StepL.mem tysOk rfl rfl rfl rfl (by rfl) ?_ (by rfl) ?_) | (refine StepL.pure tysOk rfl rfl rfl rfl (by rfl) ?_ (by rfl) ?_)) | (refine StepL.mem tysOk rfl rfl rfl rfl (by rfl) ?_ (by rfl) ?_) | refine TE.cond_true (by rfl) ?_ | refine TE.cond_false (by rfl) ?_ | ((refine TE.gsplit (by rfl) (by rfl) ?_ ?_ <;> intro h <;> (try simp only [NS] at h) <;> (try (exfalso; first | omega | exact h trivial | exact h | exact h rfl | contradiction))) <;> (refine TE.run tysOk rfl (by rfl) ?_ ?_)) | ((first | refine TL.gsplit (by rfl) (by rfl) ?_ ?_ | refine TE.cond_split (by rfl) ?_ ?_) <;> intro h <;> (try simp only [NS] at h) <;> (try (exfalso; first | omega | exact h trivial | exact h | exact h rfl | contradiction)))))
  · rw [show digC c = decide ((c.toNat : Int) ≤ 57) from decide_eq_decide.2 ⟨fun h => by omega, fun h => by omega⟩]
    (refine TE.ret' (by first | exact .inl rfl | exact .inr rfl) rfl tysOk (()) ?_ rfl (by rfl) ?_; all_goals (try (first | exact trivial | ((with_reducible refine AllP.go ?_); dsimp only [AllP, appP]; repeat' (first | with_reducible rfl | with_reducible exact LeD.refl | refine And.intro ?_ ?_ | (refine congrArg (Value.int _) ?_; first | omega | rfl | (simp only [Int.toNat_natCast]; omega)) | rfl | (refine congrArg Value.bool ?_; assumption) | exact LeD.refl)))))
  · rw [show digC c = false from decide_eq_false (by omega)]
    (refine TE.ret' (by first | exact .inl rfl | exact .inr rfl) rfl tysOk (()) ?_ rfl (by rfl) ?_; all_goals (try (first | exact trivial | ((with_reducible refine AllP.go ?_); dsimp only [AllP, appP]; repeat' (first | with_reducible rfl | with_reducible exact LeD.refl | refine And.intro ?_ ?_ | (refine congrArg (Value.int _) ?_; first | omega | rfl | (simp only [Int.toNat_natCast]; omega)) | rfl | (refine congrArg Value.bool ?_; assumption) | exact LeD.refl)))))
theorem all_step {p : UInt8 → Bool} {l : Bs} {q : Nat} (h : q < l.length) : (l.take (q + 1)).all p = ((l.take q).all p && p (l.getD q 0)) := by
  rw [List.take_add_one, List.getElem?_eq_getElem h, List.all_append, List.getD_eq_getElem?_getD, List.getElem?_eq_getElem h]
  simp
theorem all_no {p : UInt8 → Bool} {l : Bs} {q : Nat} (h : q < l.length) (hp : p (l.getD q 0) = false) : l.all p = false := by
  rw [Bool.eq_false_iff]
  intro h2
  have h3 := List.all_eq_true.1 h2 l[q] (List.getElem_mem h)
  rw [List.getD_eq_getElem?_getD, List.getElem?_eq_getElem h] at hp
  rw [show p l[q] = false from hp] at h3
  cases h3
def rbodyI (l : Bs) : Bs := if 1 < l.length ∧ (l.getD 0 0).toNat = 45 ∧ (l.getD 1 0).toNat ≠ 48 then l.drop 1 else l
theorem rdec_eq (l : Bs) : (decide (¬ ((rbodyI l).length = 0 ∨ (1 < (rbodyI l).length ∧ ((rbodyI l).getD 0 0).toNat = 48))) && (rbodyI l).all digC) = decI l := by
  have h48 : ∀ c : UInt8, c.toNat = 48 ↔ c = 48 := fun c => ⟨fun h => UInt8.toNat_inj.1 h, fun h => by rw [h]; rfl⟩
  have h45 : ∀ c : UInt8, c.toNat = 45 ↔ c = 45 := fun c => ⟨fun h => UInt8.toNat_inj.1 h, fun h => by rw [h]; rfl⟩
  unfold rbodyI decI bodyI
  match l with
  | [] => rfl
  | [c] =>
    by_cases hc : c = 45
    · subst hc; rfl
    · simp [hc]
  | c :: d :: r =>
    by_cases hc : c = 45
    · subst hc
      by_cases hd : d = 48
      · subst hd; simp [digC]
      · have : ¬ d.toNat = 48 := fun e => hd ((h48 d).1 e)
        simp [this, hd]
    · have h1 : ¬ c.toNat = 45 := fun e => hc ((h45 c).1 e)
      by_cases hd : c = 48
      · subst hd; simp
      · have : ¬ c.toNat = 48 := fun e => hd ((h48 c).1 e)
        simp [h1, this, hc, hd]
set_option maxRecDepth 20000 in
theorem rDec_c (l : Bs) (hl : l.length ≤ 1000000) : Con Tryz.prog 34 [.o (.c (.string (sB l)))] [] 0 0 U (fun _ => .o (.sb (decI l))) G0 := by
  refine con_of Tryz.func34 rfl (by kernel_rfl) Tryz.ntmps34 rfl (by first | exact Nat.zero_le _ | decide) (fun _ => ⟨rfl, rfl⟩) fun w S ν => ?_
  have hz := sB_size l
  obtain ⟨t, ht⟩ : ∃ t, t = rbodyI l := ⟨_, rfl⟩
  have hd := rdec_eq l
  rw [← ht] at hd
  have htl : t.length ≤ l.length := by
    rw [ht]; unfold rbodyI; split
    · simp
    · exact Nat.le_refl _
  (refine TE.seq ?_; (refine TE.rgo tysOk rfl (by rfl) (by (first | exact trivial | exact fun i _ => ⟨_, rfl⟩ | ((try simp only [OS]); repeat' (first | omega | exact fun i _ => ⟨_, rfl⟩ | refine And.intro ?_ ?_)))) ?_); refine TE.done ?_; refine TE.thenN ?_)
  refine TE.seqM (ι := Unit) (fun _ => True) (fun _ => ⟨[(0, .o (.c (.string (sB t)))), (2, .o (.c (.bool false)))], [], 0⟩) ?_ fun _ _ => ?_
  · have r1 : 1 < l.length → ((l.getD (Int.toNat 0) 0).toNat : Int) = 45 → ¬ ((l.getD (Int.toNat 1) 0).toNat : Int) = 48 → (sB l).extract (Int.toNat 1) ((sB l).size : Int).toNat = sB t := fun h1 h2 h3 => by
      have h2 : ((l.getD 0 0).toNat : Int) = 45 := h2
      have h3 : ¬ ((l.getD 1 0).toNat : Int) = 48 := h3
      rw [ht, rbodyI, if_pos ⟨h1, by omega, by omega⟩, show ((sB l).size : Int).toNat = (sB l).size from rfl, sB_ext, sB_size]
      exact congrArg sB (List.take_of_length_le (by simp))
    have r2 : ¬ (1 < l.length ∧ ((l.getD (Int.toNat 0) 0).toNat : Int) = 45 ∧ ¬ ((l.getD (Int.toNat 1) 0).toNat : Int) = 48) → sB l = sB t := fun h => by
      have h : ¬ (1 < l.length ∧ ((l.getD 0 0).toNat : Int) = 45 ∧ ¬ ((l.getD 1 0).toNat : Int) = 48) := h
      rw [ht, rbodyI, if_neg (by omega)]
    (repeat' (first | (with_reducible refine AllP.go ?_; (first | exact trivial | exact fun i _ => ⟨_, rfl⟩ | ((try simp only [OS]); repeat' (first | omega | exact fun i _ => ⟨_, rfl⟩ | refine And.intro ?_ ?_)))) | (refine TE.rgo tysOk rfl (by rfl) ?_ ?_) | (with_reducible first | refine t1 ?_ | refine t2 ?_ | refine t3 ?_ | refine t4 ?_ | refine t5 ?_ | refine t6 ?_ | refine t7 ?_ | refine t8 ?_ | refine t9 ?_ | refine tA ?_ | refine tB ?_ | refine tC ?_ | refine tD rfl ?_ | refine tE ?_ | refine tF ?_ | refine tG ?_ | refine tH ?_ | refine tI ?_ | refine tJ ?_ | refine tK ?_ | refine tL ?_) | (with_reducible first | exact PanicOk.body | exact rd.panic | refine PanicOk.then' ?_ | refine PanicOk.block ?_ | refine PanicOk.jump ?_) | (refine TE.drawC (by rfl) (by rfl) (by rfl) (by rfl) ?_) | (refine TE.drawN (by rfl) (by rfl) (by rfl) ?_) | (refine TL.done (by rfl) ?_) | (refine TL.auto tysOk rfl ?_ (by rfl) ?_ ?_) | ((refine TL.one (by rfl) ?_); first | (refine StepL.mem tysOk rfl rfl rfl rfl (by rfl) ?_ (by rfl) ?_) | (refine StepL.pure tysOk rfl rfl rfl rfl (by rfl) ?_ (by rfl) ?_)) | (refine StepL.mem tysOk rfl rfl rfl rfl (by rfl) ?_ (by rfl) ?_) | refine TE.cond_true (by rfl) ?_ | refine TE.cond_false (by rfl) ?_ | ((refine TE.gsplit (by rfl) (by rfl) ?_ ?_ <;> intro h <;> (try simp only [NS] at h) <;> (try (exfalso; first | omega | exact h trivial | exact h | exact h rfl | contradiction))) <;> (refine TE.run tysOk rfl (by rfl) ?_ ?_)) | ((first | refine TL.gsplit (by rfl) (by rfl) ?_ ?_ | refine TE.cond_split (by rfl) ?_ ?_) <;> intro h <;> (try simp only [NS] at h) <;> (try (exfalso; first | omega | exact h trivial | exact h | exact h rfl | contradiction)))))
    · rw [r1 (by omega) (by assumption) (by assumption)]; (refine TE.at () trivial ?_; (refine Ent.of rfl rfl (by rfl) ?_; (try (first | exact trivial | ((with_reducible refine AllP.go ?_); dsimp only [AllP, appP]; repeat' (first | with_reducible rfl | with_reducible exact LeD.refl | refine And.intro ?_ ?_ | (refine congrArg (Value.int _) ?_; first | omega | rfl | (simp only [Int.toNat_natCast]; omega)) | rfl | (refine congrArg Value.bool ?_; assumption) | exact LeD.refl))))))
    · rw [r2 (by omega)]; (refine TE.at () trivial ?_; (refine Ent.of rfl rfl (by rfl) ?_; (try (first | exact trivial | ((with_reducible refine AllP.go ?_); dsimp only [AllP, appP]; repeat' (first | with_reducible rfl | with_reducible exact LeD.refl | refine And.intro ?_ ?_ | (refine congrArg (Value.int _) ?_; first | omega | rfl | (simp only [Int.toNat_natCast]; omega)) | rfl | (refine congrArg Value.bool ?_; assumption) | exact LeD.refl))))))
    · rw [r2 (by omega)]; (refine TE.at () trivial ?_; (refine Ent.of rfl rfl (by rfl) ?_; (try (first | exact trivial | ((with_reducible refine AllP.go ?_); dsimp only [AllP, appP]; repeat' (first | with_reducible rfl | with_reducible exact LeD.refl | refine And.intro ?_ ?_ | (refine congrArg (Value.int _) ?_; first | omega | rfl | (simp only [Int.toNat_natCast]; omega)) | rfl | (refine congrArg Value.bool ?_; assumption) | exact LeD.refl))))))
    · rw [r2 (by omega)]; (refine TE.at () trivial ?_; (refine Ent.of rfl rfl (by rfl) ?_; (try (first | exact trivial | ((with_reducible refine AllP.go ?_); dsimp only [AllP, appP]; repeat' (first | with_reducible rfl | with_reducible exact LeD.refl | refine And.intro ?_ ?_ | (refine congrArg (Value.int _) ?_; first | omega | rfl | (simp only [Int.toNat_natCast]; omega)) | rfl | (refine congrArg Value.bool ?_; assumption) | exact LeD.refl))))))
  have hz2 := sB_size t
  have h0 : t.getD (Int.toNat 0) 0 = t.getD 0 0 := rfl
  have hlast : ¬ (t.length = 0 ∨ (1 < t.length ∧ (t.getD 0 0).toNat = 48)) → decI l = t.all digC := fun h => by rw [← hd, decide_eq_true h, Bool.true_and]
  have hfirst : (t.length = 0 ∨ (1 < t.length ∧ (t.getD 0 0).toNat = 48)) → decI l = false := fun h => by rw [← hd, decide_eq_false (not_not_intro h), Bool.false_and]
  refine TE.seqM (ι := Unit) (fun _ => decI l = t.all digC) (fun _ => ⟨[(0, .o (.c (.string (sB t))))], [], 0⟩) ?_ fun _ hx => ?_
  · (repeat' (first | (with_reducible refine AllP.go ?_; (first | exact trivial | exact fun i _ => ⟨_, rfl⟩ | ((try simp only [OS]); repeat' (first | omega | exact fun i _ => ⟨_, rfl⟩ | refine And.intro ?_ ?_)))) | (refine TE.rgo tysOk rfl (by rfl) ?_ ?_) | (with_reducible first | refine t1 ?_ | refine t2 ?_ | refine t3 ?_ | refine t4 ?_ | refine t5 ?_ | refine t6 ?_ | refine t7 ?_ | refine t8 ?_ | refine t9 ?_ | refine tA ?_ | refine tB ?_ | refine tC ?_ | refine tD rfl ?_ | refine tE ?_ | refine tF ?_ | refine tG ?_ | refine tH ?_ | refine tI ?_ | refine tJ ?_ | refine tK ?_ | refine tL ?_) | (with_reducible first | exact PanicOk.body | exact rd.panic | refine PanicOk.then' ?_ | refine PanicOk.block ?_ | refine PanicOk.jump ?_) | (refine TE.drawC (by rfl) (by rfl) (by rfl) (by rfl) ?_) | (refine TE.drawN (by rfl) (by rfl) (by rfl) ?_) | (refine TL.done (by rfl) ?_) | (refine TL.auto tysOk rfl ?_ (by rfl) ?_ ?_) | ((refine TL.one (by rfl) ?_); first | (refine StepL.mem tysOk rfl rfl rfl rfl (by rfl) ?_ (by rfl) ?_) | (refine StepL.pure tysOk rfl rfl rfl rfl (by rfl) ?_ (by rfl) ?_)) | (refine StepL.mem tysOk rfl rfl rfl rfl (by rfl) ?_ (by rfl) ?_) | refine TE.cond_true (by rfl) ?_ | refine TE.cond_false (by rfl) ?_ | ((refine TE.gsplit (by rfl) (by rfl) ?_ ?_ <;> intro h <;> (try simp only [NS] at h) <;> (try (exfalso; first | omega | exact h trivial | exact h | exact h rfl | contradiction))) <;> (refine TE.run tysOk rfl (by rfl) ?_ ?_)) | ((first | refine TL.gsplit (by rfl) (by rfl) ?_ ?_ | refine TE.cond_split (by rfl) ?_ ?_) <;> intro h <;> (try simp only [NS] at h) <;> (try (exfalso; first | omega | exact h trivial | exact h | exact h rfl | contradiction)))))
    · rw [hfirst (.inl (by omega))]; (refine TE.ret' (by first | exact .inl rfl | exact .inr rfl) rfl tysOk (()) ?_ rfl (by rfl) ?_; all_goals (try (first | exact trivial | ((with_reducible refine AllP.go ?_); dsimp only [AllP, appP]; repeat' (first | with_reducible rfl | with_reducible exact LeD.refl | refine And.intro ?_ ?_ | (refine congrArg (Value.int _) ?_; first | omega | rfl | (simp only [Int.toNat_natCast]; omega)) | rfl | (refine congrArg Value.bool ?_; assumption) | exact LeD.refl)))))
    · rw [hfirst (.inr (by rw [← h0]; omega))]; (refine TE.ret' (by first | exact .inl rfl | exact .inr rfl) rfl tysOk (()) ?_ rfl (by rfl) ?_; all_goals (try (first | exact trivial | ((with_reducible refine AllP.go ?_); dsimp only [AllP, appP]; repeat' (first | with_reducible rfl | with_reducible exact LeD.refl | refine And.intro ?_ ?_ | (refine congrArg (Value.int _) ?_; first | omega | rfl | (simp only [Int.toNat_natCast]; omega)) | rfl | (refine congrArg Value.bool ?_; assumption) | exact LeD.refl)))))
    · refine TE.at () (hlast (by rw [← h0]; omega)) ?_
      (refine Ent.of rfl rfl (by rfl) ?_; (try (first | exact trivial | ((with_reducible refine AllP.go ?_); dsimp only [AllP, appP]; repeat' (first | with_reducible rfl | with_reducible exact LeD.refl | refine And.intro ?_ ?_ | (refine congrArg (Value.int _) ?_; first | omega | rfl | (simp only [Int.toNat_natCast]; omega)) | rfl | (refine congrArg Value.bool ?_; assumption) | exact LeD.refl)))))
    · refine TE.at () (hlast (by omega)) ?_
      (refine Ent.of rfl rfl (by rfl) ?_; (try (first | exact trivial | ((with_reducible refine AllP.go ?_); dsimp only [AllP, appP]; repeat' (first | with_reducible rfl | with_reducible exact LeD.refl | refine And.intro ?_ ?_ | (refine congrArg (Value.int _) ?_; first | omega | rfl | (simp only [Int.toNat_natCast]; omega)) | rfl | (refine congrArg Value.bool ?_; assumption) | exact LeD.refl)))))
  (repeat' (first | (with_reducible refine AllP.go ?_; (first | exact trivial | exact fun i _ => ⟨_, rfl⟩ | ((try simp only [OS]); repeat' (first | omega | exact fun i _ => ⟨_, rfl⟩ | refine And.intro ?_ ?_)))) | (refine TE.rgo tysOk rfl (by rfl) ?_ ?_) | (with_reducible first | refine t1 ?_ | refine t2 ?_ | refine t3 ?_ | refine t4 ?_ | refine t5 ?_ | refine t6 ?_ | refine t7 ?_ | refine t8 ?_ | refine t9 ?_ | refine tA ?_ | refine tB ?_ | refine tC ?_ | refine tD rfl ?_ | refine tE ?_ | refine tF ?_ | refine tG ?_ | refine tH ?_ | refine tI ?_ | refine tJ ?_ | refine tK ?_ | refine tL ?_) | (with_reducible first | exact PanicOk.body | exact rd.panic | refine PanicOk.then' ?_ | refine PanicOk.block ?_ | refine PanicOk.jump ?_) | (refine TE.drawC (by rfl) (by rfl) (by rfl) (by rfl) ?_) | (refine TE.drawN (by rfl) (by rfl) (by rfl) ?_) | (refine TL.done (by rfl) ?_) | (refine TL.auto tysOk rfl ?_ (by rfl) ?_ ?_) | ((refine TL.one (by rfl) ?_); first | (refine StepL.mem tysOk rfl rfl rfl rfl (by rfl) ?_ (by rfl) ?_) | (refine StepL.pure tysOk rfl rfl rfl rfl (by rfl) ?_ (by rfl) ?_)) | (refine StepL.mem tysOk rfl rfl rfl rfl (by rfl) ?_ (by rfl) ?_) | refine TE.cond_true (by rfl) ?_ | refine TE.cond_false (by rfl) ?_ | ((refine TE.gsplit (by rfl) (by rfl) ?_ ?_ <;> intro h <;> (try simp only [NS] at h) <;> (try (exfalso; first | omega | exact h trivial | exact h | exact h rfl | contradiction))) <;> (refine TE.run tysOk rfl (by rfl) ?_ ?_)) | ((first | refine TL.gsplit (by rfl) (by rfl) ?_ ?_ | refine TE.cond_split (by rfl) ?_ ?_) <;> intro h <;> (try simp only [NS] at h) <;> (try (exfalso; first | omega | exact h trivial | exact h | exact h rfl | contradiction)))))
  refine TE.loopG (fun q : Nat => q ≤ t.length ∧ (t.take q).all digC = true) (fun q => [(3, .o (.c (.int .i64 q)))]) [] (fun _ => []) (fun q => t.length - q) 0 (by rfl) ⟨Nat.zero_le _, rfl⟩ ?_ ?_
  · (refine Ent.of rfl rfl (by rfl) ?_; (try (first | exact trivial | ((with_reducible refine AllP.go ?_); dsimp only [AllP, appP]; repeat' (first | with_reducible rfl | with_reducible exact LeD.refl | refine And.intro ?_ ?_ | (refine congrArg (Value.int _) ?_; first | omega | rfl | (simp only [Int.toNat_natCast]; omega)) | rfl | (refine congrArg Value.bool ?_; assumption) | exact LeD.refl)))))
  rintro q ⟨hq, hqa⟩
  have hst := fun h => all_step (p := digC) (l := t) (q := q) h
  have hno := fun h => all_no (p := digC) (l := t) (q := q) h
  (repeat' (first | (with_reducible refine AllP.go ?_; (first | exact trivial | exact fun i _ => ⟨_, rfl⟩ | ((try simp only [OS]); repeat' (first | omega | exact fun i _ => ⟨_, rfl⟩ | refine And.intro ?_ ?_)))) | (refine TE.rgo tysOk rfl (by rfl) ?_ ?_) | (with_reducible first | refine t1 ?_ | refine t2 ?_ | refine t3 ?_ | refine t4 ?_ | refine t5 ?_ | refine t6 ?_ | refine t7 ?_ | refine t8 ?_ | refine t9 ?_ | refine tA ?_ | refine tB ?_ | refine tC ?_ | refine tD rfl ?_ | refine tE ?_ | refine tF ?_ | refine tG ?_ | refine tH ?_ | refine tI ?_ | refine tJ ?_ | refine tK ?_ | refine tL ?_) | (with_reducible first | exact PanicOk.body | exact rd.panic | refine PanicOk.then' ?_ | refine PanicOk.block ?_ | refine PanicOk.jump ?_) | (refine TE.drawC (by rfl) (by rfl) (by rfl) (by rfl) ?_) | (refine TE.drawN (by rfl) (by rfl) (by rfl) ?_) | (refine TL.done (by rfl) ?_) | (refine TL.auto tysOk rfl ?_ (by rfl) ?_ ?_) | ((refine TL.one (by rfl) ?_); first | (refine StepL.mem tysOk rfl rfl rfl rfl (by rfl) ?_ (by rfl) ?_) | (refine StepL.pure tysOk rfl rfl rfl rfl (by rfl) ?_ (by rfl) ?_)) | (refine StepL.mem tysOk rfl rfl rfl rfl (by rfl) ?_ (by rfl) ?_) | refine TE.cond_true (by rfl) ?_ | refine TE.cond_false (by rfl) ?_ | ((refine TE.gsplit (by rfl) (by rfl) ?_ ?_ <;> intro h <;> (try simp only [NS] at h) <;> (try (exfalso; first | omega | exact h trivial | exact h | exact h rfl | contradiction))) <;> (refine TE.run tysOk rfl (by rfl) ?_ ?_)) | ((first | refine TL.gsplit (by rfl) (by rfl) ?_ ?_ | refine TE.cond_split (by rfl) ?_ ?_) <;> intro h <;> (try simp only [NS] at h) <;> (try (exfalso; first | omega | exact h trivial | exact h | exact h rfl | contradiction)))))
  · refine TE.callW (dig1_c (t.getD q 0)) rfl (by rfl) (by rfl) rfl (by rfl) (by (first | exact trivial | ((with_reducible refine AllP.go ?_); dsimp only [AllP, appP]; repeat' (first | with_reducible rfl | with_reducible exact LeD.refl | refine And.intro ?_ ?_ | (refine congrArg (Value.int _) ?_; first | omega | rfl | (simp only [Int.toNat_natCast]; omega)) | rfl | (refine congrArg Value.bool ?_; assumption) | assumption | exact LeD.refl)))) ?_
    intro _ _
    ((refine TE.run tysOk rfl (by rfl) ?_ ?_); (repeat' (first | (with_reducible refine AllP.go ?_; (first | exact trivial | exact fun i _ => ⟨_, rfl⟩ | ((try simp only [OS]); repeat' (first | omega | exact fun i _ => ⟨_, rfl⟩ | refine And.intro ?_ ?_)))) | (refine TE.rgo tysOk rfl (by rfl) ?_ ?_) | (with_reducible first | refine t1 ?_ | refine t2 ?_ | refine t3 ?_ | refine t4 ?_ | refine t5 ?_ | refine t6 ?_ | refine t7 ?_ | refine t8 ?_ | refine t9 ?_ | refine tA ?_ | refine tB ?_ | refine tC ?_ | refine tD rfl ?_ | refine tE ?_ | refine tF ?_ | refine tG ?_ | refine tH ?_ | refine tI ?_ | refine tJ ?_ | refine tK ?_ | refine tL ?_) | (with_reducible first | exact PanicOk.body | exact rd.panic | refine PanicOk.then' ?_ | refine PanicOk.block ?_ | refine PanicOk.jump ?_) | (refine TE.drawC (by rfl) (by rfl) (by rfl) (by rfl) ?_) | (refine TE.drawN (by rfl) (by rfl) (by rfl) ?_) | (refine TL.done (by rfl) ?_) | (refine TL.auto tysOk rfl ?_ (by rfl) ?_ ?_) | ((refine TL.one (by rfl) ?_); first | (refine StepL.mem tysOk rfl rfl rfl rfl (by rfl) ?_ (by rfl) ?_) | (refine StepL.pure tysOk rfl rfl rfl rfl (by rfl) ?_ (by rfl) ?_)) | (refine StepL.mem tysOk rfl rfl rfl rfl (by rfl) ?_ (by rfl) ?_) | refine TE.cond_true (by rfl) ?_ | refine TE.cond_false (by rfl) ?_ | ((refine TE.gsplit (by rfl) (by rfl) ?_ ?_ <;> intro h <;> (try simp only [NS] at h) <;> (try (exfalso; first | omega | exact h trivial | exact h | exact h rfl | contradiction))) <;> (refine TE.run tysOk rfl (by rfl) ?_ ?_)) | ((first | refine TL.gsplit (by rfl) (by rfl) ?_ ?_ | refine TE.cond_split (by rfl) ?_ ?_) <;> intro h <;> (try simp only [NS] at h) <;> (try (exfalso; first | omega | exact h trivial | exact h | exact h rfl | contradiction))))))
    · rw [hx, hno (by omega) (decide_eq_false (by omega))]; (refine TE.ret' (by first | exact .inl rfl | exact .inr rfl) rfl tysOk (()) ?_ rfl (by rfl) ?_; all_goals (try (first | exact trivial | ((with_reducible refine AllP.go ?_); dsimp only [AllP, appP]; repeat' (first | with_reducible rfl | with_reducible exact LeD.refl | refine And.intro ?_ ?_ | (refine congrArg (Value.int _) ?_; first | omega | rfl | (simp only [Int.toNat_natCast]; omega)) | rfl | (refine congrArg Value.bool ?_; assumption) | exact LeD.refl)))))
    · refine TE.again' (q + 1) ⟨by omega, by rw [hst (by omega), hqa, show digC (t.getD q 0) = true from decide_eq_true (by omega)]; rfl⟩ (by omega) ?_
      (refine Ent.of rfl rfl (by rfl) ?_; (try (first | exact trivial | ((with_reducible refine AllP.go ?_); dsimp only [AllP, appP]; repeat' (first | with_reducible rfl | with_reducible exact LeD.refl | refine And.intro ?_ ?_ | (refine congrArg (Value.int _) ?_; first | omega | rfl | (simp only [Int.toNat_natCast]; omega)) | rfl | (refine congrArg Value.bool ?_; assumption) | exact LeD.refl)))))
  · obtain rfl : q = t.length := by omega
    rw [List.take_length] at hqa
    rw [hx, hqa]
    (refine TE.ret' (by first | exact .inl rfl | exact .inr rfl) rfl tysOk (()) ?_ rfl (by rfl) ?_; all_goals (try (first | exact trivial | ((with_reducible refine AllP.go ?_); dsimp only [AllP, appP]; repeat' (first | with_reducible rfl | with_reducible exact LeD.refl | refine And.intro ?_ ?_ | (refine congrArg (Value.int _) ?_; first | omega | rfl | (simp only [Int.toNat_natCast]; omega)) | rfl | (refine congrArg Value.bool ?_; assumption) | exact LeD.refl)))))
end Go.Proofs.YtmeapfckibbbbaaGreatDoor.Am
