/- Texts of this claim, joined. -/
import Derived.Test.YtmeapfckibbbbaaDoorPk4
import Derived.Test.YtmeapfckibbbbaaDoorProg
import Derived.Shelf.Strings.Builder1
import Derived.Shelf.Strings.Builder2
import Derived.Shelf.Strings.OnBuilder
import Derived.Shelf.Strings.Trim
import Derived.Shelf.Small.Utf8
import Derived.Shelf.Small.Strs
import Derived.Shelf.Strings.BuilderF
import Derived.Shelf.Strings.BuilderK
import Derived.Shelf.Strings.Builder2Cap
import Derived.Shelf.Strconv.Itoa0
import Derived.Shelf.Strconv.Itoa1
import Derived.Shelf.LaysM
import Derived.Shelf.Strconv.Itoa2
import Derived.Shelf.Strconv.Itoa3
import Derived.Shelf.Strconv.Itoa4
import Derived.Shelf.Strconv.ParseIntEmpty
import Derived.Shelf.Strconv.Clone
import Derived.Shelf.Strconv.SyntaxError
import Derived.Shelf.LaysC
import Derived.Shelf.Strconv.ToError
import Derived.Shelf.Strconv.Lower
import Derived.Shelf.Strconv.ParseUint10
import Derived.Shelf.Strconv.ParseUint10Empty
import Derived.Shelf.Strconv.ParseUint10Any
import Derived.Shelf.Strconv.ParseInt10
import Derived.Shelf.Strconv.RangeError
import Derived.Shelf.Strconv.ToErrorRange
import Derived.Shelf.Strconv.ParseUintEmpty
import Derived.Shelf.Strconv.ParseUint10b64
import Derived.Shelf.Strconv.ParseUint10b32
import Derived.Shelf.Strconv.ParseUint10b16
import Derived.Shelf.Strconv.ParseUint10b8
import Derived.Shelf.Strconv.ParseUint10At
import Derived.Shelf.Strconv.ParseInt10At64
import Derived.Shelf.Strconv.ParseInt10At32
import Derived.Shelf.Strconv.ParseInt10At16
import Derived.Shelf.Strconv.ParseInt10At8
import Derived.Shelf.Strconv.ParseInt10All
import Derived.Shelf.Strconv.ParseIntPublic10
import Derived.Shelf.Strconv.ErrVarParseInt
import Derived.Shelf.Strings.Search1
import Derived.Shelf.Strings.Search2
import Derived.Shelf.Strings.Search3
import Derived.Shelf.Strings.Cut
import Derived.Shelf.Strings.Count
import Derived.Shelf.Strings.Shaped
import Derived.Shelf.Strings.Prefix
import Derived.Shelf.Unicode.Decode
import Derived.Shelf.Strings.Runes
import Derived.Shelf.Strings.AsciiSet
import Derived.Shelf.Unicode.DecodeSlow
import Derived.Shelf.Unicode.DecodeAny
import Derived.Shelf.Unicode.DecodeLast
import Derived.Shelf.Strings.BuilderCap
import Derived.Shelf.Strings.SlTrimAscii
import Derived.KernelRfl
import Derived.Lib.ItoaLen
set_option linter.unusedSimpArgs false
set_option linter.unusedVariables false
/- The table of the types. -/
namespace Go.Proofs.YtmeapfckibbbbaaDoor.Am
def tys : Tys := [
  ⟨1, .other, 1, 8, [.nilFunc], false⟩,
  ⟨2, .int .i64, 1, 8, [.int .i64 0], false⟩,
  ⟨3, .int .i64, 1, 8, [.int .i64 0], false⟩,
  ⟨4, .bool, 1, 1, [.bool false], false⟩,
  ⟨5, .int .u8, 1, 1, [.int .u8 0], false⟩,
  ⟨9, .str, 1, 16, [.string ⟨#[]⟩], false⟩,
  ⟨12, .int .u64, 1, 8, [.int .u64 0], false⟩,
  ⟨15, .other, 1, 8, [.pointer none], false⟩,
  ⟨16, .other, 1, 8, [.pointer none], false⟩,
  ⟨17, .other, 1, 8, [.pointer none], false⟩,
  ⟨20, .other, 1, 16, [.nilIface], false⟩,
  ⟨21, .int .i32, 1, 4, [.int .i32 0], false⟩,
  ⟨22, .other, 1, 8, [.nilFunc], false⟩,
  ⟨23, .slice 43, 1, 24, [.slice none 0 0], false⟩,
  ⟨24, .int .i64, 1, 8, [.int .i64 0], false⟩,
  ⟨26, .other, 1, 8, [.nilFunc], false⟩,
  ⟨27, .other, 1, 8, [.nilFunc], false⟩,
  ⟨28, .other, 1, 8, [.nilFunc], false⟩,
  ⟨30, .other, 1, 8, [.nilFunc], false⟩,
  ⟨31, .other, 1, 8, [.nilFunc], false⟩,
  ⟨32, .other, 1, 8, [.nilFunc], false⟩,
  ⟨34, .other, 1, 8, [.nilFunc], false⟩,
  ⟨35, .other, 1, 8, [.nilFunc], false⟩,
  ⟨36, .other, 1, 8, [.nilFunc], false⟩,
  ⟨37, .other, 1, 8, [.nilFunc], false⟩,
  ⟨38, .slice 5, 1, 24, [.slice none 0 0], false⟩,
  ⟨39, .other, 1, 8, [.nilFunc], false⟩,
  ⟨40, .other, 1, 8, [.nilFunc], false⟩,
  ⟨41, .slice 3, 1, 24, [.slice none 0 0], false⟩,
  ⟨42, .struct [(9, 0, 1), (4, 1, 1)], 2, 24, [.string ⟨#[]⟩, .bool false], true⟩,
  ⟨43, .struct [(9, 0, 1), (4, 1, 1)], 2, 24, [.string ⟨#[]⟩, .bool false], true⟩,
  ⟨44, .other, 1, 8, [.nilFunc], false⟩,
  ⟨45, .other, 1, 8, [.nilFunc], false⟩,
  ⟨46, .other, 1, 8, [.nilFunc], false⟩,
  ⟨48, .other, 1, 8, [.nilFunc], false⟩,
  ⟨49, .other, 1, 16, [.nilIface], false⟩,
  ⟨50, .other, 1, 16, [.nilIface], false⟩,
  ⟨52, .other, 1, 8, [.nilFunc], false⟩,
  ⟨53, .other, 1, 8, [.nilFunc], false⟩,
  ⟨54, .other, 1, 8, [.nilFunc], false⟩,
  ⟨55, .other, 1, 8, [.nilFunc], false⟩,
  ⟨56, .other, 1, 8, [.nilFunc], false⟩,
  ⟨57, .int .u64, 1, 8, [.int .u64 0], false⟩,
  ⟨58, .other, 1, 8, [.nilFunc], false⟩,
  ⟨59, .slice 9, 1, 24, [.slice none 0 0], false⟩,
  ⟨60, .other, 1, 8, [.nilFunc], false⟩,
  ⟨62, .other, 1, 8, [.nilFunc], false⟩,
  ⟨63, .other, 1, 8, [.pointer none], false⟩,
  ⟨64, .struct [(63, 0, 1), (38, 1, 1)], 2, 32, [.pointer none, .slice none 0 0], true⟩,
  ⟨65, .struct [(63, 0, 1), (38, 1, 1)], 2, 32, [.pointer none, .slice none 0 0], true⟩,
  ⟨66, .other, 1, 8, [.nilFunc], false⟩,
  ⟨67, .other, 1, 8, [.nilFunc], false⟩,
  ⟨69, .other, 1, 8, [.nilFunc], false⟩,
  ⟨70, .other, 1, 8, [.nilFunc], false⟩,
  ⟨71, .other, 1, 8, [.nilFunc], false⟩,
  ⟨72, .other, 1, 8, [.nilFunc], false⟩,
  ⟨74, .other, 1, 8, [.nilFunc], false⟩,
  ⟨75, .other, 1, 8, [.nilFunc], false⟩,
  ⟨76, .other, 1, 8, [.nilFunc], false⟩,
  ⟨80, .other, 1, 8, [.nilFunc], false⟩,
  ⟨81, .other, 1, 8, [.nilFunc], false⟩,
  ⟨82, .other, 1, 8, [.pointer none], false⟩,
  ⟨84, .other, 1, 8, [.nilFunc], false⟩,
  ⟨85, .struct [(5, 0, 1), (5, 1, 1)], 2, 2, [.int .u8 0, .int .u8 0], true⟩,
  ⟨86, .other, 10, 10, [.int .u8 0, .int .u8 0, .int .u8 0, .int .u8 0, .int .u8 0, .int .u8 0, .int .u8 0, .int .u8 0, .int .u8 0, .int .u8 0], true⟩,
  ⟨87, .other, 1, 8, [.nilFunc], false⟩,
  ⟨88, .other, 1, 8, [.nilFunc], false⟩,
  ⟨89, .other, 1, 8, [.nilFunc], false⟩,
  ⟨90, .other, 1, 8, [.pointer none], false⟩,
  ⟨92, .int .u64, 1, 8, [.int .u64 0], false⟩,
  ⟨94, .other, 1, 8, [.nilFunc], false⟩,
  ⟨95, .other, 1, 8, [.pointer none], false⟩,
  ⟨96, .other, 1, 8, [.nilFunc], false⟩,
  ⟨97, .other, 1, 8, [.nilFunc], false⟩,
  ⟨99, .other, 1, 8, [.nilFunc], false⟩,
  ⟨100, .other, 1, 8, [.nilFunc], false⟩,
  ⟨101, .other, 24, 24, [.int .u8 0, .int .u8 0, .int .u8 0, .int .u8 0, .int .u8 0, .int .u8 0, .int .u8 0, .int .u8 0, .int .u8 0, .int .u8 0, .int .u8 0, .int .u8 0, .int .u8 0, .int .u8 0, .int .u8 0, .int .u8 0, .int .u8 0, .int .u8 0, .int .u8 0, .int .u8 0, .int .u8 0, .int .u8 0, .int .u8 0, .int .u8 0], true⟩,
  ⟨102, .other, 1, 8, [.nilFunc], false⟩,
  ⟨103, .other, 1, 8, [.nilFunc], false⟩,
  ⟨105, .other, 1, 8, [.nilFunc], false⟩,
  ⟨106, .other, 1, 8, [.nilFunc], false⟩,
  ⟨107, .other, 1, 8, [.nilFunc], false⟩,
  ⟨109, .other, 1, 8, [.nilFunc], false⟩,
  ⟨110, .other, 1, 8, [.nilFunc], false⟩,
  ⟨111, .struct [(9, 0, 1), (9, 1, 1), (50, 2, 1)], 3, 48, [.string ⟨#[]⟩, .string ⟨#[]⟩, .nilIface], true⟩,
  ⟨112, .struct [(9, 0, 1), (9, 1, 1), (50, 2, 1)], 3, 48, [.string ⟨#[]⟩, .string ⟨#[]⟩, .nilIface], true⟩,
  ⟨113, .other, 1, 8, [.nilFunc], false⟩,
  ⟨114, .other, 1, 8, [.nilFunc], false⟩,
  ⟨115, .other, 1, 8, [.nilFunc], false⟩,
  ⟨116, .other, 1, 8, [.nilFunc], false⟩,
  ⟨117, .other, 20, 160, [.int .u64 0, .int .u64 0, .int .u64 0, .int .u64 0, .int .u64 0, .int .u64 0, .int .u64 0, .int .u64 0, .int .u64 0, .int .u64 0, .int .u64 0, .int .u64 0, .int .u64 0, .int .u64 0, .int .u64 0, .int .u64 0, .int .u64 0, .int .u64 0, .int .u64 0, .int .u64 0], true⟩,
  ⟨118, .int .u32, 1, 4, [.int .u32 0], false⟩,
  ⟨120, .other, 1, 8, [.nilFunc], false⟩,
  ⟨121, .other, 1, 8, [.nilFunc], false⟩,
  ⟨122, .other, 1, 8, [.nilFunc], false⟩,
  ⟨123, .other, 1, 8, [.nilFunc], false⟩,
  ⟨124, .other, 1, 8, [.pointer none], false⟩,
  ⟨125, .struct [(9, 0, 1)], 1, 16, [.string ⟨#[]⟩], true⟩,
  ⟨126, .struct [(9, 0, 1)], 1, 16, [.string ⟨#[]⟩], true⟩,
  ⟨128, .struct [(5, 0, 1), (5, 1, 1)], 2, 2, [.int .u8 0, .int .u8 0], true⟩,
  ⟨129, .struct [(5, 0, 1), (5, 1, 1)], 2, 2, [.int .u8 0, .int .u8 0], true⟩,
  ⟨130, .other, 32, 32, [.int .u8 0, .int .u8 0, .int .u8 0, .int .u8 0, .int .u8 0, .int .u8 0, .int .u8 0, .int .u8 0, .int .u8 0, .int .u8 0, .int .u8 0, .int .u8 0, .int .u8 0, .int .u8 0, .int .u8 0, .int .u8 0, .int .u8 0, .int .u8 0, .int .u8 0, .int .u8 0, .int .u8 0, .int .u8 0, .int .u8 0, .int .u8 0, .int .u8 0, .int .u8 0, .int .u8 0, .int .u8 0, .int .u8 0, .int .u8 0, .int .u8 0, .int .u8 0], true⟩,
  ⟨131, .other, 1, 8, [.nilFunc], false⟩,
  ⟨132, .other, 1, 8, [.nilFunc], false⟩,
  ⟨133, .other, 1, 8, [.nilFunc], false⟩,
  ⟨135, .other, 1, 8, [.nilFunc], false⟩,
  ⟨136, .other, 32, 32, [.int .u8 0, .int .u8 0, .int .u8 0, .int .u8 0, .int .u8 0, .int .u8 0, .int .u8 0, .int .u8 0, .int .u8 0, .int .u8 0, .int .u8 0, .int .u8 0, .int .u8 0, .int .u8 0, .int .u8 0, .int .u8 0, .int .u8 0, .int .u8 0, .int .u8 0, .int .u8 0, .int .u8 0, .int .u8 0, .int .u8 0, .int .u8 0, .int .u8 0, .int .u8 0, .int .u8 0, .int .u8 0, .int .u8 0, .int .u8 0, .int .u8 0, .int .u8 0], true⟩,
  ⟨137, .other, 64, 64, [.int .u8 0, .int .u8 0, .int .u8 0, .int .u8 0, .int .u8 0, .int .u8 0, .int .u8 0, .int .u8 0, .int .u8 0, .int .u8 0, .int .u8 0, .int .u8 0, .int .u8 0, .int .u8 0, .int .u8 0, .int .u8 0, .int .u8 0, .int .u8 0, .int .u8 0, .int .u8 0, .int .u8 0, .int .u8 0, .int .u8 0, .int .u8 0, .int .u8 0, .int .u8 0, .int .u8 0, .int .u8 0, .int .u8 0, .int .u8 0, .int .u8 0, .int .u8 0, .int .u8 0, .int .u8 0, .int .u8 0, .int .u8 0, .int .u8 0, .int .u8 0, .int .u8 0, .int .u8 0, .int .u8 0, .int .u8 0, .int .u8 0, .int .u8 0, .int .u8 0, .int .u8 0, .int .u8 0, .int .u8 0, .int .u8 0, .int .u8 0, .int .u8 0, .int .u8 0, .int .u8 0, .int .u8 0, .int .u8 0, .int .u8 0, .int .u8 0, .int .u8 0, .int .u8 0, .int .u8 0, .int .u8 0, .int .u8 0, .int .u8 0, .int .u8 0], true⟩,
  ⟨145, .other, 1, 8, [.nilFunc], false⟩,
  ⟨148, .struct [(12, 0, 1), (12, 1, 1), (118, 2, 1), (143, 3, 1), (5, 4, 1), (5, 5, 1), (144, 6, 1), (145, 7, 1), (90, 8, 1), (146, 9, 1), (147, 10, 1)], 11, 48, [.int .u64 0, .int .u64 0, .int .u32 0, .int .u8 0, .int .u8 0, .int .u8 0, .int .u8 0, .nilFunc, .pointer none, .int .i32 0, .int .i32 0], true⟩]
set_option maxRecDepth 100000 in
set_option maxHeartbeats 4000000 in
theorem tysOk : tys.Ok Tryd.prog := by
  intro t ht
  unfold tys at ht
  simp only [List.mem_cons, List.not_mem_nil, or_false] at ht
  rcases ht with rfl | rfl | rfl | rfl | rfl | rfl | rfl | rfl | rfl | rfl | rfl | rfl | rfl | rfl | rfl | rfl | rfl | rfl | rfl | rfl | rfl | rfl | rfl | rfl | rfl | rfl | rfl | rfl | rfl | rfl | rfl | rfl | rfl | rfl | rfl | rfl | rfl | rfl | rfl | rfl | rfl | rfl | rfl | rfl | rfl | rfl | rfl | rfl | rfl | rfl | rfl | rfl | rfl | rfl | rfl | rfl | rfl | rfl | rfl | rfl | rfl | rfl | rfl | rfl | rfl | rfl | rfl | rfl | rfl | rfl | rfl | rfl | rfl | rfl | rfl | rfl | rfl | rfl | rfl | rfl | rfl | rfl | rfl | rfl | rfl | rfl | rfl | rfl | rfl | rfl | rfl | rfl | rfl | rfl | rfl | rfl | rfl | rfl | rfl | rfl | rfl | rfl | rfl | rfl | rfl | rfl | rfl | rfl | rfl | rfl
  · exact TI.mkOk (z := .nilFunc) (by kernel_rfl) Tryd.underlying1 trivial rfl rfl rfl rfl (.inl ⟨rfl, rfl, rfl⟩) (by decide)
  · exact TI.mkOk (z := .int .i64 0) (by kernel_rfl) Tryd.underlying2 rfl rfl rfl rfl rfl (.inl ⟨rfl, rfl, rfl⟩) (by decide)
  · exact TI.mkOk (z := .int .i64 0) (by kernel_rfl) Tryd.underlying3 rfl rfl rfl rfl rfl (.inl ⟨rfl, rfl, rfl⟩) (by decide)
  · exact TI.mkOk (z := .bool false) (by kernel_rfl) Tryd.underlying4 rfl rfl rfl rfl rfl (.inl ⟨rfl, rfl, rfl⟩) (by decide)
  · exact TI.mkOk (z := .int .u8 0) (by kernel_rfl) Tryd.underlying5 rfl rfl rfl rfl rfl (.inl ⟨rfl, rfl, rfl⟩) (by decide)
  · exact TI.mkOk (z := .string ⟨#[]⟩) (by kernel_rfl) Tryd.underlying9 rfl rfl rfl rfl rfl (.inl ⟨rfl, rfl, rfl⟩) (by decide)
  · exact TI.mkOk (z := .int .u64 0) (by kernel_rfl) Tryd.underlying12 rfl rfl rfl rfl rfl (.inl ⟨rfl, rfl, rfl⟩) (by decide)
  · exact TI.mkOk (z := .pointer none) (by kernel_rfl) Tryd.underlying15 trivial rfl rfl rfl rfl (.inl ⟨rfl, rfl, rfl⟩) (by decide)
  · exact TI.mkOk (z := .pointer none) (by kernel_rfl) Tryd.underlying16 trivial rfl rfl rfl rfl (.inl ⟨rfl, rfl, rfl⟩) (by decide)
  · exact TI.mkOk (z := .pointer none) (by kernel_rfl) Tryd.underlying17 trivial rfl rfl rfl rfl (.inl ⟨rfl, rfl, rfl⟩) (by decide)
  · exact TI.mkOk (z := .nilIface) (by kernel_rfl) Tryd.underlying20 trivial rfl rfl rfl rfl (.inl ⟨rfl, rfl, rfl⟩) (by decide)
  · exact TI.mkOk (z := .int .i32 0) (by kernel_rfl) Tryd.underlying21 rfl rfl rfl rfl rfl (.inl ⟨rfl, rfl, rfl⟩) (by decide)
  · exact TI.mkOk (z := .nilFunc) (by kernel_rfl) Tryd.underlying22 trivial rfl rfl rfl rfl (.inl ⟨rfl, rfl, rfl⟩) (by decide)
  · exact TI.mkOk (z := .slice none 0 0) (by kernel_rfl) Tryd.underlying23 rfl rfl rfl rfl rfl (.inl ⟨rfl, rfl, rfl⟩) (by decide)
  · exact TI.mkOk (z := .int .i64 0) (by kernel_rfl) Tryd.underlying24 rfl rfl rfl rfl rfl (.inl ⟨rfl, rfl, rfl⟩) (by decide)
  · exact TI.mkOk (z := .nilFunc) (by kernel_rfl) Tryd.underlying26 trivial rfl rfl rfl rfl (.inl ⟨rfl, rfl, rfl⟩) (by decide)
  · exact TI.mkOk (z := .nilFunc) (by kernel_rfl) Tryd.underlying27 trivial rfl rfl rfl rfl (.inl ⟨rfl, rfl, rfl⟩) (by decide)
  · exact TI.mkOk (z := .nilFunc) (by kernel_rfl) Tryd.underlying28 trivial rfl rfl rfl rfl (.inl ⟨rfl, rfl, rfl⟩) (by decide)
  · exact TI.mkOk (z := .nilFunc) (by kernel_rfl) Tryd.underlying30 trivial rfl rfl rfl rfl (.inl ⟨rfl, rfl, rfl⟩) (by decide)
  · exact TI.mkOk (z := .nilFunc) (by kernel_rfl) Tryd.underlying31 trivial rfl rfl rfl rfl (.inl ⟨rfl, rfl, rfl⟩) (by decide)
  · exact TI.mkOk (z := .nilFunc) (by kernel_rfl) Tryd.underlying32 trivial rfl rfl rfl rfl (.inl ⟨rfl, rfl, rfl⟩) (by decide)
  · exact TI.mkOk (z := .nilFunc) (by kernel_rfl) Tryd.underlying34 trivial rfl rfl rfl rfl (.inl ⟨rfl, rfl, rfl⟩) (by decide)
  · exact TI.mkOk (z := .nilFunc) (by kernel_rfl) Tryd.underlying35 trivial rfl rfl rfl rfl (.inl ⟨rfl, rfl, rfl⟩) (by decide)
  · exact TI.mkOk (z := .nilFunc) (by kernel_rfl) Tryd.underlying36 trivial rfl rfl rfl rfl (.inl ⟨rfl, rfl, rfl⟩) (by decide)
  · exact TI.mkOk (z := .nilFunc) (by kernel_rfl) Tryd.underlying37 trivial rfl rfl rfl rfl (.inl ⟨rfl, rfl, rfl⟩) (by decide)
  · exact TI.mkOk (z := .slice none 0 0) (by kernel_rfl) Tryd.underlying38 rfl rfl rfl rfl rfl (.inl ⟨rfl, rfl, rfl⟩) (by decide)
  · exact TI.mkOk (z := .nilFunc) (by kernel_rfl) Tryd.underlying39 trivial rfl rfl rfl rfl (.inl ⟨rfl, rfl, rfl⟩) (by decide)
  · exact TI.mkOk (z := .nilFunc) (by kernel_rfl) Tryd.underlying40 trivial rfl rfl rfl rfl (.inl ⟨rfl, rfl, rfl⟩) (by decide)
  · exact TI.mkOk (z := .slice none 0 0) (by kernel_rfl) Tryd.underlying41 rfl rfl rfl rfl rfl (.inl ⟨rfl, rfl, rfl⟩) (by decide)
  · exact TI.mkOk (z := .agg #[.string ⟨#[]⟩, .bool false]) (by kernel_rfl) Tryd.underlying42 ⟨_, rfl, by kernel_rfl, fieldsOk_of (by kernel_rfl)⟩ rfl rfl rfl rfl (.inr ⟨rfl, rfl⟩) (by decide)
  · exact TI.mkOk (z := .agg #[.string ⟨#[]⟩, .bool false]) (by kernel_rfl) Tryd.underlying43 ⟨_, rfl, by kernel_rfl, fieldsOk_of (by kernel_rfl)⟩ rfl rfl rfl rfl (.inr ⟨rfl, rfl⟩) (by decide)
  · exact TI.mkOk (z := .nilFunc) (by kernel_rfl) Tryd.underlying44 trivial rfl rfl rfl rfl (.inl ⟨rfl, rfl, rfl⟩) (by decide)
  · exact TI.mkOk (z := .nilFunc) (by kernel_rfl) Tryd.underlying45 trivial rfl rfl rfl rfl (.inl ⟨rfl, rfl, rfl⟩) (by decide)
  · exact TI.mkOk (z := .nilFunc) (by kernel_rfl) Tryd.underlying46 trivial rfl rfl rfl rfl (.inl ⟨rfl, rfl, rfl⟩) (by decide)
  · exact TI.mkOk (z := .nilFunc) (by kernel_rfl) Tryd.underlying48 trivial rfl rfl rfl rfl (.inl ⟨rfl, rfl, rfl⟩) (by decide)
  · exact TI.mkOk (z := .nilIface) (by kernel_rfl) Tryd.underlying49 trivial rfl rfl rfl rfl (.inl ⟨rfl, rfl, rfl⟩) (by decide)
  · exact TI.mkOk (z := .nilIface) (by kernel_rfl) Tryd.underlying50 trivial rfl rfl rfl rfl (.inl ⟨rfl, rfl, rfl⟩) (by decide)
  · exact TI.mkOk (z := .nilFunc) (by kernel_rfl) Tryd.underlying52 trivial rfl rfl rfl rfl (.inl ⟨rfl, rfl, rfl⟩) (by decide)
  · exact TI.mkOk (z := .nilFunc) (by kernel_rfl) Tryd.underlying53 trivial rfl rfl rfl rfl (.inl ⟨rfl, rfl, rfl⟩) (by decide)
  · exact TI.mkOk (z := .nilFunc) (by kernel_rfl) Tryd.underlying54 trivial rfl rfl rfl rfl (.inl ⟨rfl, rfl, rfl⟩) (by decide)
  · exact TI.mkOk (z := .nilFunc) (by kernel_rfl) Tryd.underlying55 trivial rfl rfl rfl rfl (.inl ⟨rfl, rfl, rfl⟩) (by decide)
  · exact TI.mkOk (z := .nilFunc) (by kernel_rfl) Tryd.underlying56 trivial rfl rfl rfl rfl (.inl ⟨rfl, rfl, rfl⟩) (by decide)
  · exact TI.mkOk (z := .int .u64 0) (by kernel_rfl) Tryd.underlying57 rfl rfl rfl rfl rfl (.inl ⟨rfl, rfl, rfl⟩) (by decide)
  · exact TI.mkOk (z := .nilFunc) (by kernel_rfl) Tryd.underlying58 trivial rfl rfl rfl rfl (.inl ⟨rfl, rfl, rfl⟩) (by decide)
  · exact TI.mkOk (z := .slice none 0 0) (by kernel_rfl) Tryd.underlying59 rfl rfl rfl rfl rfl (.inl ⟨rfl, rfl, rfl⟩) (by decide)
  · exact TI.mkOk (z := .nilFunc) (by kernel_rfl) Tryd.underlying60 trivial rfl rfl rfl rfl (.inl ⟨rfl, rfl, rfl⟩) (by decide)
  · exact TI.mkOk (z := .nilFunc) (by kernel_rfl) Tryd.underlying62 trivial rfl rfl rfl rfl (.inl ⟨rfl, rfl, rfl⟩) (by decide)
  · exact TI.mkOk (z := .pointer none) (by kernel_rfl) Tryd.underlying63 trivial rfl rfl rfl rfl (.inl ⟨rfl, rfl, rfl⟩) (by decide)
  · exact TI.mkOk (z := .agg #[.pointer none, .slice none 0 0]) (by kernel_rfl) Tryd.underlying64 ⟨_, rfl, by kernel_rfl, fieldsOk_of (by kernel_rfl)⟩ rfl rfl rfl rfl (.inr ⟨rfl, rfl⟩) (by decide)
  · exact TI.mkOk (z := .agg #[.pointer none, .slice none 0 0]) (by kernel_rfl) Tryd.underlying65 ⟨_, rfl, by kernel_rfl, fieldsOk_of (by kernel_rfl)⟩ rfl rfl rfl rfl (.inr ⟨rfl, rfl⟩) (by decide)
  · exact TI.mkOk (z := .nilFunc) (by kernel_rfl) Tryd.underlying66 trivial rfl rfl rfl rfl (.inl ⟨rfl, rfl, rfl⟩) (by decide)
  · exact TI.mkOk (z := .nilFunc) (by kernel_rfl) Tryd.underlying67 trivial rfl rfl rfl rfl (.inl ⟨rfl, rfl, rfl⟩) (by decide)
  · exact TI.mkOk (z := .nilFunc) (by kernel_rfl) Tryd.underlying69 trivial rfl rfl rfl rfl (.inl ⟨rfl, rfl, rfl⟩) (by decide)
  · exact TI.mkOk (z := .nilFunc) (by kernel_rfl) Tryd.underlying70 trivial rfl rfl rfl rfl (.inl ⟨rfl, rfl, rfl⟩) (by decide)
  · exact TI.mkOk (z := .nilFunc) (by kernel_rfl) Tryd.underlying71 trivial rfl rfl rfl rfl (.inl ⟨rfl, rfl, rfl⟩) (by decide)
  · exact TI.mkOk (z := .nilFunc) (by kernel_rfl) Tryd.underlying72 trivial rfl rfl rfl rfl (.inl ⟨rfl, rfl, rfl⟩) (by decide)
  · exact TI.mkOk (z := .nilFunc) (by kernel_rfl) Tryd.underlying74 trivial rfl rfl rfl rfl (.inl ⟨rfl, rfl, rfl⟩) (by decide)
  · exact TI.mkOk (z := .nilFunc) (by kernel_rfl) Tryd.underlying75 trivial rfl rfl rfl rfl (.inl ⟨rfl, rfl, rfl⟩) (by decide)
  · exact TI.mkOk (z := .nilFunc) (by kernel_rfl) Tryd.underlying76 trivial rfl rfl rfl rfl (.inl ⟨rfl, rfl, rfl⟩) (by decide)
  · exact TI.mkOk (z := .nilFunc) (by kernel_rfl) Tryd.underlying80 trivial rfl rfl rfl rfl (.inl ⟨rfl, rfl, rfl⟩) (by decide)
  · exact TI.mkOk (z := .nilFunc) (by kernel_rfl) Tryd.underlying81 trivial rfl rfl rfl rfl (.inl ⟨rfl, rfl, rfl⟩) (by decide)
  · exact TI.mkOk (z := .pointer none) (by kernel_rfl) Tryd.underlying82 trivial rfl rfl rfl rfl (.inl ⟨rfl, rfl, rfl⟩) (by decide)
  · exact TI.mkOk (z := .nilFunc) (by kernel_rfl) Tryd.underlying84 trivial rfl rfl rfl rfl (.inl ⟨rfl, rfl, rfl⟩) (by decide)
  · exact TI.mkOk (z := .agg #[.int .u8 0, .int .u8 0]) (by kernel_rfl) Tryd.underlying85 ⟨_, rfl, by kernel_rfl, fieldsOk_of (by kernel_rfl)⟩ rfl rfl rfl rfl (.inr ⟨rfl, rfl⟩) (by decide)
  · exact TI.mkOk (z := .agg #[.int .u8 0, .int .u8 0, .int .u8 0, .int .u8 0, .int .u8 0, .int .u8 0, .int .u8 0, .int .u8 0, .int .u8 0, .int .u8 0]) (by kernel_rfl) Tryd.underlying86 trivial rfl rfl rfl rfl (.inr ⟨rfl, rfl⟩) (by decide)
  · exact TI.mkOk (z := .nilFunc) (by kernel_rfl) Tryd.underlying87 trivial rfl rfl rfl rfl (.inl ⟨rfl, rfl, rfl⟩) (by decide)
  · exact TI.mkOk (z := .nilFunc) (by kernel_rfl) Tryd.underlying88 trivial rfl rfl rfl rfl (.inl ⟨rfl, rfl, rfl⟩) (by decide)
  · exact TI.mkOk (z := .nilFunc) (by kernel_rfl) Tryd.underlying89 trivial rfl rfl rfl rfl (.inl ⟨rfl, rfl, rfl⟩) (by decide)
  · exact TI.mkOk (z := .pointer none) (by kernel_rfl) Tryd.underlying90 trivial rfl rfl rfl rfl (.inl ⟨rfl, rfl, rfl⟩) (by decide)
  · exact TI.mkOk (z := .int .u64 0) (by kernel_rfl) Tryd.underlying92 rfl rfl rfl rfl rfl (.inl ⟨rfl, rfl, rfl⟩) (by decide)
  · exact TI.mkOk (z := .nilFunc) (by kernel_rfl) Tryd.underlying94 trivial rfl rfl rfl rfl (.inl ⟨rfl, rfl, rfl⟩) (by decide)
  · exact TI.mkOk (z := .pointer none) (by kernel_rfl) Tryd.underlying95 trivial rfl rfl rfl rfl (.inl ⟨rfl, rfl, rfl⟩) (by decide)
  · exact TI.mkOk (z := .nilFunc) (by kernel_rfl) Tryd.underlying96 trivial rfl rfl rfl rfl (.inl ⟨rfl, rfl, rfl⟩) (by decide)
  · exact TI.mkOk (z := .nilFunc) (by kernel_rfl) Tryd.underlying97 trivial rfl rfl rfl rfl (.inl ⟨rfl, rfl, rfl⟩) (by decide)
  · exact TI.mkOk (z := .nilFunc) (by kernel_rfl) Tryd.underlying99 trivial rfl rfl rfl rfl (.inl ⟨rfl, rfl, rfl⟩) (by decide)
  · exact TI.mkOk (z := .nilFunc) (by kernel_rfl) Tryd.underlying100 trivial rfl rfl rfl rfl (.inl ⟨rfl, rfl, rfl⟩) (by decide)
  · exact TI.mkOk (z := .agg #[.int .u8 0, .int .u8 0, .int .u8 0, .int .u8 0, .int .u8 0, .int .u8 0, .int .u8 0, .int .u8 0, .int .u8 0, .int .u8 0, .int .u8 0, .int .u8 0, .int .u8 0, .int .u8 0, .int .u8 0, .int .u8 0, .int .u8 0, .int .u8 0, .int .u8 0, .int .u8 0, .int .u8 0, .int .u8 0, .int .u8 0, .int .u8 0]) (by kernel_rfl) Tryd.underlying101 trivial rfl rfl rfl rfl (.inr ⟨rfl, rfl⟩) (by decide)
  · exact TI.mkOk (z := .nilFunc) (by kernel_rfl) Tryd.underlying102 trivial rfl rfl rfl rfl (.inl ⟨rfl, rfl, rfl⟩) (by decide)
  · exact TI.mkOk (z := .nilFunc) (by kernel_rfl) Tryd.underlying103 trivial rfl rfl rfl rfl (.inl ⟨rfl, rfl, rfl⟩) (by decide)
  · exact TI.mkOk (z := .nilFunc) (by kernel_rfl) Tryd.underlying105 trivial rfl rfl rfl rfl (.inl ⟨rfl, rfl, rfl⟩) (by decide)
  · exact TI.mkOk (z := .nilFunc) (by kernel_rfl) Tryd.underlying106 trivial rfl rfl rfl rfl (.inl ⟨rfl, rfl, rfl⟩) (by decide)
  · exact TI.mkOk (z := .nilFunc) (by kernel_rfl) Tryd.underlying107 trivial rfl rfl rfl rfl (.inl ⟨rfl, rfl, rfl⟩) (by decide)
  · exact TI.mkOk (z := .nilFunc) (by kernel_rfl) Tryd.underlying109 trivial rfl rfl rfl rfl (.inl ⟨rfl, rfl, rfl⟩) (by decide)
  · exact TI.mkOk (z := .nilFunc) (by kernel_rfl) Tryd.underlying110 trivial rfl rfl rfl rfl (.inl ⟨rfl, rfl, rfl⟩) (by decide)
  · exact TI.mkOk (z := .agg #[.string ⟨#[]⟩, .string ⟨#[]⟩, .nilIface]) (by kernel_rfl) Tryd.underlying111 ⟨_, rfl, by kernel_rfl, fieldsOk_of (by kernel_rfl)⟩ rfl rfl rfl rfl (.inr ⟨rfl, rfl⟩) (by decide)
  · exact TI.mkOk (z := .agg #[.string ⟨#[]⟩, .string ⟨#[]⟩, .nilIface]) (by kernel_rfl) Tryd.underlying112 ⟨_, rfl, by kernel_rfl, fieldsOk_of (by kernel_rfl)⟩ rfl rfl rfl rfl (.inr ⟨rfl, rfl⟩) (by decide)
  · exact TI.mkOk (z := .nilFunc) (by kernel_rfl) Tryd.underlying113 trivial rfl rfl rfl rfl (.inl ⟨rfl, rfl, rfl⟩) (by decide)
  · exact TI.mkOk (z := .nilFunc) (by kernel_rfl) Tryd.underlying114 trivial rfl rfl rfl rfl (.inl ⟨rfl, rfl, rfl⟩) (by decide)
  · exact TI.mkOk (z := .nilFunc) (by kernel_rfl) Tryd.underlying115 trivial rfl rfl rfl rfl (.inl ⟨rfl, rfl, rfl⟩) (by decide)
  · exact TI.mkOk (z := .nilFunc) (by kernel_rfl) Tryd.underlying116 trivial rfl rfl rfl rfl (.inl ⟨rfl, rfl, rfl⟩) (by decide)
  · exact TI.mkOk (z := .agg #[.int .u64 0, .int .u64 0, .int .u64 0, .int .u64 0, .int .u64 0, .int .u64 0, .int .u64 0, .int .u64 0, .int .u64 0, .int .u64 0, .int .u64 0, .int .u64 0, .int .u64 0, .int .u64 0, .int .u64 0, .int .u64 0, .int .u64 0, .int .u64 0, .int .u64 0, .int .u64 0]) (by kernel_rfl) Tryd.underlying117 trivial rfl rfl rfl rfl (.inr ⟨rfl, rfl⟩) (by decide)
  · exact TI.mkOk (z := .int .u32 0) (by kernel_rfl) Tryd.underlying118 rfl rfl rfl rfl rfl (.inl ⟨rfl, rfl, rfl⟩) (by decide)
  · exact TI.mkOk (z := .nilFunc) (by kernel_rfl) Tryd.underlying120 trivial rfl rfl rfl rfl (.inl ⟨rfl, rfl, rfl⟩) (by decide)
  · exact TI.mkOk (z := .nilFunc) (by kernel_rfl) Tryd.underlying121 trivial rfl rfl rfl rfl (.inl ⟨rfl, rfl, rfl⟩) (by decide)
  · exact TI.mkOk (z := .nilFunc) (by kernel_rfl) Tryd.underlying122 trivial rfl rfl rfl rfl (.inl ⟨rfl, rfl, rfl⟩) (by decide)
  · exact TI.mkOk (z := .nilFunc) (by kernel_rfl) Tryd.underlying123 trivial rfl rfl rfl rfl (.inl ⟨rfl, rfl, rfl⟩) (by decide)
  · exact TI.mkOk (z := .pointer none) (by kernel_rfl) Tryd.underlying124 trivial rfl rfl rfl rfl (.inl ⟨rfl, rfl, rfl⟩) (by decide)
  · exact TI.mkOk (z := .agg #[.string ⟨#[]⟩]) (by kernel_rfl) Tryd.underlying125 ⟨_, rfl, by kernel_rfl, fieldsOk_of (by kernel_rfl)⟩ rfl rfl rfl rfl (.inr ⟨rfl, rfl⟩) (by decide)
  · exact TI.mkOk (z := .agg #[.string ⟨#[]⟩]) (by kernel_rfl) Tryd.underlying126 ⟨_, rfl, by kernel_rfl, fieldsOk_of (by kernel_rfl)⟩ rfl rfl rfl rfl (.inr ⟨rfl, rfl⟩) (by decide)
  · exact TI.mkOk (z := .agg #[.int .u8 0, .int .u8 0]) (by kernel_rfl) Tryd.underlying128 ⟨_, rfl, by kernel_rfl, fieldsOk_of (by kernel_rfl)⟩ rfl rfl rfl rfl (.inr ⟨rfl, rfl⟩) (by decide)
  · exact TI.mkOk (z := .agg #[.int .u8 0, .int .u8 0]) (by kernel_rfl) Tryd.underlying129 ⟨_, rfl, by kernel_rfl, fieldsOk_of (by kernel_rfl)⟩ rfl rfl rfl rfl (.inr ⟨rfl, rfl⟩) (by decide)
  · exact TI.mkOk (z := .agg #[.int .u8 0, .int .u8 0, .int .u8 0, .int .u8 0, .int .u8 0, .int .u8 0, .int .u8 0, .int .u8 0, .int .u8 0, .int .u8 0, .int .u8 0, .int .u8 0, .int .u8 0, .int .u8 0, .int .u8 0, .int .u8 0, .int .u8 0, .int .u8 0, .int .u8 0, .int .u8 0, .int .u8 0, .int .u8 0, .int .u8 0, .int .u8 0, .int .u8 0, .int .u8 0, .int .u8 0, .int .u8 0, .int .u8 0, .int .u8 0, .int .u8 0, .int .u8 0]) (by kernel_rfl) Tryd.underlying130 trivial rfl rfl rfl rfl (.inr ⟨rfl, rfl⟩) (by decide)
  · exact TI.mkOk (z := .nilFunc) (by kernel_rfl) Tryd.underlying131 trivial rfl rfl rfl rfl (.inl ⟨rfl, rfl, rfl⟩) (by decide)
  · exact TI.mkOk (z := .nilFunc) (by kernel_rfl) Tryd.underlying132 trivial rfl rfl rfl rfl (.inl ⟨rfl, rfl, rfl⟩) (by decide)
  · exact TI.mkOk (z := .nilFunc) (by kernel_rfl) Tryd.underlying133 trivial rfl rfl rfl rfl (.inl ⟨rfl, rfl, rfl⟩) (by decide)
  · exact TI.mkOk (z := .nilFunc) (by kernel_rfl) Tryd.underlying135 trivial rfl rfl rfl rfl (.inl ⟨rfl, rfl, rfl⟩) (by decide)
  · exact TI.mkOk (z := .agg #[.int .u8 0, .int .u8 0, .int .u8 0, .int .u8 0, .int .u8 0, .int .u8 0, .int .u8 0, .int .u8 0, .int .u8 0, .int .u8 0, .int .u8 0, .int .u8 0, .int .u8 0, .int .u8 0, .int .u8 0, .int .u8 0, .int .u8 0, .int .u8 0, .int .u8 0, .int .u8 0, .int .u8 0, .int .u8 0, .int .u8 0, .int .u8 0, .int .u8 0, .int .u8 0, .int .u8 0, .int .u8 0, .int .u8 0, .int .u8 0, .int .u8 0, .int .u8 0]) (by kernel_rfl) Tryd.underlying136 trivial rfl rfl rfl rfl (.inr ⟨rfl, rfl⟩) (by decide)
  · exact TI.mkOk (z := .agg #[.int .u8 0, .int .u8 0, .int .u8 0, .int .u8 0, .int .u8 0, .int .u8 0, .int .u8 0, .int .u8 0, .int .u8 0, .int .u8 0, .int .u8 0, .int .u8 0, .int .u8 0, .int .u8 0, .int .u8 0, .int .u8 0, .int .u8 0, .int .u8 0, .int .u8 0, .int .u8 0, .int .u8 0, .int .u8 0, .int .u8 0, .int .u8 0, .int .u8 0, .int .u8 0, .int .u8 0, .int .u8 0, .int .u8 0, .int .u8 0, .int .u8 0, .int .u8 0, .int .u8 0, .int .u8 0, .int .u8 0, .int .u8 0, .int .u8 0, .int .u8 0, .int .u8 0, .int .u8 0, .int .u8 0, .int .u8 0, .int .u8 0, .int .u8 0, .int .u8 0, .int .u8 0, .int .u8 0, .int .u8 0, .int .u8 0, .int .u8 0, .int .u8 0, .int .u8 0, .int .u8 0, .int .u8 0, .int .u8 0, .int .u8 0, .int .u8 0, .int .u8 0, .int .u8 0, .int .u8 0, .int .u8 0, .int .u8 0, .int .u8 0, .int .u8 0]) (by kernel_rfl) Tryd.underlying137 trivial rfl rfl rfl rfl (.inr ⟨rfl, rfl⟩) (by decide)
  · exact TI.mkOk (z := .nilFunc) (by kernel_rfl) Tryd.underlying145 trivial rfl rfl rfl rfl (.inl ⟨rfl, rfl, rfl⟩) (by decide)
  · exact TI.mkOk (z := .agg #[.int .u64 0, .int .u64 0, .int .u32 0, .int .u8 0, .int .u8 0, .int .u8 0, .int .u8 0, .nilFunc, .pointer none, .int .i32 0, .int .i32 0]) (by kernel_rfl) Tryd.underlying148 ⟨_, rfl, by kernel_rfl, fieldsOk_of (by kernel_rfl)⟩ rfl rfl rfl rfl (.inr ⟨rfl, rfl⟩) (by decide)
end Go.Proofs.YtmeapfckibbbbaaDoor.Am
/-
  DERIVED: THE SHELF's CONTRACTS AT THIS DUMP, IN PLAIN WORDS (tools/lay-plain.mjs out of 'TrydShelf.lean', which tools/lay-shelf.mjs wrote): THE SAME DECLARATIONS UNDER THE SAME NAMES: 'import', 'namespace', 'open', 'def', 'theorem' AND NOTHING ELSE: no command of the shelf's: FOR A HAND-IN. Each laying: the table of numbers ('.._ren') and one theorem, a field a fact of the dump's own or the kernel's comparison; each contract: ONE APPLICATION.
-/
namespace Go.Proofs
open Go.Shelf
def Tryd.lays156_ren : Go.Shelf.Ren := ⟨fun | 156 => 43 | 165 => 67 | 166 => 48 | 169 => 50 | 240 => 70 | 241 => 88 | 276 => 91 | 277 => 107 | n => n, fun | 31 => 59 | 9 => 9 | 3 => 3 | 4 => 4 | 0 => 0 | 20 => 20 | 72 => 65 | 76 => 68 | 70 => 63 | 37 => 38 | 75 => 50 | 127 => 90 | 164 => 108 | 5 => 5 | 80 => 71 | n => n, fun | n => n⟩
theorem Tryd.lays156 : Go.Proofs.Lays.n156 Tryd.prog Tryd.lays156_ren := {
  mixed := by kernel_rfl
  f156 := Tryd.func43.trans (congrArg some (by kernel_rfl))
  f165 := Tryd.func67.trans (congrArg some (by kernel_rfl))
  f166 := Tryd.func48.trans (congrArg some (by kernel_rfl))
  f169 := Tryd.func50.trans (congrArg some (by kernel_rfl))
  f240 := Tryd.func70.trans (congrArg some (by kernel_rfl))
  f241 := Tryd.func88.trans (congrArg some (by kernel_rfl))
  f276 := Tryd.func91.trans (congrArg some (by kernel_rfl))
  f277 := Tryd.func107.trans (congrArg some (by kernel_rfl))
  t0 := Tryd.underlying0
  a0 := Tryd.isAgg0
  z0 := Tryd.sizeOf0
  v0 := Tryd.zeroValue0
  t3 := Tryd.underlying3
  a3 := Tryd.isAgg3
  z3 := Tryd.sizeOf3
  v3 := Tryd.zeroValue3
  t4 := Tryd.underlying4
  a4 := Tryd.isAgg4
  z4 := Tryd.sizeOf4
  v4 := Tryd.zeroValue4
  t9 := Tryd.underlying9
  a9 := Tryd.isAgg9
  z9 := Tryd.sizeOf9
  v9 := Tryd.zeroValue9
  t20 := Tryd.underlying20
  a20 := Tryd.isAgg20
  z20 := Tryd.sizeOf20
  v20 := Tryd.zeroValue20
  t31 := Tryd.underlying59
  a31 := Tryd.isAgg59
  z31 := Tryd.sizeOf59
  v31 := Tryd.zeroValue59
  t37 := Tryd.underlying38
  a37 := Tryd.isAgg38
  z37 := Tryd.sizeOf38
  v37 := Tryd.zeroValue38
  t70 := Tryd.underlying63
  a70 := Tryd.isAgg63
  z70 := Tryd.sizeOf63
  v70 := Tryd.zeroValue63
  t72 := Tryd.underlying65
  a72 := Tryd.isAgg65
  z72 := Tryd.sizeOf65
  v72 := Tryd.zeroValue65
  t75 := Tryd.underlying50
  a75 := Tryd.isAgg50
  z75 := Tryd.sizeOf50
  v75 := Tryd.zeroValue50
  t76 := Tryd.underlying68
  a76 := Tryd.isAgg68
  z76 := Tryd.sizeOf68
  v76 := Tryd.zeroValue68
  t127 := Tryd.underlying90
  a127 := Tryd.isAgg90
  z127 := Tryd.sizeOf90
  v127 := Tryd.zeroValue90
  t164 := Tryd.underlying108
  a164 := Tryd.isAgg108
  z164 := Tryd.sizeOf108
  v164 := Tryd.zeroValue108 }
theorem Tryd.Builder_Extra_156 : Builder.Extra Tryd.prog Tryd.lays156_ren := {
  sizeBuilder := by kernel_rfl
  liesBuilder := by kernel_rfl
  t5 := Tryd.underlying5
  a5 := Tryd.isAgg5
  z5 := Tryd.sizeOf5
  v5 := Tryd.zeroValue5
  infoByte := by kernel_rfl
  cellsByte := by kernel_rfl
  sizeByte := by kernel_rfl
  neB5 := by decide }
def Tryd.lays160_ren : Go.Shelf.Ren := ⟨fun | 160 => 34 | 232 => 58 | 231 => 57 | 227 => 59 | 234 => 61 | 233 => 60 | 236 => 63 | 235 => 62 | 228 => 79 | 271 => 82 | 151 => 81 | 197 => 80 | 120 => 100 | 152 => 99 | 260 => 98 | 137 => 87 | 119 => 114 | 224 => 112 | 225 => 111 | 217 => 106 | 266 => 117 | n => n, fun | 9 => 9 | 4 => 4 | 3 => 3 | 5 => 5 | 117 => 79 | 116 => 78 | 0 => 0 | 124 => 82 | 21 => 21 | 105 => 98 | 46 => 57 | 119 => 127 | 139 => 130 | 138 => 129 | n => n, fun | 3 => 5 | 4 => 6 | n => n⟩
theorem Tryd.lays160 : Go.Proofs.Lays.n160 Tryd.prog Tryd.lays160_ren := {
  mixed := by kernel_rfl
  f119 := Tryd.func114.trans (congrArg some (by kernel_rfl))
  f120 := Tryd.func100.trans (congrArg some (by kernel_rfl))
  f137 := Tryd.func87.trans (congrArg some (by kernel_rfl))
  f151 := Tryd.func81.trans (congrArg some (by kernel_rfl))
  f152 := Tryd.func99.trans (congrArg some (by kernel_rfl))
  f160 := Tryd.func34.trans (congrArg some (by kernel_rfl))
  f197 := Tryd.func80.trans (congrArg some (by kernel_rfl))
  f217 := Tryd.func106.trans (congrArg some (by kernel_rfl))
  f224 := Tryd.func112.trans (congrArg some (by kernel_rfl))
  f225 := Tryd.func111.trans (congrArg some (by kernel_rfl))
  f227 := Tryd.func59.trans (congrArg some (by kernel_rfl))
  f228 := Tryd.func79.trans (congrArg some (by kernel_rfl))
  f231 := Tryd.func57.trans (congrArg some (by kernel_rfl))
  f232 := Tryd.func58.trans (congrArg some (by kernel_rfl))
  f233 := Tryd.func60.trans (congrArg some (by kernel_rfl))
  f234 := Tryd.func61.trans (congrArg some (by kernel_rfl))
  f235 := Tryd.func62.trans (congrArg some (by kernel_rfl))
  f236 := Tryd.func63.trans (congrArg some (by kernel_rfl))
  f260 := Tryd.func98.trans (congrArg some (by kernel_rfl))
  f266 := Tryd.func117.trans (congrArg some (by kernel_rfl))
  f271 := Tryd.func82.trans (congrArg some (by kernel_rfl))
  t0 := Tryd.underlying0
  a0 := Tryd.isAgg0
  z0 := Tryd.sizeOf0
  v0 := Tryd.zeroValue0
  t3 := Tryd.underlying3
  a3 := Tryd.isAgg3
  z3 := Tryd.sizeOf3
  v3 := Tryd.zeroValue3
  t4 := Tryd.underlying4
  a4 := Tryd.isAgg4
  z4 := Tryd.sizeOf4
  v4 := Tryd.zeroValue4
  t5 := Tryd.underlying5
  a5 := Tryd.isAgg5
  z5 := Tryd.sizeOf5
  v5 := Tryd.zeroValue5
  t9 := Tryd.underlying9
  a9 := Tryd.isAgg9
  z9 := Tryd.sizeOf9
  v9 := Tryd.zeroValue9
  t21 := Tryd.underlying21
  a21 := Tryd.isAgg21
  z21 := Tryd.sizeOf21
  v21 := Tryd.zeroValue21
  t46 := Tryd.underlying57
  a46 := Tryd.isAgg57
  z46 := Tryd.sizeOf57
  v46 := Tryd.zeroValue57
  t105 := Tryd.underlying98
  a105 := Tryd.isAgg98
  z105 := Tryd.sizeOf98
  v105 := Tryd.zeroValue98
  t116 := Tryd.underlying78
  a116 := Tryd.isAgg78
  z116 := Tryd.sizeOf78
  t117 := Tryd.underlying79
  a117 := Tryd.isAgg79
  z117 := Tryd.sizeOf79
  v117 := Tryd.zeroValue79
  t119 := Tryd.underlying127
  a119 := Tryd.isAgg127
  z119 := Tryd.sizeOf127
  t124 := Tryd.underlying82
  a124 := Tryd.isAgg82
  z124 := Tryd.sizeOf82
  v124 := Tryd.zeroValue82
  t138 := Tryd.underlying129
  a138 := Tryd.isAgg129
  z138 := Tryd.sizeOf129
  v138 := Tryd.zeroValue129
  t139 := Tryd.underlying130
  a139 := Tryd.isAgg130
  z139 := Tryd.sizeOf130
  v139 := Tryd.zeroValue130
  g3 := by kernel_rfl
  g4 := by kernel_rfl }
def Tryd.lays137_ren : Go.Shelf.Ren := ⟨fun | 137 => 87 | 217 => 106 | 266 => 117 | n => n, fun | 9 => 9 | 5 => 5 | 3 => 3 | n => n, fun | n => n⟩
theorem Tryd.lays137 : Go.Proofs.Lays.n137 Tryd.prog Tryd.lays137_ren := {
  mixed := by kernel_rfl
  f137 := Tryd.func87.trans (congrArg some (by kernel_rfl))
  f217 := Tryd.func106.trans (congrArg some (by kernel_rfl))
  f266 := Tryd.func117.trans (congrArg some (by kernel_rfl))
  t3 := Tryd.underlying3
  a3 := Tryd.isAgg3
  z3 := Tryd.sizeOf3
  v3 := Tryd.zeroValue3
  t5 := Tryd.underlying5
  a5 := Tryd.isAgg5
  z5 := Tryd.sizeOf5
  v5 := Tryd.zeroValue5
  t9 := Tryd.underlying9
  a9 := Tryd.isAgg9
  z9 := Tryd.sizeOf9
  v9 := Tryd.zeroValue9 }
open Go.RowKit in
/-- strings.IndexByte: "IndexByte returns the index of the first instance of c in s, or -1 if c is not present in s.": IT RETURNS 'Lib.indexByte s c'; the world is as it was. (LAID: no walk: one application.) -/
theorem Tryd.strings_IndexByte (s : ByteArray) (c : Int) (w : World) :
    Calls Tryd.prog 87 #[.string s, .int .u8 c] w fun e w' => e = .returned (.int .i64 (Lib.indexByte s.data.toList c.toNat.toUInt8)) ∧ w' = w := Any.strings_IndexByte Tryd.lays137 s c w
def Tryd.laysM171_ren : Go.Shelf.Ren := ⟨fun | 171 => 49 | 243 => 71 | 246 => 64 | 283 => 83 | 284 => 84 | 285 => 85 | 286 => 86 | 129 => 102 | 317 => 101 | 318 => 103 | 319 => 104 | 320 => 105 | 337 => 115 | 338 => 116 | n => n, fun | 3 => 3 | 9 => 9 | 2 => 2 | 4 => 4 | 171 => 101 | 0 => 0 | 53 => 92 | 37 => 38 | 5 => 5 | 173 => 104 | 212 => 117 | 51 => 118 | 20 => 20 | 213 => 119 | 46 => 57 | 232 => 136 | 233 => 137 | n => n, fun | 17 => 3 | 18 => 7 | 19 => 8 | n => n⟩
theorem Tryd.laysM171 : Go.Proofs.LaysM.n171 Tryd.prog Tryd.laysM171_ren := {
  mixed := by kernel_rfl
  f129 := Tryd.func102.trans (congrArg some (by kernel_rfl))
  f171 := Tryd.func49.trans (congrArg some (by kernel_rfl))
  f243 := Tryd.func71.trans (congrArg some (by kernel_rfl))
  f246 := Tryd.func64.trans (congrArg some (by kernel_rfl))
  f283 := Tryd.func83.trans (congrArg some (by kernel_rfl))
  f284 := Tryd.func84.trans (congrArg some (by kernel_rfl))
  f285 := Tryd.func85.trans (congrArg some (by kernel_rfl))
  f286 := Tryd.func86.trans (congrArg some (by kernel_rfl))
  f317 := Tryd.func101.trans (congrArg some (by kernel_rfl))
  f318 := Tryd.func103.trans (congrArg some (by kernel_rfl))
  f319 := Tryd.func104.trans (congrArg some (by kernel_rfl))
  f320 := Tryd.func105.trans (congrArg some (by kernel_rfl))
  f337 := Tryd.func115.trans (congrArg some (by kernel_rfl))
  f338 := Tryd.func116.trans (congrArg some (by kernel_rfl))
  t0 := Tryd.underlying0
  a0 := Tryd.isAgg0
  z0 := Tryd.sizeOf0
  v0 := Tryd.zeroValue0
  t2 := Tryd.underlying2
  a2 := Tryd.isAgg2
  z2 := Tryd.sizeOf2
  v2 := Tryd.zeroValue2
  t3 := Tryd.underlying3
  a3 := Tryd.isAgg3
  z3 := Tryd.sizeOf3
  v3 := Tryd.zeroValue3
  t4 := Tryd.underlying4
  a4 := Tryd.isAgg4
  z4 := Tryd.sizeOf4
  v4 := Tryd.zeroValue4
  t5 := Tryd.underlying5
  a5 := Tryd.isAgg5
  z5 := Tryd.sizeOf5
  v5 := Tryd.zeroValue5
  t9 := Tryd.underlying9
  a9 := Tryd.isAgg9
  z9 := Tryd.sizeOf9
  v9 := Tryd.zeroValue9
  t20 := Tryd.underlying20
  a20 := Tryd.isAgg20
  z20 := Tryd.sizeOf20
  v20 := Tryd.zeroValue20
  t37 := Tryd.underlying38
  a37 := Tryd.isAgg38
  z37 := Tryd.sizeOf38
  v37 := Tryd.zeroValue38
  t46 := Tryd.underlying57
  a46 := Tryd.isAgg57
  z46 := Tryd.sizeOf57
  v46 := Tryd.zeroValue57
  t51 := Tryd.underlying118
  a51 := Tryd.isAgg118
  z51 := Tryd.sizeOf118
  v51 := Tryd.zeroValue118
  t53 := Tryd.underlying92
  a53 := Tryd.isAgg92
  z53 := Tryd.sizeOf92
  v53 := Tryd.zeroValue92
  t171 := Tryd.underlying101
  a171 := Tryd.isAgg101
  z171 := Tryd.sizeOf101
  v171 := Tryd.zeroValue101
  t173 := Tryd.underlying104
  a173 := Tryd.isAgg104
  z173 := Tryd.sizeOf104
  v173 := Tryd.zeroValue104
  t212 := Tryd.underlying117
  a212 := Tryd.isAgg117
  z212 := Tryd.sizeOf117
  v212 := Tryd.zeroValue117
  t213 := Tryd.underlying119
  a213 := Tryd.isAgg119
  z213 := Tryd.sizeOf119
  t232 := Tryd.underlying136
  a232 := Tryd.isAgg136
  z232 := Tryd.sizeOf136
  v232 := Tryd.zeroValue136
  t233 := Tryd.underlying137
  a233 := Tryd.isAgg137
  z233 := Tryd.sizeOf137
  v233 := Tryd.zeroValue137
  g17 := by kernel_rfl
  g18 := by kernel_rfl
  g19 := by kernel_rfl
  i0 := by kernel_rfl
  i2 := by kernel_rfl
  i3 := by kernel_rfl
  i4 := by kernel_rfl
  i5 := by kernel_rfl
  i9 := by kernel_rfl
  i20 := by kernel_rfl
  i37 := by kernel_rfl
  i46 := by kernel_rfl
  i51 := by kernel_rfl
  i53 := by kernel_rfl
  i171 := by kernel_rfl
  i173 := by kernel_rfl
  i212 := by kernel_rfl
  i232 := by kernel_rfl
  i233 := by kernel_rfl
  m17 := by kernel_rfl
  m18 := by kernel_rfl
  m19 := by kernel_rfl }
open Go.RowKit Go.Sort Go.Lib in
/-- strconv.Itoa: "Itoa is equivalent to FormatInt(int64(i), 10).": i's DECIMAL NUMERAL ('Lib.itoa': a '-' where i is negative, then the digits), FOR EVERY int. The world behind the call: the world before it, new blocks behind the heap (the library's 'var a [24]byte'), draws. (LAID: no walk: one application.) -/
theorem Tryd.strconv_Itoa (n : Int) (h0 : -9223372036854775808 ≤ n) (h1 : n ≤ 9223372036854775807) (w : World) (htab : Lib.TabIs Tryd.prog w "internal/strconv.uint64pow10" .u64 Lib.pow10Tab) :
    Calls Tryd.prog 49 #[.int .i64 n] w fun e w' => e = .returned (.string ⟨(Lib.itoa n).toArray⟩) ∧ ∃ k os, w' = grow (w.drewN k) os := Any.strconv_Itoa Tryd.laysM171 n h0 h1 w htab
def Tryd.laysM173_ren : Go.Shelf.Ren := ⟨fun | 173 => 37 | 246 => 64 | 283 => 83 | 284 => 84 | 285 => 85 | 286 => 86 | 129 => 102 | 317 => 101 | 318 => 103 | 319 => 104 | 320 => 105 | 337 => 115 | 338 => 116 | n => n, fun | 2 => 2 | 3 => 3 | 9 => 9 | 4 => 4 | 171 => 101 | 0 => 0 | 53 => 92 | 37 => 38 | 5 => 5 | 173 => 104 | 212 => 117 | 51 => 118 | 20 => 20 | 213 => 119 | 46 => 57 | 232 => 136 | 233 => 137 | n => n, fun | 17 => 3 | 18 => 7 | 19 => 8 | n => n⟩
theorem Tryd.laysM173 : Go.Proofs.LaysM.n173 Tryd.prog Tryd.laysM173_ren := {
  mixed := by kernel_rfl
  f129 := Tryd.func102.trans (congrArg some (by kernel_rfl))
  f173 := Tryd.func37.trans (congrArg some (by kernel_rfl))
  f246 := Tryd.func64.trans (congrArg some (by kernel_rfl))
  f283 := Tryd.func83.trans (congrArg some (by kernel_rfl))
  f284 := Tryd.func84.trans (congrArg some (by kernel_rfl))
  f285 := Tryd.func85.trans (congrArg some (by kernel_rfl))
  f286 := Tryd.func86.trans (congrArg some (by kernel_rfl))
  f317 := Tryd.func101.trans (congrArg some (by kernel_rfl))
  f318 := Tryd.func103.trans (congrArg some (by kernel_rfl))
  f319 := Tryd.func104.trans (congrArg some (by kernel_rfl))
  f320 := Tryd.func105.trans (congrArg some (by kernel_rfl))
  f337 := Tryd.func115.trans (congrArg some (by kernel_rfl))
  f338 := Tryd.func116.trans (congrArg some (by kernel_rfl))
  t0 := Tryd.underlying0
  a0 := Tryd.isAgg0
  z0 := Tryd.sizeOf0
  v0 := Tryd.zeroValue0
  t2 := Tryd.underlying2
  a2 := Tryd.isAgg2
  z2 := Tryd.sizeOf2
  v2 := Tryd.zeroValue2
  t3 := Tryd.underlying3
  a3 := Tryd.isAgg3
  z3 := Tryd.sizeOf3
  v3 := Tryd.zeroValue3
  t4 := Tryd.underlying4
  a4 := Tryd.isAgg4
  z4 := Tryd.sizeOf4
  v4 := Tryd.zeroValue4
  t5 := Tryd.underlying5
  a5 := Tryd.isAgg5
  z5 := Tryd.sizeOf5
  v5 := Tryd.zeroValue5
  t9 := Tryd.underlying9
  a9 := Tryd.isAgg9
  z9 := Tryd.sizeOf9
  v9 := Tryd.zeroValue9
  t20 := Tryd.underlying20
  a20 := Tryd.isAgg20
  z20 := Tryd.sizeOf20
  v20 := Tryd.zeroValue20
  t37 := Tryd.underlying38
  a37 := Tryd.isAgg38
  z37 := Tryd.sizeOf38
  v37 := Tryd.zeroValue38
  t46 := Tryd.underlying57
  a46 := Tryd.isAgg57
  z46 := Tryd.sizeOf57
  v46 := Tryd.zeroValue57
  t51 := Tryd.underlying118
  a51 := Tryd.isAgg118
  z51 := Tryd.sizeOf118
  v51 := Tryd.zeroValue118
  t53 := Tryd.underlying92
  a53 := Tryd.isAgg92
  z53 := Tryd.sizeOf92
  v53 := Tryd.zeroValue92
  t171 := Tryd.underlying101
  a171 := Tryd.isAgg101
  z171 := Tryd.sizeOf101
  v171 := Tryd.zeroValue101
  t173 := Tryd.underlying104
  a173 := Tryd.isAgg104
  z173 := Tryd.sizeOf104
  v173 := Tryd.zeroValue104
  t212 := Tryd.underlying117
  a212 := Tryd.isAgg117
  z212 := Tryd.sizeOf117
  v212 := Tryd.zeroValue117
  t213 := Tryd.underlying119
  a213 := Tryd.isAgg119
  z213 := Tryd.sizeOf119
  t232 := Tryd.underlying136
  a232 := Tryd.isAgg136
  z232 := Tryd.sizeOf136
  v232 := Tryd.zeroValue136
  t233 := Tryd.underlying137
  a233 := Tryd.isAgg137
  z233 := Tryd.sizeOf137
  v233 := Tryd.zeroValue137
  g17 := by kernel_rfl
  g18 := by kernel_rfl
  g19 := by kernel_rfl
  i0 := by kernel_rfl
  i2 := by kernel_rfl
  i3 := by kernel_rfl
  i4 := by kernel_rfl
  i5 := by kernel_rfl
  i9 := by kernel_rfl
  i20 := by kernel_rfl
  i37 := by kernel_rfl
  i46 := by kernel_rfl
  i51 := by kernel_rfl
  i53 := by kernel_rfl
  i171 := by kernel_rfl
  i173 := by kernel_rfl
  i212 := by kernel_rfl
  i232 := by kernel_rfl
  i233 := by kernel_rfl
  m17 := by kernel_rfl
  m18 := by kernel_rfl
  m19 := by kernel_rfl }
open Go.RowKit Go.Sort Go.Lib in
/-- strconv.FormatInt: "FormatInt returns the string representation of i in the given base": AT BASE 10: i's decimal numeral, for every int64. (LAID: no walk: one application.) -/
theorem Tryd.strconv_FormatInt_10 (n : Int) (h0 : -9223372036854775808 ≤ n) (h1 : n ≤ 9223372036854775807) (w : World) (htab : Lib.TabIs Tryd.prog w "internal/strconv.uint64pow10" .u64 Lib.pow10Tab) :
    Calls Tryd.prog 37 #[.int .i64 n, .int .i64 10] w fun e w' => e = .returned (.string ⟨(Lib.itoa n).toArray⟩) ∧ ∃ k os, w' = grow (w.drewN k) os := Any.strconv_FormatInt_10 Tryd.laysM173 n h0 h1 w htab
def Tryd.laysC174_ren : Go.Shelf.Ren := ⟨fun | 174 => 32 | 247 => 55 | 245 => 56 | 287 => 74 | 279 => 75 | 280 => 76 | 281 => 77 | 282 => 78 | 321 => 94 | 322 => 95 | 316 => 96 | 171 => 49 | 205 => 97 | 243 => 71 | 246 => 64 | 283 => 83 | 284 => 84 | 285 => 85 | 286 => 86 | 129 => 102 | 317 => 101 | 318 => 103 | 319 => 104 | 320 => 105 | 337 => 115 | 338 => 116 | n => n, fun | 9 => 9 | 3 => 3 | 2 => 2 | 75 => 50 | 85 => 51 | 4 => 4 | 167 => 91 | 5 => 5 | 53 => 92 | 175 => 93 | 46 => 57 | 168 => 95 | 37 => 38 | 0 => 0 | 210 => 112 | 21 => 21 | 127 => 90 | 145 => 126 | 143 => 124 | 171 => 101 | 173 => 104 | 212 => 117 | 51 => 118 | 20 => 20 | 213 => 119 | 232 => 136 | 233 => 137 | 80 => 71 | n => n, fun | 15 => 1 | 16 => 2 | 17 => 3 | 18 => 7 | 19 => 8 | n => n⟩
theorem Tryd.laysC174 : Go.Proofs.LaysC.n174 Tryd.prog Tryd.laysC174_ren := {
  mixed := by kernel_rfl
  f129 := Tryd.func102.trans (congrArg some (by kernel_rfl))
  f171 := Tryd.func49.trans (congrArg some (by kernel_rfl))
  f174 := Tryd.func32.trans (congrArg some (by kernel_rfl))
  f205 := Tryd.func97.trans (congrArg some (by kernel_rfl))
  f243 := Tryd.func71.trans (congrArg some (by kernel_rfl))
  f245 := Tryd.func56.trans (congrArg some (by kernel_rfl))
  f246 := Tryd.func64.trans (congrArg some (by kernel_rfl))
  f247 := Tryd.func55.trans (congrArg some (by kernel_rfl))
  f279 := Tryd.func75.trans (congrArg some (by kernel_rfl))
  f280 := Tryd.func76.trans (congrArg some (by kernel_rfl))
  f281 := Tryd.func77.trans (congrArg some (by kernel_rfl))
  f282 := Tryd.func78.trans (congrArg some (by kernel_rfl))
  f283 := Tryd.func83.trans (congrArg some (by kernel_rfl))
  f284 := Tryd.func84.trans (congrArg some (by kernel_rfl))
  f285 := Tryd.func85.trans (congrArg some (by kernel_rfl))
  f286 := Tryd.func86.trans (congrArg some (by kernel_rfl))
  f287 := Tryd.func74.trans (congrArg some (by kernel_rfl))
  f316 := Tryd.func96.trans (congrArg some (by kernel_rfl))
  f317 := Tryd.func101.trans (congrArg some (by kernel_rfl))
  f318 := Tryd.func103.trans (congrArg some (by kernel_rfl))
  f319 := Tryd.func104.trans (congrArg some (by kernel_rfl))
  f320 := Tryd.func105.trans (congrArg some (by kernel_rfl))
  f321 := Tryd.func94.trans (congrArg some (by kernel_rfl))
  f322 := Tryd.func95.trans (congrArg some (by kernel_rfl))
  f337 := Tryd.func115.trans (congrArg some (by kernel_rfl))
  f338 := Tryd.func116.trans (congrArg some (by kernel_rfl))
  t0 := Tryd.underlying0
  a0 := Tryd.isAgg0
  z0 := Tryd.sizeOf0
  v0 := Tryd.zeroValue0
  t2 := Tryd.underlying2
  a2 := Tryd.isAgg2
  z2 := Tryd.sizeOf2
  v2 := Tryd.zeroValue2
  t3 := Tryd.underlying3
  a3 := Tryd.isAgg3
  z3 := Tryd.sizeOf3
  v3 := Tryd.zeroValue3
  t4 := Tryd.underlying4
  a4 := Tryd.isAgg4
  z4 := Tryd.sizeOf4
  v4 := Tryd.zeroValue4
  t5 := Tryd.underlying5
  a5 := Tryd.isAgg5
  z5 := Tryd.sizeOf5
  v5 := Tryd.zeroValue5
  t9 := Tryd.underlying9
  a9 := Tryd.isAgg9
  z9 := Tryd.sizeOf9
  v9 := Tryd.zeroValue9
  t20 := Tryd.underlying20
  a20 := Tryd.isAgg20
  z20 := Tryd.sizeOf20
  v20 := Tryd.zeroValue20
  t21 := Tryd.underlying21
  a21 := Tryd.isAgg21
  z21 := Tryd.sizeOf21
  v21 := Tryd.zeroValue21
  t37 := Tryd.underlying38
  a37 := Tryd.isAgg38
  z37 := Tryd.sizeOf38
  v37 := Tryd.zeroValue38
  t46 := Tryd.underlying57
  a46 := Tryd.isAgg57
  z46 := Tryd.sizeOf57
  v46 := Tryd.zeroValue57
  t51 := Tryd.underlying118
  a51 := Tryd.isAgg118
  z51 := Tryd.sizeOf118
  v51 := Tryd.zeroValue118
  t53 := Tryd.underlying92
  a53 := Tryd.isAgg92
  z53 := Tryd.sizeOf92
  v53 := Tryd.zeroValue92
  t75 := Tryd.underlying50
  a75 := Tryd.isAgg50
  z75 := Tryd.sizeOf50
  v75 := Tryd.zeroValue50
  t85 := Tryd.underlying51
  a85 := Tryd.isAgg51
  z85 := Tryd.sizeOf51
  v85 := Tryd.zeroValue51
  t127 := Tryd.underlying90
  a127 := Tryd.isAgg90
  z127 := Tryd.sizeOf90
  v127 := Tryd.zeroValue90
  t143 := Tryd.underlying124
  a143 := Tryd.isAgg124
  z143 := Tryd.sizeOf124
  v143 := Tryd.zeroValue124
  t145 := Tryd.underlying126
  a145 := Tryd.isAgg126
  z145 := Tryd.sizeOf126
  v145 := Tryd.zeroValue126
  t167 := Tryd.underlying91
  a167 := Tryd.isAgg91
  z167 := Tryd.sizeOf91
  v167 := Tryd.zeroValue91
  t168 := Tryd.underlying95
  a168 := Tryd.isAgg95
  z168 := Tryd.sizeOf95
  v168 := Tryd.zeroValue95
  t171 := Tryd.underlying101
  a171 := Tryd.isAgg101
  z171 := Tryd.sizeOf101
  v171 := Tryd.zeroValue101
  t173 := Tryd.underlying104
  a173 := Tryd.isAgg104
  z173 := Tryd.sizeOf104
  v173 := Tryd.zeroValue104
  t175 := Tryd.underlying93
  a175 := Tryd.isAgg93
  z175 := Tryd.sizeOf93
  v175 := Tryd.zeroValue93
  t210 := Tryd.underlying112
  a210 := Tryd.isAgg112
  z210 := Tryd.sizeOf112
  v210 := Tryd.zeroValue112
  t212 := Tryd.underlying117
  a212 := Tryd.isAgg117
  z212 := Tryd.sizeOf117
  v212 := Tryd.zeroValue117
  t213 := Tryd.underlying119
  a213 := Tryd.isAgg119
  z213 := Tryd.sizeOf119
  t232 := Tryd.underlying136
  a232 := Tryd.isAgg136
  z232 := Tryd.sizeOf136
  v232 := Tryd.zeroValue136
  t233 := Tryd.underlying137
  a233 := Tryd.isAgg137
  z233 := Tryd.sizeOf137
  v233 := Tryd.zeroValue137
  g15 := by kernel_rfl
  g16 := by kernel_rfl
  g17 := by kernel_rfl
  g18 := by kernel_rfl
  g19 := by kernel_rfl
  t80 := Tryd.underlying71
  a80 := Tryd.isAgg71
  z80 := Tryd.sizeOf71
  v80 := Tryd.zeroValue71
  i0 := by kernel_rfl
  i2 := by kernel_rfl
  i3 := by kernel_rfl
  i4 := by kernel_rfl
  i5 := by kernel_rfl
  i9 := by kernel_rfl
  i20 := by kernel_rfl
  i21 := by kernel_rfl
  i37 := by kernel_rfl
  i46 := by kernel_rfl
  i51 := by kernel_rfl
  i53 := by kernel_rfl
  i75 := by kernel_rfl
  i80 := by kernel_rfl
  i85 := by kernel_rfl
  i127 := by kernel_rfl
  i143 := by kernel_rfl
  i145 := by kernel_rfl
  i167 := by kernel_rfl
  i168 := by kernel_rfl
  i171 := by kernel_rfl
  i173 := by kernel_rfl
  i175 := by kernel_rfl
  i210 := by kernel_rfl
  i212 := by kernel_rfl
  i232 := by kernel_rfl
  i233 := by kernel_rfl
  m15 := by kernel_rfl
  m16 := by kernel_rfl
  m17 := by kernel_rfl
  m18 := by kernel_rfl
  m19 := by kernel_rfl
  c0 := by kernel_rfl
  c2 := by kernel_rfl
  c3 := by kernel_rfl
  c4 := by kernel_rfl
  c5 := by kernel_rfl
  c9 := by kernel_rfl
  c20 := by kernel_rfl
  c21 := by kernel_rfl
  c37 := by kernel_rfl
  c46 := by kernel_rfl
  c51 := by kernel_rfl
  c53 := by kernel_rfl
  c75 := by kernel_rfl
  c80 := by kernel_rfl
  c85 := by kernel_rfl
  c127 := by kernel_rfl
  c143 := by kernel_rfl
  c145 := by kernel_rfl
  c167 := by kernel_rfl
  c168 := by kernel_rfl
  c171 := by kernel_rfl
  c173 := by kernel_rfl
  c175 := by kernel_rfl
  c210 := by kernel_rfl
  c212 := by kernel_rfl
  c213 := by kernel_rfl
  c232 := by kernel_rfl
  c233 := by kernel_rfl }
open Go.RowKit in
/-- strconv.ParseInt(s, 10, 64), AT EVERY STRING THAT SPELLS AN int64 ('Lib.parseIntB 64 s.data.toList = .ok v'): v, AND NO ERROR. (LAID: no walk: one application.) -/
theorem Tryd.strconv_ParseInt_10_at64_ok (s : ByteArray) (hmax : s.size ≤ 9223372036854775806) (v : Int) (h : Lib.parseIntB 64 s.data.toList = .ok v) (w : World) :
    Calls Tryd.prog 32 #[.string s, .int .i64 10, .int .i64 64] w fun e w' => e = .returned (.tuple #[.int .i64 v, .nilIface]) ∧ (w' = w ∨ ∃ t, w' = Lib.bytesWorld w 5 t) := Any.strconv_ParseInt_10_at64_ok Tryd.laysC174 s hmax v h w
open Go.RowKit in
/-- strconv.ParseInt(s, 10, 64), AT EVERY NUMERAL THAT NO int64 HOLDS: THE GREATEST OR THE LEAST int64, BY THE SIGN ('Lib.intSat 64'), AND AN ERROR THAT IS NOT nil: a *NumError in a new block N: {Func: "ParseInt", Num: s's bytes, Err: what the variable ErrRange holds}. Of what was there nothing has turned. (LAID: no walk: one application.) -/
theorem Tryd.strconv_ParseInt_10_at64_range (s : ByteArray) (hlim : s.size ≤ 281474976710656) (h : Lib.parseIntB 64 s.data.toList = .range) (ev : Value) (w : World) (hv : w.cell? ⟨2, 0, none⟩ = some ev) (hev : ev = .nilIface ∨ ∃ te pe, ev = .iface te pe) :
    Calls Tryd.prog 32 #[.string s, .int .i64 10, .int .i64 64] w fun e w' => ∃ N, e = .returned (.tuple #[.int .i64 (Lib.intSat 64 s.data.toList), .iface 95 (.pointer (some ⟨N, 0, none⟩))]) ∧ w.heap.size ≤ N ∧ w'.heap[N]? = some (.cells #[.string ⟨#[80, 97, 114, 115, 101, 73, 110, 116]⟩, .string s, ev] 112 (0, 0)) ∧ Below w.heap.size w w' := Any.strconv_ParseInt_10_at64_range Tryd.laysC174 s hlim h ev w hv hev
def Tryd.lays145_ren : Go.Shelf.Ren := ⟨fun | 145 => 52 | 220 => 72 | 219 => 92 | 217 => 106 | 225 => 111 | 224 => 112 | 267 => 113 | 266 => 117 | 314 => 120 | n => n, fun | 9 => 9 | 4 => 4 | 59 => 73 | 3 => 3 | 5 => 5 | 46 => 57 | 146 => 134 | 51 => 118 | n => n, fun | 1 => 4 | n => n⟩
theorem Tryd.lays145 : Go.Proofs.Lays.n145 Tryd.prog Tryd.lays145_ren := {
  mixed := by kernel_rfl
  f145 := Tryd.func52.trans (congrArg some (by kernel_rfl))
  f217 := Tryd.func106.trans (congrArg some (by kernel_rfl))
  f219 := Tryd.func92.trans (congrArg some (by kernel_rfl))
  f220 := Tryd.func72.trans (congrArg some (by kernel_rfl))
  f224 := Tryd.func112.trans (congrArg some (by kernel_rfl))
  f225 := Tryd.func111.trans (congrArg some (by kernel_rfl))
  f266 := Tryd.func117.trans (congrArg some (by kernel_rfl))
  f267 := Tryd.func113.trans (congrArg some (by kernel_rfl))
  f314 := Tryd.func120.trans (congrArg some (by kernel_rfl))
  t3 := Tryd.underlying3
  a3 := Tryd.isAgg3
  z3 := Tryd.sizeOf3
  v3 := Tryd.zeroValue3
  t4 := Tryd.underlying4
  a4 := Tryd.isAgg4
  z4 := Tryd.sizeOf4
  v4 := Tryd.zeroValue4
  t5 := Tryd.underlying5
  a5 := Tryd.isAgg5
  z5 := Tryd.sizeOf5
  v5 := Tryd.zeroValue5
  t9 := Tryd.underlying9
  a9 := Tryd.isAgg9
  z9 := Tryd.sizeOf9
  v9 := Tryd.zeroValue9
  t46 := Tryd.underlying57
  a46 := Tryd.isAgg57
  z46 := Tryd.sizeOf57
  v46 := Tryd.zeroValue57
  t51 := Tryd.underlying118
  a51 := Tryd.isAgg118
  z51 := Tryd.sizeOf118
  v51 := Tryd.zeroValue118
  t59 := Tryd.underlying73
  a59 := Tryd.isAgg73
  z59 := Tryd.sizeOf73
  v59 := Tryd.zeroValue73
  t146 := Tryd.underlying134
  a146 := Tryd.isAgg134
  z146 := Tryd.sizeOf134
  v146 := Tryd.zeroValue134
  g1 := by kernel_rfl }
open Go.RowKit Go.Lib in
/-- strings.Cut: "Cut slices s around the first instance of sep, returning the text before and after sep. The found result reports whether sep appears in s. If sep does not appear in s, cut returns s, "", false.": IT RETURNS 'Lib.cut s sep'; the world is as it was but for the count of draws. (LAID: no walk: one application.) -/
theorem Tryd.strings_Cut (s sep : ByteArray) (m : Int) (w : World) (hs : s.size < 4294967281) (hm : w.cell? ⟨4, 0, none⟩ = some (.int .i64 m)) :
    Calls Tryd.prog 52 #[.string s, .string sep] w fun e w' => e = .returned (.tuple #[.string ⟨(Lib.cut s.data.toList sep.data.toList).1.toArray⟩, .string ⟨(Lib.cut s.data.toList sep.data.toList).2.1.toArray⟩, .bool (Lib.cut s.data.toList sep.data.toList).2.2]) ∧ ∃ n, w' = w.drewN n := Any.strings_Cut Tryd.lays145 s sep m w hs hm
def Tryd.lays101_ren : Go.Shelf.Ren := ⟨fun | 101 => 54 | 208 => 73 | 206 => 93 | n => n, fun | 9 => 9 | 4 => 4 | 3 => 3 | n => n, fun | n => n⟩
theorem Tryd.lays101 : Go.Proofs.Lays.n101 Tryd.prog Tryd.lays101_ren := {
  mixed := by kernel_rfl
  f101 := Tryd.func54.trans (congrArg some (by kernel_rfl))
  f206 := Tryd.func93.trans (congrArg some (by kernel_rfl))
  f208 := Tryd.func73.trans (congrArg some (by kernel_rfl))
  t3 := Tryd.underlying3
  a3 := Tryd.isAgg3
  z3 := Tryd.sizeOf3
  v3 := Tryd.zeroValue3
  t4 := Tryd.underlying4
  a4 := Tryd.isAgg4
  z4 := Tryd.sizeOf4
  v4 := Tryd.zeroValue4
  t9 := Tryd.underlying9
  a9 := Tryd.isAgg9
  z9 := Tryd.sizeOf9
  v9 := Tryd.zeroValue9 }
open Go.RowKit Go.Lib in
/-- strings.TrimPrefix: "TrimPrefix returns s without the provided leading prefix string. If s doesn't start with prefix, s is returned unchanged.": IT RETURNS 'Lib.trimPrefix s prefix'; the world is as it was. (LAID: no walk: one application.) -/
theorem Tryd.strings_TrimPrefix (s p : ByteArray) (w : World) :
    Calls Tryd.prog 54 #[.string s, .string p] w fun e w' => e = .returned (.string ⟨(Lib.trimPrefix s.data.toList p.data.toList).toArray⟩) ∧ w' = w := Any.strings_TrimPrefix Tryd.lays101 s p w
end Go.Proofs
/- The words: contracts of the library's functions. -/
set_option linter.unusedVariables false
namespace Go.Proofs.YtmeapfckibbbbaaDoor.Am
open Go.RowKit Lw Go.Shelf
/-- What the words' package and the library read of laid variables: escapes, MaxLen, ErrRange, the powers of ten. -/
abbrev escL : List Nat := [34, 34, 92, 92, 10, 110, 13, 114, 9, 116]
abbrev escD (j : Nat) : DC := .c (.int .u8 (escL.getD j 0 : Nat))
abbrev powD (j : Nat) : DC := .c (.int .u64 (Lib.pow10Tab.getD j 0))
abbrev glC (m : Int) (te : TypeId) (pe : Value) : List Chunk := [.stat 0 0 10 escD, .stat 1 4 1 (fun _ => .c (.int .i64 m)), .stat 2 2 1 (fun _ => .c (.iface te pe)), .stat 3 3 20 powD]
theorem glC_all (m : Int) (te : TypeId) (pe : Value) : allStat (glC m te pe) = true := rfl
section
variable {w : World} {S : Nat → Prop} {ν : Nat → Value} {m : Int} {te : TypeId} {pe : Value}
theorem gl_max (h : ∀ c ∈ glC m te pe, c.holds w S ν) : w.cell? ⟨4, 0, none⟩ = some (.int .i64 m) := by
  obtain ⟨_, _, h3, _⟩ := h _ (List.mem_cons_of_mem _ (List.mem_cons_self ..))
  obtain ⟨u, h4, h5⟩ := h3 0 (by decide)
  rw [h4, h5.1]
theorem gl_err (h : ∀ c ∈ glC m te pe, c.holds w S ν) : w.cell? ⟨2, 0, none⟩ = some (.iface te pe) := by
  obtain ⟨_, _, h3, _⟩ := h _ (List.mem_cons_of_mem _ (List.mem_cons_of_mem _ (List.mem_cons_self ..)))
  obtain ⟨u, h4, h5⟩ := h3 0 (by decide)
  rw [h4, h5.1]
theorem gl_pow (h : ∀ c ∈ glC m te pe, c.holds w S ν) : Lib.TabIs Tryd.prog w "internal/strconv.uint64pow10" .u64 Lib.pow10Tab := by
  obtain ⟨_, _, h3, cs, T, fr, h6, h7⟩ := h _ (List.mem_cons_of_mem _ (List.mem_cons_of_mem _ (List.mem_cons_of_mem _ (List.mem_cons_self ..))))
  unfold Lib.TabIs World.var?
  rw [show Tryd.prog.globalNamed "internal/strconv.uint64pow10" = some 3 by kernel_rfl]
  simp only [Option.bind_some, h6]
  congr 1
  refine Array.ext (by rw [h7]; rfl) fun i h1 h2 => ?_
  obtain ⟨u, h4, h5⟩ := h3 i (by omega)
  have h8 : w.cell? ⟨3, i, none⟩ = cs[i]? := by simp [World.cell?, h6]
  rw [h8, Array.getElem?_eq_getElem h1] at h4
  have h9 : cs[i] = u := Option.some.inj h4
  rw [h9, h5.1]
  have h10 : i < Lib.pow10Tab.length := by simpa using h2
  simp [List.getElem?_eq_getElem h10]
end
theorem args3 {w : World} {S : Nat → Prop} {ν : Nat → Value} {v u x : Value} {vs : List Value} (h : All2 (AV.rel w S ν) [.o (.c v), .o (.c u), .o (.c x)] vs) : vs = [v, u, x] := by
  obtain ⟨r, rfl, h2⟩ := argsC h
  obtain rfl := args2 h2
  rfl
theorem below_gr (w : World) (k : Nat) (os : Array Obj) : Below w.heap.size w (Go.Sort.grow (w.drewN k) os) :=
  ⟨rfl, rfl, rfl, by simp [Go.Sort.grow, World.drewN], fun i hi => by simp [Go.Sort.grow, World.drewN, Array.getElem?_append_left hi]⟩
set_option maxRecDepth 20000 in
theorem trim_c (l cs : List UInt8) (hl : l.length ≤ 1000000) (hcs : cs.length ≤ 1000) (ha : ∀ (j : Nat) b, cs[j]? = some b → b.toNat < 128) : Con Tryd.prog 34 [.o (.c (.string (sB l))), .o (.c (.string (sB cs)))] [] 0 0 U (fun _ => .o (.c (.string (sB (Lib.trimS l cs))))) G0 := by
  refine con_below (takes := []) (fn := Tryd.f34) Tryd.func34 (by kernel_rfl) (by kernel_rfl) rfl rfl (Nat.le_refl _) (fun _ => rfl) rfl fun w S ν vs hv _ => ?_
  obtain rfl := args2 hv
  refine Calls.mono (Any.strings_Trim_laid Tryd.lays160 (by kernel_rfl) (sB l) (sB cs) w (by rw [sB_size]; omega) (by rw [sB_size]; omega) ha) ?_
  rintro e w' ⟨rfl, hb⟩
  exact ⟨(), _, rfl, trivial, fun _ _ _ => ⟨rfl, rfl⟩, hb⟩
set_option maxRecDepth 20000 in
theorem tpre_c (l p : List UInt8) : Con Tryd.prog 54 [.o (.c (.string (sB l))), .o (.c (.string (sB p)))] [] 0 0 U (fun _ => .o (.c (.string (sB (Lib.trimPrefix l p))))) G0 := by
  refine con_same (fn := Tryd.f54) Tryd.func54 (by kernel_rfl) (by kernel_rfl) (fun _ => rfl) fun w S ν vs hv => ?_
  obtain rfl := args2 hv
  refine Calls.mono (Tryd.strings_TrimPrefix (sB l) (sB p) w) ?_
  rintro e w' ⟨rfl, rfl⟩
  exact ⟨(), _, rfl, trivial, ⟨rfl, rfl⟩, rfl⟩
set_option maxRecDepth 20000 in
theorem ixb_c (l : List UInt8) (c : UInt8) : Con Tryd.prog 87 [.o (.c (.string (sB l))), .o (.c (.int .u8 c.toNat))] [] 0 0 U (fun _ => .o (.c (.int .i64 (Lib.indexByte l c)))) G0 := by
  refine con_same (fn := Tryd.f87) Tryd.func87 (by kernel_rfl) (by kernel_rfl) (fun _ => rfl) fun w S ν vs hv => ?_
  obtain rfl := args2 hv
  refine Calls.mono (Tryd.strings_IndexByte (sB l) (c.toNat : Int) w) ?_
  rintro e w' ⟨rfl, rfl⟩
  exact ⟨(), _, rfl, trivial, ⟨by simp, rfl⟩, rfl⟩
set_option maxRecDepth 20000 in
theorem cut_c (m : Int) (te : TypeId) (pe : Value) (l p : List UInt8) (hl : l.length ≤ 1000000) : Con Tryd.prog 52 [.o (.c (.string (sB l))), .o (.c (.string (sB p)))] (glC m te pe) 4 4 U (fun _ => .t [.inl (.c (.string (sB (Lib.cut l p).1))), .inl (.c (.string (sB (Lib.cut l p).2.1))), .inl (.c (.bool (Lib.cut l p).2.2))]) (fun _ => glC m te pe) := by
  refine con_below (fn := Tryd.f52) Tryd.func52 (by kernel_rfl) (by kernel_rfl) rfl rfl (Nat.le_refl _) (fun _ => rfl) rfl fun w S ν vs hv hg => ?_
  obtain rfl := args2 hv
  refine Calls.mono (Tryd.strings_Cut (sB l) (sB p) m w (by rw [sB_size]; omega) (gl_max hg)) ?_
  rintro e w' ⟨rfl, n, rfl⟩
  exact ⟨(), _, rfl, trivial, fun _ _ _ => ⟨_, rfl, ⟨rfl, rfl⟩, ⟨rfl, rfl⟩, ⟨rfl, rfl⟩, trivial⟩, ⟨rfl, rfl, rfl, Nat.le_refl _, fun _ _ => rfl⟩⟩
set_option maxRecDepth 20000 in
theorem fmt_c (m : Int) (te : TypeId) (pe : Value) (n : Int) (hn : -9223372036854775808 ≤ n ∧ n ≤ 9223372036854775807) : Con Tryd.prog 37 [.o (.c (.int .i64 n)), .o (.c (.int .i64 10))] (glC m te pe) 4 4 U (fun _ => .o (.c (.string (sB (Lib.itoa n))))) (fun _ => glC m te pe) := by
  refine con_below (fn := Tryd.f37) Tryd.func37 (by kernel_rfl) (by kernel_rfl) rfl rfl (Nat.le_refl _) (fun _ => rfl) rfl fun w S ν vs hv hg => ?_
  obtain rfl := args2 hv
  refine Calls.mono (Tryd.strconv_FormatInt_10 n hn.1 hn.2 w (gl_pow hg)) ?_
  rintro e w' ⟨rfl, k, os, rfl⟩
  exact ⟨(), _, rfl, trivial, fun _ _ _ => ⟨rfl, rfl⟩, below_gr _ _ _⟩
set_option maxRecDepth 20000 in
theorem itoa_c (m : Int) (te : TypeId) (pe : Value) (n : Int) (hn : -9223372036854775808 ≤ n ∧ n ≤ 9223372036854775807) : Con Tryd.prog 49 [.o (.c (.int .i64 n))] (glC m te pe) 4 4 U (fun _ => .o (.c (.string (sB (Lib.itoa n))))) (fun _ => glC m te pe) := by
  refine con_below (fn := Tryd.f49) Tryd.func49 (by kernel_rfl) (by kernel_rfl) rfl rfl (Nat.le_refl _) (fun _ => rfl) rfl fun w S ν vs hv hg => ?_
  obtain rfl := args1 hv
  refine Calls.mono (Tryd.strconv_Itoa n hn.1 hn.2 w (gl_pow hg)) ?_
  rintro e w' ⟨rfl, k, os, rfl⟩
  exact ⟨(), _, rfl, trivial, fun _ _ _ => ⟨rfl, rfl⟩, below_gr _ _ _⟩
set_option maxRecDepth 20000 in
theorem parseOk_c (m : Int) (te : TypeId) (pe : Value) (l : List UInt8) (hl : l.length ≤ 1000000) (z : Int) (h : Lib.parseIntB 64 l = .ok z) : Con Tryd.prog 32 [.o (.c (.string (sB l))), .o (.c (.int .i64 10)), .o (.c (.int .i64 64))] (glC m te pe) 4 4 U (fun _ => .t [.inl (.c (.int .i64 z)), .inl (.c .nilIface)]) (fun _ => glC m te pe) := by
  refine con_below (fn := Tryd.f32) Tryd.func32 (by kernel_rfl) (by kernel_rfl) rfl rfl (Nat.le_refl _) (fun _ => rfl) rfl fun w S ν vs hv hg => ?_
  obtain rfl := args3 hv
  refine Calls.mono (Tryd.strconv_ParseInt_10_at64_ok (sB l) (by rw [sB_size]; omega) z h w) ?_
  rintro e w' ⟨rfl, hw⟩
  refine ⟨(), _, rfl, trivial, fun _ _ _ => ⟨_, rfl, ⟨rfl, rfl⟩, ⟨rfl, rfl⟩, trivial⟩, ?_⟩
  rcases hw with rfl | ⟨t, rfl⟩
  · exact Below.refl _ _
  · exact Lib.bytesWorld_below _ _ _
set_option maxRecDepth 20000 in
theorem parseR_c (m : Int) (te : TypeId) (pe : Value) (l : List UInt8) (hl : l.length ≤ 1000000) (h : Lib.parseIntB 64 l = .range) : Con Tryd.prog 32 [.o (.c (.string (sB l))), .o (.c (.int .i64 10)), .o (.c (.int .i64 64))] (glC m te pe) 4 4 (fun v : Value => ∃ tp p, v = .iface tp p) (fun v => .t [.inl (.c (.int .i64 (Lib.intSat 64 l))), .inl (.c v)]) (fun _ => glC m te pe) := by
  refine con_below (fn := Tryd.f32) Tryd.func32 (by kernel_rfl) (by kernel_rfl) rfl rfl (Nat.le_refl _) (fun _ => rfl) rfl fun w S ν vs hv hg => ?_
  obtain rfl := args3 hv
  refine Calls.mono (Tryd.strconv_ParseInt_10_at64_range (sB l) (by rw [sB_size]; omega) h (.iface te pe) w (gl_err hg) (.inr ⟨_, _, rfl⟩)) ?_
  rintro e w' ⟨N, rfl, _, _, hb⟩
  exact ⟨_, _, rfl, ⟨_, _, rfl⟩, fun _ _ _ => ⟨_, rfl, ⟨rfl, rfl⟩, ⟨rfl, rfl⟩, trivial⟩, hb⟩
end Go.Proofs.YtmeapfckibbbbaaDoor.Am
/- The words: a strings.Builder and what is written on it. -/
set_option linter.unusedVariables false
namespace Go.Proofs.YtmeapfckibbbbaaDoor.Am
open Go.RowKit Lw Go.Shelf
section
variable {P : Program}
/-- A function that leaves the world as it was, the chunks that it takes among it. -/
theorem con_id {ι : Type} {f : FuncId} {args : List AV} {takes : List Chunk} {m : Nat} {pre : ι → Prop} {res : ι → AV} {fn : Func} (hf : P.funcs[f]? = some fn) (hn : (fn.name == "runtime.NumGoroutine") = false) (hb : fn.body.isNone = false) (wfT : allB (Chunk.ltB m) takes = true) (wf : ∀ x, (res x).ltB m = true)
    (h : ∀ w S ν vs, All2 (AV.rel w S ν) args vs → (∀ c ∈ takes, c.holds w S ν) → Calls P f vs.toArray w fun e w' => ∃ x u, e = .returned u ∧ pre x ∧ (res x).rel w S ν u ∧ w' = w) : Con P f args takes m m pre res (fun _ => takes) := by
  refine ⟨⟨fn, hf, hn, hb⟩, wfT, Nat.le_refl _, fun x => ⟨wf x, wfT⟩, fun w S ν vs ha ht hnd hbk hS => Calls.mono (h w S ν vs ha ht) ?_⟩
  rintro e w' ⟨x, u, he, hp, hr, rfl⟩
  exact ⟨x, S, ν, u, he, hp, hr, Fr.refl _ _, fun _ _ => rfl, fun _ h => h, fun b hb => ⟨hS b hb, .inl hb⟩, ht, hnd, fun b hb => ⟨(hbk b hb).1, (hbk b hb).2, .inl hb⟩⟩
end
/-- A builder that nothing was written on, one that was written on. -/
abbrev blN (l : List UInt8) : List Chunk := [.box 0 65 [.c (.pointer none), .own 1], .own 1 5 1 (bytesC l)]
abbrev blC (l : List UInt8) : List Chunk := [.box 0 65 [.ptr 0 0, .own 1], .own 1 5 1 (bytesC l)]
abbrev blG (l : List UInt8) : List Chunk := [.box 0 65 [.ptr 0 0, .own 2], .own 2 5 1 (bytesC l)]
set_option maxRecDepth 20000 in
theorem ccU_c (l : List UInt8) : Con Tryd.prog 70 [.o (.ptr 0 0)] (blC l) 2 2 U (fun _ => .t []) (fun _ => blC l) := by
  refine con_id (fn := Tryd.f70) Tryd.func70 (by kernel_rfl) (by kernel_rfl) rfl (fun _ => rfl) fun w S ν vs hv ht => ?_
  obtain ⟨b, us, h1, h2, h3⟩ := ht _ (List.mem_cons_self ..)
  cases vs with
  | nil => exact hv.elim
  | cons v vs =>
    cases vs with
    | cons _ _ => exact hv.2.elim
    | nil =>
      obtain ⟨⟨b', k1, k2⟩, _⟩ := hv
      rw [h1] at k1
      cases k1
      cases us with
      | nil => exact h3.elim
      | cons u us =>
        obtain ⟨⟨b2, g1, g2⟩, _⟩ := h3
        rw [h1] at g1
        cases g1
        dsimp only at k2 g2
        subst k2
        have c0 : w.cell? ⟨b, 0, none⟩ = some (.pointer (some ⟨b, 0, none⟩)) := by rw [Lib.cell_of_heap h2, g2]; rfl
        refine Calls.mono (Any.Builder_copyCheck_used (ρ := Tryd.lays156_ren) { Tryd.lays156 with } Tryd.Builder_Extra_156.toX72 b w c0) ?_
        rintro e w' ⟨rfl, rfl⟩
        exact ⟨(), _, rfl, trivial, ⟨[], rfl, trivial⟩, rfl⟩
set_option maxRecDepth 20000 in
theorem ccN_c (l : List UInt8) : Con Tryd.prog 70 [.o (.ptr 0 0)] (blN l) 2 2 U (fun _ => .t []) (fun _ => blC l) := by
  refine ⟨⟨Tryd.f70, Tryd.func70, by kernel_rfl, by kernel_rfl⟩, rfl, Nat.le_refl _, fun x => ⟨rfl, rfl⟩, fun w S ν vs hv ht hnd hbk hS => ?_⟩
  obtain ⟨b, us, h1, h2, h3⟩ := ht _ (List.mem_cons_self ..)
  have ho := ht _ (List.mem_cons_of_mem _ (List.mem_cons_self ..))
  cases vs with
  | nil => exact hv.elim
  | cons v vs =>
    cases vs with
    | cons _ _ => exact hv.2.elim
    | nil =>
      obtain ⟨⟨b', k1, k2⟩, _⟩ := hv
      rw [h1] at k1
      cases k1
      match us, h3, h2 with
      | [u0, u1], ⟨g0, g1, _⟩, h2 =>
        obtain ⟨g0, _⟩ := g0
        subst g0
        dsimp only at k2
        subst k2
        have c0 : w.cell? ⟨b, 0, none⟩ = some (.pointer none) := by rw [Lib.cell_of_heap h2]; rfl
        have hsh : w.shape? b = some (65, 2) := by simp [World.shape?, h2]
        have hfz : w.frozen? ⟨b, 0, none⟩ = false := Lib.frozen_of_heap h2 0
        have hbk0 : b ∈ blks ν (blN l) := mem_blks.2 ⟨_, List.mem_cons_self .., by simp [Chunk.blk, h1]⟩
        have hne : ∀ k, (Chunk.own 1 5 1 (bytesC l)).blk ν = some k → k ≠ b := by
          intro k hk e
          subst e
          simp only [blks, blN, List.filterMap_cons, List.filterMap_nil, hk] at hnd
          have e0 : (Chunk.box 0 65 [.c (.pointer none), .own 1]).blk ν = some k := by simp [Chunk.blk, h1]
          rw [e0] at hnd
          simp at hnd
        have gr : Gr w (w.setCell ⟨b, 0, none⟩ (.pointer (some ⟨b, 0, none⟩))) S S := ⟨by simp [World.setCell], fun k hs _ => Below.heap_setCell w ⟨b, 0, none⟩ _ k fun e => (hbk b hbk0).2 (by have e : k = b := e; rw [← e]; exact hs), fun _ h => h⟩
        have eb : ∀ {A B : List A1}, blks ν [.box 0 65 A, .own 1 5 1 (bytesC l)] = blks ν [.box 0 65 B, .own 1 5 1 (bytesC l)] := rfl
        refine Calls.mono (Any.Builder_copyCheck_fresh (ρ := Tryd.lays156_ren) { Tryd.lays156 with } Tryd.Builder_Extra_156.toX72 b w c0 hsh hfz) ?_
        rintro e w' ⟨rfl, rfl⟩
        refine ⟨(), S, ν, _, rfl, trivial, ⟨[], rfl, trivial⟩, ⟨rfl, rfl, rfl, by simp [World.setCell], fun k hk hn => Below.heap_setCell w ⟨b, 0, none⟩ _ k fun e => hn (by have e : k = b := e; rw [e]; exact hbk0)⟩, fun _ _ => rfl, fun _ h => h, fun k hk => ⟨by have := hS k hk; simpa [World.setCell] using this, .inl hk⟩, ?_, ?_, ?_⟩
        · intro c hc
          rcases List.mem_cons.1 hc with rfl | hc
          · exact ⟨b, [.pointer (some ⟨b, 0, none⟩), u1], h1, heap_setCell_same h2, ⟨b, h1, rfl⟩, A1.mono (m := 2) gr (fun _ _ => rfl) (show 1 < 2 by decide) g1, trivial⟩
          · rw [List.mem_singleton.1 hc]
            exact Chunk.mono (m := 2) gr (fun _ _ => rfl) (show 1 < 2 by decide) (fun k hk => Below.heap_setCell w ⟨b, 0, none⟩ _ k (hne k hk)) ho
        · exact hnd
        · intro k hk
          have := hbk k hk
          exact ⟨by simpa [World.setCell] using this.1, this.2, .inl hk⟩
section
variable {P : Program} {st : AS} {o : Oper} {K : Nat → Bool}
/-- unsafe.SliceData of a slice of the call's own that is not empty. -/
theorem m_sliceData {c : Call} {x : Operand} {t id E sz : Nat} {ct : Ct} (ho : o.op = .call c) (hc : c.callee = .builtin .unsafeSliceData) (hx : c.args.toList = [x]) (ht : c.argTypes.toList = [t]) (hv : aop st x = some (.o (.own id))) (hf : findOwn (fun _ => true) st.hp id = some (E, sz, ct)) (hn : 0 < ct.n) : StepTo P K o st (· = st.put o.dst (.o (.optr id sz 0 0))) := by
  intro X S ν a w Q K' hd sat hk
  obtain ⟨xs, h1, _⟩ := sat.hp _ (findOwn_ok hf).1
  obtain ⟨⟨h2, _⟩, h3⟩ := aop_ok sat hv
  obtain ⟨g, cap, e1, e2⟩ : ∃ g cap, ν id = .slice (some ⟨g, 0, none⟩) ct.n cap ∧ ct.n ≤ cap := by
    rcases h1.2 with ⟨_, hz⟩ | ⟨g, cap, cur, e1, _, _, e4, _⟩
    · omega
    · exact ⟨g, cap, e1, e4⟩
  obtain ⟨cs, ex⟩ := exec_builtin (a := a) ho hc hx (show c.argTypes = #[t] by rw [← Array.toList_inj]; exact ht)
  refine wp_value (w' := w) (u := .pointer (some ⟨g, 0, none⟩)) ?_ (hk _ S ν _ _ rfl (sat.put hd (v := .o (.optr id sz 0 0)) ⟨g, ct.n, cap, e1, by simp⟩ h3) ⟨Nat.le_refl _, fun _ h => h, fun ch hc hk => ⟨by rw [(AS.put_hp _ _ _).1]; exact hc, rfl⟩, fun _ _ => rfl⟩)
  rw [ex]
  have hr := Lib.run_unsafeSliceData_row (P := P) (w := w) #[t] o.type ⟨g, 0, none⟩ ct.n cap (by omega)
  simp only [builtin, List.map_cons, List.map_nil, Sem.run_bind, h2, e1]
  rw [hr]
  rfl
/-- unsafe.String of all bytes of a slice of the call's own: the slice is given up. -/
theorem m_unsafeString {c : Call} {p x : Operand} {pt it id E : Nat} {l : List UInt8} {rest : List Chunk} (ho : o.op = .call c) (hc : c.callee = .builtin .unsafeString) (hx : c.args.toList = [p, x]) (ht : c.argTypes.toList = [pt, it]) (hp : P.underlying pt = some (.pointer E)) (hE : P.cellsOf E = 1) (hv : aop st p = some (.o (.optr id 1 0 0))) (hl : aop st x = some (.o (.c (.int .i64 (l.length : Nat))))) (hf : takeOwn (fun i => !K i) st.hp id = some (E, 1, bytesC l, rest)) (hn : l ≠ []) : StepTo P K o st (· = (AS.mk st.env rest st.nid).put o.dst (.o (.c (.string (sB l))))) := by
  intro X S ν a w Q K' hd sat hk
  obtain ⟨hperm, hK⟩ := takeOwn_perm hf
  have hmem : Chunk.own id E 1 (bytesC l) ∈ st.hp := hperm.symm.subset (List.mem_cons_self ..)
  obtain ⟨xs, h1, h1b⟩ := sat.hp _ hmem
  have hn0 : 0 < l.length := List.length_pos_iff.2 hn
  have hbn : (bytesC l).n = l.length := rfl
  rw [hbn] at h1 h1b
  obtain ⟨g, cap, cur, e1, e3, e4, e5, e6, e7⟩ : ∃ g cap cur, ν id = .slice (some ⟨g, 0, none⟩) l.length cap ∧ w.heap[g]? = some (.cells cur E (0, 0)) ∧ l.length ≤ cap ∧ cap ≤ maxLen ∧ cur.size = cap * 1 ∧ cur.toList.take (l.length * 1) = xs := by
    rcases h1.2 with ⟨_, hz⟩ | ⟨g, cap, cur, e1, _, e3, e4, e5, e6, e7⟩
    · omega
    · exact ⟨g, cap, cur, e1, e3, e4, e5, e6, e7⟩
  have hblk : (Chunk.own id E 1 (bytesC l)).blk ν = some g := by simp [Chunk.blk, e1, Value.ownBlock]
  obtain ⟨⟨g', n', cp', k1, k2⟩, _⟩ := aop_ok sat hv
  rw [e1] at k1
  cases k1
  have hl2 : a.eval x = .int .i64 (l.length : Nat) := (aop_ok sat hl).1.1
  obtain ⟨cs, ex⟩ := exec_builtin (a := a) ho hc hx (show c.argTypes = #[pt, it] by rw [← Array.toList_inj]; exact ht)
  have hcell : ∀ j x, l[j]? = some x → w.cell? ((⟨g, 0, none⟩ : Addr).add j) = some (.int .u8 x.toNat) := fun j x hj => by
    have hjl : j < l.length := (List.getElem?_eq_some_iff.1 hj).1
    obtain ⟨u, u1, u2⟩ := h1b j 0 hjl (by decide)
    have hadd : (⟨g, 0, none⟩ : Addr).add j = ⟨g, j, none⟩ := (Lib.add_plain g 0 j).trans (by rw [Nat.zero_add])
    rw [hadd, Lib.cell_of_heap e3]
    have : xs[j]? = cur[j]? := by
      rw [← e7, List.getElem?_take, if_pos (by omega)]
      simp
    rw [Nat.mul_one, Nat.add_zero, this] at u1
    rw [u1, u2.1]
    show some (Value.int .u8 ((l.getD j 0).toNat : Int)) = _
    rw [List.getD_eq_getElem?_getD, hj, Option.getD_some]
  have hrun := Lib.run_unsafeString_row (P := P) w pt it o.type E hp hE g cur.size (by simp [World.shape?, e3]) l hn (by omega) (by unfold maxLen at e5; omega) hcell
  have hw' : (w.freeze ⟨g, 0, none⟩ l.length).heap.size = w.heap.size ∧ ∀ k, k ≠ g → (w.freeze ⟨g, 0, none⟩ l.length).heap[k]? = w.heap[k]? := by
    unfold World.freeze
    rw [if_neg (by omega)]
    refine ⟨by simp, fun k hk => ?_⟩
    simp only [Array.getElem?_modify]
    rw [if_neg (fun e => hk e.symm)]
  have hos : (w.freeze ⟨g, 0, none⟩ l.length).os = w.os ∧ (w.freeze ⟨g, 0, none⟩ l.length).tape = w.tape ∧ (w.freeze ⟨g, 0, none⟩ l.length).output = w.output := by
    unfold World.freeze
    rw [if_neg (by omega)]
    exact ⟨rfl, rfl, rfl⟩
  have hgb : g ∈ blks ν st.hp := mem_blks.2 ⟨_, hmem, hblk⟩
  obtain ⟨s1, s2⟩ := swap_kp (takes := [.own id E 1 (bytesC l)]) (gives := []) (rest := rest) (nid := st.nid) (ν' := ν) (S' := S) (K := K) (w' := w.freeze ⟨g, 0, none⟩ l.length) (o := o) (av := .o (.c (.string (sB l)))) (u := .string (sB l)) hd sat hperm
    (fun ch hc => by rw [List.mem_singleton.1 hc]; show K id = false; simpa using hK) ⟨hos.1, hos.2.1, hos.2.2, by rw [hw'.1]; exact Nat.le_refl _, fun k hk hn => hw'.2 k fun e => hn (mem_blks.2 ⟨_, List.mem_singleton.2 rfl, by rw [e]; exact hblk⟩)⟩ (fun _ _ => rfl) (fun _ h => h)
    (fun b hb => ⟨by rw [hw'.1]; exact (sat.imm b hb).1, .inl hb⟩) (fun c hc => nomatch hc) List.nodup_nil (fun b hb => nomatch hb) (fun c hc => nomatch hc) (Nat.le_refl _) ⟨rfl, rfl⟩ trivial
  refine wp_value (w' := w.freeze ⟨g, 0, none⟩ l.length) (u := .string (sB l)) ?_ (hk _ S ν _ _ rfl s1 s2)
  rw [ex]
  have k2' : a.eval p = .pointer (some ⟨g, 0, none⟩) := by rw [k2]
  simp only [builtin, List.map_cons, List.map_nil, Sem.run_bind, k2', hl2]
  rw [hrun]
  rfl
end
theorem str_ap (l s : List UInt8) : LeDC 1 (appC (bytesC l) (strC (sB s))) (bytesC (l ++ s)) := bytes_app (LeDC.refl _ _) (LeDC.refl _ _) rfl
set_option maxRecDepth 20000 in
theorem blWB_c (l : List UInt8) (c : UInt8) (hl : l.length ≤ 1000000) : Con Tryd.prog 47 [.o (.ptr 0 0), .o (.c (.int .u8 c.toNat))] (blC l) 2 3 U (fun _ => .o (.c .nilIface)) (fun _ => blG (l ++ [c])) := by
  refine con_of Tryd.func47 rfl (by kernel_rfl) Tryd.ntmps47 rfl (by first | exact Nat.zero_le _ | decide) (fun _ => ⟨rfl, rfl⟩) fun w S ν => ?_
  (repeat (first | (with_reducible refine AllP.go ?_; (first | exact trivial | exact fun i _ => ⟨_, rfl⟩ | ((try simp only [OS]); repeat' (first | omega | exact fun i _ => ⟨_, rfl⟩ | refine And.intro ?_ ?_)))) | (refine TE.rgo tysOk rfl (by rfl) ?_ ?_) | (with_reducible first | refine t1 ?_ | refine t2 ?_ | refine t3 ?_ | refine t4 ?_ | refine t5 ?_ | refine t6 ?_ | refine t7 ?_ | refine t8 ?_ | refine t9 ?_ | refine tA ?_ | refine tB ?_ | refine tC ?_ | refine tD rfl ?_ | refine tE ?_ | refine tF ?_ | refine tG ?_ | refine tH ?_ | refine tI ?_ | refine tJ ?_ | refine tK ?_ | refine tL ?_) | (with_reducible first | exact PanicOk.body | exact rd.panic | refine PanicOk.then' ?_ | refine PanicOk.block ?_ | refine PanicOk.jump ?_) | (refine TE.drawC (by rfl) (by rfl) (by rfl) (by rfl) ?_) | (refine TE.drawN (by rfl) (by rfl) (by rfl) ?_) | (refine TL.done (by rfl) ?_) | (refine TL.auto tysOk rfl ?_ (by rfl) ?_ ?_) | ((refine TL.one (by rfl) ?_); first | (refine StepL.mem tysOk rfl rfl rfl rfl (by rfl) ?_ (by rfl) ?_) | (refine StepL.pure tysOk rfl rfl rfl rfl (by rfl) ?_ (by rfl) ?_)) | (refine StepL.mem tysOk rfl rfl rfl rfl (by rfl) ?_ (by rfl) ?_) | refine TE.cond_true (by rfl) ?_ | refine TE.cond_false (by rfl) ?_))
  refine TE.callW (ccU_c l) rfl (by rfl) (by rfl) rfl (by rfl) (by (first | exact trivial | ((with_reducible refine AllP.go ?_); dsimp only [AllP, appP]; repeat' (first | with_reducible rfl | with_reducible exact LeD.refl | refine And.intro ?_ ?_ | (refine congrArg (Value.int _) ?_; first | omega | rfl | (simp only [Int.toNat_natCast]; omega)) | rfl | (refine congrArg Value.bool ?_; assumption) | assumption | exact LeD.refl)))) ?_
  intro _ _
  ((refine TE.run tysOk rfl (by rfl) ?_ ?_); (repeat (first | (with_reducible refine AllP.go ?_; (first | exact trivial | exact fun i _ => ⟨_, rfl⟩ | ((try simp only [OS]); repeat' (first | omega | exact fun i _ => ⟨_, rfl⟩ | refine And.intro ?_ ?_)))) | (refine TE.rgo tysOk rfl (by rfl) ?_ ?_) | (with_reducible first | refine t1 ?_ | refine t2 ?_ | refine t3 ?_ | refine t4 ?_ | refine t5 ?_ | refine t6 ?_ | refine t7 ?_ | refine t8 ?_ | refine t9 ?_ | refine tA ?_ | refine tB ?_ | refine tC ?_ | refine tD rfl ?_ | refine tE ?_ | refine tF ?_ | refine tG ?_ | refine tH ?_ | refine tI ?_ | refine tJ ?_ | refine tK ?_ | refine tL ?_) | (with_reducible first | exact PanicOk.body | exact rd.panic | refine PanicOk.then' ?_ | refine PanicOk.block ?_ | refine PanicOk.jump ?_) | (refine TE.drawC (by rfl) (by rfl) (by rfl) (by rfl) ?_) | (refine TE.drawN (by rfl) (by rfl) (by rfl) ?_) | (refine TL.done (by rfl) ?_) | (refine TL.auto tysOk rfl ?_ (by rfl) ?_ ?_) | ((refine TL.one (by rfl) ?_); first | (refine StepL.mem tysOk rfl rfl rfl rfl (by rfl) ?_ (by rfl) ?_) | (refine StepL.pure tysOk rfl rfl rfl rfl (by rfl) ?_ (by rfl) ?_)) | (refine StepL.mem tysOk rfl rfl rfl rfl (by rfl) ?_ (by rfl) ?_) | refine TE.cond_true (by rfl) ?_ | refine TE.cond_false (by rfl) ?_)))
  (refine TE.ret' (by first | exact .inl rfl | exact .inr rfl) rfl tysOk (()) ?_ rfl (by rfl) ?_; all_goals (try (first | exact trivial | ((with_reducible refine AllP.go ?_); dsimp only [AllP, appP]; repeat' (first | with_reducible rfl | with_reducible exact LeD.refl | refine And.intro ?_ ?_ | (refine congrArg (Value.int _) ?_; first | omega | rfl | (simp only [Int.toNat_natCast]; omega)) | rfl | (refine congrArg Value.bool ?_; assumption) | exact LeD.refl)))))
  exact bytes_app (LeDC.refl _ _) (byte_lit rfl) rfl
set_option maxRecDepth 20000 in
theorem blWSN_c (l s : List UInt8) (hl : l.length + s.length ≤ 1000000) : Con Tryd.prog 48 [.o (.ptr 0 0), .o (.c (.string (sB s)))] (blN l) 2 3 U (fun _ => .t [.inl (.c (.int .i64 (s.length : Nat))), .inl (.c .nilIface)]) (fun _ => blG (l ++ s)) := by
  refine con_of Tryd.func48 rfl (by kernel_rfl) Tryd.ntmps48 rfl (by first | exact Nat.zero_le _ | decide) (fun _ => ⟨rfl, rfl⟩) fun w S ν => ?_
  have hz := sB_size s
  (repeat (first | (with_reducible refine AllP.go ?_; (first | exact trivial | exact fun i _ => ⟨_, rfl⟩ | ((try simp only [OS]); repeat' (first | omega | exact fun i _ => ⟨_, rfl⟩ | refine And.intro ?_ ?_)))) | (refine TE.rgo tysOk rfl (by rfl) ?_ ?_) | (with_reducible first | refine t1 ?_ | refine t2 ?_ | refine t3 ?_ | refine t4 ?_ | refine t5 ?_ | refine t6 ?_ | refine t7 ?_ | refine t8 ?_ | refine t9 ?_ | refine tA ?_ | refine tB ?_ | refine tC ?_ | refine tD rfl ?_ | refine tE ?_ | refine tF ?_ | refine tG ?_ | refine tH ?_ | refine tI ?_ | refine tJ ?_ | refine tK ?_ | refine tL ?_) | (with_reducible first | exact PanicOk.body | exact rd.panic | refine PanicOk.then' ?_ | refine PanicOk.block ?_ | refine PanicOk.jump ?_) | (refine TE.drawC (by rfl) (by rfl) (by rfl) (by rfl) ?_) | (refine TE.drawN (by rfl) (by rfl) (by rfl) ?_) | (refine TL.done (by rfl) ?_) | (refine TL.auto tysOk rfl ?_ (by rfl) ?_ ?_) | ((refine TL.one (by rfl) ?_); first | (refine StepL.mem tysOk rfl rfl rfl rfl (by rfl) ?_ (by rfl) ?_) | (refine StepL.pure tysOk rfl rfl rfl rfl (by rfl) ?_ (by rfl) ?_)) | (refine StepL.mem tysOk rfl rfl rfl rfl (by rfl) ?_ (by rfl) ?_) | refine TE.cond_true (by rfl) ?_ | refine TE.cond_false (by rfl) ?_))
  refine TE.callW (ccN_c l) rfl (by rfl) (by rfl) rfl (by rfl) (by (first | exact trivial | ((with_reducible refine AllP.go ?_); dsimp only [AllP, appP]; repeat' (first | with_reducible rfl | with_reducible exact LeD.refl | refine And.intro ?_ ?_ | (refine congrArg (Value.int _) ?_; first | omega | rfl | (simp only [Int.toNat_natCast]; omega)) | rfl | (refine congrArg Value.bool ?_; assumption) | assumption | exact LeD.refl)))) ?_
  intro _ _
  ((refine TE.run tysOk rfl (by rfl) ?_ ?_); (repeat' (first | (with_reducible refine AllP.go ?_; (first | exact trivial | exact fun i _ => ⟨_, rfl⟩ | ((try simp only [OS]); repeat' (first | omega | exact fun i _ => ⟨_, rfl⟩ | refine And.intro ?_ ?_)))) | (refine TE.rgo tysOk rfl (by rfl) ?_ ?_) | (with_reducible first | refine t1 ?_ | refine t2 ?_ | refine t3 ?_ | refine t4 ?_ | refine t5 ?_ | refine t6 ?_ | refine t7 ?_ | refine t8 ?_ | refine t9 ?_ | refine tA ?_ | refine tB ?_ | refine tC ?_ | refine tD rfl ?_ | refine tE ?_ | refine tF ?_ | refine tG ?_ | refine tH ?_ | refine tI ?_ | refine tJ ?_ | refine tK ?_ | refine tL ?_) | (with_reducible first | exact PanicOk.body | exact rd.panic | refine PanicOk.then' ?_ | refine PanicOk.block ?_ | refine PanicOk.jump ?_) | (refine TE.drawC (by rfl) (by rfl) (by rfl) (by rfl) ?_) | (refine TE.drawN (by rfl) (by rfl) (by rfl) ?_) | (refine TL.done (by rfl) ?_) | (refine TL.auto tysOk rfl ?_ (by rfl) ?_ ?_) | ((refine TL.one (by rfl) ?_); first | (refine StepL.mem tysOk rfl rfl rfl rfl (by rfl) ?_ (by rfl) ?_) | (refine StepL.pure tysOk rfl rfl rfl rfl (by rfl) ?_ (by rfl) ?_)) | (refine StepL.mem tysOk rfl rfl rfl rfl (by rfl) ?_ (by rfl) ?_) | refine TE.cond_true (by rfl) ?_ | refine TE.cond_false (by rfl) ?_ | ((refine TE.gsplit (by rfl) (by rfl) ?_ ?_ <;> intro h <;> (try simp only [NS] at h) <;> (try (exfalso; first | omega | exact h trivial | exact h | exact h rfl | contradiction))) <;> (refine TE.run tysOk rfl (by rfl) ?_ ?_)) | ((first | refine TL.gsplit (by rfl) (by rfl) ?_ ?_ | refine TE.cond_split (by rfl) ?_ ?_) <;> intro h <;> (try simp only [NS] at h) <;> (try (exfalso; first | omega | exact h trivial | exact h | exact h rfl | contradiction))))))
  rw [hz]
  (refine TE.ret' (by first | exact .inl rfl | exact .inr rfl) rfl tysOk (()) ?_ rfl (by rfl) ?_; all_goals (try (first | exact trivial | ((with_reducible refine AllP.go ?_); dsimp only [AllP, appP]; repeat' (first | with_reducible rfl | with_reducible exact LeD.refl | refine And.intro ?_ ?_ | (refine congrArg (Value.int _) ?_; first | omega | rfl | (simp only [Int.toNat_natCast]; omega)) | rfl | (refine congrArg Value.bool ?_; assumption) | exact LeD.refl)))))
  exact str_ap l s
set_option maxRecDepth 20000 in
theorem blWS_c (l s : List UInt8) (hl : l.length + s.length ≤ 1000000) : Con Tryd.prog 48 [.o (.ptr 0 0), .o (.c (.string (sB s)))] (blC l) 2 3 U (fun _ => .t [.inl (.c (.int .i64 (s.length : Nat))), .inl (.c .nilIface)]) (fun _ => blG (l ++ s)) := by
  refine con_of Tryd.func48 rfl (by kernel_rfl) Tryd.ntmps48 rfl (by first | exact Nat.zero_le _ | decide) (fun _ => ⟨rfl, rfl⟩) fun w S ν => ?_
  have hz := sB_size s
  (repeat (first | (with_reducible refine AllP.go ?_; (first | exact trivial | exact fun i _ => ⟨_, rfl⟩ | ((try simp only [OS]); repeat' (first | omega | exact fun i _ => ⟨_, rfl⟩ | refine And.intro ?_ ?_)))) | (refine TE.rgo tysOk rfl (by rfl) ?_ ?_) | (with_reducible first | refine t1 ?_ | refine t2 ?_ | refine t3 ?_ | refine t4 ?_ | refine t5 ?_ | refine t6 ?_ | refine t7 ?_ | refine t8 ?_ | refine t9 ?_ | refine tA ?_ | refine tB ?_ | refine tC ?_ | refine tD rfl ?_ | refine tE ?_ | refine tF ?_ | refine tG ?_ | refine tH ?_ | refine tI ?_ | refine tJ ?_ | refine tK ?_ | refine tL ?_) | (with_reducible first | exact PanicOk.body | exact rd.panic | refine PanicOk.then' ?_ | refine PanicOk.block ?_ | refine PanicOk.jump ?_) | (refine TE.drawC (by rfl) (by rfl) (by rfl) (by rfl) ?_) | (refine TE.drawN (by rfl) (by rfl) (by rfl) ?_) | (refine TL.done (by rfl) ?_) | (refine TL.auto tysOk rfl ?_ (by rfl) ?_ ?_) | ((refine TL.one (by rfl) ?_); first | (refine StepL.mem tysOk rfl rfl rfl rfl (by rfl) ?_ (by rfl) ?_) | (refine StepL.pure tysOk rfl rfl rfl rfl (by rfl) ?_ (by rfl) ?_)) | (refine StepL.mem tysOk rfl rfl rfl rfl (by rfl) ?_ (by rfl) ?_) | refine TE.cond_true (by rfl) ?_ | refine TE.cond_false (by rfl) ?_))
  refine TE.callW (ccU_c l) rfl (by rfl) (by rfl) rfl (by rfl) (by (first | exact trivial | ((with_reducible refine AllP.go ?_); dsimp only [AllP, appP]; repeat' (first | with_reducible rfl | with_reducible exact LeD.refl | refine And.intro ?_ ?_ | (refine congrArg (Value.int _) ?_; first | omega | rfl | (simp only [Int.toNat_natCast]; omega)) | rfl | (refine congrArg Value.bool ?_; assumption) | assumption | exact LeD.refl)))) ?_
  intro _ _
  ((refine TE.run tysOk rfl (by rfl) ?_ ?_); (repeat' (first | (with_reducible refine AllP.go ?_; (first | exact trivial | exact fun i _ => ⟨_, rfl⟩ | ((try simp only [OS]); repeat' (first | omega | exact fun i _ => ⟨_, rfl⟩ | refine And.intro ?_ ?_)))) | (refine TE.rgo tysOk rfl (by rfl) ?_ ?_) | (with_reducible first | refine t1 ?_ | refine t2 ?_ | refine t3 ?_ | refine t4 ?_ | refine t5 ?_ | refine t6 ?_ | refine t7 ?_ | refine t8 ?_ | refine t9 ?_ | refine tA ?_ | refine tB ?_ | refine tC ?_ | refine tD rfl ?_ | refine tE ?_ | refine tF ?_ | refine tG ?_ | refine tH ?_ | refine tI ?_ | refine tJ ?_ | refine tK ?_ | refine tL ?_) | (with_reducible first | exact PanicOk.body | exact rd.panic | refine PanicOk.then' ?_ | refine PanicOk.block ?_ | refine PanicOk.jump ?_) | (refine TE.drawC (by rfl) (by rfl) (by rfl) (by rfl) ?_) | (refine TE.drawN (by rfl) (by rfl) (by rfl) ?_) | (refine TL.done (by rfl) ?_) | (refine TL.auto tysOk rfl ?_ (by rfl) ?_ ?_) | ((refine TL.one (by rfl) ?_); first | (refine StepL.mem tysOk rfl rfl rfl rfl (by rfl) ?_ (by rfl) ?_) | (refine StepL.pure tysOk rfl rfl rfl rfl (by rfl) ?_ (by rfl) ?_)) | (refine StepL.mem tysOk rfl rfl rfl rfl (by rfl) ?_ (by rfl) ?_) | refine TE.cond_true (by rfl) ?_ | refine TE.cond_false (by rfl) ?_ | ((refine TE.gsplit (by rfl) (by rfl) ?_ ?_ <;> intro h <;> (try simp only [NS] at h) <;> (try (exfalso; first | omega | exact h trivial | exact h | exact h rfl | contradiction))) <;> (refine TE.run tysOk rfl (by rfl) ?_ ?_)) | ((first | refine TL.gsplit (by rfl) (by rfl) ?_ ?_ | refine TE.cond_split (by rfl) ?_ ?_) <;> intro h <;> (try simp only [NS] at h) <;> (try (exfalso; first | omega | exact h trivial | exact h | exact h rfl | contradiction))))))
  rw [hz]
  (refine TE.ret' (by first | exact .inl rfl | exact .inr rfl) rfl tysOk (()) ?_ rfl (by rfl) ?_; all_goals (try (first | exact trivial | ((with_reducible refine AllP.go ?_); dsimp only [AllP, appP]; repeat' (first | with_reducible rfl | with_reducible exact LeD.refl | refine And.intro ?_ ?_ | (refine congrArg (Value.int _) ?_; first | omega | rfl | (simp only [Int.toNat_natCast]; omega)) | rfl | (refine congrArg Value.bool ?_; assumption) | exact LeD.refl)))))
  exact str_ap l s
set_option maxRecDepth 20000 in
theorem blLenN_c (l : List UInt8) : Con Tryd.prog 46 [.o (.ptr 0 0)] (blN l) 2 2 U (fun _ => .o (.c (.int .i64 (l.length : Nat)))) (fun _ => blN l) := by
  refine con_of Tryd.func46 rfl (by kernel_rfl) Tryd.ntmps46 rfl (by first | exact Nat.zero_le _ | decide) (fun _ => ⟨rfl, rfl⟩) fun w S ν => ?_
  (repeat' (first | (with_reducible refine AllP.go ?_; (first | exact trivial | exact fun i _ => ⟨_, rfl⟩ | ((try simp only [OS]); repeat' (first | omega | exact fun i _ => ⟨_, rfl⟩ | refine And.intro ?_ ?_)))) | (refine TE.rgo tysOk rfl (by rfl) ?_ ?_) | (with_reducible first | refine t1 ?_ | refine t2 ?_ | refine t3 ?_ | refine t4 ?_ | refine t5 ?_ | refine t6 ?_ | refine t7 ?_ | refine t8 ?_ | refine t9 ?_ | refine tA ?_ | refine tB ?_ | refine tC ?_ | refine tD rfl ?_ | refine tE ?_ | refine tF ?_ | refine tG ?_ | refine tH ?_ | refine tI ?_ | refine tJ ?_ | refine tK ?_ | refine tL ?_) | (with_reducible first | exact PanicOk.body | exact rd.panic | refine PanicOk.then' ?_ | refine PanicOk.block ?_ | refine PanicOk.jump ?_) | (refine TE.drawC (by rfl) (by rfl) (by rfl) (by rfl) ?_) | (refine TE.drawN (by rfl) (by rfl) (by rfl) ?_) | (refine TL.done (by rfl) ?_) | (refine TL.auto tysOk rfl ?_ (by rfl) ?_ ?_) | ((refine TL.one (by rfl) ?_); first | (refine StepL.mem tysOk rfl rfl rfl rfl (by rfl) ?_ (by rfl) ?_) | (refine StepL.pure tysOk rfl rfl rfl rfl (by rfl) ?_ (by rfl) ?_)) | (refine StepL.mem tysOk rfl rfl rfl rfl (by rfl) ?_ (by rfl) ?_) | refine TE.cond_true (by rfl) ?_ | refine TE.cond_false (by rfl) ?_ | ((refine TE.gsplit (by rfl) (by rfl) ?_ ?_ <;> intro h <;> (try simp only [NS] at h) <;> (try (exfalso; first | omega | exact h trivial | exact h | exact h rfl | contradiction))) <;> (refine TE.run tysOk rfl (by rfl) ?_ ?_)) | ((first | refine TL.gsplit (by rfl) (by rfl) ?_ ?_ | refine TE.cond_split (by rfl) ?_ ?_) <;> intro h <;> (try simp only [NS] at h) <;> (try (exfalso; first | omega | exact h trivial | exact h | exact h rfl | contradiction)))))
  (refine TE.ret' (by first | exact .inl rfl | exact .inr rfl) rfl tysOk (()) ?_ rfl (by rfl) ?_; all_goals (try (first | exact trivial | ((with_reducible refine AllP.go ?_); dsimp only [AllP, appP]; repeat' (first | with_reducible rfl | with_reducible exact LeD.refl | refine And.intro ?_ ?_ | (refine congrArg (Value.int _) ?_; first | omega | rfl | (simp only [Int.toNat_natCast]; omega)) | rfl | (refine congrArg Value.bool ?_; assumption) | exact LeD.refl)))))
set_option maxRecDepth 20000 in
theorem blLen_c (l : List UInt8) : Con Tryd.prog 46 [.o (.ptr 0 0)] (blC l) 2 2 U (fun _ => .o (.c (.int .i64 (l.length : Nat)))) (fun _ => blC l) := by
  refine con_of Tryd.func46 rfl (by kernel_rfl) Tryd.ntmps46 rfl (by first | exact Nat.zero_le _ | decide) (fun _ => ⟨rfl, rfl⟩) fun w S ν => ?_
  (repeat' (first | (with_reducible refine AllP.go ?_; (first | exact trivial | exact fun i _ => ⟨_, rfl⟩ | ((try simp only [OS]); repeat' (first | omega | exact fun i _ => ⟨_, rfl⟩ | refine And.intro ?_ ?_)))) | (refine TE.rgo tysOk rfl (by rfl) ?_ ?_) | (with_reducible first | refine t1 ?_ | refine t2 ?_ | refine t3 ?_ | refine t4 ?_ | refine t5 ?_ | refine t6 ?_ | refine t7 ?_ | refine t8 ?_ | refine t9 ?_ | refine tA ?_ | refine tB ?_ | refine tC ?_ | refine tD rfl ?_ | refine tE ?_ | refine tF ?_ | refine tG ?_ | refine tH ?_ | refine tI ?_ | refine tJ ?_ | refine tK ?_ | refine tL ?_) | (with_reducible first | exact PanicOk.body | exact rd.panic | refine PanicOk.then' ?_ | refine PanicOk.block ?_ | refine PanicOk.jump ?_) | (refine TE.drawC (by rfl) (by rfl) (by rfl) (by rfl) ?_) | (refine TE.drawN (by rfl) (by rfl) (by rfl) ?_) | (refine TL.done (by rfl) ?_) | (refine TL.auto tysOk rfl ?_ (by rfl) ?_ ?_) | ((refine TL.one (by rfl) ?_); first | (refine StepL.mem tysOk rfl rfl rfl rfl (by rfl) ?_ (by rfl) ?_) | (refine StepL.pure tysOk rfl rfl rfl rfl (by rfl) ?_ (by rfl) ?_)) | (refine StepL.mem tysOk rfl rfl rfl rfl (by rfl) ?_ (by rfl) ?_) | refine TE.cond_true (by rfl) ?_ | refine TE.cond_false (by rfl) ?_ | ((refine TE.gsplit (by rfl) (by rfl) ?_ ?_ <;> intro h <;> (try simp only [NS] at h) <;> (try (exfalso; first | omega | exact h trivial | exact h | exact h rfl | contradiction))) <;> (refine TE.run tysOk rfl (by rfl) ?_ ?_)) | ((first | refine TL.gsplit (by rfl) (by rfl) ?_ ?_ | refine TE.cond_split (by rfl) ?_ ?_) <;> intro h <;> (try simp only [NS] at h) <;> (try (exfalso; first | omega | exact h trivial | exact h | exact h rfl | contradiction)))))
  (refine TE.ret' (by first | exact .inl rfl | exact .inr rfl) rfl tysOk (()) ?_ rfl (by rfl) ?_; all_goals (try (first | exact trivial | ((with_reducible refine AllP.go ?_); dsimp only [AllP, appP]; repeat' (first | with_reducible rfl | with_reducible exact LeD.refl | refine And.intro ?_ ?_ | (refine congrArg (Value.int _) ?_; first | omega | rfl | (simp only [Int.toNat_natCast]; omega)) | rfl | (refine congrArg Value.bool ?_; assumption) | exact LeD.refl)))))
set_option maxRecDepth 20000 in
theorem blStr_c (l : List UInt8) (hl : l ≠ []) : Con Tryd.prog 50 [.o (.ptr 0 0)] (blC l) 2 2 U (fun _ => .o (.c (.string (sB l)))) (fun _ => []) := by
  refine con_of Tryd.func50 rfl (by kernel_rfl) Tryd.ntmps50 rfl (by first | exact Nat.zero_le _ | decide) (fun _ => ⟨rfl, rfl⟩) fun w S ν => ?_
  have h0 : 0 < (bytesC l).n := List.length_pos_iff.2 hl
  (repeat' (first | (with_reducible refine AllP.go ?_; (first | exact trivial | exact fun i _ => ⟨_, rfl⟩ | ((try simp only [OS]); repeat' (first | omega | exact fun i _ => ⟨_, rfl⟩ | refine And.intro ?_ ?_)))) | (refine TE.rgo tysOk rfl (by rfl) ?_ ?_) | (with_reducible first | refine t1 ?_ | refine t2 ?_ | refine t3 ?_ | refine t4 ?_ | refine t5 ?_ | refine t6 ?_ | refine t7 ?_ | refine t8 ?_ | refine t9 ?_ | refine tA ?_ | refine tB ?_ | refine tC ?_ | refine tD rfl ?_ | refine tE ?_ | refine tF ?_ | refine tG ?_ | refine tH ?_ | refine tI ?_ | refine tJ ?_ | refine tK ?_ | refine tL ?_) | refine TE.cond_true (by rfl) ?_ | refine TE.cond_false (by rfl) ?_ | ((refine TE.gsplit (by rfl) (by rfl) ?_ ?_ <;> intro h <;> (try simp only [NS] at h) <;> (try (exfalso; first | omega | exact h trivial | exact h | exact h rfl | contradiction))) <;> (refine TE.run tysOk rfl (by rfl) ?_ ?_)) | ((first | refine TL.gsplit (by rfl) (by rfl) ?_ ?_ | refine TE.cond_split (by rfl) ?_ ?_) <;> intro h <;> (try simp only [NS] at h) <;> (try (exfalso; first | omega | exact h trivial | exact h | exact h rfl | contradiction)))))
  (refine TE.drawK (fun _ => false) (by rfl) (by rfl) (by rfl) ?_)
  repeat' (first | (with_reducible refine AllP.go ?_; (first | exact trivial | exact fun i _ => ⟨_, rfl⟩ | ((try simp only [OS]); repeat' (first | omega | exact fun i _ => ⟨_, rfl⟩ | refine And.intro ?_ ?_)))) | (with_reducible first | exact PanicOk.body | exact rd.panic | refine PanicOk.then' ?_ | refine PanicOk.block ?_ | refine PanicOk.jump ?_) | (refine TL.done (by rfl) ?_) | (refine TL.auto tysOk rfl ?_ (by rfl) ?_ ?_) | (refine StepL.mem tysOk rfl rfl rfl rfl (by rfl) ?_ (by rfl) ?_) | (refine StepL.pure tysOk rfl rfl rfl rfl (by rfl) ?_ (by rfl) ?_) | (refine TL.one (by rfl) ?_) | (refine TL.two (by rfl) ?_ ?_) | (refine TL.three (by rfl) ?_ ?_ ?_) | (refine TL.four (by rfl) ?_ ?_ ?_ ?_) | (refine StepL.law rfl rfl rfl (fun _ h => nomatch h) (by rfl) (m_sliceData rfl rfl rfl rfl rfl (by rfl) ?_) (by rfl) ?_; rotate_left; rintro _ rfl; rotate_right) | (refine StepL.law rfl rfl rfl (fun _ h => nomatch h) (by rfl) (m_unsafeString rfl rfl rfl rfl rfl (by kernel_rfl) rfl rfl (by rfl) hl) (by rfl) ?_; rintro _ rfl))
  all_goals first | exact h0 | skip
  all_goals (repeat' (first | (with_reducible refine AllP.go ?_; (first | exact trivial | exact fun i _ => ⟨_, rfl⟩ | ((try simp only [OS]); repeat' (first | omega | exact fun i _ => ⟨_, rfl⟩ | refine And.intro ?_ ?_)))) | (refine TE.rgo tysOk rfl (by rfl) ?_ ?_) | (with_reducible first | refine t1 ?_ | refine t2 ?_ | refine t3 ?_ | refine t4 ?_ | refine t5 ?_ | refine t6 ?_ | refine t7 ?_ | refine t8 ?_ | refine t9 ?_ | refine tA ?_ | refine tB ?_ | refine tC ?_ | refine tD rfl ?_ | refine tE ?_ | refine tF ?_ | refine tG ?_ | refine tH ?_ | refine tI ?_ | refine tJ ?_ | refine tK ?_ | refine tL ?_) | refine TE.cond_true (by rfl) ?_ | refine TE.cond_false (by rfl) ?_ | ((refine TE.gsplit (by rfl) (by rfl) ?_ ?_ <;> intro h <;> (try simp only [NS] at h) <;> (try (exfalso; first | omega | exact h trivial | exact h | exact h rfl | contradiction))) <;> (refine TE.run tysOk rfl (by rfl) ?_ ?_)) | ((first | refine TL.gsplit (by rfl) (by rfl) ?_ ?_ | refine TE.cond_split (by rfl) ?_ ?_) <;> intro h <;> (try simp only [NS] at h) <;> (try (exfalso; first | omega | exact h trivial | exact h | exact h rfl | contradiction)))))
  all_goals (refine TE.ret' (by first | exact .inl rfl | exact .inr rfl) rfl tysOk (()) ?_ rfl (by rfl) ?_; all_goals (try (first | exact trivial | ((with_reducible refine AllP.go ?_); dsimp only [AllP, appP]; repeat' (first | with_reducible rfl | with_reducible exact LeD.refl | refine And.intro ?_ ?_ | (refine congrArg (Value.int _) ?_; first | omega | rfl | (simp only [Int.toNat_natCast]; omega)) | rfl | (refine congrArg Value.bool ?_; assumption) | exact LeD.refl)))))
end Go.Proofs.YtmeapfckibbbbaaDoor.Am
/- The words: a list of numbers written, the program's. -/
set_option linter.unusedVariables false
namespace Go.Proofs.YtmeapfckibbbbaaDoor.Am
open Go.RowKit Lw Wo

abbrev intC (l : List Int) : Ct := listC intR 0 l
set_option maxRecDepth 20000 in
set_option maxHeartbeats 8000000 in
theorem List_c (m : Int) (te : TypeId) (pe : Value) (l : List Int) (hl : l.length ≤ 1000000) : Con Tryd.prog 27 [.o (.ro 1 l.length (intC l).cell)] (glC m te pe) 4 4 U (fun _ => .t [.inl (.c (.string (sB (listI l).1))), .inl (.c (.int .i64 (listI l).2))]) (fun _ => glC m te pe) := by
  refine con_of Tryd.func27 rfl (by kernel_rfl) Tryd.ntmps27 rfl (by first | exact Nat.zero_le _ | decide) (fun _ => ⟨rfl, rfl⟩) fun w S ν => ?_
  (repeat' (first | (with_reducible refine AllP.go ?_; (first | exact trivial | exact fun i _ => ⟨_, rfl⟩ | ((try simp only [OS]); repeat' (first | omega | exact fun i _ => ⟨_, rfl⟩ | refine And.intro ?_ ?_)))) | (refine TE.rgo tysOk rfl (by rfl) ?_ ?_) | (with_reducible first | refine t1 ?_ | refine t2 ?_ | refine t3 ?_ | refine t4 ?_ | refine t5 ?_ | refine t6 ?_ | refine t7 ?_ | refine t8 ?_ | refine t9 ?_ | refine tA ?_ | refine tB ?_ | refine tC ?_ | refine tD rfl ?_ | refine tE ?_ | refine tF ?_ | refine tG ?_ | refine tH ?_ | refine tI ?_ | refine tJ ?_ | refine tK ?_ | refine tL ?_) | refine TE.cond_true (by rfl) ?_ | refine TE.cond_false (by rfl) ?_ | ((refine TE.gsplit (by rfl) (by rfl) ?_ ?_ <;> intro h <;> (try simp only [NS] at h) <;> (try (exfalso; first | omega | exact h trivial | exact h | exact h rfl | contradiction))) <;> (refine TE.run tysOk rfl (by rfl) ?_ ?_)) | ((first | refine TL.gsplit (by rfl) (by rfl) ?_ ?_ | refine TE.cond_split (by rfl) ?_ ?_) <;> intro h <;> (try simp only [NS] at h) <;> (try (exfalso; first | omega | exact h trivial | exact h | exact h rfl | contradiction)))))
  · rw [show listI l = ([], 3) from if_pos (by omega)]
    (refine TE.ret' (by first | exact .inl rfl | exact .inr rfl) rfl tysOk (()) ?_ rfl (by rfl) ?_; all_goals (try (first | exact trivial | ((with_reducible refine AllP.go ?_); dsimp only [AllP, appP]; repeat' (first | with_reducible rfl | with_reducible exact LeD.refl | refine And.intro ?_ ?_ | (refine congrArg (Value.int _) ?_; first | omega | rfl | (simp only [Int.toNat_natCast]; omega)) | rfl | (refine congrArg Value.bool ?_; assumption) | exact LeD.refl)))))
  have hl2 : l.length ≤ 500 := by omega
  refine TE.nilBox 4 1 5 1 (by rfl) (by rfl) ?_
  (refine TE.only [6, 5, 4, 0] (by rfl) ?_)
  refine TE.loopG (fun q : Nat => q ≤ l.length ∧ ∀ k, k < q → 0 ≤ l.getD k 0 ∧ l.getD k 0 ≤ 1000000000) (fun q => [(6, .o (.c (.int .i64 q))), (4, .o (.c (.int .i64 (formI l q))))]) [] (fun _ => []) (fun q => l.length - q) 0 (by rfl) ⟨Nat.zero_le _, fun k hk => absurd hk (Nat.not_lt_zero _)⟩ ?_ ?_
  · (refine Ent.of rfl rfl (by rfl) ?_; (try (first | exact trivial | ((with_reducible refine AllP.go ?_); dsimp only [AllP, appP]; repeat' (first | with_reducible rfl | with_reducible exact LeD.refl | refine And.intro ?_ ?_ | (refine congrArg (Value.int _) ?_; first | omega | rfl | (simp only [Int.toNat_natCast]; omega)) | rfl | (refine congrArg Value.bool ?_; assumption) | exact LeD.refl)))))
  rintro q ⟨g1, g2⟩
  have hq1 : ((q : Int) - 1).toNat = q - 1 := by omega
  (repeat' (first | (with_reducible refine AllP.go ?_; (first | exact trivial | exact fun i _ => ⟨_, rfl⟩ | ((try simp only [OS]); repeat' (first | omega | exact fun i _ => ⟨_, rfl⟩ | refine And.intro ?_ ?_)))) | (refine TE.rgo tysOk rfl (by rfl) ?_ ?_) | (with_reducible first | refine t1 ?_ | refine t2 ?_ | refine t3 ?_ | refine t4 ?_ | refine t5 ?_ | refine t6 ?_ | refine t7 ?_ | refine t8 ?_ | refine t9 ?_ | refine tA ?_ | refine tB ?_ | refine tC ?_ | refine tD rfl ?_ | refine tE ?_ | refine tF ?_ | refine tG ?_ | refine tH ?_ | refine tI ?_ | refine tJ ?_ | refine tK ?_ | refine tL ?_) | refine TE.cond_true (by rfl) ?_ | refine TE.cond_false (by rfl) ?_ | ((refine TE.gsplit (by rfl) (by rfl) ?_ ?_ <;> intro h <;> (try simp only [NS] at h) <;> (try (exfalso; first | omega | exact h trivial | exact h | exact h rfl | contradiction))) <;> (refine TE.run tysOk rfl (by rfl) ?_ ?_)) | ((first | refine TL.gsplit (by rfl) (by rfl) ?_ ?_ | refine TE.cond_split (by rfl) ?_ ?_) <;> intro h <;> (try simp only [NS] at h) <;> (try (exfalso; first | omega | exact h trivial | exact h | exact h rfl | contradiction)))))
  · rw [show listI l = ([], 7) by
      unfold listI
      rw [if_neg (by omega), if_pos (allN_no (k := q) (by omega) (by omega))]]
    (refine TE.ret' (by first | exact .inl rfl | exact .inr rfl) rfl tysOk (()) ?_ rfl (by rfl) ?_; all_goals (try (first | exact trivial | ((with_reducible refine AllP.go ?_); dsimp only [AllP, appP]; repeat' (first | with_reducible rfl | with_reducible exact LeD.refl | refine And.intro ?_ ?_ | (refine congrArg (Value.int _) ?_; first | omega | rfl | (simp only [Int.toNat_natCast]; omega)) | rfl | (refine congrArg Value.bool ?_; assumption) | exact LeD.refl)))))
  · rw [show listI l = ([], 7) by
      unfold listI
      rw [if_neg (by omega), if_pos (allN_no (k := q) (by omega) (by omega))]]
    (refine TE.ret' (by first | exact .inl rfl | exact .inr rfl) rfl tysOk (()) ?_ rfl (by rfl) ?_; all_goals (try (first | exact trivial | ((with_reducible refine AllP.go ?_); dsimp only [AllP, appP]; repeat' (first | with_reducible rfl | with_reducible exact LeD.refl | refine And.intro ?_ ?_ | (refine congrArg (Value.int _) ?_; first | omega | rfl | (simp only [Int.toNat_natCast]; omega)) | rfl | (refine congrArg Value.bool ?_; assumption) | exact LeD.refl)))))
  · have hf : formI l (q + 1) = 6 := if_pos ⟨by omega, by rw [← hq1]; assumption⟩
    refine TE.again' (q + 1) ⟨by omega, fun k hk => ?_⟩ (by omega) ?_
    · rcases Nat.lt_or_ge k q with hk2 | hk2
      · exact g2 k hk2
      · obtain rfl : k = q := by omega
        exact ⟨by assumption, by assumption⟩
    · rw [hf]
      (refine Ent.of rfl rfl (by rfl) ?_; (try (first | exact trivial | ((with_reducible refine AllP.go ?_); dsimp only [AllP, appP]; repeat' (first | with_reducible rfl | with_reducible exact LeD.refl | refine And.intro ?_ ?_ | (refine congrArg (Value.int _) ?_; first | omega | rfl | (simp only [Int.toNat_natCast]; omega)) | rfl | (refine congrArg Value.bool ?_; assumption) | exact LeD.refl)))))
  · have hf : formI l (q + 1) = formI l q := if_neg (fun k => by have := k.2; rw [← hq1] at this; omega)
    refine TE.again' (q + 1) ⟨by omega, fun k hk => ?_⟩ (by omega) ?_
    · rcases Nat.lt_or_ge k q with hk2 | hk2
      · exact g2 k hk2
      · obtain rfl : k = q := by omega
        exact ⟨by assumption, by assumption⟩
    · rw [hf]
      (refine Ent.of rfl rfl (by rfl) ?_; (try (first | exact trivial | ((with_reducible refine AllP.go ?_); dsimp only [AllP, appP]; repeat' (first | with_reducible rfl | with_reducible exact LeD.refl | refine And.intro ?_ ?_ | (refine congrArg (Value.int _) ?_; first | omega | rfl | (simp only [Int.toNat_natCast]; omega)) | rfl | (refine congrArg Value.bool ?_; assumption) | exact LeD.refl)))))
  · have hf : formI l (q + 1) = formI l q := if_neg (fun k => by omega)
    refine TE.again' (q + 1) ⟨by omega, fun k hk => ?_⟩ (by omega) ?_
    · rcases Nat.lt_or_ge k q with hk2 | hk2
      · exact g2 k hk2
      · obtain rfl : k = q := by omega
        exact ⟨by assumption, by assumption⟩
    · rw [hf]
      (refine Ent.of rfl rfl (by rfl) ?_; (try (first | exact trivial | ((with_reducible refine AllP.go ?_); dsimp only [AllP, appP]; repeat' (first | with_reducible rfl | with_reducible exact LeD.refl | refine And.intro ?_ ?_ | (refine congrArg (Value.int _) ?_; first | omega | rfl | (simp only [Int.toNat_natCast]; omega)) | rfl | (refine congrArg Value.bool ?_; assumption) | exact LeD.refl)))))
  obtain rfl : q = l.length := by omega
  have hok := allN_ok g2
  have hi : listI l = if formI l l.length ≠ 0 then ([], 6) else if l = [] then ([45], 0) else (Wo.listX l, 0) := by
    unfold listI
    rw [if_neg (by omega), if_neg (by rw [hok]; decide)]
  clear h hq1 g1
  (refine TE.only [8, 5, 4, 0] (by rfl) ?_)
  rcases formI_01 l l.length with hf | hf
  rotate_left
  · rw [hf] at hi ⊢
    rw [if_pos (by decide)] at hi
    rw [hi]
    refine TE.loopG (fun _ : Unit => True) (fun _ => [(8, .o (.c (.int .i64 0)))]) [] (fun _ => []) (fun _ => 0) () (by rfl) trivial ?_ ?_
    · (refine Ent.of rfl rfl (by rfl) ?_; (try (first | exact trivial | ((with_reducible refine AllP.go ?_); dsimp only [AllP, appP]; repeat' (first | with_reducible rfl | with_reducible exact LeD.refl | refine And.intro ?_ ?_ | (refine congrArg (Value.int _) ?_; first | omega | rfl | (simp only [Int.toNat_natCast]; omega)) | rfl | (refine congrArg Value.bool ?_; assumption) | exact LeD.refl)))))
    rintro ⟨⟩ _
    (repeat' (first | (with_reducible refine AllP.go ?_; (first | exact trivial | exact fun i _ => ⟨_, rfl⟩ | ((try simp only [OS]); repeat' (first | omega | exact fun i _ => ⟨_, rfl⟩ | refine And.intro ?_ ?_)))) | (refine TE.rgo tysOk rfl (by rfl) ?_ ?_) | (with_reducible first | refine t1 ?_ | refine t2 ?_ | refine t3 ?_ | refine t4 ?_ | refine t5 ?_ | refine t6 ?_ | refine t7 ?_ | refine t8 ?_ | refine t9 ?_ | refine tA ?_ | refine tB ?_ | refine tC ?_ | refine tD rfl ?_ | refine tE ?_ | refine tF ?_ | refine tG ?_ | refine tH ?_ | refine tI ?_ | refine tJ ?_ | refine tK ?_ | refine tL ?_) | refine TE.cond_true (by rfl) ?_ | refine TE.cond_false (by rfl) ?_ | ((refine TE.gsplit (by rfl) (by rfl) ?_ ?_ <;> intro h <;> (try simp only [NS] at h) <;> (try (exfalso; first | omega | exact h trivial | exact h | exact h rfl | contradiction))) <;> (refine TE.run tysOk rfl (by rfl) ?_ ?_)) | ((first | refine TL.gsplit (by rfl) (by rfl) ?_ ?_ | refine TE.cond_split (by rfl) ?_ ?_) <;> intro h <;> (try simp only [NS] at h) <;> (try (exfalso; first | omega | exact h trivial | exact h | exact h rfl | contradiction)))))
    all_goals (refine TE.ret' (by first | exact .inl rfl | exact .inr rfl) rfl tysOk (()) ?_ rfl (by rfl) ?_; all_goals (try (first | exact trivial | ((with_reducible refine AllP.go ?_); dsimp only [AllP, appP]; repeat' (first | with_reducible rfl | with_reducible exact LeD.refl | refine And.intro ?_ ?_ | (refine congrArg (Value.int _) ?_; first | omega | rfl | (simp only [Int.toNat_natCast]; omega)) | rfl | (refine congrArg Value.bool ?_; assumption) | exact LeD.refl)))))
  rw [hf] at hi ⊢
  rw [if_neg (fun k => k rfl)] at hi
  refine TE.loop' (ι := Option (Nat × Bs)) (fun x => match x with
    | none => True
    | some p => 0 < p.1 ∧ p.1 ≤ l.length ∧ p.2 ≠ [] ∧ p.2.length ≤ 44 * p.1 ∧ p.2 ++ tailG (l.drop p.1) = Wo.listX l)
    (fun x => match x with
    | none => ⟨[(8, .o (.c (.int .i64 0))), (5, .o (.ptr 4 0)), (4, .o (.c (.int .i64 0))), (0, .o (.ro 1 l.length (intC l).cell))], .box 4 65 [.c (.pointer none), .own 5] :: .own 5 5 1 (bytesC []) :: glC m te pe, 6⟩
    | some p => ⟨[(8, .o (.c (.int .i64 p.1))), (5, .o (.ptr 4 0)), (4, .o (.c (.int .i64 0))), (0, .o (.ro 1 l.length (intC l).cell))], .box 4 65 [.ptr 4 0, .own 6] :: .own 6 5 1 (bytesC p.2) :: glC m te pe, 7⟩)
    (fun x => match x with
    | none => l.length + 1
    | some p => l.length - p.1) none trivial ?_ ?_
  · (refine Ent.of rfl rfl (by rfl) ?_; (try (first | exact trivial | ((with_reducible refine AllP.go ?_); dsimp only [AllP, appP]; repeat' (first | with_reducible rfl | with_reducible exact LeD.refl | refine And.intro ?_ ?_ | (refine congrArg (Value.int _) ?_; first | omega | rfl | (simp only [Int.toNat_natCast]; omega)) | rfl | (refine congrArg Value.bool ?_; assumption) | exact LeD.refl)))))
    exact LeDC.nil rfl rfl
  rintro (_ | ⟨i, out⟩) hpre
  · clear hpre
    by_cases hlt : 0 < l.length
    · have hr := g2 0 hlt
      obtain ⟨a, ha⟩ : ∃ a, a = l.getD 0 0 := ⟨_, rfl⟩
      rw [← ha] at hr
      (repeat (with_reducible first | refine t1 ?_ | refine t2 ?_ | refine t3 ?_ | refine t4 ?_ | refine t5 ?_ | refine t6 ?_ | refine t7 ?_ | refine t8 ?_ | refine t9 ?_ | refine tA ?_ | refine tB ?_ | refine tC ?_ | refine tD rfl ?_ | refine tE ?_ | refine tF ?_ | refine tG ?_ | refine tH ?_ | refine tI ?_ | refine tJ ?_ | refine tK ?_ | refine tL ?_))
      ((refine TE.rgo tysOk rfl (by rfl) ?_ ?_); try (with_reducible refine AllP.go ?_; (first | exact trivial | exact fun i _ => ⟨_, rfl⟩ | ((try simp only [OS]); repeat' (first | omega | exact fun i _ => ⟨_, rfl⟩ | refine And.intro ?_ ?_)))))
      ((refine TE.gsplit (by rfl) (by rfl) ?_ ?_ <;> intro h <;> (try simp only [NS] at h) <;> (try (exfalso; first | omega | exact h trivial | exact h | exact h rfl | contradiction))) <;> (refine TE.run tysOk rfl (by rfl) (by (first | exact trivial | exact fun i _ => ⟨_, rfl⟩ | ((try simp only [OS]); repeat' (first | omega | exact fun i _ => ⟨_, rfl⟩ | refine And.intro ?_ ?_)))) ?_))
      (repeat (with_reducible first | refine t1 ?_ | refine t2 ?_ | refine t3 ?_ | refine t4 ?_ | refine t5 ?_ | refine t6 ?_ | refine t7 ?_ | refine t8 ?_ | refine t9 ?_ | refine tA ?_ | refine tB ?_ | refine tC ?_ | refine tD rfl ?_ | refine tE ?_ | refine tF ?_ | refine tG ?_ | refine tH ?_ | refine tI ?_ | refine tJ ?_ | refine tK ?_ | refine tL ?_))
      (refine TE.cond_split (by rfl) ?_ ?_ <;> intro h <;> (try simp only [NS] at h) <;> (try (exfalso; first | omega | exact h trivial | exact h | exact h rfl | contradiction)))
      (repeat (with_reducible first | refine t1 ?_ | refine t2 ?_ | refine t3 ?_ | refine t4 ?_ | refine t5 ?_ | refine t6 ?_ | refine t7 ?_ | refine t8 ?_ | refine t9 ?_ | refine tA ?_ | refine tB ?_ | refine tC ?_ | refine tD rfl ?_ | refine tE ?_ | refine tF ?_ | refine tG ?_ | refine tH ?_ | refine tI ?_ | refine tJ ?_ | refine tK ?_ | refine tL ?_))
      ((refine TE.rgo tysOk rfl (by rfl) ?_ ?_); try (with_reducible refine AllP.go ?_; (first | exact trivial | exact fun i _ => ⟨_, rfl⟩ | ((try simp only [OS]); repeat' (first | omega | exact fun i _ => ⟨_, rfl⟩ | refine And.intro ?_ ?_)))))
      refine TE.done (TE.thenN ?_)
      refine TE.seqM (ι := Nat) (fun k => k < l.length ∧ (∀ j, j < k → l.getD (j + 1) 0 = a + j + 1) ∧ (k + 1 < l.length → l.getD (k + 1) 0 ≠ a + k + 1)) (fun k => ⟨[(9, .o (.c (.int .i64 a))), (8, .o (.c (.int .i64 ((k : Nat) : Int)))), (5, .o (.ptr 4 0)), (4, .o (.c (.int .i64 0))), (0, .o (.ro 1 l.length (intC l).cell))], .box 4 65 [.c (.pointer none), .own 5] :: .own 5 5 1 (bytesC []) :: glC m te pe, 6⟩) ?_ ?_
      · (refine TE.only [9, 8, 5, 4, 0] (by rfl) ?_)
        (repeat (with_reducible first | refine t1 ?_ | refine t2 ?_ | refine t3 ?_ | refine t4 ?_ | refine t5 ?_ | refine t6 ?_ | refine t7 ?_ | refine t8 ?_ | refine t9 ?_ | refine tA ?_ | refine tB ?_ | refine tC ?_ | refine tD rfl ?_ | refine tE ?_ | refine tF ?_ | refine tG ?_ | refine tH ?_ | refine tI ?_ | refine tJ ?_ | refine tK ?_ | refine tL ?_))
        refine TE.loopG (fun k : Nat => k < l.length ∧ ∀ j, j < k → l.getD (j + 1) 0 = a + j + 1) (fun k => [(8, .o (.c (.int .i64 ((k : Nat) : Int))))]) [] (fun _ => []) (fun k => l.length - k) 0 (by rfl) ⟨by omega, fun j hj => absurd hj (Nat.not_lt_zero _)⟩ ?_ ?_
        · (refine Ent.of rfl rfl (by rfl) ?_; (try (first | exact trivial | ((with_reducible refine AllP.go ?_); dsimp only [AllP, appP]; repeat' (first | with_reducible rfl | with_reducible exact LeD.refl | refine And.intro ?_ ?_ | (refine congrArg (Value.int _) ?_; first | omega | rfl | (simp only [Int.toNat_natCast]; omega)) | rfl | (refine congrArg Value.bool ?_; assumption) | exact LeD.refl)))))
        rintro k ⟨k1, k2⟩
        have hk3 : l.getD (k) 0 = a + k := by
          cases k with
          | zero => rw [ha]; simp
          | succ k => have := k2 k (Nat.lt_succ_self k); rw [this]; omega
        have hix : (((k : Nat) : Int) + 1).toNat = k + 1 := by omega
        have hr2 := g2 (k) k1
        (repeat' (first | (with_reducible refine AllP.go ?_; (first | exact trivial | exact fun i _ => ⟨_, rfl⟩ | ((try simp only [OS]); repeat' (first | omega | exact fun i _ => ⟨_, rfl⟩ | refine And.intro ?_ ?_)))) | (refine TE.rgo tysOk rfl (by rfl) ?_ ?_) | (with_reducible first | refine t1 ?_ | refine t2 ?_ | refine t3 ?_ | refine t4 ?_ | refine t5 ?_ | refine t6 ?_ | refine t7 ?_ | refine t8 ?_ | refine t9 ?_ | refine tA ?_ | refine tB ?_ | refine tC ?_ | refine tD rfl ?_ | refine tE ?_ | refine tF ?_ | refine tG ?_ | refine tH ?_ | refine tI ?_ | refine tJ ?_ | refine tK ?_ | refine tL ?_) | (with_reducible first | exact PanicOk.body | exact rd.panic | refine PanicOk.then' ?_ | refine PanicOk.block ?_ | refine PanicOk.jump ?_) | (refine TE.drawC (by rfl) (by rfl) (by rfl) (by rfl) ?_) | (refine TE.drawN (by rfl) (by rfl) (by rfl) ?_) | (refine TL.done (by rfl) ?_) | (refine TL.auto tysOk rfl ?_ (by rfl) ?_ ?_) | ((refine TL.one (by rfl) ?_); first | (refine StepL.mem tysOk rfl rfl rfl rfl (by rfl) ?_ (by rfl) ?_) | (refine StepL.pure tysOk rfl rfl rfl rfl (by rfl) ?_ (by rfl) ?_)) | (refine StepL.mem tysOk rfl rfl rfl rfl (by rfl) ?_ (by rfl) ?_) | refine TE.cond_true (by rfl) ?_ | refine TE.cond_false (by rfl) ?_ | ((refine TE.gsplit (by rfl) (by rfl) ?_ ?_ <;> intro h <;> (try simp only [NS] at h) <;> (try (exfalso; first | omega | exact h trivial | exact h | exact h rfl | contradiction))) <;> (refine TE.run tysOk rfl (by rfl) ?_ ?_)) | ((first | refine TL.gsplit (by rfl) (by rfl) ?_ ?_ | refine TE.cond_split (by rfl) ?_ ?_) <;> intro h <;> (try simp only [NS] at h) <;> (try (exfalso; first | omega | exact h trivial | exact h | exact h rfl | contradiction)))))
        · refine TE.again' (k + 1) ⟨by omega, fun j hj => ?_⟩ (by omega) ?_
          · rcases Nat.lt_or_ge j k with hj2 | hj2
            · exact k2 j hj2
            · obtain rfl : j = k := by omega
              have h : l.getD (((j : Nat) : Int) + 1).toNat 0 = l.getD (j) 0 + 1 := by assumption
              rw [hix, hk3] at h
              exact h
          · (refine Ent.of rfl rfl (by rfl) ?_; (try (first | exact trivial | ((with_reducible refine AllP.go ?_); dsimp only [AllP, appP]; repeat' (first | with_reducible rfl | with_reducible exact LeD.refl | refine And.intro ?_ ?_ | (refine congrArg (Value.int _) ?_; first | omega | rfl | (simp only [Int.toNat_natCast]; omega)) | rfl | (refine congrArg Value.bool ?_; assumption) | exact LeD.refl)))))
        · refine TE.at k ⟨k1, k2, fun _ e => ?_⟩ ?_
          · have h : ¬ l.getD (((k : Nat) : Int) + 1).toNat 0 = l.getD (k) 0 + 1 := by assumption
            rw [hix, hk3] at h
            exact h e
          · (refine Ent.of rfl rfl (by rfl) ?_; (try (first | exact trivial | ((with_reducible refine AllP.go ?_); dsimp only [AllP, appP]; repeat' (first | with_reducible rfl | with_reducible exact LeD.refl | refine And.intro ?_ ?_ | (refine congrArg (Value.int _) ?_; first | omega | rfl | (simp only [Int.toNat_natCast]; omega)) | rfl | (refine congrArg Value.bool ?_; assumption) | exact LeD.refl)))))
            all_goals exact congrArg (Value.int _) ha.symm
        · refine TE.at k ⟨k1, k2, fun e => absurd e (by omega)⟩ ?_
          (refine Ent.of rfl rfl (by rfl) ?_; (try (first | exact trivial | ((with_reducible refine AllP.go ?_); dsimp only [AllP, appP]; repeat' (first | with_reducible rfl | with_reducible exact LeD.refl | refine And.intro ?_ ?_ | (refine congrArg (Value.int _) ?_; first | omega | rfl | (simp only [Int.toNat_natCast]; omega)) | rfl | (refine congrArg Value.bool ?_; assumption) | exact LeD.refl)))))
          all_goals exact congrArg (Value.int _) ha.symm
      rintro k ⟨k1, k2, k3⟩
      have hk3 : l.getD (k) 0 = a + k := by
        cases k with
        | zero => rw [ha]; simp
        | succ k => have := k2 k (Nat.lt_succ_self k); rw [this]; omega
      have hr2 := g2 (k) k1
      have hi1 := Lib.itoa_length_le a (by omega) (by omega)
      have hi2 := Lib.itoa_length_le (a + k) (by omega) (by omega)
      (repeat' (first | (with_reducible refine AllP.go ?_; (first | exact trivial | exact fun i _ => ⟨_, rfl⟩ | ((try simp only [OS]); repeat' (first | omega | exact fun i _ => ⟨_, rfl⟩ | refine And.intro ?_ ?_)))) | (refine TE.rgo tysOk rfl (by rfl) ?_ ?_) | (with_reducible first | refine t1 ?_ | refine t2 ?_ | refine t3 ?_ | refine t4 ?_ | refine t5 ?_ | refine t6 ?_ | refine t7 ?_ | refine t8 ?_ | refine t9 ?_ | refine tA ?_ | refine tB ?_ | refine tC ?_ | refine tD rfl ?_ | refine tE ?_ | refine tF ?_ | refine tG ?_ | refine tH ?_ | refine tI ?_ | refine tJ ?_ | refine tK ?_ | refine tL ?_) | refine TE.cond_true (by rfl) ?_ | refine TE.cond_false (by rfl) ?_ | ((refine TE.gsplit (by rfl) (by rfl) ?_ ?_ <;> intro h <;> (try simp only [NS] at h) <;> (try (exfalso; first | omega | exact h trivial | exact h | exact h rfl | contradiction))) <;> (refine TE.run tysOk rfl (by rfl) ?_ ?_)) | ((first | refine TL.gsplit (by rfl) (by rfl) ?_ ?_ | refine TE.cond_split (by rfl) ?_ ?_) <;> intro h <;> (try simp only [NS] at h) <;> (try (exfalso; first | omega | exact h trivial | exact h | exact h rfl | contradiction)))))
      refine TE.callW (blLenN_c []) rfl (by rfl) (by rfl) rfl (by rfl) (by (first | exact trivial | ((with_reducible refine AllP.go ?_); dsimp only [AllP, appP]; repeat' (first | with_reducible rfl | with_reducible exact LeD.refl | refine And.intro ?_ ?_ | (refine congrArg (Value.int _) ?_; first | omega | rfl | (simp only [Int.toNat_natCast]; omega)) | rfl | (refine congrArg Value.bool ?_; assumption) | assumption | exact LeD.refl)))) ?_
      intro _ _
      ((refine TE.run tysOk rfl (by rfl) ?_ ?_); (repeat' (first | (with_reducible refine AllP.go ?_; (first | exact trivial | exact fun i _ => ⟨_, rfl⟩ | ((try simp only [OS]); repeat' (first | omega | exact fun i _ => ⟨_, rfl⟩ | refine And.intro ?_ ?_)))) | (refine TE.rgo tysOk rfl (by rfl) ?_ ?_) | (with_reducible first | refine t1 ?_ | refine t2 ?_ | refine t3 ?_ | refine t4 ?_ | refine t5 ?_ | refine t6 ?_ | refine t7 ?_ | refine t8 ?_ | refine t9 ?_ | refine tA ?_ | refine tB ?_ | refine tC ?_ | refine tD rfl ?_ | refine tE ?_ | refine tF ?_ | refine tG ?_ | refine tH ?_ | refine tI ?_ | refine tJ ?_ | refine tK ?_ | refine tL ?_) | refine TE.cond_true (by rfl) ?_ | refine TE.cond_false (by rfl) ?_ | ((refine TE.gsplit (by rfl) (by rfl) ?_ ?_ <;> intro h <;> (try simp only [NS] at h) <;> (try (exfalso; first | omega | exact h trivial | exact h | exact h rfl | contradiction))) <;> (refine TE.run tysOk rfl (by rfl) ?_ ?_)) | ((first | refine TL.gsplit (by rfl) (by rfl) ?_ ?_ | refine TE.cond_split (by rfl) ?_ ?_) <;> intro h <;> (try simp only [NS] at h) <;> (try (exfalso; first | omega | exact h trivial | exact h | exact h rfl | contradiction))))))
      refine TE.callW (itoa_c m te pe a (by omega)) rfl (by rfl) (by rfl) rfl (by rfl) (by (first | exact trivial | ((with_reducible refine AllP.go ?_); dsimp only [AllP, appP]; repeat' (first | with_reducible rfl | with_reducible exact LeD.refl | refine And.intro ?_ ?_ | (refine congrArg (Value.int _) ?_; first | omega | rfl | (simp only [Int.toNat_natCast]; omega)) | rfl | (refine congrArg Value.bool ?_; assumption) | assumption | exact LeD.refl)))) ?_
      intro _ _
      ((refine TE.run tysOk rfl (by rfl) ?_ ?_); try (with_reducible refine AllP.go ?_; (first | exact trivial | exact fun i _ => ⟨_, rfl⟩ | ((try simp only [OS]); repeat' (first | omega | exact fun i _ => ⟨_, rfl⟩ | refine And.intro ?_ ?_)))))
      refine TE.callW (blWSN_c [] (Lib.itoa a) (by simp; omega)) rfl (by rfl) (by rfl) rfl (by rfl) (by (first | exact trivial | ((with_reducible refine AllP.go ?_); dsimp only [AllP, appP]; repeat' (first | with_reducible rfl | with_reducible exact LeD.refl | refine And.intro ?_ ?_ | (refine congrArg (Value.int _) ?_; first | omega | rfl | (simp only [Int.toNat_natCast]; omega)) | rfl | (refine congrArg Value.bool ?_; assumption) | assumption | exact LeD.refl)))) ?_
      intro _ _
      rw [List.nil_append]
      ((refine TE.run tysOk rfl (by rfl) ?_ ?_); (repeat' (first | (with_reducible refine AllP.go ?_; (first | exact trivial | exact fun i _ => ⟨_, rfl⟩ | ((try simp only [OS]); repeat' (first | omega | exact fun i _ => ⟨_, rfl⟩ | refine And.intro ?_ ?_)))) | (refine TE.rgo tysOk rfl (by rfl) ?_ ?_) | (with_reducible first | refine t1 ?_ | refine t2 ?_ | refine t3 ?_ | refine t4 ?_ | refine t5 ?_ | refine t6 ?_ | refine t7 ?_ | refine t8 ?_ | refine t9 ?_ | refine tA ?_ | refine tB ?_ | refine tC ?_ | refine tD rfl ?_ | refine tE ?_ | refine tF ?_ | refine tG ?_ | refine tH ?_ | refine tI ?_ | refine tJ ?_ | refine tK ?_ | refine tL ?_) | refine TE.cond_true (by rfl) ?_ | refine TE.cond_false (by rfl) ?_ | ((refine TE.gsplit (by rfl) (by rfl) ?_ ?_ <;> intro h <;> (try simp only [NS] at h) <;> (try (exfalso; first | omega | exact h trivial | exact h | exact h rfl | contradiction))) <;> (refine TE.run tysOk rfl (by rfl) ?_ ?_)) | ((first | refine TL.gsplit (by rfl) (by rfl) ?_ ?_ | refine TE.cond_split (by rfl) ?_ ?_) <;> intro h <;> (try simp only [NS] at h) <;> (try (exfalso; first | omega | exact h trivial | exact h | exact h rfl | contradiction))))))
      · refine TE.callW (itoa_c m te pe (a + k) (by omega)) rfl (by rfl) (by rfl) rfl (by rfl) (by (first | exact trivial | ((with_reducible refine AllP.go ?_); dsimp only [AllP, appP]; repeat' (first | with_reducible rfl | with_reducible exact LeD.refl | refine And.intro ?_ ?_ | (refine congrArg (Value.int _) ?_; first | omega | rfl | (simp only [Int.toNat_natCast]; omega)) | rfl | (refine congrArg Value.bool ?_; assumption) | assumption | exact LeD.refl)))) ?_
        intro _ _
        have hz := sB_size (Lib.itoa (a + k))
        have hm1 : (ByteArray.mk #[45]).size = 1 := rfl
        have hk0 : k ≠ 0 := fun e => by subst e; rw [hk3] at h; omega
        have hrs := runS_k a hk0
        have hrl : (runS a k).length ≤ 43 := by rw [hrs]; simp; omega
        ((refine TE.run tysOk rfl (by rfl) ?_ ?_); try (with_reducible refine AllP.go ?_; (first | exact trivial | exact fun i _ => ⟨_, rfl⟩ | ((try simp only [OS]); repeat' (first | omega | exact fun i _ => ⟨_, rfl⟩ | refine And.intro ?_ ?_)))))
        rw [show (ByteArray.mk #[45]) ++ sB (Lib.itoa (a + k)) = sB (45 :: Lib.itoa (a + k)) from sB_app [45] _]
        refine TE.callW (blWS_c (Lib.itoa a) (45 :: Lib.itoa (a + k)) (by simp; omega)) rfl (by rfl) (by rfl) rfl (by rfl) (by (first | exact trivial | ((with_reducible refine AllP.go ?_); dsimp only [AllP, appP]; repeat' (first | with_reducible rfl | with_reducible exact LeD.refl | refine And.intro ?_ ?_ | (refine congrArg (Value.int _) ?_; first | omega | rfl | (simp only [Int.toNat_natCast]; omega)) | rfl | (refine congrArg Value.bool ?_; assumption) | assumption | exact LeD.refl)))) ?_
        intro _ _
        rw [show (Lib.itoa a) ++ 45 :: Lib.itoa (a + k) = (runS a k) from hrs.symm]
        ((refine TE.run tysOk rfl (by rfl) ?_ ?_); (repeat' (first | (with_reducible refine AllP.go ?_; (first | exact trivial | exact fun i _ => ⟨_, rfl⟩ | ((try simp only [OS]); repeat' (first | omega | exact fun i _ => ⟨_, rfl⟩ | refine And.intro ?_ ?_)))) | (refine TE.rgo tysOk rfl (by rfl) ?_ ?_) | (with_reducible first | refine t1 ?_ | refine t2 ?_ | refine t3 ?_ | refine t4 ?_ | refine t5 ?_ | refine t6 ?_ | refine t7 ?_ | refine t8 ?_ | refine t9 ?_ | refine tA ?_ | refine tB ?_ | refine tC ?_ | refine tD rfl ?_ | refine tE ?_ | refine tF ?_ | refine tG ?_ | refine tH ?_ | refine tI ?_ | refine tJ ?_ | refine tK ?_ | refine tL ?_) | refine TE.cond_true (by rfl) ?_ | refine TE.cond_false (by rfl) ?_ | ((refine TE.gsplit (by rfl) (by rfl) ?_ ?_ <;> intro h <;> (try simp only [NS] at h) <;> (try (exfalso; first | omega | exact h trivial | exact h | exact h rfl | contradiction))) <;> (refine TE.run tysOk rfl (by rfl) ?_ ?_)) | ((first | refine TL.gsplit (by rfl) (by rfl) ?_ ?_ | refine TE.cond_split (by rfl) ?_ ?_) <;> intro h <;> (try simp only [NS] at h) <;> (try (exfalso; first | omega | exact h trivial | exact h | exact h rfl | contradiction))))))
        refine TE.again' (some (k + 1, (runS a k))) ⟨Nat.succ_pos _, by dsimp only; omega, by rw [hrs]; simp, by dsimp only; omega, list_zero k1 ha.symm k2 k3⟩ (by dsimp only; omega) ?_
        (refine Ent.of rfl rfl (by rfl) ?_; (try (first | exact trivial | ((with_reducible refine AllP.go ?_); dsimp only [AllP, appP]; repeat' (first | with_reducible rfl | with_reducible exact LeD.refl | refine And.intro ?_ ?_ | (refine congrArg (Value.int _) ?_; first | omega | rfl | (simp only [Int.toNat_natCast]; omega)) | rfl | (refine congrArg Value.bool ?_; assumption) | exact LeD.refl)))))
      · have hk0 : k = 0 := by omega
        have hrs : runS a k = Lib.itoa a := by rw [hk0]; exact runS_0 a
        have hrl : (runS a k).length ≤ 43 := by rw [hrs]; omega
        rw [← hrs]
        refine TE.again' (some (k + 1, (runS a k))) ⟨Nat.succ_pos _, by dsimp only; omega, by rw [hrs]; exact itoa_ne a, by dsimp only; omega, list_zero k1 ha.symm k2 k3⟩ (by dsimp only; omega) ?_
        (refine Ent.of rfl rfl (by rfl) ?_; (try (first | exact trivial | ((with_reducible refine AllP.go ?_); dsimp only [AllP, appP]; repeat' (first | with_reducible rfl | with_reducible exact LeD.refl | refine And.intro ?_ ?_ | (refine congrArg (Value.int _) ?_; first | omega | rfl | (simp only [Int.toNat_natCast]; omega)) | rfl | (refine congrArg Value.bool ?_; assumption) | exact LeD.refl)))))
    · have hn : l = [] := List.length_eq_zero_iff.1 (by omega)
      rw [if_pos hn] at hi
      (repeat' (first | (with_reducible refine AllP.go ?_; (first | exact trivial | exact fun i _ => ⟨_, rfl⟩ | ((try simp only [OS]); repeat' (first | omega | exact fun i _ => ⟨_, rfl⟩ | refine And.intro ?_ ?_)))) | (refine TE.rgo tysOk rfl (by rfl) ?_ ?_) | (with_reducible first | refine t1 ?_ | refine t2 ?_ | refine t3 ?_ | refine t4 ?_ | refine t5 ?_ | refine t6 ?_ | refine t7 ?_ | refine t8 ?_ | refine t9 ?_ | refine tA ?_ | refine tB ?_ | refine tC ?_ | refine tD rfl ?_ | refine tE ?_ | refine tF ?_ | refine tG ?_ | refine tH ?_ | refine tI ?_ | refine tJ ?_ | refine tK ?_ | refine tL ?_) | refine TE.cond_true (by rfl) ?_ | refine TE.cond_false (by rfl) ?_ | ((refine TE.gsplit (by rfl) (by rfl) ?_ ?_ <;> intro h <;> (try simp only [NS] at h) <;> (try (exfalso; first | omega | exact h trivial | exact h | exact h rfl | contradiction))) <;> (refine TE.run tysOk rfl (by rfl) ?_ ?_)) | ((first | refine TL.gsplit (by rfl) (by rfl) ?_ ?_ | refine TE.cond_split (by rfl) ?_ ?_) <;> intro h <;> (try simp only [NS] at h) <;> (try (exfalso; first | omega | exact h trivial | exact h | exact h rfl | contradiction)))))
      rw [hi]
      (refine TE.ret' (by first | exact .inl rfl | exact .inr rfl) rfl tysOk (()) ?_ rfl (by rfl) ?_; all_goals (try (first | exact trivial | ((with_reducible refine AllP.go ?_); dsimp only [AllP, appP]; repeat' (first | with_reducible rfl | with_reducible exact LeD.refl | refine And.intro ?_ ?_ | (refine congrArg (Value.int _) ?_; first | omega | rfl | (simp only [Int.toNat_natCast]; omega)) | rfl | (refine congrArg Value.bool ?_; assumption) | exact LeD.refl)))))
  · obtain ⟨p1, p2, p3, p4, p5⟩ := hpre
    dsimp only at p1 p2 p3 p4 p5
    by_cases hlt : i < l.length
    · have hr := g2 i hlt
      obtain ⟨a, ha⟩ : ∃ a, a = l.getD i 0 := ⟨_, rfl⟩
      rw [← ha] at hr
      (repeat (with_reducible first | refine t1 ?_ | refine t2 ?_ | refine t3 ?_ | refine t4 ?_ | refine t5 ?_ | refine t6 ?_ | refine t7 ?_ | refine t8 ?_ | refine t9 ?_ | refine tA ?_ | refine tB ?_ | refine tC ?_ | refine tD rfl ?_ | refine tE ?_ | refine tF ?_ | refine tG ?_ | refine tH ?_ | refine tI ?_ | refine tJ ?_ | refine tK ?_ | refine tL ?_))
      ((refine TE.rgo tysOk rfl (by rfl) ?_ ?_); try (with_reducible refine AllP.go ?_; (first | exact trivial | exact fun i _ => ⟨_, rfl⟩ | ((try simp only [OS]); repeat' (first | omega | exact fun i _ => ⟨_, rfl⟩ | refine And.intro ?_ ?_)))))
      ((refine TE.gsplit (by rfl) (by rfl) ?_ ?_ <;> intro h <;> (try simp only [NS] at h) <;> (try (exfalso; first | omega | exact h trivial | exact h | exact h rfl | contradiction))) <;> (refine TE.run tysOk rfl (by rfl) (by (first | exact trivial | exact fun i _ => ⟨_, rfl⟩ | ((try simp only [OS]); repeat' (first | omega | exact fun i _ => ⟨_, rfl⟩ | refine And.intro ?_ ?_)))) ?_))
      (repeat (with_reducible first | refine t1 ?_ | refine t2 ?_ | refine t3 ?_ | refine t4 ?_ | refine t5 ?_ | refine t6 ?_ | refine t7 ?_ | refine t8 ?_ | refine t9 ?_ | refine tA ?_ | refine tB ?_ | refine tC ?_ | refine tD rfl ?_ | refine tE ?_ | refine tF ?_ | refine tG ?_ | refine tH ?_ | refine tI ?_ | refine tJ ?_ | refine tK ?_ | refine tL ?_))
      (refine TE.cond_split (by rfl) ?_ ?_ <;> intro h <;> (try simp only [NS] at h) <;> (try (exfalso; first | omega | exact h trivial | exact h | exact h rfl | contradiction)))
      (repeat (with_reducible first | refine t1 ?_ | refine t2 ?_ | refine t3 ?_ | refine t4 ?_ | refine t5 ?_ | refine t6 ?_ | refine t7 ?_ | refine t8 ?_ | refine t9 ?_ | refine tA ?_ | refine tB ?_ | refine tC ?_ | refine tD rfl ?_ | refine tE ?_ | refine tF ?_ | refine tG ?_ | refine tH ?_ | refine tI ?_ | refine tJ ?_ | refine tK ?_ | refine tL ?_))
      ((refine TE.rgo tysOk rfl (by rfl) ?_ ?_); try (with_reducible refine AllP.go ?_; (first | exact trivial | exact fun i _ => ⟨_, rfl⟩ | ((try simp only [OS]); repeat' (first | omega | exact fun i _ => ⟨_, rfl⟩ | refine And.intro ?_ ?_)))))
      refine TE.done (TE.thenN ?_)
      refine TE.seqM (ι := Nat) (fun k => i + k < l.length ∧ (∀ j, j < k → l.getD (i + j + 1) 0 = a + j + 1) ∧ (i + k + 1 < l.length → l.getD (i + k + 1) 0 ≠ a + k + 1)) (fun k => ⟨[(9, .o (.c (.int .i64 a))), (8, .o (.c (.int .i64 ((i + k : Nat) : Int)))), (5, .o (.ptr 4 0)), (4, .o (.c (.int .i64 0))), (0, .o (.ro 1 l.length (intC l).cell))], .box 4 65 [.ptr 4 0, .own 6] :: .own 6 5 1 (bytesC out) :: glC m te pe, 7⟩) ?_ ?_
      · (refine TE.only [9, 8, 5, 4, 0] (by rfl) ?_)
        (repeat (with_reducible first | refine t1 ?_ | refine t2 ?_ | refine t3 ?_ | refine t4 ?_ | refine t5 ?_ | refine t6 ?_ | refine t7 ?_ | refine t8 ?_ | refine t9 ?_ | refine tA ?_ | refine tB ?_ | refine tC ?_ | refine tD rfl ?_ | refine tE ?_ | refine tF ?_ | refine tG ?_ | refine tH ?_ | refine tI ?_ | refine tJ ?_ | refine tK ?_ | refine tL ?_))
        refine TE.loopG (fun k : Nat => i + k < l.length ∧ ∀ j, j < k → l.getD (i + j + 1) 0 = a + j + 1) (fun k => [(8, .o (.c (.int .i64 ((i + k : Nat) : Int))))]) [] (fun _ => []) (fun k => l.length - k) 0 (by rfl) ⟨by omega, fun j hj => absurd hj (Nat.not_lt_zero _)⟩ ?_ ?_
        · (refine Ent.of rfl rfl (by rfl) ?_; (try (first | exact trivial | ((with_reducible refine AllP.go ?_); dsimp only [AllP, appP]; repeat' (first | with_reducible rfl | with_reducible exact LeD.refl | refine And.intro ?_ ?_ | (refine congrArg (Value.int _) ?_; first | omega | rfl | (simp only [Int.toNat_natCast]; omega)) | rfl | (refine congrArg Value.bool ?_; assumption) | exact LeD.refl)))))
        rintro k ⟨k1, k2⟩
        have hk3 : l.getD (i + k) 0 = a + k := by
          cases k with
          | zero => rw [ha]; simp
          | succ k => have := k2 k (Nat.lt_succ_self k); rw [← Nat.add_assoc, this]; omega
        have hix : (((i + k : Nat) : Int) + 1).toNat = i + k + 1 := by omega
        have hr2 := g2 (i + k) k1
        (repeat' (first | (with_reducible refine AllP.go ?_; (first | exact trivial | exact fun i _ => ⟨_, rfl⟩ | ((try simp only [OS]); repeat' (first | omega | exact fun i _ => ⟨_, rfl⟩ | refine And.intro ?_ ?_)))) | (refine TE.rgo tysOk rfl (by rfl) ?_ ?_) | (with_reducible first | refine t1 ?_ | refine t2 ?_ | refine t3 ?_ | refine t4 ?_ | refine t5 ?_ | refine t6 ?_ | refine t7 ?_ | refine t8 ?_ | refine t9 ?_ | refine tA ?_ | refine tB ?_ | refine tC ?_ | refine tD rfl ?_ | refine tE ?_ | refine tF ?_ | refine tG ?_ | refine tH ?_ | refine tI ?_ | refine tJ ?_ | refine tK ?_ | refine tL ?_) | (with_reducible first | exact PanicOk.body | exact rd.panic | refine PanicOk.then' ?_ | refine PanicOk.block ?_ | refine PanicOk.jump ?_) | (refine TE.drawC (by rfl) (by rfl) (by rfl) (by rfl) ?_) | (refine TE.drawN (by rfl) (by rfl) (by rfl) ?_) | (refine TL.done (by rfl) ?_) | (refine TL.auto tysOk rfl ?_ (by rfl) ?_ ?_) | ((refine TL.one (by rfl) ?_); first | (refine StepL.mem tysOk rfl rfl rfl rfl (by rfl) ?_ (by rfl) ?_) | (refine StepL.pure tysOk rfl rfl rfl rfl (by rfl) ?_ (by rfl) ?_)) | (refine StepL.mem tysOk rfl rfl rfl rfl (by rfl) ?_ (by rfl) ?_) | refine TE.cond_true (by rfl) ?_ | refine TE.cond_false (by rfl) ?_ | ((refine TE.gsplit (by rfl) (by rfl) ?_ ?_ <;> intro h <;> (try simp only [NS] at h) <;> (try (exfalso; first | omega | exact h trivial | exact h | exact h rfl | contradiction))) <;> (refine TE.run tysOk rfl (by rfl) ?_ ?_)) | ((first | refine TL.gsplit (by rfl) (by rfl) ?_ ?_ | refine TE.cond_split (by rfl) ?_ ?_) <;> intro h <;> (try simp only [NS] at h) <;> (try (exfalso; first | omega | exact h trivial | exact h | exact h rfl | contradiction)))))
        · refine TE.again' (k + 1) ⟨by omega, fun j hj => ?_⟩ (by omega) ?_
          · rcases Nat.lt_or_ge j k with hj2 | hj2
            · exact k2 j hj2
            · obtain rfl : j = k := by omega
              have h : l.getD (((i + j : Nat) : Int) + 1).toNat 0 = l.getD (i + j) 0 + 1 := by assumption
              rw [hix, hk3] at h
              exact h
          · (refine Ent.of rfl rfl (by rfl) ?_; (try (first | exact trivial | ((with_reducible refine AllP.go ?_); dsimp only [AllP, appP]; repeat' (first | with_reducible rfl | with_reducible exact LeD.refl | refine And.intro ?_ ?_ | (refine congrArg (Value.int _) ?_; first | omega | rfl | (simp only [Int.toNat_natCast]; omega)) | rfl | (refine congrArg Value.bool ?_; assumption) | exact LeD.refl)))))
        · refine TE.at k ⟨k1, k2, fun _ e => ?_⟩ ?_
          · have h : ¬ l.getD (((i + k : Nat) : Int) + 1).toNat 0 = l.getD (i + k) 0 + 1 := by assumption
            rw [hix, hk3] at h
            exact h e
          · (refine Ent.of rfl rfl (by rfl) ?_; (try (first | exact trivial | ((with_reducible refine AllP.go ?_); dsimp only [AllP, appP]; repeat' (first | with_reducible rfl | with_reducible exact LeD.refl | refine And.intro ?_ ?_ | (refine congrArg (Value.int _) ?_; first | omega | rfl | (simp only [Int.toNat_natCast]; omega)) | rfl | (refine congrArg Value.bool ?_; assumption) | exact LeD.refl)))))
            all_goals exact congrArg (Value.int _) ha.symm
        · refine TE.at k ⟨k1, k2, fun e => absurd e (by omega)⟩ ?_
          (refine Ent.of rfl rfl (by rfl) ?_; (try (first | exact trivial | ((with_reducible refine AllP.go ?_); dsimp only [AllP, appP]; repeat' (first | with_reducible rfl | with_reducible exact LeD.refl | refine And.intro ?_ ?_ | (refine congrArg (Value.int _) ?_; first | omega | rfl | (simp only [Int.toNat_natCast]; omega)) | rfl | (refine congrArg Value.bool ?_; assumption) | exact LeD.refl)))))
          all_goals exact congrArg (Value.int _) ha.symm
      rintro k ⟨k1, k2, k3⟩
      have hk3 : l.getD (i + k) 0 = a + k := by
        cases k with
        | zero => rw [ha]; simp
        | succ k => have := k2 k (Nat.lt_succ_self k); rw [← Nat.add_assoc, this]; omega
      have hr2 := g2 (i + k) k1
      have hi1 := Lib.itoa_length_le a (by omega) (by omega)
      have hi2 := Lib.itoa_length_le (a + k) (by omega) (by omega)
      (repeat' (first | (with_reducible refine AllP.go ?_; (first | exact trivial | exact fun i _ => ⟨_, rfl⟩ | ((try simp only [OS]); repeat' (first | omega | exact fun i _ => ⟨_, rfl⟩ | refine And.intro ?_ ?_)))) | (refine TE.rgo tysOk rfl (by rfl) ?_ ?_) | (with_reducible first | refine t1 ?_ | refine t2 ?_ | refine t3 ?_ | refine t4 ?_ | refine t5 ?_ | refine t6 ?_ | refine t7 ?_ | refine t8 ?_ | refine t9 ?_ | refine tA ?_ | refine tB ?_ | refine tC ?_ | refine tD rfl ?_ | refine tE ?_ | refine tF ?_ | refine tG ?_ | refine tH ?_ | refine tI ?_ | refine tJ ?_ | refine tK ?_ | refine tL ?_) | refine TE.cond_true (by rfl) ?_ | refine TE.cond_false (by rfl) ?_ | ((refine TE.gsplit (by rfl) (by rfl) ?_ ?_ <;> intro h <;> (try simp only [NS] at h) <;> (try (exfalso; first | omega | exact h trivial | exact h | exact h rfl | contradiction))) <;> (refine TE.run tysOk rfl (by rfl) ?_ ?_)) | ((first | refine TL.gsplit (by rfl) (by rfl) ?_ ?_ | refine TE.cond_split (by rfl) ?_ ?_) <;> intro h <;> (try simp only [NS] at h) <;> (try (exfalso; first | omega | exact h trivial | exact h | exact h rfl | contradiction)))))
      refine TE.callW (blLen_c out) rfl (by rfl) (by rfl) rfl (by rfl) (by (first | exact trivial | ((with_reducible refine AllP.go ?_); dsimp only [AllP, appP]; repeat' (first | with_reducible rfl | with_reducible exact LeD.refl | refine And.intro ?_ ?_ | (refine congrArg (Value.int _) ?_; first | omega | rfl | (simp only [Int.toNat_natCast]; omega)) | rfl | (refine congrArg Value.bool ?_; assumption) | assumption | exact LeD.refl)))) ?_
      intro _ _
      have ho1 : 0 < out.length := List.length_pos_iff.2 p3
      ((refine TE.run tysOk rfl (by rfl) ?_ ?_); (repeat' (first | (with_reducible refine AllP.go ?_; (first | exact trivial | exact fun i _ => ⟨_, rfl⟩ | ((try simp only [OS]); repeat' (first | omega | exact fun i _ => ⟨_, rfl⟩ | refine And.intro ?_ ?_)))) | (refine TE.rgo tysOk rfl (by rfl) ?_ ?_) | (with_reducible first | refine t1 ?_ | refine t2 ?_ | refine t3 ?_ | refine t4 ?_ | refine t5 ?_ | refine t6 ?_ | refine t7 ?_ | refine t8 ?_ | refine t9 ?_ | refine tA ?_ | refine tB ?_ | refine tC ?_ | refine tD rfl ?_ | refine tE ?_ | refine tF ?_ | refine tG ?_ | refine tH ?_ | refine tI ?_ | refine tJ ?_ | refine tK ?_ | refine tL ?_) | refine TE.cond_true (by rfl) ?_ | refine TE.cond_false (by rfl) ?_ | ((refine TE.gsplit (by rfl) (by rfl) ?_ ?_ <;> intro h <;> (try simp only [NS] at h) <;> (try (exfalso; first | omega | exact h trivial | exact h | exact h rfl | contradiction))) <;> (refine TE.run tysOk rfl (by rfl) ?_ ?_)) | ((first | refine TL.gsplit (by rfl) (by rfl) ?_ ?_ | refine TE.cond_split (by rfl) ?_ ?_) <;> intro h <;> (try simp only [NS] at h) <;> (try (exfalso; first | omega | exact h trivial | exact h | exact h rfl | contradiction))))))
      refine TE.callW (blWB_c out 44 (by omega)) rfl (by rfl) (by rfl) rfl (by rfl) (by (first | exact trivial | ((with_reducible refine AllP.go ?_); dsimp only [AllP, appP]; repeat' (first | with_reducible rfl | with_reducible exact LeD.refl | refine And.intro ?_ ?_ | (refine congrArg (Value.int _) ?_; first | omega | rfl | (simp only [Int.toNat_natCast]; omega)) | rfl | (refine congrArg Value.bool ?_; assumption) | assumption | exact LeD.refl)))) ?_
      intro _ _
      ((refine TE.run tysOk rfl (by rfl) ?_ ?_); (repeat' (first | (with_reducible refine AllP.go ?_; (first | exact trivial | exact fun i _ => ⟨_, rfl⟩ | ((try simp only [OS]); repeat' (first | omega | exact fun i _ => ⟨_, rfl⟩ | refine And.intro ?_ ?_)))) | (refine TE.rgo tysOk rfl (by rfl) ?_ ?_) | (with_reducible first | refine t1 ?_ | refine t2 ?_ | refine t3 ?_ | refine t4 ?_ | refine t5 ?_ | refine t6 ?_ | refine t7 ?_ | refine t8 ?_ | refine t9 ?_ | refine tA ?_ | refine tB ?_ | refine tC ?_ | refine tD rfl ?_ | refine tE ?_ | refine tF ?_ | refine tG ?_ | refine tH ?_ | refine tI ?_ | refine tJ ?_ | refine tK ?_ | refine tL ?_) | refine TE.cond_true (by rfl) ?_ | refine TE.cond_false (by rfl) ?_ | ((refine TE.gsplit (by rfl) (by rfl) ?_ ?_ <;> intro h <;> (try simp only [NS] at h) <;> (try (exfalso; first | omega | exact h trivial | exact h | exact h rfl | contradiction))) <;> (refine TE.run tysOk rfl (by rfl) ?_ ?_)) | ((first | refine TL.gsplit (by rfl) (by rfl) ?_ ?_ | refine TE.cond_split (by rfl) ?_ ?_) <;> intro h <;> (try simp only [NS] at h) <;> (try (exfalso; first | omega | exact h trivial | exact h | exact h rfl | contradiction))))))
      refine TE.callW (itoa_c m te pe a (by omega)) rfl (by rfl) (by rfl) rfl (by rfl) (by (first | exact trivial | ((with_reducible refine AllP.go ?_); dsimp only [AllP, appP]; repeat' (first | with_reducible rfl | with_reducible exact LeD.refl | refine And.intro ?_ ?_ | (refine congrArg (Value.int _) ?_; first | omega | rfl | (simp only [Int.toNat_natCast]; omega)) | rfl | (refine congrArg Value.bool ?_; assumption) | assumption | exact LeD.refl)))) ?_
      intro _ _
      ((refine TE.run tysOk rfl (by rfl) ?_ ?_); try (with_reducible refine AllP.go ?_; (first | exact trivial | exact fun i _ => ⟨_, rfl⟩ | ((try simp only [OS]); repeat' (first | omega | exact fun i _ => ⟨_, rfl⟩ | refine And.intro ?_ ?_)))))
      refine TE.callW (blWS_c (out ++ [44]) (Lib.itoa a) (by simp; omega)) rfl (by rfl) (by rfl) rfl (by rfl) (by (first | exact trivial | ((with_reducible refine AllP.go ?_); dsimp only [AllP, appP]; repeat' (first | with_reducible rfl | with_reducible exact LeD.refl | refine And.intro ?_ ?_ | (refine congrArg (Value.int _) ?_; first | omega | rfl | (simp only [Int.toNat_natCast]; omega)) | rfl | (refine congrArg Value.bool ?_; assumption) | assumption | exact LeD.refl)))) ?_
      intro _ _
      ((refine TE.run tysOk rfl (by rfl) ?_ ?_); (repeat' (first | (with_reducible refine AllP.go ?_; (first | exact trivial | exact fun i _ => ⟨_, rfl⟩ | ((try simp only [OS]); repeat' (first | omega | exact fun i _ => ⟨_, rfl⟩ | refine And.intro ?_ ?_)))) | (refine TE.rgo tysOk rfl (by rfl) ?_ ?_) | (with_reducible first | refine t1 ?_ | refine t2 ?_ | refine t3 ?_ | refine t4 ?_ | refine t5 ?_ | refine t6 ?_ | refine t7 ?_ | refine t8 ?_ | refine t9 ?_ | refine tA ?_ | refine tB ?_ | refine tC ?_ | refine tD rfl ?_ | refine tE ?_ | refine tF ?_ | refine tG ?_ | refine tH ?_ | refine tI ?_ | refine tJ ?_ | refine tK ?_ | refine tL ?_) | refine TE.cond_true (by rfl) ?_ | refine TE.cond_false (by rfl) ?_ | ((refine TE.gsplit (by rfl) (by rfl) ?_ ?_ <;> intro h <;> (try simp only [NS] at h) <;> (try (exfalso; first | omega | exact h trivial | exact h | exact h rfl | contradiction))) <;> (refine TE.run tysOk rfl (by rfl) ?_ ?_)) | ((first | refine TL.gsplit (by rfl) (by rfl) ?_ ?_ | refine TE.cond_split (by rfl) ?_ ?_) <;> intro h <;> (try simp only [NS] at h) <;> (try (exfalso; first | omega | exact h trivial | exact h | exact h rfl | contradiction))))))
      · refine TE.callW (itoa_c m te pe (a + k) (by omega)) rfl (by rfl) (by rfl) rfl (by rfl) (by (first | exact trivial | ((with_reducible refine AllP.go ?_); dsimp only [AllP, appP]; repeat' (first | with_reducible rfl | with_reducible exact LeD.refl | refine And.intro ?_ ?_ | (refine congrArg (Value.int _) ?_; first | omega | rfl | (simp only [Int.toNat_natCast]; omega)) | rfl | (refine congrArg Value.bool ?_; assumption) | assumption | exact LeD.refl)))) ?_
        intro _ _
        have hz := sB_size (Lib.itoa (a + k))
        have hm1 : (ByteArray.mk #[45]).size = 1 := rfl
        have hk0 : k ≠ 0 := fun e => by subst e; rw [hk3] at h; omega
        have hrs := runS_k a hk0
        have hrl : (runS a k).length ≤ 43 := by rw [hrs]; simp; omega
        ((refine TE.run tysOk rfl (by rfl) ?_ ?_); try (with_reducible refine AllP.go ?_; (first | exact trivial | exact fun i _ => ⟨_, rfl⟩ | ((try simp only [OS]); repeat' (first | omega | exact fun i _ => ⟨_, rfl⟩ | refine And.intro ?_ ?_)))))
        rw [show (ByteArray.mk #[45]) ++ sB (Lib.itoa (a + k)) = sB (45 :: Lib.itoa (a + k)) from sB_app [45] _]
        refine TE.callW (blWS_c (out ++ [44] ++ Lib.itoa a) (45 :: Lib.itoa (a + k)) (by simp; omega)) rfl (by rfl) (by rfl) rfl (by rfl) (by (first | exact trivial | ((with_reducible refine AllP.go ?_); dsimp only [AllP, appP]; repeat' (first | with_reducible rfl | with_reducible exact LeD.refl | refine And.intro ?_ ?_ | (refine congrArg (Value.int _) ?_; first | omega | rfl | (simp only [Int.toNat_natCast]; omega)) | rfl | (refine congrArg Value.bool ?_; assumption) | assumption | exact LeD.refl)))) ?_
        intro _ _
        rw [show (out ++ [44] ++ Lib.itoa a) ++ 45 :: Lib.itoa (a + k) = (out ++ [44] ++ runS a k) from by rw [hrs]; simp]
        ((refine TE.run tysOk rfl (by rfl) ?_ ?_); (repeat' (first | (with_reducible refine AllP.go ?_; (first | exact trivial | exact fun i _ => ⟨_, rfl⟩ | ((try simp only [OS]); repeat' (first | omega | exact fun i _ => ⟨_, rfl⟩ | refine And.intro ?_ ?_)))) | (refine TE.rgo tysOk rfl (by rfl) ?_ ?_) | (with_reducible first | refine t1 ?_ | refine t2 ?_ | refine t3 ?_ | refine t4 ?_ | refine t5 ?_ | refine t6 ?_ | refine t7 ?_ | refine t8 ?_ | refine t9 ?_ | refine tA ?_ | refine tB ?_ | refine tC ?_ | refine tD rfl ?_ | refine tE ?_ | refine tF ?_ | refine tG ?_ | refine tH ?_ | refine tI ?_ | refine tJ ?_ | refine tK ?_ | refine tL ?_) | refine TE.cond_true (by rfl) ?_ | refine TE.cond_false (by rfl) ?_ | ((refine TE.gsplit (by rfl) (by rfl) ?_ ?_ <;> intro h <;> (try simp only [NS] at h) <;> (try (exfalso; first | omega | exact h trivial | exact h | exact h rfl | contradiction))) <;> (refine TE.run tysOk rfl (by rfl) ?_ ?_)) | ((first | refine TL.gsplit (by rfl) (by rfl) ?_ ?_ | refine TE.cond_split (by rfl) ?_ ?_) <;> intro h <;> (try simp only [NS] at h) <;> (try (exfalso; first | omega | exact h trivial | exact h | exact h rfl | contradiction))))))
        refine TE.again' (some (i + k + 1, (out ++ [44] ++ runS a k))) ⟨Nat.succ_pos _, by dsimp only; omega, by simp, by simp; omega, list_step p5 k1 ha.symm k2 k3⟩ (by dsimp only; omega) ?_
        (refine Ent.of rfl rfl (by rfl) ?_; (try (first | exact trivial | ((with_reducible refine AllP.go ?_); dsimp only [AllP, appP]; repeat' (first | with_reducible rfl | with_reducible exact LeD.refl | refine And.intro ?_ ?_ | (refine congrArg (Value.int _) ?_; first | omega | rfl | (simp only [Int.toNat_natCast]; omega)) | rfl | (refine congrArg Value.bool ?_; assumption) | exact LeD.refl)))))
      · have hk0 : k = 0 := by omega
        have hrs : runS a k = Lib.itoa a := by rw [hk0]; exact runS_0 a
        have hrl : (runS a k).length ≤ 43 := by rw [hrs]; omega
        rw [← hrs]
        refine TE.again' (some (i + k + 1, (out ++ [44] ++ runS a k))) ⟨Nat.succ_pos _, by dsimp only; omega, by simp, by simp; omega, list_step p5 k1 ha.symm k2 k3⟩ (by dsimp only; omega) ?_
        (refine Ent.of rfl rfl (by rfl) ?_; (try (first | exact trivial | ((with_reducible refine AllP.go ?_); dsimp only [AllP, appP]; repeat' (first | with_reducible rfl | with_reducible exact LeD.refl | refine And.intro ?_ ?_ | (refine congrArg (Value.int _) ?_; first | omega | rfl | (simp only [Int.toNat_natCast]; omega)) | rfl | (refine congrArg Value.bool ?_; assumption) | exact LeD.refl)))))
    · obtain rfl : i = l.length := by omega
      rw [List.drop_of_length_le (Nat.le_refl _)] at p5
      rw [if_neg (fun e => by rw [e] at p1; exact absurd p1 (Nat.lt_irrefl _))] at hi
      (repeat' (first | (with_reducible refine AllP.go ?_; (first | exact trivial | exact fun i _ => ⟨_, rfl⟩ | ((try simp only [OS]); repeat' (first | omega | exact fun i _ => ⟨_, rfl⟩ | refine And.intro ?_ ?_)))) | (refine TE.rgo tysOk rfl (by rfl) ?_ ?_) | (with_reducible first | refine t1 ?_ | refine t2 ?_ | refine t3 ?_ | refine t4 ?_ | refine t5 ?_ | refine t6 ?_ | refine t7 ?_ | refine t8 ?_ | refine t9 ?_ | refine tA ?_ | refine tB ?_ | refine tC ?_ | refine tD rfl ?_ | refine tE ?_ | refine tF ?_ | refine tG ?_ | refine tH ?_ | refine tI ?_ | refine tJ ?_ | refine tK ?_ | refine tL ?_) | refine TE.cond_true (by rfl) ?_ | refine TE.cond_false (by rfl) ?_ | ((refine TE.gsplit (by rfl) (by rfl) ?_ ?_ <;> intro h <;> (try simp only [NS] at h) <;> (try (exfalso; first | omega | exact h trivial | exact h | exact h rfl | contradiction))) <;> (refine TE.run tysOk rfl (by rfl) ?_ ?_)) | ((first | refine TL.gsplit (by rfl) (by rfl) ?_ ?_ | refine TE.cond_split (by rfl) ?_ ?_) <;> intro h <;> (try simp only [NS] at h) <;> (try (exfalso; first | omega | exact h trivial | exact h | exact h rfl | contradiction)))))
      refine TE.callW (blStr_c out p3) rfl (by rfl) (by rfl) rfl (by rfl) (by (first | exact trivial | ((with_reducible refine AllP.go ?_); dsimp only [AllP, appP]; repeat' (first | with_reducible rfl | with_reducible exact LeD.refl | refine And.intro ?_ ?_ | (refine congrArg (Value.int _) ?_; first | omega | rfl | (simp only [Int.toNat_natCast]; omega)) | rfl | (refine congrArg Value.bool ?_; assumption) | assumption | exact LeD.refl)))) ?_
      intro _ _
      ((refine TE.run tysOk rfl (by rfl) ?_ ?_); (repeat' (first | (with_reducible refine AllP.go ?_; (first | exact trivial | exact fun i _ => ⟨_, rfl⟩ | ((try simp only [OS]); repeat' (first | omega | exact fun i _ => ⟨_, rfl⟩ | refine And.intro ?_ ?_)))) | (refine TE.rgo tysOk rfl (by rfl) ?_ ?_) | (with_reducible first | refine t1 ?_ | refine t2 ?_ | refine t3 ?_ | refine t4 ?_ | refine t5 ?_ | refine t6 ?_ | refine t7 ?_ | refine t8 ?_ | refine t9 ?_ | refine tA ?_ | refine tB ?_ | refine tC ?_ | refine tD rfl ?_ | refine tE ?_ | refine tF ?_ | refine tG ?_ | refine tH ?_ | refine tI ?_ | refine tJ ?_ | refine tK ?_ | refine tL ?_) | refine TE.cond_true (by rfl) ?_ | refine TE.cond_false (by rfl) ?_ | ((refine TE.gsplit (by rfl) (by rfl) ?_ ?_ <;> intro h <;> (try simp only [NS] at h) <;> (try (exfalso; first | omega | exact h trivial | exact h | exact h rfl | contradiction))) <;> (refine TE.run tysOk rfl (by rfl) ?_ ?_)) | ((first | refine TL.gsplit (by rfl) (by rfl) ?_ ?_ | refine TE.cond_split (by rfl) ?_ ?_) <;> intro h <;> (try simp only [NS] at h) <;> (try (exfalso; first | omega | exact h trivial | exact h | exact h rfl | contradiction))))))
      rw [hi, ← p5, show tailG [] = [] from rfl, List.append_nil]
      (refine TE.ret' (by first | exact .inl rfl | exact .inr rfl) rfl tysOk (()) ?_ rfl (by rfl) ?_; all_goals (try (first | exact trivial | ((with_reducible refine AllP.go ?_); dsimp only [AllP, appP]; repeat' (first | with_reducible rfl | with_reducible exact LeD.refl | refine And.intro ?_ ?_ | (refine congrArg (Value.int _) ?_; first | omega | rfl | (simp only [Int.toNat_natCast]; omega)) | rfl | (refine congrArg Value.bool ?_; assumption) | exact LeD.refl)))))
end Go.Proofs.YtmeapfckibbbbaaDoor.Am
/- The words: names and numbers, the program's. -/
set_option linter.unusedVariables false
namespace Go.Proofs.YtmeapfckibbbbaaDoor.Am
open Go.RowKit Lw Wo
theorem word_ascii : ∀ (j : Nat) b, wordL[j]? = some b → b.toNat < 128 := by
  intro j b h
  have := List.mem_of_getElem? h
  exact (by decide : ∀ b ∈ wordL, b.toNat < 128) b this
theorem dig_ascii : ∀ (j : Nat) b, digL[j]? = some b → b.toNat < 128 := by
  intro j b h
  have := List.mem_of_getElem? h
  exact (by decide : ∀ b ∈ digL, b.toNat < 128) b this
theorem str_nil (l : Bs) : (sB l = (ByteArray.mk #[])) ↔ l = [] := sB_inj (b := [])
theorem trim_word (l : Bs) : decide (sB (Lib.trimS l wordL) = ByteArray.mk #[]) = l.all wordC := by
  have : (l.all (wordL.contains ·)) = l.all wordC := by congr 1; funext c; exact word_in c
  rw [← this]
  by_cases h : l.all (wordL.contains ·) = true
  · rw [h]; exact decide_eq_true ((str_nil _).2 ((trim_nil l wordL).2 h))
  · rw [Bool.not_eq_true] at h
    rw [h]; exact decide_eq_false fun e => by
      have := (trim_nil l wordL).1 ((str_nil _).1 e)
      rw [h] at this; cases this
theorem trim_dig (l : Bs) : decide (sB (Lib.trimS l digL) = ByteArray.mk #[]) = l.all digC := by
  have : (l.all (digL.contains ·)) = l.all digC := by congr 1; funext c; exact dig_in c
  rw [← this]
  by_cases h : l.all (digL.contains ·) = true
  · rw [h]; exact decide_eq_true ((str_nil _).2 ((trim_nil l digL).2 h))
  · rw [Bool.not_eq_true] at h
    rw [h]; exact decide_eq_false fun e => by
      have := (trim_nil l digL).1 ((str_nil _).1 e)
      rw [h] at this; cases this
theorem dig_no {t : Bs} (h : ¬ (sB (Lib.trimS t digL)).size = 0) : t.all digC = false := by
  rw [← trim_dig]
  exact decide_eq_false fun e => h (by rw [e]; rfl)
theorem dig_yes {t : Bs} (h : (sB (Lib.trimS t digL)).size = 0) : t.all digC = true := by
  rw [← trim_dig]
  rw [sB_size] at h
  exact decide_eq_true ((str_nil _).2 (List.length_eq_zero_iff.1 h))
theorem n48 {t : Bs} (h : ¬ ((t.getD (Int.toNat 0) 0).toNat : Int) = 48) : t.getD 0 0 ≠ 48 := fun e => h (by
  show ((t.getD 0 0).toNat : Int) = 48
  rw [e]; rfl)
theorem y48 {t : Bs} (h : ((t.getD (Int.toNat 0) 0).toNat : Int) = 48) : t.getD 0 0 = 48 := UInt8.toNat_inj.1 (by
  have h : ((t.getD 0 0).toNat : Int) = 48 := h
  rw [show (48 : UInt8).toNat = 48 from rfl]; omega)
theorem name_no {l : Bs} (h : ¬ (1 ≤ l.length ∧ l.length ≤ 16 ∧ 97 ≤ (l.getD 0 0).toNat ∧ (l.getD 0 0).toNat ≤ 122)) : nameI l = false := by
  unfold nameI lowC
  by_cases h1 : 1 ≤ l.length ∧ l.length ≤ 16
  · have h2 : ¬ (97 ≤ (l.getD 0 0).toNat ∧ (l.getD 0 0).toNat ≤ 122) := fun h2 => h ⟨h1.1, h1.2, h2⟩
    rw [decide_eq_false h2]; simp
  · rw [decide_eq_false h1]; simp
theorem name_yes {l : Bs} (h : 1 ≤ l.length ∧ l.length ≤ 16 ∧ 97 ≤ (l.getD 0 0).toNat ∧ (l.getD 0 0).toNat ≤ 122) : nameI l = l.all wordC := by
  unfold nameI lowC
  rw [decide_eq_true ⟨h.1, h.2.1⟩, decide_eq_true ⟨h.2.2.1, h.2.2.2⟩]; simp
set_option maxRecDepth 20000 in
theorem Name_c (l : Bs) (hl : l.length ≤ 1000000) : Con Tryd.prog 15 [.o (.c (.string (sB l)))] [] 0 0 U (fun _ => .o (.sb (nameI l))) G0 := by
  refine con_of Tryd.func15 rfl (by kernel_rfl) Tryd.ntmps15 rfl (by first | exact Nat.zero_le _ | decide) (fun _ => ⟨rfl, rfl⟩) fun w S ν => ?_
  have hz := sB_size l
  have h0 : l.getD (Int.toNat 0) 0 = l.getD 0 0 := rfl
  (repeat' (first | (with_reducible refine AllP.go ?_; (first | exact trivial | exact fun i _ => ⟨_, rfl⟩ | ((try simp only [OS]); repeat' (first | omega | exact fun i _ => ⟨_, rfl⟩ | refine And.intro ?_ ?_)))) | (refine TE.rgo tysOk rfl (by rfl) ?_ ?_) | (with_reducible first | refine t1 ?_ | refine t2 ?_ | refine t3 ?_ | refine t4 ?_ | refine t5 ?_ | refine t6 ?_ | refine t7 ?_ | refine t8 ?_ | refine t9 ?_ | refine tA ?_ | refine tB ?_ | refine tC ?_ | refine tD rfl ?_ | refine tE ?_ | refine tF ?_ | refine tG ?_ | refine tH ?_ | refine tI ?_ | refine tJ ?_ | refine tK ?_ | refine tL ?_) | (with_reducible first | exact PanicOk.body | exact rd.panic | refine PanicOk.then' ?_ | refine PanicOk.block ?_ | refine PanicOk.jump ?_) | (refine TE.drawC (by rfl) (by rfl) (by rfl) (by rfl) ?_) | (refine TE.drawN (by rfl) (by rfl) (by rfl) ?_) | (refine TL.done (by rfl) ?_) | (refine TL.auto tysOk rfl ?_ (by rfl) ?_ ?_) | ((refine TL.one (by rfl) ?_); first | (refine StepL.mem tysOk rfl rfl rfl rfl (by rfl) ?_ (by rfl) ?_) | (refine StepL.pure tysOk rfl rfl rfl rfl (by rfl) ?_ (by rfl) ?_)) | (refine StepL.mem tysOk rfl rfl rfl rfl (by rfl) ?_ (by rfl) ?_) | refine TE.cond_true (by rfl) ?_ | refine TE.cond_false (by rfl) ?_ | ((refine TE.gsplit (by rfl) (by rfl) ?_ ?_ <;> intro h <;> (try simp only [NS] at h) <;> (try (exfalso; first | omega | exact h trivial | exact h | exact h rfl | contradiction))) <;> (refine TE.run tysOk rfl (by rfl) ?_ ?_)) | ((first | refine TL.gsplit (by rfl) (by rfl) ?_ ?_ | refine TE.cond_split (by rfl) ?_ ?_) <;> intro h <;> (try simp only [NS] at h) <;> (try (exfalso; first | omega | exact h trivial | exact h | exact h rfl | contradiction)))))
  · rw [name_no (by omega)]; (refine TE.ret' (by first | exact .inl rfl | exact .inr rfl) rfl tysOk (()) ?_ rfl (by rfl) ?_; all_goals (try (first | exact trivial | ((with_reducible refine AllP.go ?_); dsimp only [AllP, appP]; repeat' (first | with_reducible rfl | with_reducible exact LeD.refl | refine And.intro ?_ ?_ | (refine congrArg (Value.int _) ?_; first | omega | rfl | (simp only [Int.toNat_natCast]; omega)) | rfl | (refine congrArg Value.bool ?_; assumption) | exact LeD.refl)))))
  · rw [name_no (by omega)]; (refine TE.ret' (by first | exact .inl rfl | exact .inr rfl) rfl tysOk (()) ?_ rfl (by rfl) ?_; all_goals (try (first | exact trivial | ((with_reducible refine AllP.go ?_); dsimp only [AllP, appP]; repeat' (first | with_reducible rfl | with_reducible exact LeD.refl | refine And.intro ?_ ?_ | (refine congrArg (Value.int _) ?_; first | omega | rfl | (simp only [Int.toNat_natCast]; omega)) | rfl | (refine congrArg Value.bool ?_; assumption) | exact LeD.refl)))))
  · rw [name_no (by rw [h0] at *; omega)]; (refine TE.ret' (by first | exact .inl rfl | exact .inr rfl) rfl tysOk (()) ?_ rfl (by rfl) ?_; all_goals (try (first | exact trivial | ((with_reducible refine AllP.go ?_); dsimp only [AllP, appP]; repeat' (first | with_reducible rfl | with_reducible exact LeD.refl | refine And.intro ?_ ?_ | (refine congrArg (Value.int _) ?_; first | omega | rfl | (simp only [Int.toNat_natCast]; omega)) | rfl | (refine congrArg Value.bool ?_; assumption) | exact LeD.refl)))))
  · rw [name_no (by rw [h0] at *; omega)]; (refine TE.ret' (by first | exact .inl rfl | exact .inr rfl) rfl tysOk (()) ?_ rfl (by rfl) ?_; all_goals (try (first | exact trivial | ((with_reducible refine AllP.go ?_); dsimp only [AllP, appP]; repeat' (first | with_reducible rfl | with_reducible exact LeD.refl | refine And.intro ?_ ?_ | (refine congrArg (Value.int _) ?_; first | omega | rfl | (simp only [Int.toNat_natCast]; omega)) | rfl | (refine congrArg Value.bool ?_; assumption) | exact LeD.refl)))))
  · refine TE.callW (trim_c l wordL hl (by decide) word_ascii) rfl (by rfl) (by rfl) rfl (by rfl) (by (first | exact trivial | ((with_reducible refine AllP.go ?_); dsimp only [AllP, appP]; repeat' (first | with_reducible rfl | with_reducible exact LeD.refl | refine And.intro ?_ ?_ | (refine congrArg (Value.int _) ?_; first | omega | rfl | (simp only [Int.toNat_natCast]; omega)) | rfl | (refine congrArg Value.bool ?_; assumption) | assumption | exact LeD.refl)))) ?_
    intro _ _
    ((refine TE.run tysOk rfl (by rfl) ?_ ?_); (repeat' (first | (with_reducible refine AllP.go ?_; (first | exact trivial | exact fun i _ => ⟨_, rfl⟩ | ((try simp only [OS]); repeat' (first | omega | exact fun i _ => ⟨_, rfl⟩ | refine And.intro ?_ ?_)))) | (refine TE.rgo tysOk rfl (by rfl) ?_ ?_) | (with_reducible first | refine t1 ?_ | refine t2 ?_ | refine t3 ?_ | refine t4 ?_ | refine t5 ?_ | refine t6 ?_ | refine t7 ?_ | refine t8 ?_ | refine t9 ?_ | refine tA ?_ | refine tB ?_ | refine tC ?_ | refine tD rfl ?_ | refine tE ?_ | refine tF ?_ | refine tG ?_ | refine tH ?_ | refine tI ?_ | refine tJ ?_ | refine tK ?_ | refine tL ?_) | (with_reducible first | exact PanicOk.body | exact rd.panic | refine PanicOk.then' ?_ | refine PanicOk.block ?_ | refine PanicOk.jump ?_) | (refine TE.drawC (by rfl) (by rfl) (by rfl) (by rfl) ?_) | (refine TE.drawN (by rfl) (by rfl) (by rfl) ?_) | (refine TL.done (by rfl) ?_) | (refine TL.auto tysOk rfl ?_ (by rfl) ?_ ?_) | ((refine TL.one (by rfl) ?_); first | (refine StepL.mem tysOk rfl rfl rfl rfl (by rfl) ?_ (by rfl) ?_) | (refine StepL.pure tysOk rfl rfl rfl rfl (by rfl) ?_ (by rfl) ?_)) | (refine StepL.mem tysOk rfl rfl rfl rfl (by rfl) ?_ (by rfl) ?_) | refine TE.cond_true (by rfl) ?_ | refine TE.cond_false (by rfl) ?_ | ((refine TE.gsplit (by rfl) (by rfl) ?_ ?_ <;> intro h <;> (try simp only [NS] at h) <;> (try (exfalso; first | omega | exact h trivial | exact h | exact h rfl | contradiction))) <;> (refine TE.run tysOk rfl (by rfl) ?_ ?_)) | ((first | refine TL.gsplit (by rfl) (by rfl) ?_ ?_ | refine TE.cond_split (by rfl) ?_ ?_) <;> intro h <;> (try simp only [NS] at h) <;> (try (exfalso; first | omega | exact h trivial | exact h | exact h rfl | contradiction))))))
    rw [name_yes (by rw [h0] at *; omega), ← trim_word]
    (refine TE.ret' (by first | exact .inl rfl | exact .inr rfl) rfl tysOk (()) ?_ rfl (by rfl) ?_; all_goals (try (first | exact trivial | ((with_reducible refine AllP.go ?_); dsimp only [AllP, appP]; repeat' (first | with_reducible rfl | with_reducible exact LeD.refl | refine And.intro ?_ ?_ | (refine congrArg (Value.int _) ?_; first | omega | rfl | (simp only [Int.toNat_natCast]; omega)) | rfl | (refine congrArg Value.bool ?_; assumption) | exact LeD.refl)))))
set_option maxRecDepth 20000 in
theorem isDec_c (l : Bs) (hl : l.length ≤ 1000000) : Con Tryd.prog 31 [.o (.c (.string (sB l)))] [] 0 0 U (fun _ => .o (.sb (decI l))) G0 := by
  refine con_of Tryd.func31 rfl (by kernel_rfl) Tryd.ntmps31 rfl (by first | exact Nat.zero_le _ | decide) (fun _ => ⟨rfl, rfl⟩) fun w S ν => ?_
  have hz := sB_size l
  (repeat' (first | (with_reducible refine AllP.go ?_; (first | exact trivial | exact fun i _ => ⟨_, rfl⟩ | ((try simp only [OS]); repeat' (first | omega | exact fun i _ => ⟨_, rfl⟩ | refine And.intro ?_ ?_)))) | (refine TE.rgo tysOk rfl (by rfl) ?_ ?_) | (with_reducible first | refine t1 ?_ | refine t2 ?_ | refine t3 ?_ | refine t4 ?_ | refine t5 ?_ | refine t6 ?_ | refine t7 ?_ | refine t8 ?_ | refine t9 ?_ | refine tA ?_ | refine tB ?_ | refine tC ?_ | refine tD rfl ?_ | refine tE ?_ | refine tF ?_ | refine tG ?_ | refine tH ?_ | refine tI ?_ | refine tJ ?_ | refine tK ?_ | refine tL ?_) | (with_reducible first | exact PanicOk.body | exact rd.panic | refine PanicOk.then' ?_ | refine PanicOk.block ?_ | refine PanicOk.jump ?_) | (refine TE.drawC (by rfl) (by rfl) (by rfl) (by rfl) ?_) | (refine TE.drawN (by rfl) (by rfl) (by rfl) ?_) | (refine TL.done (by rfl) ?_) | (refine TL.auto tysOk rfl ?_ (by rfl) ?_ ?_) | ((refine TL.one (by rfl) ?_); first | (refine StepL.mem tysOk rfl rfl rfl rfl (by rfl) ?_ (by rfl) ?_) | (refine StepL.pure tysOk rfl rfl rfl rfl (by rfl) ?_ (by rfl) ?_)) | (refine StepL.mem tysOk rfl rfl rfl rfl (by rfl) ?_ (by rfl) ?_) | refine TE.cond_true (by rfl) ?_ | refine TE.cond_false (by rfl) ?_ | ((refine TE.gsplit (by rfl) (by rfl) ?_ ?_ <;> intro h <;> (try simp only [NS] at h) <;> (try (exfalso; first | omega | exact h trivial | exact h | exact h rfl | contradiction))) <;> (refine TE.run tysOk rfl (by rfl) ?_ ?_)) | ((first | refine TL.gsplit (by rfl) (by rfl) ?_ ?_ | refine TE.cond_split (by rfl) ?_ ?_) <;> intro h <;> (try simp only [NS] at h) <;> (try (exfalso; first | omega | exact h trivial | exact h | exact h rfl | contradiction)))))
  refine TE.callW (tpre_c l [45]) rfl (by rfl) (by rfl) rfl (by rfl) (by (first | exact trivial | ((with_reducible refine AllP.go ?_); dsimp only [AllP, appP]; repeat' (first | with_reducible rfl | with_reducible exact LeD.refl | refine And.intro ?_ ?_ | (refine congrArg (Value.int _) ?_; first | omega | rfl | (simp only [Int.toNat_natCast]; omega)) | rfl | (refine congrArg Value.bool ?_; assumption) | assumption | exact LeD.refl)))) ?_
  intro _ _
  rw [pre_body]
  obtain ⟨t, ht⟩ : ∃ t, t = bodyI l := ⟨_, rfl⟩
  have hd : decI l = (!t.isEmpty && t.all digC && (decide (t.getD 0 0 ≠ 48) || decide (l = [48]))) := by rw [ht]; rfl
  have htl : t.length ≤ l.length := by
    rw [ht]; unfold bodyI; split
    · simp
    · exact Nat.le_refl _
  rw [← ht]
  have hz2 := sB_size t
  ((refine TE.run tysOk rfl (by rfl) ?_ ?_); (repeat' (first | (with_reducible refine AllP.go ?_; (first | exact trivial | exact fun i _ => ⟨_, rfl⟩ | ((try simp only [OS]); repeat' (first | omega | exact fun i _ => ⟨_, rfl⟩ | refine And.intro ?_ ?_)))) | (refine TE.rgo tysOk rfl (by rfl) ?_ ?_) | (with_reducible first | refine t1 ?_ | refine t2 ?_ | refine t3 ?_ | refine t4 ?_ | refine t5 ?_ | refine t6 ?_ | refine t7 ?_ | refine t8 ?_ | refine t9 ?_ | refine tA ?_ | refine tB ?_ | refine tC ?_ | refine tD rfl ?_ | refine tE ?_ | refine tF ?_ | refine tG ?_ | refine tH ?_ | refine tI ?_ | refine tJ ?_ | refine tK ?_ | refine tL ?_) | (with_reducible first | exact PanicOk.body | exact rd.panic | refine PanicOk.then' ?_ | refine PanicOk.block ?_ | refine PanicOk.jump ?_) | (refine TE.drawC (by rfl) (by rfl) (by rfl) (by rfl) ?_) | (refine TE.drawN (by rfl) (by rfl) (by rfl) ?_) | (refine TL.done (by rfl) ?_) | (refine TL.auto tysOk rfl ?_ (by rfl) ?_ ?_) | ((refine TL.one (by rfl) ?_); first | (refine StepL.mem tysOk rfl rfl rfl rfl (by rfl) ?_ (by rfl) ?_) | (refine StepL.pure tysOk rfl rfl rfl rfl (by rfl) ?_ (by rfl) ?_)) | (refine StepL.mem tysOk rfl rfl rfl rfl (by rfl) ?_ (by rfl) ?_) | refine TE.cond_true (by rfl) ?_ | refine TE.cond_false (by rfl) ?_ | ((refine TE.gsplit (by rfl) (by rfl) ?_ ?_ <;> intro h <;> (try simp only [NS] at h) <;> (try (exfalso; first | omega | exact h trivial | exact h | exact h rfl | contradiction))) <;> (refine TE.run tysOk rfl (by rfl) ?_ ?_)) | ((first | refine TL.gsplit (by rfl) (by rfl) ?_ ?_ | refine TE.cond_split (by rfl) ?_ ?_) <;> intro h <;> (try simp only [NS] at h) <;> (try (exfalso; first | omega | exact h trivial | exact h | exact h rfl | contradiction))))))
  · have : t = [] := List.length_eq_zero_iff.1 (by omega)
    rw [hd, this]
    (refine TE.ret' (by first | exact .inl rfl | exact .inr rfl) rfl tysOk (()) ?_ rfl (by rfl) ?_; all_goals (try (first | exact trivial | ((with_reducible refine AllP.go ?_); dsimp only [AllP, appP]; repeat' (first | with_reducible rfl | with_reducible exact LeD.refl | refine And.intro ?_ ?_ | (refine congrArg (Value.int _) ?_; first | omega | rfl | (simp only [Int.toNat_natCast]; omega)) | rfl | (refine congrArg Value.bool ?_; assumption) | exact LeD.refl)))))
  · refine TE.callW (trim_c t digL (by omega) (by decide) dig_ascii) rfl (by rfl) (by rfl) rfl (by rfl) (by (first | exact trivial | ((with_reducible refine AllP.go ?_); dsimp only [AllP, appP]; repeat' (first | with_reducible rfl | with_reducible exact LeD.refl | refine And.intro ?_ ?_ | (refine congrArg (Value.int _) ?_; first | omega | rfl | (simp only [Int.toNat_natCast]; omega)) | rfl | (refine congrArg Value.bool ?_; assumption) | assumption | exact LeD.refl)))) ?_
    intro _ _
    have hne : t.isEmpty = false := by
      cases t with
      | nil => exact absurd hz2 (by omega)
      | cons c r => rfl
    ((refine TE.run tysOk rfl (by rfl) ?_ ?_); (repeat' (first | (with_reducible refine AllP.go ?_; (first | exact trivial | exact fun i _ => ⟨_, rfl⟩ | ((try simp only [OS]); repeat' (first | omega | exact fun i _ => ⟨_, rfl⟩ | refine And.intro ?_ ?_)))) | (refine TE.rgo tysOk rfl (by rfl) ?_ ?_) | (with_reducible first | refine t1 ?_ | refine t2 ?_ | refine t3 ?_ | refine t4 ?_ | refine t5 ?_ | refine t6 ?_ | refine t7 ?_ | refine t8 ?_ | refine t9 ?_ | refine tA ?_ | refine tB ?_ | refine tC ?_ | refine tD rfl ?_ | refine tE ?_ | refine tF ?_ | refine tG ?_ | refine tH ?_ | refine tI ?_ | refine tJ ?_ | refine tK ?_ | refine tL ?_) | (with_reducible first | exact PanicOk.body | exact rd.panic | refine PanicOk.then' ?_ | refine PanicOk.block ?_ | refine PanicOk.jump ?_) | (refine TE.drawC (by rfl) (by rfl) (by rfl) (by rfl) ?_) | (refine TE.drawN (by rfl) (by rfl) (by rfl) ?_) | (refine TL.done (by rfl) ?_) | (refine TL.auto tysOk rfl ?_ (by rfl) ?_ ?_) | ((refine TL.one (by rfl) ?_); first | (refine StepL.mem tysOk rfl rfl rfl rfl (by rfl) ?_ (by rfl) ?_) | (refine StepL.pure tysOk rfl rfl rfl rfl (by rfl) ?_ (by rfl) ?_)) | (refine StepL.mem tysOk rfl rfl rfl rfl (by rfl) ?_ (by rfl) ?_) | refine TE.cond_true (by rfl) ?_ | refine TE.cond_false (by rfl) ?_ | ((refine TE.gsplit (by rfl) (by rfl) ?_ ?_ <;> intro h <;> (try simp only [NS] at h) <;> (try (exfalso; first | omega | exact h trivial | exact h | exact h rfl | contradiction))) <;> (refine TE.run tysOk rfl (by rfl) ?_ ?_)) | ((first | refine TL.gsplit (by rfl) (by rfl) ?_ ?_ | refine TE.cond_split (by rfl) ?_ ?_) <;> intro h <;> (try simp only [NS] at h) <;> (try (exfalso; first | omega | exact h trivial | exact h | exact h rfl | contradiction))))))
    · rw [hd, dig_no (by assumption)]
      simp only [Bool.and_false, Bool.false_and]
      (refine TE.ret' (by first | exact .inl rfl | exact .inr rfl) rfl tysOk (()) ?_ rfl (by rfl) ?_; all_goals (try (first | exact trivial | ((with_reducible refine AllP.go ?_); dsimp only [AllP, appP]; repeat' (first | with_reducible rfl | with_reducible exact LeD.refl | refine And.intro ?_ ?_ | (refine congrArg (Value.int _) ?_; first | omega | rfl | (simp only [Int.toNat_natCast]; omega)) | rfl | (refine congrArg Value.bool ?_; assumption) | exact LeD.refl)))))
    · rw [hd, hne, dig_yes (by assumption), decide_eq_true (show t.getD 0 0 ≠ 48 from fun e => n48 (by assumption) e)]
      (refine TE.ret' (by first | exact .inl rfl | exact .inr rfl) rfl tysOk (()) ?_ rfl (by rfl) ?_; all_goals (try (first | exact trivial | ((with_reducible refine AllP.go ?_); dsimp only [AllP, appP]; repeat' (first | with_reducible rfl | with_reducible exact LeD.refl | refine And.intro ?_ ?_ | (refine congrArg (Value.int _) ?_; first | omega | rfl | (simp only [Int.toNat_natCast]; omega)) | rfl | (refine congrArg Value.bool ?_; assumption) | exact LeD.refl)))))
    · rw [hd, hne, dig_yes (by assumption), decide_eq_false (show ¬ t.getD 0 0 ≠ 48 from fun e => e (y48 (by assumption))), show decide (l = [48]) = decide (sB l = ByteArray.mk #[48]) from decide_eq_decide.2 (sB_inj (b := [48])).symm]
      (refine TE.ret' (by first | exact .inl rfl | exact .inr rfl) rfl tysOk (()) ?_ rfl (by rfl) ?_; all_goals (try (first | exact trivial | ((with_reducible refine AllP.go ?_); dsimp only [AllP, appP]; repeat' (first | with_reducible rfl | with_reducible exact LeD.refl | refine And.intro ?_ ?_ | (refine congrArg (Value.int _) ?_; first | omega | rfl | (simp only [Int.toNat_natCast]; omega)) | rfl | (refine congrArg Value.bool ?_; assumption) | exact LeD.refl)))))
set_option maxRecDepth 20000 in
theorem Int_c (m : Int) (te : TypeId) (pe : Value) (l : Bs) (low high : Int) (hl : l.length ≤ 1000000) : Con Tryd.prog 13 [.o (.c (.string (sB l))), .o (.c (.int .i64 low)), .o (.c (.int .i64 high))] (glC m te pe) 4 4 U (fun _ => .t [.inl (.c (.int .i64 (intI l low high).1)), .inl (.c (.int .i64 (intI l low high).2))]) (fun _ => glC m te pe) := by
  refine con_of Tryd.func13 rfl (by kernel_rfl) Tryd.ntmps13 rfl (by first | exact Nat.zero_le _ | decide) (fun _ => ⟨rfl, rfl⟩) fun w S ν => ?_
  obtain ⟨R, hR⟩ : ∃ R, R = intI l low high := ⟨_, rfl⟩
  obtain ⟨D, hD⟩ : ∃ D, D = decI l := ⟨_, rfl⟩
  obtain ⟨V, hV⟩ : ∃ V, V = valI l := ⟨_, rfl⟩
  obtain ⟨Z, hZ⟩ : ∃ Z, Z = Lib.intSat 64 l := ⟨_, rfl⟩
  have c1 := isDec_c l hl
  have hp : D = true → Lib.parseIntB 64 l = if V < -9223372036854775808 ∨ 9223372036854775807 < V then .range else .ok V := fun h => by rw [hV]; exact parse_dec (hD ▸ h)
  have hi : R = if D = false then (0, 6) else if V < -9223372036854775808 ∨ 9223372036854775807 < V ∨ V < low ∨ high < V then (0, 7) else (V, 0) := by rw [hR, hD, hV]; rfl
  have c2 := fun h => parseR_c m te pe l hl h
  have c3 := fun h => parseOk_c m te pe l hl V h
  rw [← hD] at c1
  rw [← hR]
  rw [← hZ] at c2
  generalize Lib.parseIntB 64 l = PP at *
  clear hR hD hV hZ
  (repeat' (first | (with_reducible refine AllP.go ?_; (first | exact trivial | exact fun i _ => ⟨_, rfl⟩ | ((try simp only [OS]); repeat' (first | omega | exact fun i _ => ⟨_, rfl⟩ | refine And.intro ?_ ?_)))) | (refine TE.rgo tysOk rfl (by rfl) ?_ ?_) | (with_reducible first | refine t1 ?_ | refine t2 ?_ | refine t3 ?_ | refine t4 ?_ | refine t5 ?_ | refine t6 ?_ | refine t7 ?_ | refine t8 ?_ | refine t9 ?_ | refine tA ?_ | refine tB ?_ | refine tC ?_ | refine tD rfl ?_ | refine tE ?_ | refine tF ?_ | refine tG ?_ | refine tH ?_ | refine tI ?_ | refine tJ ?_ | refine tK ?_ | refine tL ?_) | (with_reducible first | exact PanicOk.body | exact rd.panic | refine PanicOk.then' ?_ | refine PanicOk.block ?_ | refine PanicOk.jump ?_) | (refine TE.drawC (by rfl) (by rfl) (by rfl) (by rfl) ?_) | (refine TE.drawN (by rfl) (by rfl) (by rfl) ?_) | (refine TL.done (by rfl) ?_) | (refine TL.auto tysOk rfl ?_ (by rfl) ?_ ?_) | ((refine TL.one (by rfl) ?_); first | (refine StepL.mem tysOk rfl rfl rfl rfl (by rfl) ?_ (by rfl) ?_) | (refine StepL.pure tysOk rfl rfl rfl rfl (by rfl) ?_ (by rfl) ?_)) | (refine StepL.mem tysOk rfl rfl rfl rfl (by rfl) ?_ (by rfl) ?_) | refine TE.cond_true (by rfl) ?_ | refine TE.cond_false (by rfl) ?_ | ((refine TE.gsplit (by rfl) (by rfl) ?_ ?_ <;> intro h <;> (try simp only [NS] at h) <;> (try (exfalso; first | omega | exact h trivial | exact h | exact h rfl | contradiction))) <;> (refine TE.run tysOk rfl (by rfl) ?_ ?_)) | ((first | refine TL.gsplit (by rfl) (by rfl) ?_ ?_ | refine TE.cond_split (by rfl) ?_ ?_) <;> intro h <;> (try simp only [NS] at h) <;> (try (exfalso; first | omega | exact h trivial | exact h | exact h rfl | contradiction)))))
  refine TE.callW (c1) rfl (by rfl) (by rfl) rfl (by rfl) (by (first | exact trivial | ((with_reducible refine AllP.go ?_); dsimp only [AllP, appP]; repeat' (first | with_reducible rfl | with_reducible exact LeD.refl | refine And.intro ?_ ?_ | (refine congrArg (Value.int _) ?_; first | omega | rfl | (simp only [Int.toNat_natCast]; omega)) | rfl | (refine congrArg Value.bool ?_; assumption) | assumption | exact LeD.refl)))) ?_
  intro _ _
  ((refine TE.run tysOk rfl (by rfl) ?_ ?_); (repeat' (first | (with_reducible refine AllP.go ?_; (first | exact trivial | exact fun i _ => ⟨_, rfl⟩ | ((try simp only [OS]); repeat' (first | omega | exact fun i _ => ⟨_, rfl⟩ | refine And.intro ?_ ?_)))) | (refine TE.rgo tysOk rfl (by rfl) ?_ ?_) | (with_reducible first | refine t1 ?_ | refine t2 ?_ | refine t3 ?_ | refine t4 ?_ | refine t5 ?_ | refine t6 ?_ | refine t7 ?_ | refine t8 ?_ | refine t9 ?_ | refine tA ?_ | refine tB ?_ | refine tC ?_ | refine tD rfl ?_ | refine tE ?_ | refine tF ?_ | refine tG ?_ | refine tH ?_ | refine tI ?_ | refine tJ ?_ | refine tK ?_ | refine tL ?_) | (with_reducible first | exact PanicOk.body | exact rd.panic | refine PanicOk.then' ?_ | refine PanicOk.block ?_ | refine PanicOk.jump ?_) | (refine TE.drawC (by rfl) (by rfl) (by rfl) (by rfl) ?_) | (refine TE.drawN (by rfl) (by rfl) (by rfl) ?_) | (refine TL.done (by rfl) ?_) | (refine TL.auto tysOk rfl ?_ (by rfl) ?_ ?_) | ((refine TL.one (by rfl) ?_); first | (refine StepL.mem tysOk rfl rfl rfl rfl (by rfl) ?_ (by rfl) ?_) | (refine StepL.pure tysOk rfl rfl rfl rfl (by rfl) ?_ (by rfl) ?_)) | (refine StepL.mem tysOk rfl rfl rfl rfl (by rfl) ?_ (by rfl) ?_) | refine TE.cond_true (by rfl) ?_ | refine TE.cond_false (by rfl) ?_ | ((refine TE.gsplit (by rfl) (by rfl) ?_ ?_ <;> intro h <;> (try simp only [NS] at h) <;> (try (exfalso; first | omega | exact h trivial | exact h | exact h rfl | contradiction))) <;> (refine TE.run tysOk rfl (by rfl) ?_ ?_)) | ((first | refine TL.gsplit (by rfl) (by rfl) ?_ ?_ | refine TE.cond_split (by rfl) ?_ ?_) <;> intro h <;> (try simp only [NS] at h) <;> (try (exfalso; first | omega | exact h trivial | exact h | exact h rfl | contradiction))))))
  · have he : R = (0, 6) := by rw [hi, if_pos (by assumption)]
    rw [he]
    (refine TE.ret' (by first | exact .inl rfl | exact .inr rfl) rfl tysOk (()) ?_ rfl (by rfl) ?_; all_goals (try (first | exact trivial | ((with_reducible refine AllP.go ?_); dsimp only [AllP, appP]; repeat' (first | with_reducible rfl | with_reducible exact LeD.refl | refine And.intro ?_ ?_ | (refine congrArg (Value.int _) ?_; first | omega | rfl | (simp only [Int.toNat_natCast]; omega)) | rfl | (refine congrArg Value.bool ?_; assumption) | exact LeD.refl)))))
  · have hp := hp (by assumption)
    rw [if_neg (by simp_all)] at hi
    by_cases hr : V < -9223372036854775808 ∨ 9223372036854775807 < V
    · rw [if_pos hr] at hp
      rw [hi, if_pos (by omega)]
      refine TE.callW (c2 hp) rfl (by rfl) (by rfl) rfl (by rfl) (by (first | exact trivial | ((with_reducible refine AllP.go ?_); dsimp only [AllP, appP]; repeat' (first | with_reducible rfl | with_reducible exact LeD.refl | refine And.intro ?_ ?_ | (refine congrArg (Value.int _) ?_; first | omega | rfl | (simp only [Int.toNat_natCast]; omega)) | rfl | (refine congrArg Value.bool ?_; assumption) | assumption | exact LeD.refl)))) ?_
      rintro v ⟨tp, p, rfl⟩
      ((refine TE.run tysOk rfl (by rfl) ?_ ?_); try (with_reducible refine AllP.go ?_; (first | exact trivial | exact fun i _ => ⟨_, rfl⟩ | ((try simp only [OS]); repeat' (first | omega | exact fun i _ => ⟨_, rfl⟩ | refine And.intro ?_ ?_)))))
      (repeat (with_reducible first | refine t1 ?_ | refine t2 ?_ | refine t3 ?_ | refine t4 ?_ | refine t5 ?_ | refine t6 ?_ | refine t7 ?_ | refine t8 ?_ | refine t9 ?_ | refine tA ?_ | refine tB ?_ | refine tC ?_ | refine tD rfl ?_ | refine tE ?_ | refine tF ?_ | refine tG ?_ | refine tH ?_ | refine tI ?_ | refine tJ ?_ | refine tK ?_ | refine tL ?_))
      ((refine TE.rgo tysOk rfl (by rfl) ?_ ?_); try (with_reducible refine AllP.go ?_; (first | exact trivial | exact fun i _ => ⟨_, rfl⟩ | ((try simp only [OS]); repeat' (first | omega | exact fun i _ => ⟨_, rfl⟩ | refine And.intro ?_ ?_)))))
      (refine TE.step rfl rfl rfl (fun _ h => nomatch h) (m_ifNil (b := false) rfl (by first | exact .inl rfl | exact .inr rfl) (by kernel_rfl) rfl (.inr ⟨⟨_, _, rfl⟩, rfl⟩)) ?_; rintro _ rfl)
      ((refine TE.run tysOk rfl (by rfl) ?_ ?_); (repeat' (first | (with_reducible refine AllP.go ?_; (first | exact trivial | exact fun i _ => ⟨_, rfl⟩ | ((try simp only [OS]); repeat' (first | omega | exact fun i _ => ⟨_, rfl⟩ | refine And.intro ?_ ?_)))) | (refine TE.rgo tysOk rfl (by rfl) ?_ ?_) | (with_reducible first | refine t1 ?_ | refine t2 ?_ | refine t3 ?_ | refine t4 ?_ | refine t5 ?_ | refine t6 ?_ | refine t7 ?_ | refine t8 ?_ | refine t9 ?_ | refine tA ?_ | refine tB ?_ | refine tC ?_ | refine tD rfl ?_ | refine tE ?_ | refine tF ?_ | refine tG ?_ | refine tH ?_ | refine tI ?_ | refine tJ ?_ | refine tK ?_ | refine tL ?_) | (with_reducible first | exact PanicOk.body | exact rd.panic | refine PanicOk.then' ?_ | refine PanicOk.block ?_ | refine PanicOk.jump ?_) | (refine TE.drawC (by rfl) (by rfl) (by rfl) (by rfl) ?_) | (refine TE.drawN (by rfl) (by rfl) (by rfl) ?_) | (refine TL.done (by rfl) ?_) | (refine TL.auto tysOk rfl ?_ (by rfl) ?_ ?_) | ((refine TL.one (by rfl) ?_); first | (refine StepL.mem tysOk rfl rfl rfl rfl (by rfl) ?_ (by rfl) ?_) | (refine StepL.pure tysOk rfl rfl rfl rfl (by rfl) ?_ (by rfl) ?_)) | (refine StepL.mem tysOk rfl rfl rfl rfl (by rfl) ?_ (by rfl) ?_) | refine TE.cond_true (by rfl) ?_ | refine TE.cond_false (by rfl) ?_ | ((refine TE.gsplit (by rfl) (by rfl) ?_ ?_ <;> intro h <;> (try simp only [NS] at h) <;> (try (exfalso; first | omega | exact h trivial | exact h | exact h rfl | contradiction))) <;> (refine TE.run tysOk rfl (by rfl) ?_ ?_)) | ((first | refine TL.gsplit (by rfl) (by rfl) ?_ ?_ | refine TE.cond_split (by rfl) ?_ ?_) <;> intro h <;> (try simp only [NS] at h) <;> (try (exfalso; first | omega | exact h trivial | exact h | exact h rfl | contradiction))))))
      (refine TE.ret' (by first | exact .inl rfl | exact .inr rfl) rfl tysOk (()) ?_ rfl (by rfl) ?_; all_goals (try (first | exact trivial | ((with_reducible refine AllP.go ?_); dsimp only [AllP, appP]; repeat' (first | with_reducible rfl | with_reducible exact LeD.refl | refine And.intro ?_ ?_ | (refine congrArg (Value.int _) ?_; first | omega | rfl | (simp only [Int.toNat_natCast]; omega)) | rfl | (refine congrArg Value.bool ?_; assumption) | exact LeD.refl)))))
    · rw [if_neg hr] at hp
      refine TE.callW (c3 hp) rfl (by rfl) (by rfl) rfl (by rfl) (by (first | exact trivial | ((with_reducible refine AllP.go ?_); dsimp only [AllP, appP]; repeat' (first | with_reducible rfl | with_reducible exact LeD.refl | refine And.intro ?_ ?_ | (refine congrArg (Value.int _) ?_; first | omega | rfl | (simp only [Int.toNat_natCast]; omega)) | rfl | (refine congrArg Value.bool ?_; assumption) | assumption | exact LeD.refl)))) ?_
      intro _ _
      ((refine TE.run tysOk rfl (by rfl) ?_ ?_); try (with_reducible refine AllP.go ?_; (first | exact trivial | exact fun i _ => ⟨_, rfl⟩ | ((try simp only [OS]); repeat' (first | omega | exact fun i _ => ⟨_, rfl⟩ | refine And.intro ?_ ?_)))))
      (repeat (with_reducible first | refine t1 ?_ | refine t2 ?_ | refine t3 ?_ | refine t4 ?_ | refine t5 ?_ | refine t6 ?_ | refine t7 ?_ | refine t8 ?_ | refine t9 ?_ | refine tA ?_ | refine tB ?_ | refine tC ?_ | refine tD rfl ?_ | refine tE ?_ | refine tF ?_ | refine tG ?_ | refine tH ?_ | refine tI ?_ | refine tJ ?_ | refine tK ?_ | refine tL ?_))
      ((refine TE.rgo tysOk rfl (by rfl) ?_ ?_); try (with_reducible refine AllP.go ?_; (first | exact trivial | exact fun i _ => ⟨_, rfl⟩ | ((try simp only [OS]); repeat' (first | omega | exact fun i _ => ⟨_, rfl⟩ | refine And.intro ?_ ?_)))))
      (refine TE.step rfl rfl rfl (fun _ h => nomatch h) (m_ifNil (b := true) rfl (by first | exact .inl rfl | exact .inr rfl) (by kernel_rfl) rfl (.inl ⟨rfl, rfl⟩)) ?_; rintro _ rfl)
      ((refine TE.run tysOk rfl (by rfl) ?_ ?_); (repeat' (first | (with_reducible refine AllP.go ?_; (first | exact trivial | exact fun i _ => ⟨_, rfl⟩ | ((try simp only [OS]); repeat' (first | omega | exact fun i _ => ⟨_, rfl⟩ | refine And.intro ?_ ?_)))) | (refine TE.rgo tysOk rfl (by rfl) ?_ ?_) | (with_reducible first | refine t1 ?_ | refine t2 ?_ | refine t3 ?_ | refine t4 ?_ | refine t5 ?_ | refine t6 ?_ | refine t7 ?_ | refine t8 ?_ | refine t9 ?_ | refine tA ?_ | refine tB ?_ | refine tC ?_ | refine tD rfl ?_ | refine tE ?_ | refine tF ?_ | refine tG ?_ | refine tH ?_ | refine tI ?_ | refine tJ ?_ | refine tK ?_ | refine tL ?_) | (with_reducible first | exact PanicOk.body | exact rd.panic | refine PanicOk.then' ?_ | refine PanicOk.block ?_ | refine PanicOk.jump ?_) | (refine TE.drawC (by rfl) (by rfl) (by rfl) (by rfl) ?_) | (refine TE.drawN (by rfl) (by rfl) (by rfl) ?_) | (refine TL.done (by rfl) ?_) | (refine TL.auto tysOk rfl ?_ (by rfl) ?_ ?_) | ((refine TL.one (by rfl) ?_); first | (refine StepL.mem tysOk rfl rfl rfl rfl (by rfl) ?_ (by rfl) ?_) | (refine StepL.pure tysOk rfl rfl rfl rfl (by rfl) ?_ (by rfl) ?_)) | (refine StepL.mem tysOk rfl rfl rfl rfl (by rfl) ?_ (by rfl) ?_) | refine TE.cond_true (by rfl) ?_ | refine TE.cond_false (by rfl) ?_ | ((refine TE.gsplit (by rfl) (by rfl) ?_ ?_ <;> intro h <;> (try simp only [NS] at h) <;> (try (exfalso; first | omega | exact h trivial | exact h | exact h rfl | contradiction))) <;> (refine TE.run tysOk rfl (by rfl) ?_ ?_)) | ((first | refine TL.gsplit (by rfl) (by rfl) ?_ ?_ | refine TE.cond_split (by rfl) ?_ ?_) <;> intro h <;> (try simp only [NS] at h) <;> (try (exfalso; first | omega | exact h trivial | exact h | exact h rfl | contradiction))))))
      · rw [hi, if_pos (by omega)]; (refine TE.ret' (by first | exact .inl rfl | exact .inr rfl) rfl tysOk (()) ?_ rfl (by rfl) ?_; all_goals (try (first | exact trivial | ((with_reducible refine AllP.go ?_); dsimp only [AllP, appP]; repeat' (first | with_reducible rfl | with_reducible exact LeD.refl | refine And.intro ?_ ?_ | (refine congrArg (Value.int _) ?_; first | omega | rfl | (simp only [Int.toNat_natCast]; omega)) | rfl | (refine congrArg Value.bool ?_; assumption) | exact LeD.refl)))))
      · rw [hi, if_pos (by omega)]; (refine TE.ret' (by first | exact .inl rfl | exact .inr rfl) rfl tysOk (()) ?_ rfl (by rfl) ?_; all_goals (try (first | exact trivial | ((with_reducible refine AllP.go ?_); dsimp only [AllP, appP]; repeat' (first | with_reducible rfl | with_reducible exact LeD.refl | refine And.intro ?_ ?_ | (refine congrArg (Value.int _) ?_; first | omega | rfl | (simp only [Int.toNat_natCast]; omega)) | rfl | (refine congrArg Value.bool ?_; assumption) | exact LeD.refl)))))
      · rw [hi, if_neg (by omega)]; (refine TE.ret' (by first | exact .inl rfl | exact .inr rfl) rfl tysOk (()) ?_ rfl (by rfl) ?_; all_goals (try (first | exact trivial | ((with_reducible refine AllP.go ?_); dsimp only [AllP, appP]; repeat' (first | with_reducible rfl | with_reducible exact LeD.refl | refine And.intro ?_ ?_ | (refine congrArg (Value.int _) ?_; first | omega | rfl | (simp only [Int.toNat_natCast]; omega)) | rfl | (refine congrArg Value.bool ?_; assumption) | exact LeD.refl)))))
set_option maxRecDepth 20000 in
theorem Dig_c (m : Int) (te : TypeId) (pe : Value) (n : Int) (hn : -9223372036854775808 ≤ n ∧ n ≤ 9223372036854775807) : Con Tryd.prog 17 [.o (.c (.int .i64 n))] (glC m te pe) 4 4 U (fun _ => .o (.c (.string (sB (Lib.itoa n))))) (fun _ => glC m te pe) := by
  refine con_of Tryd.func17 rfl (by kernel_rfl) Tryd.ntmps17 rfl (by first | exact Nat.zero_le _ | decide) (fun _ => ⟨rfl, rfl⟩) fun w S ν => ?_
  (repeat' (first | (with_reducible refine AllP.go ?_; (first | exact trivial | exact fun i _ => ⟨_, rfl⟩ | ((try simp only [OS]); repeat' (first | omega | exact fun i _ => ⟨_, rfl⟩ | refine And.intro ?_ ?_)))) | (refine TE.rgo tysOk rfl (by rfl) ?_ ?_) | (with_reducible first | refine t1 ?_ | refine t2 ?_ | refine t3 ?_ | refine t4 ?_ | refine t5 ?_ | refine t6 ?_ | refine t7 ?_ | refine t8 ?_ | refine t9 ?_ | refine tA ?_ | refine tB ?_ | refine tC ?_ | refine tD rfl ?_ | refine tE ?_ | refine tF ?_ | refine tG ?_ | refine tH ?_ | refine tI ?_ | refine tJ ?_ | refine tK ?_ | refine tL ?_) | (with_reducible first | exact PanicOk.body | exact rd.panic | refine PanicOk.then' ?_ | refine PanicOk.block ?_ | refine PanicOk.jump ?_) | (refine TE.drawC (by rfl) (by rfl) (by rfl) (by rfl) ?_) | (refine TE.drawN (by rfl) (by rfl) (by rfl) ?_) | (refine TL.done (by rfl) ?_) | (refine TL.auto tysOk rfl ?_ (by rfl) ?_ ?_) | ((refine TL.one (by rfl) ?_); first | (refine StepL.mem tysOk rfl rfl rfl rfl (by rfl) ?_ (by rfl) ?_) | (refine StepL.pure tysOk rfl rfl rfl rfl (by rfl) ?_ (by rfl) ?_)) | (refine StepL.mem tysOk rfl rfl rfl rfl (by rfl) ?_ (by rfl) ?_) | refine TE.cond_true (by rfl) ?_ | refine TE.cond_false (by rfl) ?_ | ((refine TE.gsplit (by rfl) (by rfl) ?_ ?_ <;> intro h <;> (try simp only [NS] at h) <;> (try (exfalso; first | omega | exact h trivial | exact h | exact h rfl | contradiction))) <;> (refine TE.run tysOk rfl (by rfl) ?_ ?_)) | ((first | refine TL.gsplit (by rfl) (by rfl) ?_ ?_ | refine TE.cond_split (by rfl) ?_ ?_) <;> intro h <;> (try simp only [NS] at h) <;> (try (exfalso; first | omega | exact h trivial | exact h | exact h rfl | contradiction)))))
  refine TE.callW (fmt_c m te pe n hn) rfl (by rfl) (by rfl) rfl (by rfl) (by (first | exact trivial | ((with_reducible refine AllP.go ?_); dsimp only [AllP, appP]; repeat' (first | with_reducible rfl | with_reducible exact LeD.refl | refine And.intro ?_ ?_ | (refine congrArg (Value.int _) ?_; first | omega | rfl | (simp only [Int.toNat_natCast]; omega)) | rfl | (refine congrArg Value.bool ?_; assumption) | assumption | exact LeD.refl)))) ?_
  intro _ _
  ((refine TE.run tysOk rfl (by rfl) ?_ ?_); (repeat' (first | (with_reducible refine AllP.go ?_; (first | exact trivial | exact fun i _ => ⟨_, rfl⟩ | ((try simp only [OS]); repeat' (first | omega | exact fun i _ => ⟨_, rfl⟩ | refine And.intro ?_ ?_)))) | (refine TE.rgo tysOk rfl (by rfl) ?_ ?_) | (with_reducible first | refine t1 ?_ | refine t2 ?_ | refine t3 ?_ | refine t4 ?_ | refine t5 ?_ | refine t6 ?_ | refine t7 ?_ | refine t8 ?_ | refine t9 ?_ | refine tA ?_ | refine tB ?_ | refine tC ?_ | refine tD rfl ?_ | refine tE ?_ | refine tF ?_ | refine tG ?_ | refine tH ?_ | refine tI ?_ | refine tJ ?_ | refine tK ?_ | refine tL ?_) | (with_reducible first | exact PanicOk.body | exact rd.panic | refine PanicOk.then' ?_ | refine PanicOk.block ?_ | refine PanicOk.jump ?_) | (refine TE.drawC (by rfl) (by rfl) (by rfl) (by rfl) ?_) | (refine TE.drawN (by rfl) (by rfl) (by rfl) ?_) | (refine TL.done (by rfl) ?_) | (refine TL.auto tysOk rfl ?_ (by rfl) ?_ ?_) | ((refine TL.one (by rfl) ?_); first | (refine StepL.mem tysOk rfl rfl rfl rfl (by rfl) ?_ (by rfl) ?_) | (refine StepL.pure tysOk rfl rfl rfl rfl (by rfl) ?_ (by rfl) ?_)) | (refine StepL.mem tysOk rfl rfl rfl rfl (by rfl) ?_ (by rfl) ?_) | refine TE.cond_true (by rfl) ?_ | refine TE.cond_false (by rfl) ?_ | ((refine TE.gsplit (by rfl) (by rfl) ?_ ?_ <;> intro h <;> (try simp only [NS] at h) <;> (try (exfalso; first | omega | exact h trivial | exact h | exact h rfl | contradiction))) <;> (refine TE.run tysOk rfl (by rfl) ?_ ?_)) | ((first | refine TL.gsplit (by rfl) (by rfl) ?_ ?_ | refine TE.cond_split (by rfl) ?_ ?_) <;> intro h <;> (try simp only [NS] at h) <;> (try (exfalso; first | omega | exact h trivial | exact h | exact h rfl | contradiction))))))
  (refine TE.ret' (by first | exact .inl rfl | exact .inr rfl) rfl tysOk (()) ?_ rfl (by rfl) ?_; all_goals (try (first | exact trivial | ((with_reducible refine AllP.go ?_); dsimp only [AllP, appP]; repeat' (first | with_reducible rfl | with_reducible exact LeD.refl | refine And.intro ?_ ?_ | (refine congrArg (Value.int _) ?_; first | omega | rfl | (simp only [Int.toNat_natCast]; omega)) | rfl | (refine congrArg Value.bool ?_; assumption) | exact LeD.refl)))))
end Go.Proofs.YtmeapfckibbbbaaDoor.Am
