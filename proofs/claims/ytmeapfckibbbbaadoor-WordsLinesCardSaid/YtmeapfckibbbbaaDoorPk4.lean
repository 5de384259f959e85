/- Texts of this claim, joined. -/
import Derived.Test.YtmeapfckibbbbaaDoorPk3
import Derived.Test.YtmeapfckibbbbaaDoorProg
import Derived.Shelf.Strings.Builder1
import Derived.Shelf.Strings.Builder2
import Derived.Shelf.Strings.OnBuilder
import Derived.Shelf.Strings.Trim
import Derived.Shelf.Small.Utf8
import Derived.Shelf.Small.Strs
import Derived.Shelf.Strings.BuilderF
import Derived.Shelf.Strings.BuilderK
import Derived.Shelf.Utf8.RuneCount
import Derived.Shelf.Strings.Builder2Cap
import Derived.Shelf.Strconv.Itoa0
import Derived.Shelf.Strconv.Itoa1
import Derived.Shelf.LaysM
import Derived.Shelf.Strconv.Itoa2
import Derived.Shelf.Strconv.Itoa3
import Derived.Shelf.Strconv.Itoa4
import Derived.Shelf.Strconv.ParseIntEmpty
import Derived.Shelf.Strconv.Clone
import Derived.Shelf.Strconv.SyntaxError
import Derived.Shelf.LaysC
import Derived.Shelf.Strconv.ToError
import Derived.Shelf.Strconv.Lower
import Derived.Shelf.Strconv.ParseUint10
import Derived.Shelf.Strconv.ParseUint10Empty
import Derived.Shelf.Strconv.ParseUint10Any
import Derived.Shelf.Strconv.ParseInt10
import Derived.Shelf.Strconv.RangeError
import Derived.Shelf.Strconv.ToErrorRange
import Derived.Shelf.Strconv.ParseUintEmpty
import Derived.Shelf.Strconv.ParseUint10b64
import Derived.Shelf.Strconv.ParseUint10b32
import Derived.Shelf.Strconv.ParseUint10b16
import Derived.Shelf.Strconv.ParseUint10b8
import Derived.Shelf.Strconv.ParseUint10At
import Derived.Shelf.Strconv.ParseInt10At64
import Derived.Shelf.Strconv.ParseInt10At32
import Derived.Shelf.Strconv.ParseInt10At16
import Derived.Shelf.Strconv.ParseInt10At8
import Derived.Shelf.Strconv.ParseInt10All
import Derived.Shelf.Strconv.ParseIntPublic10
import Derived.Shelf.Strconv.ErrVarParseInt
import Derived.Shelf.Strings.Search1
import Derived.Shelf.Strings.Search2
import Derived.Shelf.Strings.Search3
import Derived.Shelf.Strings.Cut
import Derived.Shelf.Strings.Count
import Derived.Shelf.Strings.Shaped
import Derived.Shelf.Strings.Prefix
import Derived.Shelf.Strings.Split
import Derived.Shelf.Strings.SplitShaped
import Derived.Shelf.Unicode.Decode
import Derived.Shelf.Strings.Runes
import Derived.Shelf.Strings.RuneCount
import Derived.Shelf.Strings.AsciiSet
import Derived.Shelf.Strings.Explode
import Derived.Shelf.Unicode.DecodeSlow
import Derived.Shelf.Unicode.DecodeAny
import Derived.Shelf.Unicode.DecodeLast
import Derived.Shelf.Strings.BuilderCap
import Derived.Shelf.Strings.SlTrimAscii
import Derived.KernelRfl
set_option linter.unusedSimpArgs false
set_option linter.unusedVariables false
/- The table of the types. -/
namespace Go.Proofs.YtmeapfckibbbbaaDoor.Am
def tys : Tys := [
  ⟨1, .other, 1, 8, [.nilFunc], false⟩,
  ⟨2, .int .i64, 1, 8, [.int .i64 0], false⟩,
  ⟨3, .int .i64, 1, 8, [.int .i64 0], false⟩,
  ⟨4, .bool, 1, 1, [.bool false], false⟩,
  ⟨5, .int .u8, 1, 1, [.int .u8 0], false⟩,
  ⟨9, .str, 1, 16, [.string ⟨#[]⟩], false⟩,
  ⟨12, .int .u64, 1, 8, [.int .u64 0], false⟩,
  ⟨15, .other, 1, 8, [.pointer none], false⟩,
  ⟨16, .other, 1, 8, [.pointer none], false⟩,
  ⟨17, .other, 1, 8, [.pointer none], false⟩,
  ⟨20, .other, 1, 16, [.nilIface], false⟩,
  ⟨21, .int .i32, 1, 4, [.int .i32 0], false⟩,
  ⟨22, .other, 1, 8, [.nilFunc], false⟩,
  ⟨23, .slice 43, 1, 24, [.slice none 0 0], false⟩,
  ⟨24, .int .i64, 1, 8, [.int .i64 0], false⟩,
  ⟨26, .other, 1, 8, [.nilFunc], false⟩,
  ⟨27, .other, 1, 8, [.nilFunc], false⟩,
  ⟨28, .other, 1, 8, [.nilFunc], false⟩,
  ⟨30, .other, 1, 8, [.nilFunc], false⟩,
  ⟨31, .other, 1, 8, [.nilFunc], false⟩,
  ⟨32, .other, 1, 8, [.nilFunc], false⟩,
  ⟨34, .other, 1, 8, [.nilFunc], false⟩,
  ⟨35, .other, 1, 8, [.nilFunc], false⟩,
  ⟨36, .other, 1, 8, [.nilFunc], false⟩,
  ⟨37, .other, 1, 8, [.nilFunc], false⟩,
  ⟨38, .slice 5, 1, 24, [.slice none 0 0], false⟩,
  ⟨39, .other, 1, 8, [.nilFunc], false⟩,
  ⟨40, .other, 1, 8, [.nilFunc], false⟩,
  ⟨41, .slice 3, 1, 24, [.slice none 0 0], false⟩,
  ⟨42, .struct [(9, 0, 1), (4, 1, 1)], 2, 24, [.string ⟨#[]⟩, .bool false], true⟩,
  ⟨43, .struct [(9, 0, 1), (4, 1, 1)], 2, 24, [.string ⟨#[]⟩, .bool false], true⟩,
  ⟨44, .other, 1, 8, [.nilFunc], false⟩,
  ⟨45, .other, 1, 8, [.nilFunc], false⟩,
  ⟨46, .other, 1, 8, [.nilFunc], false⟩,
  ⟨48, .other, 1, 8, [.nilFunc], false⟩,
  ⟨49, .other, 1, 16, [.nilIface], false⟩,
  ⟨50, .other, 1, 16, [.nilIface], false⟩,
  ⟨52, .other, 1, 8, [.nilFunc], false⟩,
  ⟨53, .other, 1, 8, [.nilFunc], false⟩,
  ⟨54, .other, 1, 8, [.nilFunc], false⟩,
  ⟨55, .other, 1, 8, [.nilFunc], false⟩,
  ⟨56, .other, 1, 8, [.nilFunc], false⟩,
  ⟨57, .int .u64, 1, 8, [.int .u64 0], false⟩,
  ⟨58, .other, 1, 8, [.nilFunc], false⟩,
  ⟨59, .slice 9, 1, 24, [.slice none 0 0], false⟩,
  ⟨60, .other, 1, 8, [.nilFunc], false⟩,
  ⟨62, .other, 1, 8, [.nilFunc], false⟩,
  ⟨63, .other, 1, 8, [.pointer none], false⟩,
  ⟨64, .struct [(63, 0, 1), (38, 1, 1)], 2, 32, [.pointer none, .slice none 0 0], true⟩,
  ⟨65, .struct [(63, 0, 1), (38, 1, 1)], 2, 32, [.pointer none, .slice none 0 0], true⟩,
  ⟨66, .other, 1, 8, [.nilFunc], false⟩,
  ⟨67, .other, 1, 8, [.nilFunc], false⟩,
  ⟨69, .other, 1, 8, [.nilFunc], false⟩,
  ⟨70, .other, 1, 8, [.nilFunc], false⟩,
  ⟨71, .other, 1, 8, [.nilFunc], false⟩,
  ⟨72, .other, 1, 8, [.nilFunc], false⟩,
  ⟨74, .other, 1, 8, [.nilFunc], false⟩,
  ⟨75, .other, 1, 8, [.nilFunc], false⟩,
  ⟨76, .other, 1, 8, [.nilFunc], false⟩,
  ⟨80, .other, 1, 8, [.nilFunc], false⟩,
  ⟨81, .other, 1, 8, [.nilFunc], false⟩,
  ⟨82, .other, 1, 8, [.pointer none], false⟩,
  ⟨84, .other, 1, 8, [.nilFunc], false⟩,
  ⟨85, .struct [(5, 0, 1), (5, 1, 1)], 2, 2, [.int .u8 0, .int .u8 0], true⟩,
  ⟨86, .other, 10, 10, [.int .u8 0, .int .u8 0, .int .u8 0, .int .u8 0, .int .u8 0, .int .u8 0, .int .u8 0, .int .u8 0, .int .u8 0, .int .u8 0], true⟩,
  ⟨87, .other, 1, 8, [.nilFunc], false⟩,
  ⟨88, .other, 1, 8, [.nilFunc], false⟩,
  ⟨89, .other, 1, 8, [.nilFunc], false⟩,
  ⟨90, .other, 1, 8, [.pointer none], false⟩,
  ⟨92, .int .u64, 1, 8, [.int .u64 0], false⟩,
  ⟨94, .other, 1, 8, [.nilFunc], false⟩,
  ⟨95, .other, 1, 8, [.pointer none], false⟩,
  ⟨96, .other, 1, 8, [.nilFunc], false⟩,
  ⟨97, .other, 1, 8, [.nilFunc], false⟩,
  ⟨99, .other, 1, 8, [.nilFunc], false⟩,
  ⟨100, .other, 1, 8, [.nilFunc], false⟩,
  ⟨101, .other, 24, 24, [.int .u8 0, .int .u8 0, .int .u8 0, .int .u8 0, .int .u8 0, .int .u8 0, .int .u8 0, .int .u8 0, .int .u8 0, .int .u8 0, .int .u8 0, .int .u8 0, .int .u8 0, .int .u8 0, .int .u8 0, .int .u8 0, .int .u8 0, .int .u8 0, .int .u8 0, .int .u8 0, .int .u8 0, .int .u8 0, .int .u8 0, .int .u8 0], true⟩,
  ⟨102, .other, 1, 8, [.nilFunc], false⟩,
  ⟨103, .other, 1, 8, [.nilFunc], false⟩,
  ⟨105, .other, 1, 8, [.nilFunc], false⟩,
  ⟨106, .other, 1, 8, [.nilFunc], false⟩,
  ⟨107, .other, 1, 8, [.nilFunc], false⟩,
  ⟨109, .other, 1, 8, [.nilFunc], false⟩,
  ⟨110, .other, 1, 8, [.nilFunc], false⟩,
  ⟨111, .struct [(9, 0, 1), (9, 1, 1), (50, 2, 1)], 3, 48, [.string ⟨#[]⟩, .string ⟨#[]⟩, .nilIface], true⟩,
  ⟨112, .struct [(9, 0, 1), (9, 1, 1), (50, 2, 1)], 3, 48, [.string ⟨#[]⟩, .string ⟨#[]⟩, .nilIface], true⟩,
  ⟨113, .other, 1, 8, [.nilFunc], false⟩,
  ⟨114, .other, 1, 8, [.nilFunc], false⟩,
  ⟨115, .other, 1, 8, [.nilFunc], false⟩,
  ⟨116, .other, 1, 8, [.nilFunc], false⟩,
  ⟨117, .other, 20, 160, [.int .u64 0, .int .u64 0, .int .u64 0, .int .u64 0, .int .u64 0, .int .u64 0, .int .u64 0, .int .u64 0, .int .u64 0, .int .u64 0, .int .u64 0, .int .u64 0, .int .u64 0, .int .u64 0, .int .u64 0, .int .u64 0, .int .u64 0, .int .u64 0, .int .u64 0, .int .u64 0], true⟩,
  ⟨118, .int .u32, 1, 4, [.int .u32 0], false⟩,
  ⟨120, .other, 1, 8, [.nilFunc], false⟩,
  ⟨121, .other, 1, 8, [.nilFunc], false⟩,
  ⟨122, .other, 1, 8, [.nilFunc], false⟩,
  ⟨123, .other, 1, 8, [.nilFunc], false⟩,
  ⟨124, .other, 1, 8, [.pointer none], false⟩,
  ⟨125, .struct [(9, 0, 1)], 1, 16, [.string ⟨#[]⟩], true⟩,
  ⟨126, .struct [(9, 0, 1)], 1, 16, [.string ⟨#[]⟩], true⟩,
  ⟨128, .struct [(5, 0, 1), (5, 1, 1)], 2, 2, [.int .u8 0, .int .u8 0], true⟩,
  ⟨129, .struct [(5, 0, 1), (5, 1, 1)], 2, 2, [.int .u8 0, .int .u8 0], true⟩,
  ⟨130, .other, 32, 32, [.int .u8 0, .int .u8 0, .int .u8 0, .int .u8 0, .int .u8 0, .int .u8 0, .int .u8 0, .int .u8 0, .int .u8 0, .int .u8 0, .int .u8 0, .int .u8 0, .int .u8 0, .int .u8 0, .int .u8 0, .int .u8 0, .int .u8 0, .int .u8 0, .int .u8 0, .int .u8 0, .int .u8 0, .int .u8 0, .int .u8 0, .int .u8 0, .int .u8 0, .int .u8 0, .int .u8 0, .int .u8 0, .int .u8 0, .int .u8 0, .int .u8 0, .int .u8 0], true⟩,
  ⟨131, .other, 1, 8, [.nilFunc], false⟩,
  ⟨132, .other, 1, 8, [.nilFunc], false⟩,
  ⟨133, .other, 1, 8, [.nilFunc], false⟩,
  ⟨135, .other, 1, 8, [.nilFunc], false⟩,
  ⟨136, .other, 32, 32, [.int .u8 0, .int .u8 0, .int .u8 0, .int .u8 0, .int .u8 0, .int .u8 0, .int .u8 0, .int .u8 0, .int .u8 0, .int .u8 0, .int .u8 0, .int .u8 0, .int .u8 0, .int .u8 0, .int .u8 0, .int .u8 0, .int .u8 0, .int .u8 0, .int .u8 0, .int .u8 0, .int .u8 0, .int .u8 0, .int .u8 0, .int .u8 0, .int .u8 0, .int .u8 0, .int .u8 0, .int .u8 0, .int .u8 0, .int .u8 0, .int .u8 0, .int .u8 0], true⟩,
  ⟨137, .other, 64, 64, [.int .u8 0, .int .u8 0, .int .u8 0, .int .u8 0, .int .u8 0, .int .u8 0, .int .u8 0, .int .u8 0, .int .u8 0, .int .u8 0, .int .u8 0, .int .u8 0, .int .u8 0, .int .u8 0, .int .u8 0, .int .u8 0, .int .u8 0, .int .u8 0, .int .u8 0, .int .u8 0, .int .u8 0, .int .u8 0, .int .u8 0, .int .u8 0, .int .u8 0, .int .u8 0, .int .u8 0, .int .u8 0, .int .u8 0, .int .u8 0, .int .u8 0, .int .u8 0, .int .u8 0, .int .u8 0, .int .u8 0, .int .u8 0, .int .u8 0, .int .u8 0, .int .u8 0, .int .u8 0, .int .u8 0, .int .u8 0, .int .u8 0, .int .u8 0, .int .u8 0, .int .u8 0, .int .u8 0, .int .u8 0, .int .u8 0, .int .u8 0, .int .u8 0, .int .u8 0, .int .u8 0, .int .u8 0, .int .u8 0, .int .u8 0, .int .u8 0, .int .u8 0, .int .u8 0, .int .u8 0, .int .u8 0, .int .u8 0, .int .u8 0, .int .u8 0], true⟩,
  ⟨145, .other, 1, 8, [.nilFunc], false⟩,
  ⟨148, .struct [(12, 0, 1), (12, 1, 1), (118, 2, 1), (143, 3, 1), (5, 4, 1), (5, 5, 1), (144, 6, 1), (145, 7, 1), (90, 8, 1), (146, 9, 1), (147, 10, 1)], 11, 48, [.int .u64 0, .int .u64 0, .int .u32 0, .int .u8 0, .int .u8 0, .int .u8 0, .int .u8 0, .nilFunc, .pointer none, .int .i32 0, .int .i32 0], true⟩]
set_option maxRecDepth 100000 in
set_option maxHeartbeats 4000000 in
theorem tysOk : tys.Ok Tryd.prog := by
  intro t ht
  unfold tys at ht
  simp only [List.mem_cons, List.not_mem_nil, or_false] at ht
  rcases ht with rfl | rfl | rfl | rfl | rfl | rfl | rfl | rfl | rfl | rfl | rfl | rfl | rfl | rfl | rfl | rfl | rfl | rfl | rfl | rfl | rfl | rfl | rfl | rfl | rfl | rfl | rfl | rfl | rfl | rfl | rfl | rfl | rfl | rfl | rfl | rfl | rfl | rfl | rfl | rfl | rfl | rfl | rfl | rfl | rfl | rfl | rfl | rfl | rfl | rfl | rfl | rfl | rfl | rfl | rfl | rfl | rfl | rfl | rfl | rfl | rfl | rfl | rfl | rfl | rfl | rfl | rfl | rfl | rfl | rfl | rfl | rfl | rfl | rfl | rfl | rfl | rfl | rfl | rfl | rfl | rfl | rfl | rfl | rfl | rfl | rfl | rfl | rfl | rfl | rfl | rfl | rfl | rfl | rfl | rfl | rfl | rfl | rfl | rfl | rfl | rfl | rfl | rfl | rfl | rfl | rfl | rfl | rfl | rfl | rfl
  · exact TI.mkOk (z := .nilFunc) (by kernel_rfl) Tryd.underlying1 trivial rfl rfl rfl rfl (.inl ⟨rfl, rfl, rfl⟩) (by decide)
  · exact TI.mkOk (z := .int .i64 0) (by kernel_rfl) Tryd.underlying2 rfl rfl rfl rfl rfl (.inl ⟨rfl, rfl, rfl⟩) (by decide)
  · exact TI.mkOk (z := .int .i64 0) (by kernel_rfl) Tryd.underlying3 rfl rfl rfl rfl rfl (.inl ⟨rfl, rfl, rfl⟩) (by decide)
  · exact TI.mkOk (z := .bool false) (by kernel_rfl) Tryd.underlying4 rfl rfl rfl rfl rfl (.inl ⟨rfl, rfl, rfl⟩) (by decide)
  · exact TI.mkOk (z := .int .u8 0) (by kernel_rfl) Tryd.underlying5 rfl rfl rfl rfl rfl (.inl ⟨rfl, rfl, rfl⟩) (by decide)
  · exact TI.mkOk (z := .string ⟨#[]⟩) (by kernel_rfl) Tryd.underlying9 rfl rfl rfl rfl rfl (.inl ⟨rfl, rfl, rfl⟩) (by decide)
  · exact TI.mkOk (z := .int .u64 0) (by kernel_rfl) Tryd.underlying12 rfl rfl rfl rfl rfl (.inl ⟨rfl, rfl, rfl⟩) (by decide)
  · exact TI.mkOk (z := .pointer none) (by kernel_rfl) Tryd.underlying15 trivial rfl rfl rfl rfl (.inl ⟨rfl, rfl, rfl⟩) (by decide)
  · exact TI.mkOk (z := .pointer none) (by kernel_rfl) Tryd.underlying16 trivial rfl rfl rfl rfl (.inl ⟨rfl, rfl, rfl⟩) (by decide)
  · exact TI.mkOk (z := .pointer none) (by kernel_rfl) Tryd.underlying17 trivial rfl rfl rfl rfl (.inl ⟨rfl, rfl, rfl⟩) (by decide)
  · exact TI.mkOk (z := .nilIface) (by kernel_rfl) Tryd.underlying20 trivial rfl rfl rfl rfl (.inl ⟨rfl, rfl, rfl⟩) (by decide)
  · exact TI.mkOk (z := .int .i32 0) (by kernel_rfl) Tryd.underlying21 rfl rfl rfl rfl rfl (.inl ⟨rfl, rfl, rfl⟩) (by decide)
  · exact TI.mkOk (z := .nilFunc) (by kernel_rfl) Tryd.underlying22 trivial rfl rfl rfl rfl (.inl ⟨rfl, rfl, rfl⟩) (by decide)
  · exact TI.mkOk (z := .slice none 0 0) (by kernel_rfl) Tryd.underlying23 rfl rfl rfl rfl rfl (.inl ⟨rfl, rfl, rfl⟩) (by decide)
  · exact TI.mkOk (z := .int .i64 0) (by kernel_rfl) Tryd.underlying24 rfl rfl rfl rfl rfl (.inl ⟨rfl, rfl, rfl⟩) (by decide)
  · exact TI.mkOk (z := .nilFunc) (by kernel_rfl) Tryd.underlying26 trivial rfl rfl rfl rfl (.inl ⟨rfl, rfl, rfl⟩) (by decide)
  · exact TI.mkOk (z := .nilFunc) (by kernel_rfl) Tryd.underlying27 trivial rfl rfl rfl rfl (.inl ⟨rfl, rfl, rfl⟩) (by decide)
  · exact TI.mkOk (z := .nilFunc) (by kernel_rfl) Tryd.underlying28 trivial rfl rfl rfl rfl (.inl ⟨rfl, rfl, rfl⟩) (by decide)
  · exact TI.mkOk (z := .nilFunc) (by kernel_rfl) Tryd.underlying30 trivial rfl rfl rfl rfl (.inl ⟨rfl, rfl, rfl⟩) (by decide)
  · exact TI.mkOk (z := .nilFunc) (by kernel_rfl) Tryd.underlying31 trivial rfl rfl rfl rfl (.inl ⟨rfl, rfl, rfl⟩) (by decide)
  · exact TI.mkOk (z := .nilFunc) (by kernel_rfl) Tryd.underlying32 trivial rfl rfl rfl rfl (.inl ⟨rfl, rfl, rfl⟩) (by decide)
  · exact TI.mkOk (z := .nilFunc) (by kernel_rfl) Tryd.underlying34 trivial rfl rfl rfl rfl (.inl ⟨rfl, rfl, rfl⟩) (by decide)
  · exact TI.mkOk (z := .nilFunc) (by kernel_rfl) Tryd.underlying35 trivial rfl rfl rfl rfl (.inl ⟨rfl, rfl, rfl⟩) (by decide)
  · exact TI.mkOk (z := .nilFunc) (by kernel_rfl) Tryd.underlying36 trivial rfl rfl rfl rfl (.inl ⟨rfl, rfl, rfl⟩) (by decide)
  · exact TI.mkOk (z := .nilFunc) (by kernel_rfl) Tryd.underlying37 trivial rfl rfl rfl rfl (.inl ⟨rfl, rfl, rfl⟩) (by decide)
  · exact TI.mkOk (z := .slice none 0 0) (by kernel_rfl) Tryd.underlying38 rfl rfl rfl rfl rfl (.inl ⟨rfl, rfl, rfl⟩) (by decide)
  · exact TI.mkOk (z := .nilFunc) (by kernel_rfl) Tryd.underlying39 trivial rfl rfl rfl rfl (.inl ⟨rfl, rfl, rfl⟩) (by decide)
  · exact TI.mkOk (z := .nilFunc) (by kernel_rfl) Tryd.underlying40 trivial rfl rfl rfl rfl (.inl ⟨rfl, rfl, rfl⟩) (by decide)
  · exact TI.mkOk (z := .slice none 0 0) (by kernel_rfl) Tryd.underlying41 rfl rfl rfl rfl rfl (.inl ⟨rfl, rfl, rfl⟩) (by decide)
  · exact TI.mkOk (z := .agg #[.string ⟨#[]⟩, .bool false]) (by kernel_rfl) Tryd.underlying42 ⟨_, rfl, by kernel_rfl, fieldsOk_of (by kernel_rfl)⟩ rfl rfl rfl rfl (.inr ⟨rfl, rfl⟩) (by decide)
  · exact TI.mkOk (z := .agg #[.string ⟨#[]⟩, .bool false]) (by kernel_rfl) Tryd.underlying43 ⟨_, rfl, by kernel_rfl, fieldsOk_of (by kernel_rfl)⟩ rfl rfl rfl rfl (.inr ⟨rfl, rfl⟩) (by decide)
  · exact TI.mkOk (z := .nilFunc) (by kernel_rfl) Tryd.underlying44 trivial rfl rfl rfl rfl (.inl ⟨rfl, rfl, rfl⟩) (by decide)
  · exact TI.mkOk (z := .nilFunc) (by kernel_rfl) Tryd.underlying45 trivial rfl rfl rfl rfl (.inl ⟨rfl, rfl, rfl⟩) (by decide)
  · exact TI.mkOk (z := .nilFunc) (by kernel_rfl) Tryd.underlying46 trivial rfl rfl rfl rfl (.inl ⟨rfl, rfl, rfl⟩) (by decide)
  · exact TI.mkOk (z := .nilFunc) (by kernel_rfl) Tryd.underlying48 trivial rfl rfl rfl rfl (.inl ⟨rfl, rfl, rfl⟩) (by decide)
  · exact TI.mkOk (z := .nilIface) (by kernel_rfl) Tryd.underlying49 trivial rfl rfl rfl rfl (.inl ⟨rfl, rfl, rfl⟩) (by decide)
  · exact TI.mkOk (z := .nilIface) (by kernel_rfl) Tryd.underlying50 trivial rfl rfl rfl rfl (.inl ⟨rfl, rfl, rfl⟩) (by decide)
  · exact TI.mkOk (z := .nilFunc) (by kernel_rfl) Tryd.underlying52 trivial rfl rfl rfl rfl (.inl ⟨rfl, rfl, rfl⟩) (by decide)
  · exact TI.mkOk (z := .nilFunc) (by kernel_rfl) Tryd.underlying53 trivial rfl rfl rfl rfl (.inl ⟨rfl, rfl, rfl⟩) (by decide)
  · exact TI.mkOk (z := .nilFunc) (by kernel_rfl) Tryd.underlying54 trivial rfl rfl rfl rfl (.inl ⟨rfl, rfl, rfl⟩) (by decide)
  · exact TI.mkOk (z := .nilFunc) (by kernel_rfl) Tryd.underlying55 trivial rfl rfl rfl rfl (.inl ⟨rfl, rfl, rfl⟩) (by decide)
  · exact TI.mkOk (z := .nilFunc) (by kernel_rfl) Tryd.underlying56 trivial rfl rfl rfl rfl (.inl ⟨rfl, rfl, rfl⟩) (by decide)
  · exact TI.mkOk (z := .int .u64 0) (by kernel_rfl) Tryd.underlying57 rfl rfl rfl rfl rfl (.inl ⟨rfl, rfl, rfl⟩) (by decide)
  · exact TI.mkOk (z := .nilFunc) (by kernel_rfl) Tryd.underlying58 trivial rfl rfl rfl rfl (.inl ⟨rfl, rfl, rfl⟩) (by decide)
  · exact TI.mkOk (z := .slice none 0 0) (by kernel_rfl) Tryd.underlying59 rfl rfl rfl rfl rfl (.inl ⟨rfl, rfl, rfl⟩) (by decide)
  · exact TI.mkOk (z := .nilFunc) (by kernel_rfl) Tryd.underlying60 trivial rfl rfl rfl rfl (.inl ⟨rfl, rfl, rfl⟩) (by decide)
  · exact TI.mkOk (z := .nilFunc) (by kernel_rfl) Tryd.underlying62 trivial rfl rfl rfl rfl (.inl ⟨rfl, rfl, rfl⟩) (by decide)
  · exact TI.mkOk (z := .pointer none) (by kernel_rfl) Tryd.underlying63 trivial rfl rfl rfl rfl (.inl ⟨rfl, rfl, rfl⟩) (by decide)
  · exact TI.mkOk (z := .agg #[.pointer none, .slice none 0 0]) (by kernel_rfl) Tryd.underlying64 ⟨_, rfl, by kernel_rfl, fieldsOk_of (by kernel_rfl)⟩ rfl rfl rfl rfl (.inr ⟨rfl, rfl⟩) (by decide)
  · exact TI.mkOk (z := .agg #[.pointer none, .slice none 0 0]) (by kernel_rfl) Tryd.underlying65 ⟨_, rfl, by kernel_rfl, fieldsOk_of (by kernel_rfl)⟩ rfl rfl rfl rfl (.inr ⟨rfl, rfl⟩) (by decide)
  · exact TI.mkOk (z := .nilFunc) (by kernel_rfl) Tryd.underlying66 trivial rfl rfl rfl rfl (.inl ⟨rfl, rfl, rfl⟩) (by decide)
  · exact TI.mkOk (z := .nilFunc) (by kernel_rfl) Tryd.underlying67 trivial rfl rfl rfl rfl (.inl ⟨rfl, rfl, rfl⟩) (by decide)
  · exact TI.mkOk (z := .nilFunc) (by kernel_rfl) Tryd.underlying69 trivial rfl rfl rfl rfl (.inl ⟨rfl, rfl, rfl⟩) (by decide)
  · exact TI.mkOk (z := .nilFunc) (by kernel_rfl) Tryd.underlying70 trivial rfl rfl rfl rfl (.inl ⟨rfl, rfl, rfl⟩) (by decide)
  · exact TI.mkOk (z := .nilFunc) (by kernel_rfl) Tryd.underlying71 trivial rfl rfl rfl rfl (.inl ⟨rfl, rfl, rfl⟩) (by decide)
  · exact TI.mkOk (z := .nilFunc) (by kernel_rfl) Tryd.underlying72 trivial rfl rfl rfl rfl (.inl ⟨rfl, rfl, rfl⟩) (by decide)
  · exact TI.mkOk (z := .nilFunc) (by kernel_rfl) Tryd.underlying74 trivial rfl rfl rfl rfl (.inl ⟨rfl, rfl, rfl⟩) (by decide)
  · exact TI.mkOk (z := .nilFunc) (by kernel_rfl) Tryd.underlying75 trivial rfl rfl rfl rfl (.inl ⟨rfl, rfl, rfl⟩) (by decide)
  · exact TI.mkOk (z := .nilFunc) (by kernel_rfl) Tryd.underlying76 trivial rfl rfl rfl rfl (.inl ⟨rfl, rfl, rfl⟩) (by decide)
  · exact TI.mkOk (z := .nilFunc) (by kernel_rfl) Tryd.underlying80 trivial rfl rfl rfl rfl (.inl ⟨rfl, rfl, rfl⟩) (by decide)
  · exact TI.mkOk (z := .nilFunc) (by kernel_rfl) Tryd.underlying81 trivial rfl rfl rfl rfl (.inl ⟨rfl, rfl, rfl⟩) (by decide)
  · exact TI.mkOk (z := .pointer none) (by kernel_rfl) Tryd.underlying82 trivial rfl rfl rfl rfl (.inl ⟨rfl, rfl, rfl⟩) (by decide)
  · exact TI.mkOk (z := .nilFunc) (by kernel_rfl) Tryd.underlying84 trivial rfl rfl rfl rfl (.inl ⟨rfl, rfl, rfl⟩) (by decide)
  · exact TI.mkOk (z := .agg #[.int .u8 0, .int .u8 0]) (by kernel_rfl) Tryd.underlying85 ⟨_, rfl, by kernel_rfl, fieldsOk_of (by kernel_rfl)⟩ rfl rfl rfl rfl (.inr ⟨rfl, rfl⟩) (by decide)
  · exact TI.mkOk (z := .agg #[.int .u8 0, .int .u8 0, .int .u8 0, .int .u8 0, .int .u8 0, .int .u8 0, .int .u8 0, .int .u8 0, .int .u8 0, .int .u8 0]) (by kernel_rfl) Tryd.underlying86 trivial rfl rfl rfl rfl (.inr ⟨rfl, rfl⟩) (by decide)
  · exact TI.mkOk (z := .nilFunc) (by kernel_rfl) Tryd.underlying87 trivial rfl rfl rfl rfl (.inl ⟨rfl, rfl, rfl⟩) (by decide)
  · exact TI.mkOk (z := .nilFunc) (by kernel_rfl) Tryd.underlying88 trivial rfl rfl rfl rfl (.inl ⟨rfl, rfl, rfl⟩) (by decide)
  · exact TI.mkOk (z := .nilFunc) (by kernel_rfl) Tryd.underlying89 trivial rfl rfl rfl rfl (.inl ⟨rfl, rfl, rfl⟩) (by decide)
  · exact TI.mkOk (z := .pointer none) (by kernel_rfl) Tryd.underlying90 trivial rfl rfl rfl rfl (.inl ⟨rfl, rfl, rfl⟩) (by decide)
  · exact TI.mkOk (z := .int .u64 0) (by kernel_rfl) Tryd.underlying92 rfl rfl rfl rfl rfl (.inl ⟨rfl, rfl, rfl⟩) (by decide)
  · exact TI.mkOk (z := .nilFunc) (by kernel_rfl) Tryd.underlying94 trivial rfl rfl rfl rfl (.inl ⟨rfl, rfl, rfl⟩) (by decide)
  · exact TI.mkOk (z := .pointer none) (by kernel_rfl) Tryd.underlying95 trivial rfl rfl rfl rfl (.inl ⟨rfl, rfl, rfl⟩) (by decide)
  · exact TI.mkOk (z := .nilFunc) (by kernel_rfl) Tryd.underlying96 trivial rfl rfl rfl rfl (.inl ⟨rfl, rfl, rfl⟩) (by decide)
  · exact TI.mkOk (z := .nilFunc) (by kernel_rfl) Tryd.underlying97 trivial rfl rfl rfl rfl (.inl ⟨rfl, rfl, rfl⟩) (by decide)
  · exact TI.mkOk (z := .nilFunc) (by kernel_rfl) Tryd.underlying99 trivial rfl rfl rfl rfl (.inl ⟨rfl, rfl, rfl⟩) (by decide)
  · exact TI.mkOk (z := .nilFunc) (by kernel_rfl) Tryd.underlying100 trivial rfl rfl rfl rfl (.inl ⟨rfl, rfl, rfl⟩) (by decide)
  · exact TI.mkOk (z := .agg #[.int .u8 0, .int .u8 0, .int .u8 0, .int .u8 0, .int .u8 0, .int .u8 0, .int .u8 0, .int .u8 0, .int .u8 0, .int .u8 0, .int .u8 0, .int .u8 0, .int .u8 0, .int .u8 0, .int .u8 0, .int .u8 0, .int .u8 0, .int .u8 0, .int .u8 0, .int .u8 0, .int .u8 0, .int .u8 0, .int .u8 0, .int .u8 0]) (by kernel_rfl) Tryd.underlying101 trivial rfl rfl rfl rfl (.inr ⟨rfl, rfl⟩) (by decide)
  · exact TI.mkOk (z := .nilFunc) (by kernel_rfl) Tryd.underlying102 trivial rfl rfl rfl rfl (.inl ⟨rfl, rfl, rfl⟩) (by decide)
  · exact TI.mkOk (z := .nilFunc) (by kernel_rfl) Tryd.underlying103 trivial rfl rfl rfl rfl (.inl ⟨rfl, rfl, rfl⟩) (by decide)
  · exact TI.mkOk (z := .nilFunc) (by kernel_rfl) Tryd.underlying105 trivial rfl rfl rfl rfl (.inl ⟨rfl, rfl, rfl⟩) (by decide)
  · exact TI.mkOk (z := .nilFunc) (by kernel_rfl) Tryd.underlying106 trivial rfl rfl rfl rfl (.inl ⟨rfl, rfl, rfl⟩) (by decide)
  · exact TI.mkOk (z := .nilFunc) (by kernel_rfl) Tryd.underlying107 trivial rfl rfl rfl rfl (.inl ⟨rfl, rfl, rfl⟩) (by decide)
  · exact TI.mkOk (z := .nilFunc) (by kernel_rfl) Tryd.underlying109 trivial rfl rfl rfl rfl (.inl ⟨rfl, rfl, rfl⟩) (by decide)
  · exact TI.mkOk (z := .nilFunc) (by kernel_rfl) Tryd.underlying110 trivial rfl rfl rfl rfl (.inl ⟨rfl, rfl, rfl⟩) (by decide)
  · exact TI.mkOk (z := .agg #[.string ⟨#[]⟩, .string ⟨#[]⟩, .nilIface]) (by kernel_rfl) Tryd.underlying111 ⟨_, rfl, by kernel_rfl, fieldsOk_of (by kernel_rfl)⟩ rfl rfl rfl rfl (.inr ⟨rfl, rfl⟩) (by decide)
  · exact TI.mkOk (z := .agg #[.string ⟨#[]⟩, .string ⟨#[]⟩, .nilIface]) (by kernel_rfl) Tryd.underlying112 ⟨_, rfl, by kernel_rfl, fieldsOk_of (by kernel_rfl)⟩ rfl rfl rfl rfl (.inr ⟨rfl, rfl⟩) (by decide)
  · exact TI.mkOk (z := .nilFunc) (by kernel_rfl) Tryd.underlying113 trivial rfl rfl rfl rfl (.inl ⟨rfl, rfl, rfl⟩) (by decide)
  · exact TI.mkOk (z := .nilFunc) (by kernel_rfl) Tryd.underlying114 trivial rfl rfl rfl rfl (.inl ⟨rfl, rfl, rfl⟩) (by decide)
  · exact TI.mkOk (z := .nilFunc) (by kernel_rfl) Tryd.underlying115 trivial rfl rfl rfl rfl (.inl ⟨rfl, rfl, rfl⟩) (by decide)
  · exact TI.mkOk (z := .nilFunc) (by kernel_rfl) Tryd.underlying116 trivial rfl rfl rfl rfl (.inl ⟨rfl, rfl, rfl⟩) (by decide)
  · exact TI.mkOk (z := .agg #[.int .u64 0, .int .u64 0, .int .u64 0, .int .u64 0, .int .u64 0, .int .u64 0, .int .u64 0, .int .u64 0, .int .u64 0, .int .u64 0, .int .u64 0, .int .u64 0, .int .u64 0, .int .u64 0, .int .u64 0, .int .u64 0, .int .u64 0, .int .u64 0, .int .u64 0, .int .u64 0]) (by kernel_rfl) Tryd.underlying117 trivial rfl rfl rfl rfl (.inr ⟨rfl, rfl⟩) (by decide)
  · exact TI.mkOk (z := .int .u32 0) (by kernel_rfl) Tryd.underlying118 rfl rfl rfl rfl rfl (.inl ⟨rfl, rfl, rfl⟩) (by decide)
  · exact TI.mkOk (z := .nilFunc) (by kernel_rfl) Tryd.underlying120 trivial rfl rfl rfl rfl (.inl ⟨rfl, rfl, rfl⟩) (by decide)
  · exact TI.mkOk (z := .nilFunc) (by kernel_rfl) Tryd.underlying121 trivial rfl rfl rfl rfl (.inl ⟨rfl, rfl, rfl⟩) (by decide)
  · exact TI.mkOk (z := .nilFunc) (by kernel_rfl) Tryd.underlying122 trivial rfl rfl rfl rfl (.inl ⟨rfl, rfl, rfl⟩) (by decide)
  · exact TI.mkOk (z := .nilFunc) (by kernel_rfl) Tryd.underlying123 trivial rfl rfl rfl rfl (.inl ⟨rfl, rfl, rfl⟩) (by decide)
  · exact TI.mkOk (z := .pointer none) (by kernel_rfl) Tryd.underlying124 trivial rfl rfl rfl rfl (.inl ⟨rfl, rfl, rfl⟩) (by decide)
  · exact TI.mkOk (z := .agg #[.string ⟨#[]⟩]) (by kernel_rfl) Tryd.underlying125 ⟨_, rfl, by kernel_rfl, fieldsOk_of (by kernel_rfl)⟩ rfl rfl rfl rfl (.inr ⟨rfl, rfl⟩) (by decide)
  · exact TI.mkOk (z := .agg #[.string ⟨#[]⟩]) (by kernel_rfl) Tryd.underlying126 ⟨_, rfl, by kernel_rfl, fieldsOk_of (by kernel_rfl)⟩ rfl rfl rfl rfl (.inr ⟨rfl, rfl⟩) (by decide)
  · exact TI.mkOk (z := .agg #[.int .u8 0, .int .u8 0]) (by kernel_rfl) Tryd.underlying128 ⟨_, rfl, by kernel_rfl, fieldsOk_of (by kernel_rfl)⟩ rfl rfl rfl rfl (.inr ⟨rfl, rfl⟩) (by decide)
  · exact TI.mkOk (z := .agg #[.int .u8 0, .int .u8 0]) (by kernel_rfl) Tryd.underlying129 ⟨_, rfl, by kernel_rfl, fieldsOk_of (by kernel_rfl)⟩ rfl rfl rfl rfl (.inr ⟨rfl, rfl⟩) (by decide)
  · exact TI.mkOk (z := .agg #[.int .u8 0, .int .u8 0, .int .u8 0, .int .u8 0, .int .u8 0, .int .u8 0, .int .u8 0, .int .u8 0, .int .u8 0, .int .u8 0, .int .u8 0, .int .u8 0, .int .u8 0, .int .u8 0, .int .u8 0, .int .u8 0, .int .u8 0, .int .u8 0, .int .u8 0, .int .u8 0, .int .u8 0, .int .u8 0, .int .u8 0, .int .u8 0, .int .u8 0, .int .u8 0, .int .u8 0, .int .u8 0, .int .u8 0, .int .u8 0, .int .u8 0, .int .u8 0]) (by kernel_rfl) Tryd.underlying130 trivial rfl rfl rfl rfl (.inr ⟨rfl, rfl⟩) (by decide)
  · exact TI.mkOk (z := .nilFunc) (by kernel_rfl) Tryd.underlying131 trivial rfl rfl rfl rfl (.inl ⟨rfl, rfl, rfl⟩) (by decide)
  · exact TI.mkOk (z := .nilFunc) (by kernel_rfl) Tryd.underlying132 trivial rfl rfl rfl rfl (.inl ⟨rfl, rfl, rfl⟩) (by decide)
  · exact TI.mkOk (z := .nilFunc) (by kernel_rfl) Tryd.underlying133 trivial rfl rfl rfl rfl (.inl ⟨rfl, rfl, rfl⟩) (by decide)
  · exact TI.mkOk (z := .nilFunc) (by kernel_rfl) Tryd.underlying135 trivial rfl rfl rfl rfl (.inl ⟨rfl, rfl, rfl⟩) (by decide)
  · exact TI.mkOk (z := .agg #[.int .u8 0, .int .u8 0, .int .u8 0, .int .u8 0, .int .u8 0, .int .u8 0, .int .u8 0, .int .u8 0, .int .u8 0, .int .u8 0, .int .u8 0, .int .u8 0, .int .u8 0, .int .u8 0, .int .u8 0, .int .u8 0, .int .u8 0, .int .u8 0, .int .u8 0, .int .u8 0, .int .u8 0, .int .u8 0, .int .u8 0, .int .u8 0, .int .u8 0, .int .u8 0, .int .u8 0, .int .u8 0, .int .u8 0, .int .u8 0, .int .u8 0, .int .u8 0]) (by kernel_rfl) Tryd.underlying136 trivial rfl rfl rfl rfl (.inr ⟨rfl, rfl⟩) (by decide)
  · exact TI.mkOk (z := .agg #[.int .u8 0, .int .u8 0, .int .u8 0, .int .u8 0, .int .u8 0, .int .u8 0, .int .u8 0, .int .u8 0, .int .u8 0, .int .u8 0, .int .u8 0, .int .u8 0, .int .u8 0, .int .u8 0, .int .u8 0, .int .u8 0, .int .u8 0, .int .u8 0, .int .u8 0, .int .u8 0, .int .u8 0, .int .u8 0, .int .u8 0, .int .u8 0, .int .u8 0, .int .u8 0, .int .u8 0, .int .u8 0, .int .u8 0, .int .u8 0, .int .u8 0, .int .u8 0, .int .u8 0, .int .u8 0, .int .u8 0, .int .u8 0, .int .u8 0, .int .u8 0, .int .u8 0, .int .u8 0, .int .u8 0, .int .u8 0, .int .u8 0, .int .u8 0, .int .u8 0, .int .u8 0, .int .u8 0, .int .u8 0, .int .u8 0, .int .u8 0, .int .u8 0, .int .u8 0, .int .u8 0, .int .u8 0, .int .u8 0, .int .u8 0, .int .u8 0, .int .u8 0, .int .u8 0, .int .u8 0, .int .u8 0, .int .u8 0, .int .u8 0, .int .u8 0]) (by kernel_rfl) Tryd.underlying137 trivial rfl rfl rfl rfl (.inr ⟨rfl, rfl⟩) (by decide)
  · exact TI.mkOk (z := .nilFunc) (by kernel_rfl) Tryd.underlying145 trivial rfl rfl rfl rfl (.inl ⟨rfl, rfl, rfl⟩) (by decide)
  · exact TI.mkOk (z := .agg #[.int .u64 0, .int .u64 0, .int .u32 0, .int .u8 0, .int .u8 0, .int .u8 0, .int .u8 0, .nilFunc, .pointer none, .int .i32 0, .int .i32 0]) (by kernel_rfl) Tryd.underlying148 ⟨_, rfl, by kernel_rfl, fieldsOk_of (by kernel_rfl)⟩ rfl rfl rfl rfl (.inr ⟨rfl, rfl⟩) (by decide)
end Go.Proofs.YtmeapfckibbbbaaDoor.Am
/-
  DERIVED: THE SHELF's CONTRACTS AT THIS DUMP, IN PLAIN WORDS (tools/lay-plain.mjs out of 'TrydShelf.lean', which tools/lay-shelf.mjs wrote): THE SAME DECLARATIONS UNDER THE SAME NAMES: 'import', 'namespace', 'open', 'def', 'theorem' AND NOTHING ELSE: no command of the shelf's: FOR A HAND-IN. Each laying: the table of numbers ('.._ren') and one theorem, a field a fact of the dump's own or the kernel's comparison; each contract: ONE APPLICATION.
-/
namespace Go.Proofs
open Go.Shelf
def Tryd.lays156_ren : Go.Shelf.Ren := ⟨fun | 156 => 43 | 165 => 67 | 166 => 48 | 169 => 50 | 240 => 70 | 241 => 88 | 276 => 91 | 277 => 107 | n => n, fun | 31 => 59 | 9 => 9 | 3 => 3 | 4 => 4 | 0 => 0 | 20 => 20 | 72 => 65 | 76 => 68 | 70 => 63 | 37 => 38 | 75 => 50 | 127 => 90 | 164 => 108 | 5 => 5 | 80 => 71 | n => n, fun | n => n⟩
theorem Tryd.lays156 : Go.Proofs.Lays.n156 Tryd.prog Tryd.lays156_ren := {
  mixed := by kernel_rfl
  f156 := Tryd.func43.trans (congrArg some (by kernel_rfl))
  f165 := Tryd.func67.trans (congrArg some (by kernel_rfl))
  f166 := Tryd.func48.trans (congrArg some (by kernel_rfl))
  f169 := Tryd.func50.trans (congrArg some (by kernel_rfl))
  f240 := Tryd.func70.trans (congrArg some (by kernel_rfl))
  f241 := Tryd.func88.trans (congrArg some (by kernel_rfl))
  f276 := Tryd.func91.trans (congrArg some (by kernel_rfl))
  f277 := Tryd.func107.trans (congrArg some (by kernel_rfl))
  t0 := Tryd.underlying0
  a0 := Tryd.isAgg0
  z0 := Tryd.sizeOf0
  v0 := Tryd.zeroValue0
  t3 := Tryd.underlying3
  a3 := Tryd.isAgg3
  z3 := Tryd.sizeOf3
  v3 := Tryd.zeroValue3
  t4 := Tryd.underlying4
  a4 := Tryd.isAgg4
  z4 := Tryd.sizeOf4
  v4 := Tryd.zeroValue4
  t9 := Tryd.underlying9
  a9 := Tryd.isAgg9
  z9 := Tryd.sizeOf9
  v9 := Tryd.zeroValue9
  t20 := Tryd.underlying20
  a20 := Tryd.isAgg20
  z20 := Tryd.sizeOf20
  v20 := Tryd.zeroValue20
  t31 := Tryd.underlying59
  a31 := Tryd.isAgg59
  z31 := Tryd.sizeOf59
  v31 := Tryd.zeroValue59
  t37 := Tryd.underlying38
  a37 := Tryd.isAgg38
  z37 := Tryd.sizeOf38
  v37 := Tryd.zeroValue38
  t70 := Tryd.underlying63
  a70 := Tryd.isAgg63
  z70 := Tryd.sizeOf63
  v70 := Tryd.zeroValue63
  t72 := Tryd.underlying65
  a72 := Tryd.isAgg65
  z72 := Tryd.sizeOf65
  v72 := Tryd.zeroValue65
  t75 := Tryd.underlying50
  a75 := Tryd.isAgg50
  z75 := Tryd.sizeOf50
  v75 := Tryd.zeroValue50
  t76 := Tryd.underlying68
  a76 := Tryd.isAgg68
  z76 := Tryd.sizeOf68
  v76 := Tryd.zeroValue68
  t127 := Tryd.underlying90
  a127 := Tryd.isAgg90
  z127 := Tryd.sizeOf90
  v127 := Tryd.zeroValue90
  t164 := Tryd.underlying108
  a164 := Tryd.isAgg108
  z164 := Tryd.sizeOf108
  v164 := Tryd.zeroValue108 }
theorem Tryd.Builder_Extra_156 : Builder.Extra Tryd.prog Tryd.lays156_ren := {
  sizeBuilder := by kernel_rfl
  liesBuilder := by kernel_rfl
  t5 := Tryd.underlying5
  a5 := Tryd.isAgg5
  z5 := Tryd.sizeOf5
  v5 := Tryd.zeroValue5
  infoByte := by kernel_rfl
  cellsByte := by kernel_rfl
  sizeByte := by kernel_rfl
  neB5 := by decide }
def Tryd.lays160_ren : Go.Shelf.Ren := ⟨fun | 160 => 34 | 232 => 58 | 231 => 57 | 227 => 59 | 234 => 61 | 233 => 60 | 236 => 63 | 235 => 62 | 228 => 79 | 271 => 82 | 151 => 81 | 197 => 80 | 120 => 100 | 152 => 99 | 260 => 98 | 137 => 87 | 119 => 114 | 224 => 112 | 225 => 111 | 217 => 106 | 266 => 117 | n => n, fun | 9 => 9 | 4 => 4 | 3 => 3 | 5 => 5 | 117 => 79 | 116 => 78 | 0 => 0 | 124 => 82 | 21 => 21 | 105 => 98 | 46 => 57 | 119 => 127 | 139 => 130 | 138 => 129 | n => n, fun | 3 => 5 | 4 => 6 | n => n⟩
theorem Tryd.lays160 : Go.Proofs.Lays.n160 Tryd.prog Tryd.lays160_ren := {
  mixed := by kernel_rfl
  f119 := Tryd.func114.trans (congrArg some (by kernel_rfl))
  f120 := Tryd.func100.trans (congrArg some (by kernel_rfl))
  f137 := Tryd.func87.trans (congrArg some (by kernel_rfl))
  f151 := Tryd.func81.trans (congrArg some (by kernel_rfl))
  f152 := Tryd.func99.trans (congrArg some (by kernel_rfl))
  f160 := Tryd.func34.trans (congrArg some (by kernel_rfl))
  f197 := Tryd.func80.trans (congrArg some (by kernel_rfl))
  f217 := Tryd.func106.trans (congrArg some (by kernel_rfl))
  f224 := Tryd.func112.trans (congrArg some (by kernel_rfl))
  f225 := Tryd.func111.trans (congrArg some (by kernel_rfl))
  f227 := Tryd.func59.trans (congrArg some (by kernel_rfl))
  f228 := Tryd.func79.trans (congrArg some (by kernel_rfl))
  f231 := Tryd.func57.trans (congrArg some (by kernel_rfl))
  f232 := Tryd.func58.trans (congrArg some (by kernel_rfl))
  f233 := Tryd.func60.trans (congrArg some (by kernel_rfl))
  f234 := Tryd.func61.trans (congrArg some (by kernel_rfl))
  f235 := Tryd.func62.trans (congrArg some (by kernel_rfl))
  f236 := Tryd.func63.trans (congrArg some (by kernel_rfl))
  f260 := Tryd.func98.trans (congrArg some (by kernel_rfl))
  f266 := Tryd.func117.trans (congrArg some (by kernel_rfl))
  f271 := Tryd.func82.trans (congrArg some (by kernel_rfl))
  t0 := Tryd.underlying0
  a0 := Tryd.isAgg0
  z0 := Tryd.sizeOf0
  v0 := Tryd.zeroValue0
  t3 := Tryd.underlying3
  a3 := Tryd.isAgg3
  z3 := Tryd.sizeOf3
  v3 := Tryd.zeroValue3
  t4 := Tryd.underlying4
  a4 := Tryd.isAgg4
  z4 := Tryd.sizeOf4
  v4 := Tryd.zeroValue4
  t5 := Tryd.underlying5
  a5 := Tryd.isAgg5
  z5 := Tryd.sizeOf5
  v5 := Tryd.zeroValue5
  t9 := Tryd.underlying9
  a9 := Tryd.isAgg9
  z9 := Tryd.sizeOf9
  v9 := Tryd.zeroValue9
  t21 := Tryd.underlying21
  a21 := Tryd.isAgg21
  z21 := Tryd.sizeOf21
  v21 := Tryd.zeroValue21
  t46 := Tryd.underlying57
  a46 := Tryd.isAgg57
  z46 := Tryd.sizeOf57
  v46 := Tryd.zeroValue57
  t105 := Tryd.underlying98
  a105 := Tryd.isAgg98
  z105 := Tryd.sizeOf98
  v105 := Tryd.zeroValue98
  t116 := Tryd.underlying78
  a116 := Tryd.isAgg78
  z116 := Tryd.sizeOf78
  t117 := Tryd.underlying79
  a117 := Tryd.isAgg79
  z117 := Tryd.sizeOf79
  v117 := Tryd.zeroValue79
  t119 := Tryd.underlying127
  a119 := Tryd.isAgg127
  z119 := Tryd.sizeOf127
  t124 := Tryd.underlying82
  a124 := Tryd.isAgg82
  z124 := Tryd.sizeOf82
  v124 := Tryd.zeroValue82
  t138 := Tryd.underlying129
  a138 := Tryd.isAgg129
  z138 := Tryd.sizeOf129
  v138 := Tryd.zeroValue129
  t139 := Tryd.underlying130
  a139 := Tryd.isAgg130
  z139 := Tryd.sizeOf130
  v139 := Tryd.zeroValue130
  g3 := by kernel_rfl
  g4 := by kernel_rfl }
def Tryd.lays137_ren : Go.Shelf.Ren := ⟨fun | 137 => 87 | 217 => 106 | 266 => 117 | n => n, fun | 9 => 9 | 5 => 5 | 3 => 3 | n => n, fun | n => n⟩
theorem Tryd.lays137 : Go.Proofs.Lays.n137 Tryd.prog Tryd.lays137_ren := {
  mixed := by kernel_rfl
  f137 := Tryd.func87.trans (congrArg some (by kernel_rfl))
  f217 := Tryd.func106.trans (congrArg some (by kernel_rfl))
  f266 := Tryd.func117.trans (congrArg some (by kernel_rfl))
  t3 := Tryd.underlying3
  a3 := Tryd.isAgg3
  z3 := Tryd.sizeOf3
  v3 := Tryd.zeroValue3
  t5 := Tryd.underlying5
  a5 := Tryd.isAgg5
  z5 := Tryd.sizeOf5
  v5 := Tryd.zeroValue5
  t9 := Tryd.underlying9
  a9 := Tryd.isAgg9
  z9 := Tryd.sizeOf9
  v9 := Tryd.zeroValue9 }
open Go.RowKit in
/-- strings.IndexByte: "IndexByte returns the index of the first instance of c in s, or -1 if c is not present in s.": IT RETURNS 'Lib.indexByte s c'; the world is as it was. (LAID: no walk: one application.) -/
theorem Tryd.strings_IndexByte (s : ByteArray) (c : Int) (w : World) :
    Calls Tryd.prog 87 #[.string s, .int .u8 c] w fun e w' => e = .returned (.int .i64 (Lib.indexByte s.data.toList c.toNat.toUInt8)) ∧ w' = w := Any.strings_IndexByte Tryd.lays137 s c w
def Tryd.laysM171_ren : Go.Shelf.Ren := ⟨fun | 171 => 49 | 243 => 71 | 246 => 64 | 283 => 83 | 284 => 84 | 285 => 85 | 286 => 86 | 129 => 102 | 317 => 101 | 318 => 103 | 319 => 104 | 320 => 105 | 337 => 115 | 338 => 116 | n => n, fun | 3 => 3 | 9 => 9 | 2 => 2 | 4 => 4 | 171 => 101 | 0 => 0 | 53 => 92 | 37 => 38 | 5 => 5 | 173 => 104 | 212 => 117 | 51 => 118 | 20 => 20 | 213 => 119 | 46 => 57 | 232 => 136 | 233 => 137 | n => n, fun | 17 => 3 | 18 => 7 | 19 => 8 | n => n⟩
theorem Tryd.laysM171 : Go.Proofs.LaysM.n171 Tryd.prog Tryd.laysM171_ren := {
  mixed := by kernel_rfl
  f129 := Tryd.func102.trans (congrArg some (by kernel_rfl))
  f171 := Tryd.func49.trans (congrArg some (by kernel_rfl))
  f243 := Tryd.func71.trans (congrArg some (by kernel_rfl))
  f246 := Tryd.func64.trans (congrArg some (by kernel_rfl))
  f283 := Tryd.func83.trans (congrArg some (by kernel_rfl))
  f284 := Tryd.func84.trans (congrArg some (by kernel_rfl))
  f285 := Tryd.func85.trans (congrArg some (by kernel_rfl))
  f286 := Tryd.func86.trans (congrArg some (by kernel_rfl))
  f317 := Tryd.func101.trans (congrArg some (by kernel_rfl))
  f318 := Tryd.func103.trans (congrArg some (by kernel_rfl))
  f319 := Tryd.func104.trans (congrArg some (by kernel_rfl))
  f320 := Tryd.func105.trans (congrArg some (by kernel_rfl))
  f337 := Tryd.func115.trans (congrArg some (by kernel_rfl))
  f338 := Tryd.func116.trans (congrArg some (by kernel_rfl))
  t0 := Tryd.underlying0
  a0 := Tryd.isAgg0
  z0 := Tryd.sizeOf0
  v0 := Tryd.zeroValue0
  t2 := Tryd.underlying2
  a2 := Tryd.isAgg2
  z2 := Tryd.sizeOf2
  v2 := Tryd.zeroValue2
  t3 := Tryd.underlying3
  a3 := Tryd.isAgg3
  z3 := Tryd.sizeOf3
  v3 := Tryd.zeroValue3
  t4 := Tryd.underlying4
  a4 := Tryd.isAgg4
  z4 := Tryd.sizeOf4
  v4 := Tryd.zeroValue4
  t5 := Tryd.underlying5
  a5 := Tryd.isAgg5
  z5 := Tryd.sizeOf5
  v5 := Tryd.zeroValue5
  t9 := Tryd.underlying9
  a9 := Tryd.isAgg9
  z9 := Tryd.sizeOf9
  v9 := Tryd.zeroValue9
  t20 := Tryd.underlying20
  a20 := Tryd.isAgg20
  z20 := Tryd.sizeOf20
  v20 := Tryd.zeroValue20
  t37 := Tryd.underlying38
  a37 := Tryd.isAgg38
  z37 := Tryd.sizeOf38
  v37 := Tryd.zeroValue38
  t46 := Tryd.underlying57
  a46 := Tryd.isAgg57
  z46 := Tryd.sizeOf57
  v46 := Tryd.zeroValue57
  t51 := Tryd.underlying118
  a51 := Tryd.isAgg118
  z51 := Tryd.sizeOf118
  v51 := Tryd.zeroValue118
  t53 := Tryd.underlying92
  a53 := Tryd.isAgg92
  z53 := Tryd.sizeOf92
  v53 := Tryd.zeroValue92
  t171 := Tryd.underlying101
  a171 := Tryd.isAgg101
  z171 := Tryd.sizeOf101
  v171 := Tryd.zeroValue101
  t173 := Tryd.underlying104
  a173 := Tryd.isAgg104
  z173 := Tryd.sizeOf104
  v173 := Tryd.zeroValue104
  t212 := Tryd.underlying117
  a212 := Tryd.isAgg117
  z212 := Tryd.sizeOf117
  v212 := Tryd.zeroValue117
  t213 := Tryd.underlying119
  a213 := Tryd.isAgg119
  z213 := Tryd.sizeOf119
  t232 := Tryd.underlying136
  a232 := Tryd.isAgg136
  z232 := Tryd.sizeOf136
  v232 := Tryd.zeroValue136
  t233 := Tryd.underlying137
  a233 := Tryd.isAgg137
  z233 := Tryd.sizeOf137
  v233 := Tryd.zeroValue137
  g17 := by kernel_rfl
  g18 := by kernel_rfl
  g19 := by kernel_rfl
  i0 := by kernel_rfl
  i2 := by kernel_rfl
  i3 := by kernel_rfl
  i4 := by kernel_rfl
  i5 := by kernel_rfl
  i9 := by kernel_rfl
  i20 := by kernel_rfl
  i37 := by kernel_rfl
  i46 := by kernel_rfl
  i51 := by kernel_rfl
  i53 := by kernel_rfl
  i171 := by kernel_rfl
  i173 := by kernel_rfl
  i212 := by kernel_rfl
  i232 := by kernel_rfl
  i233 := by kernel_rfl
  m17 := by kernel_rfl
  m18 := by kernel_rfl
  m19 := by kernel_rfl }
open Go.RowKit Go.Sort Go.Lib in
/-- strconv.Itoa: "Itoa is equivalent to FormatInt(int64(i), 10).": i's DECIMAL NUMERAL ('Lib.itoa': a '-' where i is negative, then the digits), FOR EVERY int. The world behind the call: the world before it, new blocks behind the heap (the library's 'var a [24]byte'), draws. (LAID: no walk: one application.) -/
theorem Tryd.strconv_Itoa (n : Int) (h0 : -9223372036854775808 ≤ n) (h1 : n ≤ 9223372036854775807) (w : World) (htab : Lib.TabIs Tryd.prog w "internal/strconv.uint64pow10" .u64 Lib.pow10Tab) :
    Calls Tryd.prog 49 #[.int .i64 n] w fun e w' => e = .returned (.string ⟨(Lib.itoa n).toArray⟩) ∧ ∃ k os, w' = grow (w.drewN k) os := Any.strconv_Itoa Tryd.laysM171 n h0 h1 w htab
def Tryd.laysC174_ren : Go.Shelf.Ren := ⟨fun | 174 => 32 | 247 => 55 | 245 => 56 | 287 => 74 | 279 => 75 | 280 => 76 | 281 => 77 | 282 => 78 | 321 => 94 | 322 => 95 | 316 => 96 | 171 => 49 | 205 => 97 | 243 => 71 | 246 => 64 | 283 => 83 | 284 => 84 | 285 => 85 | 286 => 86 | 129 => 102 | 317 => 101 | 318 => 103 | 319 => 104 | 320 => 105 | 337 => 115 | 338 => 116 | n => n, fun | 9 => 9 | 3 => 3 | 2 => 2 | 75 => 50 | 85 => 51 | 4 => 4 | 167 => 91 | 5 => 5 | 53 => 92 | 175 => 93 | 46 => 57 | 168 => 95 | 37 => 38 | 0 => 0 | 210 => 112 | 21 => 21 | 127 => 90 | 145 => 126 | 143 => 124 | 171 => 101 | 173 => 104 | 212 => 117 | 51 => 118 | 20 => 20 | 213 => 119 | 232 => 136 | 233 => 137 | 80 => 71 | n => n, fun | 15 => 1 | 16 => 2 | 17 => 3 | 18 => 7 | 19 => 8 | n => n⟩
theorem Tryd.laysC174 : Go.Proofs.LaysC.n174 Tryd.prog Tryd.laysC174_ren := {
  mixed := by kernel_rfl
  f129 := Tryd.func102.trans (congrArg some (by kernel_rfl))
  f171 := Tryd.func49.trans (congrArg some (by kernel_rfl))
  f174 := Tryd.func32.trans (congrArg some (by kernel_rfl))
  f205 := Tryd.func97.trans (congrArg some (by kernel_rfl))
  f243 := Tryd.func71.trans (congrArg some (by kernel_rfl))
  f245 := Tryd.func56.trans (congrArg some (by kernel_rfl))
  f246 := Tryd.func64.trans (congrArg some (by kernel_rfl))
  f247 := Tryd.func55.trans (congrArg some (by kernel_rfl))
  f279 := Tryd.func75.trans (congrArg some (by kernel_rfl))
  f280 := Tryd.func76.trans (congrArg some (by kernel_rfl))
  f281 := Tryd.func77.trans (congrArg some (by kernel_rfl))
  f282 := Tryd.func78.trans (congrArg some (by kernel_rfl))
  f283 := Tryd.func83.trans (congrArg some (by kernel_rfl))
  f284 := Tryd.func84.trans (congrArg some (by kernel_rfl))
  f285 := Tryd.func85.trans (congrArg some (by kernel_rfl))
  f286 := Tryd.func86.trans (congrArg some (by kernel_rfl))
  f287 := Tryd.func74.trans (congrArg some (by kernel_rfl))
  f316 := Tryd.func96.trans (congrArg some (by kernel_rfl))
  f317 := Tryd.func101.trans (congrArg some (by kernel_rfl))
  f318 := Tryd.func103.trans (congrArg some (by kernel_rfl))
  f319 := Tryd.func104.trans (congrArg some (by kernel_rfl))
  f320 := Tryd.func105.trans (congrArg some (by kernel_rfl))
  f321 := Tryd.func94.trans (congrArg some (by kernel_rfl))
  f322 := Tryd.func95.trans (congrArg some (by kernel_rfl))
  f337 := Tryd.func115.trans (congrArg some (by kernel_rfl))
  f338 := Tryd.func116.trans (congrArg some (by kernel_rfl))
  t0 := Tryd.underlying0
  a0 := Tryd.isAgg0
  z0 := Tryd.sizeOf0
  v0 := Tryd.zeroValue0
  t2 := Tryd.underlying2
  a2 := Tryd.isAgg2
  z2 := Tryd.sizeOf2
  v2 := Tryd.zeroValue2
  t3 := Tryd.underlying3
  a3 := Tryd.isAgg3
  z3 := Tryd.sizeOf3
  v3 := Tryd.zeroValue3
  t4 := Tryd.underlying4
  a4 := Tryd.isAgg4
  z4 := Tryd.sizeOf4
  v4 := Tryd.zeroValue4
  t5 := Tryd.underlying5
  a5 := Tryd.isAgg5
  z5 := Tryd.sizeOf5
  v5 := Tryd.zeroValue5
  t9 := Tryd.underlying9
  a9 := Tryd.isAgg9
  z9 := Tryd.sizeOf9
  v9 := Tryd.zeroValue9
  t20 := Tryd.underlying20
  a20 := Tryd.isAgg20
  z20 := Tryd.sizeOf20
  v20 := Tryd.zeroValue20
  t21 := Tryd.underlying21
  a21 := Tryd.isAgg21
  z21 := Tryd.sizeOf21
  v21 := Tryd.zeroValue21
  t37 := Tryd.underlying38
  a37 := Tryd.isAgg38
  z37 := Tryd.sizeOf38
  v37 := Tryd.zeroValue38
  t46 := Tryd.underlying57
  a46 := Tryd.isAgg57
  z46 := Tryd.sizeOf57
  v46 := Tryd.zeroValue57
  t51 := Tryd.underlying118
  a51 := Tryd.isAgg118
  z51 := Tryd.sizeOf118
  v51 := Tryd.zeroValue118
  t53 := Tryd.underlying92
  a53 := Tryd.isAgg92
  z53 := Tryd.sizeOf92
  v53 := Tryd.zeroValue92
  t75 := Tryd.underlying50
  a75 := Tryd.isAgg50
  z75 := Tryd.sizeOf50
  v75 := Tryd.zeroValue50
  t85 := Tryd.underlying51
  a85 := Tryd.isAgg51
  z85 := Tryd.sizeOf51
  v85 := Tryd.zeroValue51
  t127 := Tryd.underlying90
  a127 := Tryd.isAgg90
  z127 := Tryd.sizeOf90
  v127 := Tryd.zeroValue90
  t143 := Tryd.underlying124
  a143 := Tryd.isAgg124
  z143 := Tryd.sizeOf124
  v143 := Tryd.zeroValue124
  t145 := Tryd.underlying126
  a145 := Tryd.isAgg126
  z145 := Tryd.sizeOf126
  v145 := Tryd.zeroValue126
  t167 := Tryd.underlying91
  a167 := Tryd.isAgg91
  z167 := Tryd.sizeOf91
  v167 := Tryd.zeroValue91
  t168 := Tryd.underlying95
  a168 := Tryd.isAgg95
  z168 := Tryd.sizeOf95
  v168 := Tryd.zeroValue95
  t171 := Tryd.underlying101
  a171 := Tryd.isAgg101
  z171 := Tryd.sizeOf101
  v171 := Tryd.zeroValue101
  t173 := Tryd.underlying104
  a173 := Tryd.isAgg104
  z173 := Tryd.sizeOf104
  v173 := Tryd.zeroValue104
  t175 := Tryd.underlying93
  a175 := Tryd.isAgg93
  z175 := Tryd.sizeOf93
  v175 := Tryd.zeroValue93
  t210 := Tryd.underlying112
  a210 := Tryd.isAgg112
  z210 := Tryd.sizeOf112
  v210 := Tryd.zeroValue112
  t212 := Tryd.underlying117
  a212 := Tryd.isAgg117
  z212 := Tryd.sizeOf117
  v212 := Tryd.zeroValue117
  t213 := Tryd.underlying119
  a213 := Tryd.isAgg119
  z213 := Tryd.sizeOf119
  t232 := Tryd.underlying136
  a232 := Tryd.isAgg136
  z232 := Tryd.sizeOf136
  v232 := Tryd.zeroValue136
  t233 := Tryd.underlying137
  a233 := Tryd.isAgg137
  z233 := Tryd.sizeOf137
  v233 := Tryd.zeroValue137
  g15 := by kernel_rfl
  g16 := by kernel_rfl
  g17 := by kernel_rfl
  g18 := by kernel_rfl
  g19 := by kernel_rfl
  t80 := Tryd.underlying71
  a80 := Tryd.isAgg71
  z80 := Tryd.sizeOf71
  v80 := Tryd.zeroValue71
  i0 := by kernel_rfl
  i2 := by kernel_rfl
  i3 := by kernel_rfl
  i4 := by kernel_rfl
  i5 := by kernel_rfl
  i9 := by kernel_rfl
  i20 := by kernel_rfl
  i21 := by kernel_rfl
  i37 := by kernel_rfl
  i46 := by kernel_rfl
  i51 := by kernel_rfl
  i53 := by kernel_rfl
  i75 := by kernel_rfl
  i80 := by kernel_rfl
  i85 := by kernel_rfl
  i127 := by kernel_rfl
  i143 := by kernel_rfl
  i145 := by kernel_rfl
  i167 := by kernel_rfl
  i168 := by kernel_rfl
  i171 := by kernel_rfl
  i173 := by kernel_rfl
  i175 := by kernel_rfl
  i210 := by kernel_rfl
  i212 := by kernel_rfl
  i232 := by kernel_rfl
  i233 := by kernel_rfl
  m15 := by kernel_rfl
  m16 := by kernel_rfl
  m17 := by kernel_rfl
  m18 := by kernel_rfl
  m19 := by kernel_rfl
  c0 := by kernel_rfl
  c2 := by kernel_rfl
  c3 := by kernel_rfl
  c4 := by kernel_rfl
  c5 := by kernel_rfl
  c9 := by kernel_rfl
  c20 := by kernel_rfl
  c21 := by kernel_rfl
  c37 := by kernel_rfl
  c46 := by kernel_rfl
  c51 := by kernel_rfl
  c53 := by kernel_rfl
  c75 := by kernel_rfl
  c80 := by kernel_rfl
  c85 := by kernel_rfl
  c127 := by kernel_rfl
  c143 := by kernel_rfl
  c145 := by kernel_rfl
  c167 := by kernel_rfl
  c168 := by kernel_rfl
  c171 := by kernel_rfl
  c173 := by kernel_rfl
  c175 := by kernel_rfl
  c210 := by kernel_rfl
  c212 := by kernel_rfl
  c213 := by kernel_rfl
  c232 := by kernel_rfl
  c233 := by kernel_rfl }
open Go.RowKit in
/-- strconv.ParseInt(s, 10, 64), AT EVERY STRING THAT SPELLS AN int64 ('Lib.parseIntB 64 s.data.toList = .ok v'): v, AND NO ERROR. (LAID: no walk: one application.) -/
theorem Tryd.strconv_ParseInt_10_at64_ok (s : ByteArray) (hmax : s.size ≤ 9223372036854775806) (v : Int) (h : Lib.parseIntB 64 s.data.toList = .ok v) (w : World) :
    Calls Tryd.prog 32 #[.string s, .int .i64 10, .int .i64 64] w fun e w' => e = .returned (.tuple #[.int .i64 v, .nilIface]) ∧ (w' = w ∨ ∃ t, w' = Lib.bytesWorld w 5 t) := Any.strconv_ParseInt_10_at64_ok Tryd.laysC174 s hmax v h w
open Go.RowKit in
/-- strconv.ParseInt(s, 10, 64), AT EVERY NUMERAL THAT NO int64 HOLDS: THE GREATEST OR THE LEAST int64, BY THE SIGN ('Lib.intSat 64'), AND AN ERROR THAT IS NOT nil: a *NumError in a new block N: {Func: "ParseInt", Num: s's bytes, Err: what the variable ErrRange holds}. Of what was there nothing has turned. (LAID: no walk: one application.) -/
theorem Tryd.strconv_ParseInt_10_at64_range (s : ByteArray) (hlim : s.size ≤ 281474976710656) (h : Lib.parseIntB 64 s.data.toList = .range) (ev : Value) (w : World) (hv : w.cell? ⟨2, 0, none⟩ = some ev) (hev : ev = .nilIface ∨ ∃ te pe, ev = .iface te pe) :
    Calls Tryd.prog 32 #[.string s, .int .i64 10, .int .i64 64] w fun e w' => ∃ N, e = .returned (.tuple #[.int .i64 (Lib.intSat 64 s.data.toList), .iface 95 (.pointer (some ⟨N, 0, none⟩))]) ∧ w.heap.size ≤ N ∧ w'.heap[N]? = some (.cells #[.string ⟨#[80, 97, 114, 115, 101, 73, 110, 116]⟩, .string s, ev] 112 (0, 0)) ∧ Below w.heap.size w w' := Any.strconv_ParseInt_10_at64_range Tryd.laysC174 s hlim h ev w hv hev
def Tryd.lays145_ren : Go.Shelf.Ren := ⟨fun | 145 => 52 | 220 => 72 | 219 => 92 | 217 => 106 | 225 => 111 | 224 => 112 | 267 => 113 | 266 => 117 | 314 => 120 | n => n, fun | 9 => 9 | 4 => 4 | 59 => 73 | 3 => 3 | 5 => 5 | 46 => 57 | 146 => 134 | 51 => 118 | n => n, fun | 1 => 4 | n => n⟩
theorem Tryd.lays145 : Go.Proofs.Lays.n145 Tryd.prog Tryd.lays145_ren := {
  mixed := by kernel_rfl
  f145 := Tryd.func52.trans (congrArg some (by kernel_rfl))
  f217 := Tryd.func106.trans (congrArg some (by kernel_rfl))
  f219 := Tryd.func92.trans (congrArg some (by kernel_rfl))
  f220 := Tryd.func72.trans (congrArg some (by kernel_rfl))
  f224 := Tryd.func112.trans (congrArg some (by kernel_rfl))
  f225 := Tryd.func111.trans (congrArg some (by kernel_rfl))
  f266 := Tryd.func117.trans (congrArg some (by kernel_rfl))
  f267 := Tryd.func113.trans (congrArg some (by kernel_rfl))
  f314 := Tryd.func120.trans (congrArg some (by kernel_rfl))
  t3 := Tryd.underlying3
  a3 := Tryd.isAgg3
  z3 := Tryd.sizeOf3
  v3 := Tryd.zeroValue3
  t4 := Tryd.underlying4
  a4 := Tryd.isAgg4
  z4 := Tryd.sizeOf4
  v4 := Tryd.zeroValue4
  t5 := Tryd.underlying5
  a5 := Tryd.isAgg5
  z5 := Tryd.sizeOf5
  v5 := Tryd.zeroValue5
  t9 := Tryd.underlying9
  a9 := Tryd.isAgg9
  z9 := Tryd.sizeOf9
  v9 := Tryd.zeroValue9
  t46 := Tryd.underlying57
  a46 := Tryd.isAgg57
  z46 := Tryd.sizeOf57
  v46 := Tryd.zeroValue57
  t51 := Tryd.underlying118
  a51 := Tryd.isAgg118
  z51 := Tryd.sizeOf118
  v51 := Tryd.zeroValue118
  t59 := Tryd.underlying73
  a59 := Tryd.isAgg73
  z59 := Tryd.sizeOf73
  v59 := Tryd.zeroValue73
  t146 := Tryd.underlying134
  a146 := Tryd.isAgg134
  z146 := Tryd.sizeOf134
  v146 := Tryd.zeroValue134
  g1 := by kernel_rfl }
open Go.RowKit Go.Lib in
/-- strings.Cut: "Cut slices s around the first instance of sep, returning the text before and after sep. The found result reports whether sep appears in s. If sep does not appear in s, cut returns s, "", false.": IT RETURNS 'Lib.cut s sep'; the world is as it was but for the count of draws. (LAID: no walk: one application.) -/
theorem Tryd.strings_Cut (s sep : ByteArray) (m : Int) (w : World) (hs : s.size < 4294967281) (hm : w.cell? ⟨4, 0, none⟩ = some (.int .i64 m)) :
    Calls Tryd.prog 52 #[.string s, .string sep] w fun e w' => e = .returned (.tuple #[.string ⟨(Lib.cut s.data.toList sep.data.toList).1.toArray⟩, .string ⟨(Lib.cut s.data.toList sep.data.toList).2.1.toArray⟩, .bool (Lib.cut s.data.toList sep.data.toList).2.2]) ∧ ∃ n, w' = w.drewN n := Any.strings_Cut Tryd.lays145 s sep m w hs hm
def Tryd.lays101_ren : Go.Shelf.Ren := ⟨fun | 101 => 54 | 208 => 73 | 206 => 93 | n => n, fun | 9 => 9 | 4 => 4 | 3 => 3 | n => n, fun | n => n⟩
theorem Tryd.lays101 : Go.Proofs.Lays.n101 Tryd.prog Tryd.lays101_ren := {
  mixed := by kernel_rfl
  f101 := Tryd.func54.trans (congrArg some (by kernel_rfl))
  f206 := Tryd.func93.trans (congrArg some (by kernel_rfl))
  f208 := Tryd.func73.trans (congrArg some (by kernel_rfl))
  t3 := Tryd.underlying3
  a3 := Tryd.isAgg3
  z3 := Tryd.sizeOf3
  v3 := Tryd.zeroValue3
  t4 := Tryd.underlying4
  a4 := Tryd.isAgg4
  z4 := Tryd.sizeOf4
  v4 := Tryd.zeroValue4
  t9 := Tryd.underlying9
  a9 := Tryd.isAgg9
  z9 := Tryd.sizeOf9
  v9 := Tryd.zeroValue9 }
open Go.RowKit Go.Lib in
/-- strings.TrimPrefix: "TrimPrefix returns s without the provided leading prefix string. If s doesn't start with prefix, s is returned unchanged.": IT RETURNS 'Lib.trimPrefix s prefix'; the world is as it was. (LAID: no walk: one application.) -/
theorem Tryd.strings_TrimPrefix (s p : ByteArray) (w : World) :
    Calls Tryd.prog 54 #[.string s, .string p] w fun e w' => e = .returned (.string ⟨(Lib.trimPrefix s.data.toList p.data.toList).toArray⟩) ∧ w' = w := Any.strings_TrimPrefix Tryd.lays101 s p w
def Tryd.lays146_ren : Go.Shelf.Ren := ⟨fun | 146 => 69 | 221 => 90 | 268 => 108 | 138 => 109 | 143 => 110 | 195 => 118 | 197 => 80 | 218 => 119 | 219 => 92 | 260 => 98 | 217 => 106 | 225 => 111 | 224 => 112 | 267 => 113 | 266 => 117 | 314 => 120 | n => n, fun | 9 => 9 | 31 => 59 | 3 => 3 | 4 => 4 | 0 => 0 | 105 => 98 | 21 => 21 | 5 => 5 | 46 => 57 | 119 => 127 | 139 => 130 | 138 => 129 | 146 => 134 | 51 => 118 | n => n, fun | 1 => 4 | 3 => 5 | 4 => 6 | n => n⟩
theorem Tryd.lays146 : Go.Proofs.Lays.n146 Tryd.prog Tryd.lays146_ren := {
  mixed := by kernel_rfl
  f138 := Tryd.func109.trans (congrArg some (by kernel_rfl))
  f143 := Tryd.func110.trans (congrArg some (by kernel_rfl))
  f146 := Tryd.func69.trans (congrArg some (by kernel_rfl))
  f195 := Tryd.func118.trans (congrArg some (by kernel_rfl))
  f197 := Tryd.func80.trans (congrArg some (by kernel_rfl))
  f217 := Tryd.func106.trans (congrArg some (by kernel_rfl))
  f218 := Tryd.func119.trans (congrArg some (by kernel_rfl))
  f219 := Tryd.func92.trans (congrArg some (by kernel_rfl))
  f221 := Tryd.func90.trans (congrArg some (by kernel_rfl))
  f224 := Tryd.func112.trans (congrArg some (by kernel_rfl))
  f225 := Tryd.func111.trans (congrArg some (by kernel_rfl))
  f260 := Tryd.func98.trans (congrArg some (by kernel_rfl))
  f266 := Tryd.func117.trans (congrArg some (by kernel_rfl))
  f267 := Tryd.func113.trans (congrArg some (by kernel_rfl))
  f268 := Tryd.func108.trans (congrArg some (by kernel_rfl))
  f314 := Tryd.func120.trans (congrArg some (by kernel_rfl))
  t0 := Tryd.underlying0
  a0 := Tryd.isAgg0
  z0 := Tryd.sizeOf0
  v0 := Tryd.zeroValue0
  t3 := Tryd.underlying3
  a3 := Tryd.isAgg3
  z3 := Tryd.sizeOf3
  v3 := Tryd.zeroValue3
  t4 := Tryd.underlying4
  a4 := Tryd.isAgg4
  z4 := Tryd.sizeOf4
  v4 := Tryd.zeroValue4
  t5 := Tryd.underlying5
  a5 := Tryd.isAgg5
  z5 := Tryd.sizeOf5
  v5 := Tryd.zeroValue5
  t9 := Tryd.underlying9
  a9 := Tryd.isAgg9
  z9 := Tryd.sizeOf9
  v9 := Tryd.zeroValue9
  t21 := Tryd.underlying21
  a21 := Tryd.isAgg21
  z21 := Tryd.sizeOf21
  v21 := Tryd.zeroValue21
  t31 := Tryd.underlying59
  a31 := Tryd.isAgg59
  z31 := Tryd.sizeOf59
  v31 := Tryd.zeroValue59
  t46 := Tryd.underlying57
  a46 := Tryd.isAgg57
  z46 := Tryd.sizeOf57
  v46 := Tryd.zeroValue57
  t51 := Tryd.underlying118
  a51 := Tryd.isAgg118
  z51 := Tryd.sizeOf118
  v51 := Tryd.zeroValue118
  t105 := Tryd.underlying98
  a105 := Tryd.isAgg98
  z105 := Tryd.sizeOf98
  v105 := Tryd.zeroValue98
  t119 := Tryd.underlying127
  a119 := Tryd.isAgg127
  z119 := Tryd.sizeOf127
  t138 := Tryd.underlying129
  a138 := Tryd.isAgg129
  z138 := Tryd.sizeOf129
  v138 := Tryd.zeroValue129
  t139 := Tryd.underlying130
  a139 := Tryd.isAgg130
  z139 := Tryd.sizeOf130
  v139 := Tryd.zeroValue130
  t146 := Tryd.underlying134
  a146 := Tryd.isAgg134
  z146 := Tryd.sizeOf134
  v146 := Tryd.zeroValue134
  g1 := by kernel_rfl
  g3 := by kernel_rfl
  g4 := by kernel_rfl }
open Go.RowKit Go.Lib in
/-- strings.Split. (LAID: no walk: one application.) -/
theorem Tryd.strings_Split (s sep : ByteArray) (m : Int) (w : World) (hs : s.size < 4294967281) (hm : w.cell? ⟨4, 0, none⟩ = some (.int .i64 m)) (h1 : 1 ≤ sep.size) :
    Calls Tryd.prog 69 #[.string s, .string sep] w fun e w' =>
      e = .returned (.slice (some ⟨w.heap.size, 0, none⟩) (Lib.countB s sep + 1) (Lib.countB s sep + 1)) ∧ w' = w.alloc (.cells ((Lib.splitB sep 0 (Lib.countB s sep) s).map Value.string).toArray 9) := Any.strings_Split Tryd.lays146 (by kernel_rfl) s sep m w hs hm h1
end Go.Proofs
/- The words: contracts of the library's functions. -/
set_option linter.unusedVariables false
namespace Go.Proofs.YtmeapfckibbbbaaDoor.Am
open Go.RowKit Lw Go.Shelf
/-- What the words' package and the library read of laid variables: escapes, MaxLen, ErrRange, the powers of ten. -/
abbrev escL : List Nat := [34, 34, 92, 92, 10, 110, 13, 114, 9, 116]
abbrev escD (j : Nat) : DC := .c (.int .u8 (escL.getD j 0 : Nat))
abbrev powD (j : Nat) : DC := .c (.int .u64 (Lib.pow10Tab.getD j 0))
abbrev glC (m : Int) (te : TypeId) (pe : Value) : List Chunk := [.stat 0 0 10 escD, .stat 1 4 1 (fun _ => .c (.int .i64 m)), .stat 2 2 1 (fun _ => .c (.iface te pe)), .stat 3 3 20 powD]
theorem glC_all (m : Int) (te : TypeId) (pe : Value) : allStat (glC m te pe) = true := rfl
section
variable {w : World} {S : Nat → Prop} {ν : Nat → Value} {m : Int} {te : TypeId} {pe : Value}
theorem gl_max (h : ∀ c ∈ glC m te pe, c.holds w S ν) : w.cell? ⟨4, 0, none⟩ = some (.int .i64 m) := by
  obtain ⟨_, _, h3, _⟩ := h _ (List.mem_cons_of_mem _ (List.mem_cons_self ..))
  obtain ⟨u, h4, h5⟩ := h3 0 (by decide)
  rw [h4, h5.1]
theorem gl_err (h : ∀ c ∈ glC m te pe, c.holds w S ν) : w.cell? ⟨2, 0, none⟩ = some (.iface te pe) := by
  obtain ⟨_, _, h3, _⟩ := h _ (List.mem_cons_of_mem _ (List.mem_cons_of_mem _ (List.mem_cons_self ..)))
  obtain ⟨u, h4, h5⟩ := h3 0 (by decide)
  rw [h4, h5.1]
theorem gl_pow (h : ∀ c ∈ glC m te pe, c.holds w S ν) : Lib.TabIs Tryd.prog w "internal/strconv.uint64pow10" .u64 Lib.pow10Tab := by
  obtain ⟨_, _, h3, cs, T, fr, h6, h7⟩ := h _ (List.mem_cons_of_mem _ (List.mem_cons_of_mem _ (List.mem_cons_of_mem _ (List.mem_cons_self ..))))
  unfold Lib.TabIs World.var?
  rw [show Tryd.prog.globalNamed "internal/strconv.uint64pow10" = some 3 by kernel_rfl]
  simp only [Option.bind_some, h6]
  congr 1
  refine Array.ext (by rw [h7]; rfl) fun i h1 h2 => ?_
  obtain ⟨u, h4, h5⟩ := h3 i (by omega)
  have h8 : w.cell? ⟨3, i, none⟩ = cs[i]? := by simp [World.cell?, h6]
  rw [h8, Array.getElem?_eq_getElem h1] at h4
  have h9 : cs[i] = u := Option.some.inj h4
  rw [h9, h5.1]
  have h10 : i < Lib.pow10Tab.length := by simpa using h2
  simp [List.getElem?_eq_getElem h10]
end
theorem args3 {w : World} {S : Nat → Prop} {ν : Nat → Value} {v u x : Value} {vs : List Value} (h : All2 (AV.rel w S ν) [.o (.c v), .o (.c u), .o (.c x)] vs) : vs = [v, u, x] := by
  obtain ⟨r, rfl, h2⟩ := argsC h
  obtain rfl := args2 h2
  rfl
theorem below_gr (w : World) (k : Nat) (os : Array Obj) : Below w.heap.size w (Go.Sort.grow (w.drewN k) os) :=
  ⟨rfl, rfl, rfl, by simp [Go.Sort.grow, World.drewN], fun i hi => by simp [Go.Sort.grow, World.drewN, Array.getElem?_append_left hi]⟩
set_option maxRecDepth 20000 in
theorem trim_c (l cs : List UInt8) (hl : l.length ≤ 1000000) (hcs : cs.length ≤ 1000) (ha : ∀ (j : Nat) b, cs[j]? = some b → b.toNat < 128) : Con Tryd.prog 34 [.o (.c (.string (sB l))), .o (.c (.string (sB cs)))] [] 0 0 U (fun _ => .o (.c (.string (sB (Lib.trimS l cs))))) G0 := by
  refine con_below (takes := []) (fn := Tryd.f34) Tryd.func34 (by kernel_rfl) (by kernel_rfl) rfl rfl (Nat.le_refl _) (fun _ => rfl) rfl fun w S ν vs hv _ => ?_
  obtain rfl := args2 hv
  refine Calls.mono (Any.strings_Trim_laid Tryd.lays160 (by kernel_rfl) (sB l) (sB cs) w (by rw [sB_size]; omega) (by rw [sB_size]; omega) ha) ?_
  rintro e w' ⟨rfl, hb⟩
  exact ⟨(), _, rfl, trivial, fun _ _ _ => ⟨rfl, rfl⟩, hb⟩
set_option maxRecDepth 20000 in
theorem tpre_c (l p : List UInt8) : Con Tryd.prog 54 [.o (.c (.string (sB l))), .o (.c (.string (sB p)))] [] 0 0 U (fun _ => .o (.c (.string (sB (Lib.trimPrefix l p))))) G0 := by
  refine con_same (fn := Tryd.f54) Tryd.func54 (by kernel_rfl) (by kernel_rfl) (fun _ => rfl) fun w S ν vs hv => ?_
  obtain rfl := args2 hv
  refine Calls.mono (Tryd.strings_TrimPrefix (sB l) (sB p) w) ?_
  rintro e w' ⟨rfl, rfl⟩
  exact ⟨(), _, rfl, trivial, ⟨rfl, rfl⟩, rfl⟩
set_option maxRecDepth 20000 in
theorem ixb_c (l : List UInt8) (c : UInt8) : Con Tryd.prog 87 [.o (.c (.string (sB l))), .o (.c (.int .u8 c.toNat))] [] 0 0 U (fun _ => .o (.c (.int .i64 (Lib.indexByte l c)))) G0 := by
  refine con_same (fn := Tryd.f87) Tryd.func87 (by kernel_rfl) (by kernel_rfl) (fun _ => rfl) fun w S ν vs hv => ?_
  obtain rfl := args2 hv
  refine Calls.mono (Tryd.strings_IndexByte (sB l) (c.toNat : Int) w) ?_
  rintro e w' ⟨rfl, rfl⟩
  exact ⟨(), _, rfl, trivial, ⟨by simp, rfl⟩, rfl⟩
set_option maxRecDepth 20000 in
theorem cut_c (m : Int) (te : TypeId) (pe : Value) (l p : List UInt8) (hl : l.length ≤ 1000000) : Con Tryd.prog 52 [.o (.c (.string (sB l))), .o (.c (.string (sB p)))] (glC m te pe) 4 4 U (fun _ => .t [.inl (.c (.string (sB (Lib.cut l p).1))), .inl (.c (.string (sB (Lib.cut l p).2.1))), .inl (.c (.bool (Lib.cut l p).2.2))]) (fun _ => glC m te pe) := by
  refine con_below (fn := Tryd.f52) Tryd.func52 (by kernel_rfl) (by kernel_rfl) rfl rfl (Nat.le_refl _) (fun _ => rfl) rfl fun w S ν vs hv hg => ?_
  obtain rfl := args2 hv
  refine Calls.mono (Tryd.strings_Cut (sB l) (sB p) m w (by rw [sB_size]; omega) (gl_max hg)) ?_
  rintro e w' ⟨rfl, n, rfl⟩
  exact ⟨(), _, rfl, trivial, fun _ _ _ => ⟨_, rfl, ⟨rfl, rfl⟩, ⟨rfl, rfl⟩, ⟨rfl, rfl⟩, trivial⟩, ⟨rfl, rfl, rfl, Nat.le_refl _, fun _ _ => rfl⟩⟩
set_option maxRecDepth 20000 in
theorem itoa_c (m : Int) (te : TypeId) (pe : Value) (n : Int) (hn : -9223372036854775808 ≤ n ∧ n ≤ 9223372036854775807) : Con Tryd.prog 49 [.o (.c (.int .i64 n))] (glC m te pe) 4 4 U (fun _ => .o (.c (.string (sB (Lib.itoa n))))) (fun _ => glC m te pe) := by
  refine con_below (fn := Tryd.f49) Tryd.func49 (by kernel_rfl) (by kernel_rfl) rfl rfl (Nat.le_refl _) (fun _ => rfl) rfl fun w S ν vs hv hg => ?_
  obtain rfl := args1 hv
  refine Calls.mono (Tryd.strconv_Itoa n hn.1 hn.2 w (gl_pow hg)) ?_
  rintro e w' ⟨rfl, k, os, rfl⟩
  exact ⟨(), _, rfl, trivial, fun _ _ _ => ⟨rfl, rfl⟩, below_gr _ _ _⟩
set_option maxRecDepth 20000 in
theorem parseOk_c (m : Int) (te : TypeId) (pe : Value) (l : List UInt8) (hl : l.length ≤ 1000000) (z : Int) (h : Lib.parseIntB 64 l = .ok z) : Con Tryd.prog 32 [.o (.c (.string (sB l))), .o (.c (.int .i64 10)), .o (.c (.int .i64 64))] (glC m te pe) 4 4 U (fun _ => .t [.inl (.c (.int .i64 z)), .inl (.c .nilIface)]) (fun _ => glC m te pe) := by
  refine con_below (fn := Tryd.f32) Tryd.func32 (by kernel_rfl) (by kernel_rfl) rfl rfl (Nat.le_refl _) (fun _ => rfl) rfl fun w S ν vs hv hg => ?_
  obtain rfl := args3 hv
  refine Calls.mono (Tryd.strconv_ParseInt_10_at64_ok (sB l) (by rw [sB_size]; omega) z h w) ?_
  rintro e w' ⟨rfl, hw⟩
  refine ⟨(), _, rfl, trivial, fun _ _ _ => ⟨_, rfl, ⟨rfl, rfl⟩, ⟨rfl, rfl⟩, trivial⟩, ?_⟩
  rcases hw with rfl | ⟨t, rfl⟩
  · exact Below.refl _ _
  · exact Lib.bytesWorld_below _ _ _
set_option maxRecDepth 20000 in
theorem parseR_c (m : Int) (te : TypeId) (pe : Value) (l : List UInt8) (hl : l.length ≤ 1000000) (h : Lib.parseIntB 64 l = .range) : Con Tryd.prog 32 [.o (.c (.string (sB l))), .o (.c (.int .i64 10)), .o (.c (.int .i64 64))] (glC m te pe) 4 4 (fun v : Value => ∃ tp p, v = .iface tp p) (fun v => .t [.inl (.c (.int .i64 (Lib.intSat 64 l))), .inl (.c v)]) (fun _ => glC m te pe) := by
  refine con_below (fn := Tryd.f32) Tryd.func32 (by kernel_rfl) (by kernel_rfl) rfl rfl (Nat.le_refl _) (fun _ => rfl) rfl fun w S ν vs hv hg => ?_
  obtain rfl := args3 hv
  refine Calls.mono (Tryd.strconv_ParseInt_10_at64_range (sB l) (by rw [sB_size]; omega) h (.iface te pe) w (gl_err hg) (.inr ⟨_, _, rfl⟩)) ?_
  rintro e w' ⟨N, rfl, _, _, hb⟩
  exact ⟨_, _, rfl, ⟨_, _, rfl⟩, fun _ _ _ => ⟨_, rfl, ⟨rfl, rfl⟩, ⟨rfl, rfl⟩, trivial⟩, hb⟩
end Go.Proofs.YtmeapfckibbbbaaDoor.Am
/- The words: names and numbers, the program's. -/
set_option linter.unusedVariables false
namespace Go.Proofs.YtmeapfckibbbbaaDoor.Am
open Go.RowKit Lw Wo
theorem word_ascii : ∀ (j : Nat) b, wordL[j]? = some b → b.toNat < 128 := by
  intro j b h
  have := List.mem_of_getElem? h
  exact (by decide : ∀ b ∈ wordL, b.toNat < 128) b this
theorem dig_ascii : ∀ (j : Nat) b, digL[j]? = some b → b.toNat < 128 := by
  intro j b h
  have := List.mem_of_getElem? h
  exact (by decide : ∀ b ∈ digL, b.toNat < 128) b this
theorem str_nil (l : Bs) : (sB l = (ByteArray.mk #[])) ↔ l = [] := sB_inj (b := [])
theorem trim_word (l : Bs) : decide (sB (Lib.trimS l wordL) = ByteArray.mk #[]) = l.all wordC := by
  have : (l.all (wordL.contains ·)) = l.all wordC := by congr 1; funext c; exact word_in c
  rw [← this]
  by_cases h : l.all (wordL.contains ·) = true
  · rw [h]; exact decide_eq_true ((str_nil _).2 ((trim_nil l wordL).2 h))
  · rw [Bool.not_eq_true] at h
    rw [h]; exact decide_eq_false fun e => by
      have := (trim_nil l wordL).1 ((str_nil _).1 e)
      rw [h] at this; cases this
theorem trim_dig (l : Bs) : decide (sB (Lib.trimS l digL) = ByteArray.mk #[]) = l.all digC := by
  have : (l.all (digL.contains ·)) = l.all digC := by congr 1; funext c; exact dig_in c
  rw [← this]
  by_cases h : l.all (digL.contains ·) = true
  · rw [h]; exact decide_eq_true ((str_nil _).2 ((trim_nil l digL).2 h))
  · rw [Bool.not_eq_true] at h
    rw [h]; exact decide_eq_false fun e => by
      have := (trim_nil l digL).1 ((str_nil _).1 e)
      rw [h] at this; cases this
theorem dig_no {t : Bs} (h : ¬ (sB (Lib.trimS t digL)).size = 0) : t.all digC = false := by
  rw [← trim_dig]
  exact decide_eq_false fun e => h (by rw [e]; rfl)
theorem dig_yes {t : Bs} (h : (sB (Lib.trimS t digL)).size = 0) : t.all digC = true := by
  rw [← trim_dig]
  rw [sB_size] at h
  exact decide_eq_true ((str_nil _).2 (List.length_eq_zero_iff.1 h))
theorem n48 {t : Bs} (h : ¬ ((t.getD (Int.toNat 0) 0).toNat : Int) = 48) : t.getD 0 0 ≠ 48 := fun e => h (by
  show ((t.getD 0 0).toNat : Int) = 48
  rw [e]; rfl)
theorem y48 {t : Bs} (h : ((t.getD (Int.toNat 0) 0).toNat : Int) = 48) : t.getD 0 0 = 48 := UInt8.toNat_inj.1 (by
  have h : ((t.getD 0 0).toNat : Int) = 48 := h
  rw [show (48 : UInt8).toNat = 48 from rfl]; omega)
theorem name_no {l : Bs} (h : ¬ (1 ≤ l.length ∧ l.length ≤ 16 ∧ 97 ≤ (l.getD 0 0).toNat ∧ (l.getD 0 0).toNat ≤ 122)) : nameI l = false := by
  unfold nameI lowC
  by_cases h1 : 1 ≤ l.length ∧ l.length ≤ 16
  · have h2 : ¬ (97 ≤ (l.getD 0 0).toNat ∧ (l.getD 0 0).toNat ≤ 122) := fun h2 => h ⟨h1.1, h1.2, h2⟩
    rw [decide_eq_false h2]; simp
  · rw [decide_eq_false h1]; simp
theorem name_yes {l : Bs} (h : 1 ≤ l.length ∧ l.length ≤ 16 ∧ 97 ≤ (l.getD 0 0).toNat ∧ (l.getD 0 0).toNat ≤ 122) : nameI l = l.all wordC := by
  unfold nameI lowC
  rw [decide_eq_true ⟨h.1, h.2.1⟩, decide_eq_true ⟨h.2.2.1, h.2.2.2⟩]; simp
set_option maxRecDepth 20000 in
theorem Name_c (l : Bs) (hl : l.length ≤ 1000000) : Con Tryd.prog 15 [.o (.c (.string (sB l)))] [] 0 0 U (fun _ => .o (.sb (nameI l))) G0 := by
  refine con_of Tryd.func15 rfl (by kernel_rfl) Tryd.ntmps15 rfl (by first | exact Nat.zero_le _ | decide) (fun _ => ⟨rfl, rfl⟩) fun w S ν => ?_
  have hz := sB_size l
  have h0 : l.getD (Int.toNat 0) 0 = l.getD 0 0 := rfl
  (repeat' (first | (with_reducible refine AllP.go ?_; (first | exact trivial | exact fun i _ => ⟨_, rfl⟩ | ((try simp only [OS]); repeat' (first | omega | exact fun i _ => ⟨_, rfl⟩ | refine And.intro ?_ ?_)))) | (refine TE.rgo tysOk rfl (by rfl) ?_ ?_) | (with_reducible first | refine t1 ?_ | refine t2 ?_ | refine t3 ?_ | refine t4 ?_ | refine t5 ?_ | refine t6 ?_ | refine t7 ?_ | refine t8 ?_ | refine t9 ?_ | refine tA ?_ | refine tB ?_ | refine tC ?_ | refine tD rfl ?_ | refine tE ?_ | refine tF ?_ | refine tG ?_ | refine tH ?_ | refine tI ?_ | refine tJ ?_ | refine tK ?_ | refine tL ?_) | (with_reducible first | exact PanicOk.body | exact rd.panic | refine PanicOk.then' ?_ | refine PanicOk.block ?_ | refine PanicOk.jump ?_) | (refine TE.drawC (by rfl) (by rfl) (by rfl) (by rfl) ?_) | (refine TE.drawN (by rfl) (by rfl) (by rfl) ?_) | (refine TL.done (by rfl) ?_) | (refine TL.auto tysOk rfl ?_ (by rfl) ?_ ?_) | ((refine TL.one (by rfl) ?_); first | (refine StepL.mem tysOk rfl rfl rfl rfl (by rfl) ?_ (by rfl) ?_) | (refine StepL.pure tysOk rfl rfl rfl rfl (by rfl) ?_ (by rfl) ?_)) | (refine StepL.mem tysOk rfl rfl rfl rfl (by rfl) ?_ (by rfl) ?_) | refine TE.cond_true (by rfl) ?_ | refine TE.cond_false (by rfl) ?_ | ((refine TE.gsplit (by rfl) (by rfl) ?_ ?_ <;> intro h <;> (try simp only [NS] at h) <;> (try (exfalso; first | omega | exact h trivial | exact h | exact h rfl | contradiction))) <;> (refine TE.run tysOk rfl (by rfl) ?_ ?_)) | ((first | refine TL.gsplit (by rfl) (by rfl) ?_ ?_ | refine TE.cond_split (by rfl) ?_ ?_) <;> intro h <;> (try simp only [NS] at h) <;> (try (exfalso; first | omega | exact h trivial | exact h | exact h rfl | contradiction)))))
  · rw [name_no (by omega)]; (refine TE.ret' (by first | exact .inl rfl | exact .inr rfl) rfl tysOk (()) ?_ rfl (by rfl) ?_; all_goals (try (first | exact trivial | ((with_reducible refine AllP.go ?_); dsimp only [AllP, appP]; repeat' (first | with_reducible rfl | with_reducible exact LeD.refl | refine And.intro ?_ ?_ | (refine congrArg (Value.int _) ?_; first | omega | rfl | (simp only [Int.toNat_natCast]; omega)) | rfl | (refine congrArg Value.bool ?_; assumption) | exact LeD.refl)))))
  · rw [name_no (by omega)]; (refine TE.ret' (by first | exact .inl rfl | exact .inr rfl) rfl tysOk (()) ?_ rfl (by rfl) ?_; all_goals (try (first | exact trivial | ((with_reducible refine AllP.go ?_); dsimp only [AllP, appP]; repeat' (first | with_reducible rfl | with_reducible exact LeD.refl | refine And.intro ?_ ?_ | (refine congrArg (Value.int _) ?_; first | omega | rfl | (simp only [Int.toNat_natCast]; omega)) | rfl | (refine congrArg Value.bool ?_; assumption) | exact LeD.refl)))))
  · rw [name_no (by rw [h0] at *; omega)]; (refine TE.ret' (by first | exact .inl rfl | exact .inr rfl) rfl tysOk (()) ?_ rfl (by rfl) ?_; all_goals (try (first | exact trivial | ((with_reducible refine AllP.go ?_); dsimp only [AllP, appP]; repeat' (first | with_reducible rfl | with_reducible exact LeD.refl | refine And.intro ?_ ?_ | (refine congrArg (Value.int _) ?_; first | omega | rfl | (simp only [Int.toNat_natCast]; omega)) | rfl | (refine congrArg Value.bool ?_; assumption) | exact LeD.refl)))))
  · rw [name_no (by rw [h0] at *; omega)]; (refine TE.ret' (by first | exact .inl rfl | exact .inr rfl) rfl tysOk (()) ?_ rfl (by rfl) ?_; all_goals (try (first | exact trivial | ((with_reducible refine AllP.go ?_); dsimp only [AllP, appP]; repeat' (first | with_reducible rfl | with_reducible exact LeD.refl | refine And.intro ?_ ?_ | (refine congrArg (Value.int _) ?_; first | omega | rfl | (simp only [Int.toNat_natCast]; omega)) | rfl | (refine congrArg Value.bool ?_; assumption) | exact LeD.refl)))))
  · refine TE.callW (trim_c l wordL hl (by decide) word_ascii) rfl (by rfl) (by rfl) rfl (by rfl) (by (first | exact trivial | ((with_reducible refine AllP.go ?_); dsimp only [AllP, appP]; repeat' (first | with_reducible rfl | with_reducible exact LeD.refl | refine And.intro ?_ ?_ | (refine congrArg (Value.int _) ?_; first | omega | rfl | (simp only [Int.toNat_natCast]; omega)) | rfl | (refine congrArg Value.bool ?_; assumption) | assumption | exact LeD.refl)))) ?_
    intro _ _
    ((refine TE.run tysOk rfl (by rfl) ?_ ?_); (repeat' (first | (with_reducible refine AllP.go ?_; (first | exact trivial | exact fun i _ => ⟨_, rfl⟩ | ((try simp only [OS]); repeat' (first | omega | exact fun i _ => ⟨_, rfl⟩ | refine And.intro ?_ ?_)))) | (refine TE.rgo tysOk rfl (by rfl) ?_ ?_) | (with_reducible first | refine t1 ?_ | refine t2 ?_ | refine t3 ?_ | refine t4 ?_ | refine t5 ?_ | refine t6 ?_ | refine t7 ?_ | refine t8 ?_ | refine t9 ?_ | refine tA ?_ | refine tB ?_ | refine tC ?_ | refine tD rfl ?_ | refine tE ?_ | refine tF ?_ | refine tG ?_ | refine tH ?_ | refine tI ?_ | refine tJ ?_ | refine tK ?_ | refine tL ?_) | (with_reducible first | exact PanicOk.body | exact rd.panic | refine PanicOk.then' ?_ | refine PanicOk.block ?_ | refine PanicOk.jump ?_) | (refine TE.drawC (by rfl) (by rfl) (by rfl) (by rfl) ?_) | (refine TE.drawN (by rfl) (by rfl) (by rfl) ?_) | (refine TL.done (by rfl) ?_) | (refine TL.auto tysOk rfl ?_ (by rfl) ?_ ?_) | ((refine TL.one (by rfl) ?_); first | (refine StepL.mem tysOk rfl rfl rfl rfl (by rfl) ?_ (by rfl) ?_) | (refine StepL.pure tysOk rfl rfl rfl rfl (by rfl) ?_ (by rfl) ?_)) | (refine StepL.mem tysOk rfl rfl rfl rfl (by rfl) ?_ (by rfl) ?_) | refine TE.cond_true (by rfl) ?_ | refine TE.cond_false (by rfl) ?_ | ((refine TE.gsplit (by rfl) (by rfl) ?_ ?_ <;> intro h <;> (try simp only [NS] at h) <;> (try (exfalso; first | omega | exact h trivial | exact h | exact h rfl | contradiction))) <;> (refine TE.run tysOk rfl (by rfl) ?_ ?_)) | ((first | refine TL.gsplit (by rfl) (by rfl) ?_ ?_ | refine TE.cond_split (by rfl) ?_ ?_) <;> intro h <;> (try simp only [NS] at h) <;> (try (exfalso; first | omega | exact h trivial | exact h | exact h rfl | contradiction))))))
    rw [name_yes (by rw [h0] at *; omega), ← trim_word]
    (refine TE.ret' (by first | exact .inl rfl | exact .inr rfl) rfl tysOk (()) ?_ rfl (by rfl) ?_; all_goals (try (first | exact trivial | ((with_reducible refine AllP.go ?_); dsimp only [AllP, appP]; repeat' (first | with_reducible rfl | with_reducible exact LeD.refl | refine And.intro ?_ ?_ | (refine congrArg (Value.int _) ?_; first | omega | rfl | (simp only [Int.toNat_natCast]; omega)) | rfl | (refine congrArg Value.bool ?_; assumption) | exact LeD.refl)))))
set_option maxRecDepth 20000 in
theorem isDec_c (l : Bs) (hl : l.length ≤ 1000000) : Con Tryd.prog 31 [.o (.c (.string (sB l)))] [] 0 0 U (fun _ => .o (.sb (decI l))) G0 := by
  refine con_of Tryd.func31 rfl (by kernel_rfl) Tryd.ntmps31 rfl (by first | exact Nat.zero_le _ | decide) (fun _ => ⟨rfl, rfl⟩) fun w S ν => ?_
  have hz := sB_size l
  (repeat' (first | (with_reducible refine AllP.go ?_; (first | exact trivial | exact fun i _ => ⟨_, rfl⟩ | ((try simp only [OS]); repeat' (first | omega | exact fun i _ => ⟨_, rfl⟩ | refine And.intro ?_ ?_)))) | (refine TE.rgo tysOk rfl (by rfl) ?_ ?_) | (with_reducible first | refine t1 ?_ | refine t2 ?_ | refine t3 ?_ | refine t4 ?_ | refine t5 ?_ | refine t6 ?_ | refine t7 ?_ | refine t8 ?_ | refine t9 ?_ | refine tA ?_ | refine tB ?_ | refine tC ?_ | refine tD rfl ?_ | refine tE ?_ | refine tF ?_ | refine tG ?_ | refine tH ?_ | refine tI ?_ | refine tJ ?_ | refine tK ?_ | refine tL ?_) | (with_reducible first | exact PanicOk.body | exact rd.panic | refine PanicOk.then' ?_ | refine PanicOk.block ?_ | refine PanicOk.jump ?_) | (refine TE.drawC (by rfl) (by rfl) (by rfl) (by rfl) ?_) | (refine TE.drawN (by rfl) (by rfl) (by rfl) ?_) | (refine TL.done (by rfl) ?_) | (refine TL.auto tysOk rfl ?_ (by rfl) ?_ ?_) | ((refine TL.one (by rfl) ?_); first | (refine StepL.mem tysOk rfl rfl rfl rfl (by rfl) ?_ (by rfl) ?_) | (refine StepL.pure tysOk rfl rfl rfl rfl (by rfl) ?_ (by rfl) ?_)) | (refine StepL.mem tysOk rfl rfl rfl rfl (by rfl) ?_ (by rfl) ?_) | refine TE.cond_true (by rfl) ?_ | refine TE.cond_false (by rfl) ?_ | ((refine TE.gsplit (by rfl) (by rfl) ?_ ?_ <;> intro h <;> (try simp only [NS] at h) <;> (try (exfalso; first | omega | exact h trivial | exact h | exact h rfl | contradiction))) <;> (refine TE.run tysOk rfl (by rfl) ?_ ?_)) | ((first | refine TL.gsplit (by rfl) (by rfl) ?_ ?_ | refine TE.cond_split (by rfl) ?_ ?_) <;> intro h <;> (try simp only [NS] at h) <;> (try (exfalso; first | omega | exact h trivial | exact h | exact h rfl | contradiction)))))
  refine TE.callW (tpre_c l [45]) rfl (by rfl) (by rfl) rfl (by rfl) (by (first | exact trivial | ((with_reducible refine AllP.go ?_); dsimp only [AllP, appP]; repeat' (first | with_reducible rfl | with_reducible exact LeD.refl | refine And.intro ?_ ?_ | (refine congrArg (Value.int _) ?_; first | omega | rfl | (simp only [Int.toNat_natCast]; omega)) | rfl | (refine congrArg Value.bool ?_; assumption) | assumption | exact LeD.refl)))) ?_
  intro _ _
  rw [pre_body]
  obtain ⟨t, ht⟩ : ∃ t, t = bodyI l := ⟨_, rfl⟩
  have hd : decI l = (!t.isEmpty && t.all digC && (decide (t.getD 0 0 ≠ 48) || decide (l = [48]))) := by rw [ht]; rfl
  have htl : t.length ≤ l.length := by
    rw [ht]; unfold bodyI; split
    · simp
    · exact Nat.le_refl _
  rw [← ht]
  have hz2 := sB_size t
  ((refine TE.run tysOk rfl (by rfl) ?_ ?_); (repeat' (first | (with_reducible refine AllP.go ?_; (first | exact trivial | exact fun i _ => ⟨_, rfl⟩ | ((try simp only [OS]); repeat' (first | omega | exact fun i _ => ⟨_, rfl⟩ | refine And.intro ?_ ?_)))) | (refine TE.rgo tysOk rfl (by rfl) ?_ ?_) | (with_reducible first | refine t1 ?_ | refine t2 ?_ | refine t3 ?_ | refine t4 ?_ | refine t5 ?_ | refine t6 ?_ | refine t7 ?_ | refine t8 ?_ | refine t9 ?_ | refine tA ?_ | refine tB ?_ | refine tC ?_ | refine tD rfl ?_ | refine tE ?_ | refine tF ?_ | refine tG ?_ | refine tH ?_ | refine tI ?_ | refine tJ ?_ | refine tK ?_ | refine tL ?_) | (with_reducible first | exact PanicOk.body | exact rd.panic | refine PanicOk.then' ?_ | refine PanicOk.block ?_ | refine PanicOk.jump ?_) | (refine TE.drawC (by rfl) (by rfl) (by rfl) (by rfl) ?_) | (refine TE.drawN (by rfl) (by rfl) (by rfl) ?_) | (refine TL.done (by rfl) ?_) | (refine TL.auto tysOk rfl ?_ (by rfl) ?_ ?_) | ((refine TL.one (by rfl) ?_); first | (refine StepL.mem tysOk rfl rfl rfl rfl (by rfl) ?_ (by rfl) ?_) | (refine StepL.pure tysOk rfl rfl rfl rfl (by rfl) ?_ (by rfl) ?_)) | (refine StepL.mem tysOk rfl rfl rfl rfl (by rfl) ?_ (by rfl) ?_) | refine TE.cond_true (by rfl) ?_ | refine TE.cond_false (by rfl) ?_ | ((refine TE.gsplit (by rfl) (by rfl) ?_ ?_ <;> intro h <;> (try simp only [NS] at h) <;> (try (exfalso; first | omega | exact h trivial | exact h | exact h rfl | contradiction))) <;> (refine TE.run tysOk rfl (by rfl) ?_ ?_)) | ((first | refine TL.gsplit (by rfl) (by rfl) ?_ ?_ | refine TE.cond_split (by rfl) ?_ ?_) <;> intro h <;> (try simp only [NS] at h) <;> (try (exfalso; first | omega | exact h trivial | exact h | exact h rfl | contradiction))))))
  · have : t = [] := List.length_eq_zero_iff.1 (by omega)
    rw [hd, this]
    (refine TE.ret' (by first | exact .inl rfl | exact .inr rfl) rfl tysOk (()) ?_ rfl (by rfl) ?_; all_goals (try (first | exact trivial | ((with_reducible refine AllP.go ?_); dsimp only [AllP, appP]; repeat' (first | with_reducible rfl | with_reducible exact LeD.refl | refine And.intro ?_ ?_ | (refine congrArg (Value.int _) ?_; first | omega | rfl | (simp only [Int.toNat_natCast]; omega)) | rfl | (refine congrArg Value.bool ?_; assumption) | exact LeD.refl)))))
  · refine TE.callW (trim_c t digL (by omega) (by decide) dig_ascii) rfl (by rfl) (by rfl) rfl (by rfl) (by (first | exact trivial | ((with_reducible refine AllP.go ?_); dsimp only [AllP, appP]; repeat' (first | with_reducible rfl | with_reducible exact LeD.refl | refine And.intro ?_ ?_ | (refine congrArg (Value.int _) ?_; first | omega | rfl | (simp only [Int.toNat_natCast]; omega)) | rfl | (refine congrArg Value.bool ?_; assumption) | assumption | exact LeD.refl)))) ?_
    intro _ _
    have hne : t.isEmpty = false := by
      cases t with
      | nil => exact absurd hz2 (by omega)
      | cons c r => rfl
    ((refine TE.run tysOk rfl (by rfl) ?_ ?_); (repeat' (first | (with_reducible refine AllP.go ?_; (first | exact trivial | exact fun i _ => ⟨_, rfl⟩ | ((try simp only [OS]); repeat' (first | omega | exact fun i _ => ⟨_, rfl⟩ | refine And.intro ?_ ?_)))) | (refine TE.rgo tysOk rfl (by rfl) ?_ ?_) | (with_reducible first | refine t1 ?_ | refine t2 ?_ | refine t3 ?_ | refine t4 ?_ | refine t5 ?_ | refine t6 ?_ | refine t7 ?_ | refine t8 ?_ | refine t9 ?_ | refine tA ?_ | refine tB ?_ | refine tC ?_ | refine tD rfl ?_ | refine tE ?_ | refine tF ?_ | refine tG ?_ | refine tH ?_ | refine tI ?_ | refine tJ ?_ | refine tK ?_ | refine tL ?_) | (with_reducible first | exact PanicOk.body | exact rd.panic | refine PanicOk.then' ?_ | refine PanicOk.block ?_ | refine PanicOk.jump ?_) | (refine TE.drawC (by rfl) (by rfl) (by rfl) (by rfl) ?_) | (refine TE.drawN (by rfl) (by rfl) (by rfl) ?_) | (refine TL.done (by rfl) ?_) | (refine TL.auto tysOk rfl ?_ (by rfl) ?_ ?_) | ((refine TL.one (by rfl) ?_); first | (refine StepL.mem tysOk rfl rfl rfl rfl (by rfl) ?_ (by rfl) ?_) | (refine StepL.pure tysOk rfl rfl rfl rfl (by rfl) ?_ (by rfl) ?_)) | (refine StepL.mem tysOk rfl rfl rfl rfl (by rfl) ?_ (by rfl) ?_) | refine TE.cond_true (by rfl) ?_ | refine TE.cond_false (by rfl) ?_ | ((refine TE.gsplit (by rfl) (by rfl) ?_ ?_ <;> intro h <;> (try simp only [NS] at h) <;> (try (exfalso; first | omega | exact h trivial | exact h | exact h rfl | contradiction))) <;> (refine TE.run tysOk rfl (by rfl) ?_ ?_)) | ((first | refine TL.gsplit (by rfl) (by rfl) ?_ ?_ | refine TE.cond_split (by rfl) ?_ ?_) <;> intro h <;> (try simp only [NS] at h) <;> (try (exfalso; first | omega | exact h trivial | exact h | exact h rfl | contradiction))))))
    · rw [hd, dig_no (by assumption)]
      simp only [Bool.and_false, Bool.false_and]
      (refine TE.ret' (by first | exact .inl rfl | exact .inr rfl) rfl tysOk (()) ?_ rfl (by rfl) ?_; all_goals (try (first | exact trivial | ((with_reducible refine AllP.go ?_); dsimp only [AllP, appP]; repeat' (first | with_reducible rfl | with_reducible exact LeD.refl | refine And.intro ?_ ?_ | (refine congrArg (Value.int _) ?_; first | omega | rfl | (simp only [Int.toNat_natCast]; omega)) | rfl | (refine congrArg Value.bool ?_; assumption) | exact LeD.refl)))))
    · rw [hd, hne, dig_yes (by assumption), decide_eq_true (show t.getD 0 0 ≠ 48 from fun e => n48 (by assumption) e)]
      (refine TE.ret' (by first | exact .inl rfl | exact .inr rfl) rfl tysOk (()) ?_ rfl (by rfl) ?_; all_goals (try (first | exact trivial | ((with_reducible refine AllP.go ?_); dsimp only [AllP, appP]; repeat' (first | with_reducible rfl | with_reducible exact LeD.refl | refine And.intro ?_ ?_ | (refine congrArg (Value.int _) ?_; first | omega | rfl | (simp only [Int.toNat_natCast]; omega)) | rfl | (refine congrArg Value.bool ?_; assumption) | exact LeD.refl)))))
    · rw [hd, hne, dig_yes (by assumption), decide_eq_false (show ¬ t.getD 0 0 ≠ 48 from fun e => e (y48 (by assumption))), show decide (l = [48]) = decide (sB l = ByteArray.mk #[48]) from decide_eq_decide.2 (sB_inj (b := [48])).symm]
      (refine TE.ret' (by first | exact .inl rfl | exact .inr rfl) rfl tysOk (()) ?_ rfl (by rfl) ?_; all_goals (try (first | exact trivial | ((with_reducible refine AllP.go ?_); dsimp only [AllP, appP]; repeat' (first | with_reducible rfl | with_reducible exact LeD.refl | refine And.intro ?_ ?_ | (refine congrArg (Value.int _) ?_; first | omega | rfl | (simp only [Int.toNat_natCast]; omega)) | rfl | (refine congrArg Value.bool ?_; assumption) | exact LeD.refl)))))
set_option maxRecDepth 20000 in
theorem Int_c (m : Int) (te : TypeId) (pe : Value) (l : Bs) (low high : Int) (hl : l.length ≤ 1000000) : Con Tryd.prog 13 [.o (.c (.string (sB l))), .o (.c (.int .i64 low)), .o (.c (.int .i64 high))] (glC m te pe) 4 4 U (fun _ => .t [.inl (.c (.int .i64 (intI l low high).1)), .inl (.c (.int .i64 (intI l low high).2))]) (fun _ => glC m te pe) := by
  refine con_of Tryd.func13 rfl (by kernel_rfl) Tryd.ntmps13 rfl (by first | exact Nat.zero_le _ | decide) (fun _ => ⟨rfl, rfl⟩) fun w S ν => ?_
  obtain ⟨R, hR⟩ : ∃ R, R = intI l low high := ⟨_, rfl⟩
  obtain ⟨D, hD⟩ : ∃ D, D = decI l := ⟨_, rfl⟩
  obtain ⟨V, hV⟩ : ∃ V, V = valI l := ⟨_, rfl⟩
  obtain ⟨Z, hZ⟩ : ∃ Z, Z = Lib.intSat 64 l := ⟨_, rfl⟩
  have c1 := isDec_c l hl
  have hp : D = true → Lib.parseIntB 64 l = if V < -9223372036854775808 ∨ 9223372036854775807 < V then .range else .ok V := fun h => by rw [hV]; exact parse_dec (hD ▸ h)
  have hi : R = if D = false then (0, 6) else if V < -9223372036854775808 ∨ 9223372036854775807 < V ∨ V < low ∨ high < V then (0, 7) else (V, 0) := by rw [hR, hD, hV]; rfl
  have c2 := fun h => parseR_c m te pe l hl h
  have c3 := fun h => parseOk_c m te pe l hl V h
  rw [← hD] at c1
  rw [← hR]
  rw [← hZ] at c2
  generalize Lib.parseIntB 64 l = PP at *
  clear hR hD hV hZ
  (repeat' (first | (with_reducible refine AllP.go ?_; (first | exact trivial | exact fun i _ => ⟨_, rfl⟩ | ((try simp only [OS]); repeat' (first | omega | exact fun i _ => ⟨_, rfl⟩ | refine And.intro ?_ ?_)))) | (refine TE.rgo tysOk rfl (by rfl) ?_ ?_) | (with_reducible first | refine t1 ?_ | refine t2 ?_ | refine t3 ?_ | refine t4 ?_ | refine t5 ?_ | refine t6 ?_ | refine t7 ?_ | refine t8 ?_ | refine t9 ?_ | refine tA ?_ | refine tB ?_ | refine tC ?_ | refine tD rfl ?_ | refine tE ?_ | refine tF ?_ | refine tG ?_ | refine tH ?_ | refine tI ?_ | refine tJ ?_ | refine tK ?_ | refine tL ?_) | (with_reducible first | exact PanicOk.body | exact rd.panic | refine PanicOk.then' ?_ | refine PanicOk.block ?_ | refine PanicOk.jump ?_) | (refine TE.drawC (by rfl) (by rfl) (by rfl) (by rfl) ?_) | (refine TE.drawN (by rfl) (by rfl) (by rfl) ?_) | (refine TL.done (by rfl) ?_) | (refine TL.auto tysOk rfl ?_ (by rfl) ?_ ?_) | ((refine TL.one (by rfl) ?_); first | (refine StepL.mem tysOk rfl rfl rfl rfl (by rfl) ?_ (by rfl) ?_) | (refine StepL.pure tysOk rfl rfl rfl rfl (by rfl) ?_ (by rfl) ?_)) | (refine StepL.mem tysOk rfl rfl rfl rfl (by rfl) ?_ (by rfl) ?_) | refine TE.cond_true (by rfl) ?_ | refine TE.cond_false (by rfl) ?_ | ((refine TE.gsplit (by rfl) (by rfl) ?_ ?_ <;> intro h <;> (try simp only [NS] at h) <;> (try (exfalso; first | omega | exact h trivial | exact h | exact h rfl | contradiction))) <;> (refine TE.run tysOk rfl (by rfl) ?_ ?_)) | ((first | refine TL.gsplit (by rfl) (by rfl) ?_ ?_ | refine TE.cond_split (by rfl) ?_ ?_) <;> intro h <;> (try simp only [NS] at h) <;> (try (exfalso; first | omega | exact h trivial | exact h | exact h rfl | contradiction)))))
  refine TE.callW (c1) rfl (by rfl) (by rfl) rfl (by rfl) (by (first | exact trivial | ((with_reducible refine AllP.go ?_); dsimp only [AllP, appP]; repeat' (first | with_reducible rfl | with_reducible exact LeD.refl | refine And.intro ?_ ?_ | (refine congrArg (Value.int _) ?_; first | omega | rfl | (simp only [Int.toNat_natCast]; omega)) | rfl | (refine congrArg Value.bool ?_; assumption) | assumption | exact LeD.refl)))) ?_
  intro _ _
  ((refine TE.run tysOk rfl (by rfl) ?_ ?_); (repeat' (first | (with_reducible refine AllP.go ?_; (first | exact trivial | exact fun i _ => ⟨_, rfl⟩ | ((try simp only [OS]); repeat' (first | omega | exact fun i _ => ⟨_, rfl⟩ | refine And.intro ?_ ?_)))) | (refine TE.rgo tysOk rfl (by rfl) ?_ ?_) | (with_reducible first | refine t1 ?_ | refine t2 ?_ | refine t3 ?_ | refine t4 ?_ | refine t5 ?_ | refine t6 ?_ | refine t7 ?_ | refine t8 ?_ | refine t9 ?_ | refine tA ?_ | refine tB ?_ | refine tC ?_ | refine tD rfl ?_ | refine tE ?_ | refine tF ?_ | refine tG ?_ | refine tH ?_ | refine tI ?_ | refine tJ ?_ | refine tK ?_ | refine tL ?_) | (with_reducible first | exact PanicOk.body | exact rd.panic | refine PanicOk.then' ?_ | refine PanicOk.block ?_ | refine PanicOk.jump ?_) | (refine TE.drawC (by rfl) (by rfl) (by rfl) (by rfl) ?_) | (refine TE.drawN (by rfl) (by rfl) (by rfl) ?_) | (refine TL.done (by rfl) ?_) | (refine TL.auto tysOk rfl ?_ (by rfl) ?_ ?_) | ((refine TL.one (by rfl) ?_); first | (refine StepL.mem tysOk rfl rfl rfl rfl (by rfl) ?_ (by rfl) ?_) | (refine StepL.pure tysOk rfl rfl rfl rfl (by rfl) ?_ (by rfl) ?_)) | (refine StepL.mem tysOk rfl rfl rfl rfl (by rfl) ?_ (by rfl) ?_) | refine TE.cond_true (by rfl) ?_ | refine TE.cond_false (by rfl) ?_ | ((refine TE.gsplit (by rfl) (by rfl) ?_ ?_ <;> intro h <;> (try simp only [NS] at h) <;> (try (exfalso; first | omega | exact h trivial | exact h | exact h rfl | contradiction))) <;> (refine TE.run tysOk rfl (by rfl) ?_ ?_)) | ((first | refine TL.gsplit (by rfl) (by rfl) ?_ ?_ | refine TE.cond_split (by rfl) ?_ ?_) <;> intro h <;> (try simp only [NS] at h) <;> (try (exfalso; first | omega | exact h trivial | exact h | exact h rfl | contradiction))))))
  · have he : R = (0, 6) := by rw [hi, if_pos (by assumption)]
    rw [he]
    (refine TE.ret' (by first | exact .inl rfl | exact .inr rfl) rfl tysOk (()) ?_ rfl (by rfl) ?_; all_goals (try (first | exact trivial | ((with_reducible refine AllP.go ?_); dsimp only [AllP, appP]; repeat' (first | with_reducible rfl | with_reducible exact LeD.refl | refine And.intro ?_ ?_ | (refine congrArg (Value.int _) ?_; first | omega | rfl | (simp only [Int.toNat_natCast]; omega)) | rfl | (refine congrArg Value.bool ?_; assumption) | exact LeD.refl)))))
  · have hp := hp (by assumption)
    rw [if_neg (by simp_all)] at hi
    by_cases hr : V < -9223372036854775808 ∨ 9223372036854775807 < V
    · rw [if_pos hr] at hp
      rw [hi, if_pos (by omega)]
      refine TE.callW (c2 hp) rfl (by rfl) (by rfl) rfl (by rfl) (by (first | exact trivial | ((with_reducible refine AllP.go ?_); dsimp only [AllP, appP]; repeat' (first | with_reducible rfl | with_reducible exact LeD.refl | refine And.intro ?_ ?_ | (refine congrArg (Value.int _) ?_; first | omega | rfl | (simp only [Int.toNat_natCast]; omega)) | rfl | (refine congrArg Value.bool ?_; assumption) | assumption | exact LeD.refl)))) ?_
      rintro v ⟨tp, p, rfl⟩
      ((refine TE.run tysOk rfl (by rfl) ?_ ?_); try (with_reducible refine AllP.go ?_; (first | exact trivial | exact fun i _ => ⟨_, rfl⟩ | ((try simp only [OS]); repeat' (first | omega | exact fun i _ => ⟨_, rfl⟩ | refine And.intro ?_ ?_)))))
      (repeat (with_reducible first | refine t1 ?_ | refine t2 ?_ | refine t3 ?_ | refine t4 ?_ | refine t5 ?_ | refine t6 ?_ | refine t7 ?_ | refine t8 ?_ | refine t9 ?_ | refine tA ?_ | refine tB ?_ | refine tC ?_ | refine tD rfl ?_ | refine tE ?_ | refine tF ?_ | refine tG ?_ | refine tH ?_ | refine tI ?_ | refine tJ ?_ | refine tK ?_ | refine tL ?_))
      ((refine TE.rgo tysOk rfl (by rfl) ?_ ?_); try (with_reducible refine AllP.go ?_; (first | exact trivial | exact fun i _ => ⟨_, rfl⟩ | ((try simp only [OS]); repeat' (first | omega | exact fun i _ => ⟨_, rfl⟩ | refine And.intro ?_ ?_)))))
      (refine TE.step rfl rfl rfl (fun _ h => nomatch h) (m_ifNil (b := false) rfl (by first | exact .inl rfl | exact .inr rfl) (by kernel_rfl) rfl (.inr ⟨⟨_, _, rfl⟩, rfl⟩)) ?_; rintro _ rfl)
      ((refine TE.run tysOk rfl (by rfl) ?_ ?_); (repeat' (first | (with_reducible refine AllP.go ?_; (first | exact trivial | exact fun i _ => ⟨_, rfl⟩ | ((try simp only [OS]); repeat' (first | omega | exact fun i _ => ⟨_, rfl⟩ | refine And.intro ?_ ?_)))) | (refine TE.rgo tysOk rfl (by rfl) ?_ ?_) | (with_reducible first | refine t1 ?_ | refine t2 ?_ | refine t3 ?_ | refine t4 ?_ | refine t5 ?_ | refine t6 ?_ | refine t7 ?_ | refine t8 ?_ | refine t9 ?_ | refine tA ?_ | refine tB ?_ | refine tC ?_ | refine tD rfl ?_ | refine tE ?_ | refine tF ?_ | refine tG ?_ | refine tH ?_ | refine tI ?_ | refine tJ ?_ | refine tK ?_ | refine tL ?_) | (with_reducible first | exact PanicOk.body | exact rd.panic | refine PanicOk.then' ?_ | refine PanicOk.block ?_ | refine PanicOk.jump ?_) | (refine TE.drawC (by rfl) (by rfl) (by rfl) (by rfl) ?_) | (refine TE.drawN (by rfl) (by rfl) (by rfl) ?_) | (refine TL.done (by rfl) ?_) | (refine TL.auto tysOk rfl ?_ (by rfl) ?_ ?_) | ((refine TL.one (by rfl) ?_); first | (refine StepL.mem tysOk rfl rfl rfl rfl (by rfl) ?_ (by rfl) ?_) | (refine StepL.pure tysOk rfl rfl rfl rfl (by rfl) ?_ (by rfl) ?_)) | (refine StepL.mem tysOk rfl rfl rfl rfl (by rfl) ?_ (by rfl) ?_) | refine TE.cond_true (by rfl) ?_ | refine TE.cond_false (by rfl) ?_ | ((refine TE.gsplit (by rfl) (by rfl) ?_ ?_ <;> intro h <;> (try simp only [NS] at h) <;> (try (exfalso; first | omega | exact h trivial | exact h | exact h rfl | contradiction))) <;> (refine TE.run tysOk rfl (by rfl) ?_ ?_)) | ((first | refine TL.gsplit (by rfl) (by rfl) ?_ ?_ | refine TE.cond_split (by rfl) ?_ ?_) <;> intro h <;> (try simp only [NS] at h) <;> (try (exfalso; first | omega | exact h trivial | exact h | exact h rfl | contradiction))))))
      (refine TE.ret' (by first | exact .inl rfl | exact .inr rfl) rfl tysOk (()) ?_ rfl (by rfl) ?_; all_goals (try (first | exact trivial | ((with_reducible refine AllP.go ?_); dsimp only [AllP, appP]; repeat' (first | with_reducible rfl | with_reducible exact LeD.refl | refine And.intro ?_ ?_ | (refine congrArg (Value.int _) ?_; first | omega | rfl | (simp only [Int.toNat_natCast]; omega)) | rfl | (refine congrArg Value.bool ?_; assumption) | exact LeD.refl)))))
    · rw [if_neg hr] at hp
      refine TE.callW (c3 hp) rfl (by rfl) (by rfl) rfl (by rfl) (by (first | exact trivial | ((with_reducible refine AllP.go ?_); dsimp only [AllP, appP]; repeat' (first | with_reducible rfl | with_reducible exact LeD.refl | refine And.intro ?_ ?_ | (refine congrArg (Value.int _) ?_; first | omega | rfl | (simp only [Int.toNat_natCast]; omega)) | rfl | (refine congrArg Value.bool ?_; assumption) | assumption | exact LeD.refl)))) ?_
      intro _ _
      ((refine TE.run tysOk rfl (by rfl) ?_ ?_); try (with_reducible refine AllP.go ?_; (first | exact trivial | exact fun i _ => ⟨_, rfl⟩ | ((try simp only [OS]); repeat' (first | omega | exact fun i _ => ⟨_, rfl⟩ | refine And.intro ?_ ?_)))))
      (repeat (with_reducible first | refine t1 ?_ | refine t2 ?_ | refine t3 ?_ | refine t4 ?_ | refine t5 ?_ | refine t6 ?_ | refine t7 ?_ | refine t8 ?_ | refine t9 ?_ | refine tA ?_ | refine tB ?_ | refine tC ?_ | refine tD rfl ?_ | refine tE ?_ | refine tF ?_ | refine tG ?_ | refine tH ?_ | refine tI ?_ | refine tJ ?_ | refine tK ?_ | refine tL ?_))
      ((refine TE.rgo tysOk rfl (by rfl) ?_ ?_); try (with_reducible refine AllP.go ?_; (first | exact trivial | exact fun i _ => ⟨_, rfl⟩ | ((try simp only [OS]); repeat' (first | omega | exact fun i _ => ⟨_, rfl⟩ | refine And.intro ?_ ?_)))))
      (refine TE.step rfl rfl rfl (fun _ h => nomatch h) (m_ifNil (b := true) rfl (by first | exact .inl rfl | exact .inr rfl) (by kernel_rfl) rfl (.inl ⟨rfl, rfl⟩)) ?_; rintro _ rfl)
      ((refine TE.run tysOk rfl (by rfl) ?_ ?_); (repeat' (first | (with_reducible refine AllP.go ?_; (first | exact trivial | exact fun i _ => ⟨_, rfl⟩ | ((try simp only [OS]); repeat' (first | omega | exact fun i _ => ⟨_, rfl⟩ | refine And.intro ?_ ?_)))) | (refine TE.rgo tysOk rfl (by rfl) ?_ ?_) | (with_reducible first | refine t1 ?_ | refine t2 ?_ | refine t3 ?_ | refine t4 ?_ | refine t5 ?_ | refine t6 ?_ | refine t7 ?_ | refine t8 ?_ | refine t9 ?_ | refine tA ?_ | refine tB ?_ | refine tC ?_ | refine tD rfl ?_ | refine tE ?_ | refine tF ?_ | refine tG ?_ | refine tH ?_ | refine tI ?_ | refine tJ ?_ | refine tK ?_ | refine tL ?_) | (with_reducible first | exact PanicOk.body | exact rd.panic | refine PanicOk.then' ?_ | refine PanicOk.block ?_ | refine PanicOk.jump ?_) | (refine TE.drawC (by rfl) (by rfl) (by rfl) (by rfl) ?_) | (refine TE.drawN (by rfl) (by rfl) (by rfl) ?_) | (refine TL.done (by rfl) ?_) | (refine TL.auto tysOk rfl ?_ (by rfl) ?_ ?_) | ((refine TL.one (by rfl) ?_); first | (refine StepL.mem tysOk rfl rfl rfl rfl (by rfl) ?_ (by rfl) ?_) | (refine StepL.pure tysOk rfl rfl rfl rfl (by rfl) ?_ (by rfl) ?_)) | (refine StepL.mem tysOk rfl rfl rfl rfl (by rfl) ?_ (by rfl) ?_) | refine TE.cond_true (by rfl) ?_ | refine TE.cond_false (by rfl) ?_ | ((refine TE.gsplit (by rfl) (by rfl) ?_ ?_ <;> intro h <;> (try simp only [NS] at h) <;> (try (exfalso; first | omega | exact h trivial | exact h | exact h rfl | contradiction))) <;> (refine TE.run tysOk rfl (by rfl) ?_ ?_)) | ((first | refine TL.gsplit (by rfl) (by rfl) ?_ ?_ | refine TE.cond_split (by rfl) ?_ ?_) <;> intro h <;> (try simp only [NS] at h) <;> (try (exfalso; first | omega | exact h trivial | exact h | exact h rfl | contradiction))))))
      · rw [hi, if_pos (by omega)]; (refine TE.ret' (by first | exact .inl rfl | exact .inr rfl) rfl tysOk (()) ?_ rfl (by rfl) ?_; all_goals (try (first | exact trivial | ((with_reducible refine AllP.go ?_); dsimp only [AllP, appP]; repeat' (first | with_reducible rfl | with_reducible exact LeD.refl | refine And.intro ?_ ?_ | (refine congrArg (Value.int _) ?_; first | omega | rfl | (simp only [Int.toNat_natCast]; omega)) | rfl | (refine congrArg Value.bool ?_; assumption) | exact LeD.refl)))))
      · rw [hi, if_pos (by omega)]; (refine TE.ret' (by first | exact .inl rfl | exact .inr rfl) rfl tysOk (()) ?_ rfl (by rfl) ?_; all_goals (try (first | exact trivial | ((with_reducible refine AllP.go ?_); dsimp only [AllP, appP]; repeat' (first | with_reducible rfl | with_reducible exact LeD.refl | refine And.intro ?_ ?_ | (refine congrArg (Value.int _) ?_; first | omega | rfl | (simp only [Int.toNat_natCast]; omega)) | rfl | (refine congrArg Value.bool ?_; assumption) | exact LeD.refl)))))
      · rw [hi, if_neg (by omega)]; (refine TE.ret' (by first | exact .inl rfl | exact .inr rfl) rfl tysOk (()) ?_ rfl (by rfl) ?_; all_goals (try (first | exact trivial | ((with_reducible refine AllP.go ?_); dsimp only [AllP, appP]; repeat' (first | with_reducible rfl | with_reducible exact LeD.refl | refine And.intro ?_ ?_ | (refine congrArg (Value.int _) ?_; first | omega | rfl | (simp only [Int.toNat_natCast]; omega)) | rfl | (refine congrArg Value.bool ?_; assumption) | exact LeD.refl)))))
end Go.Proofs.YtmeapfckibbbbaaDoor.Am
/- The words: names and numbers, the reference's. -/
set_option linter.unusedVariables false
namespace Go.Proofs.YtmeapfckibbbbaaDoor.Am
open Go.RowKit Lw Wo
theorem all_step {p : UInt8 → Bool} {l : Bs} {q : Nat} (h : q < l.length) : (l.take (q + 1)).all p = ((l.take q).all p && p (l.getD q 0)) := by
  rw [List.take_add_one, List.getElem?_eq_getElem h, List.all_append, List.getD_eq_getElem?_getD, List.getElem?_eq_getElem h]
  simp
theorem all_no {p : UInt8 → Bool} {l : Bs} {q : Nat} (h : q < l.length) (hp : p (l.getD q 0) = false) : l.all p = false := by
  rw [Bool.eq_false_iff]
  intro h2
  have h3 := List.all_eq_true.1 h2 l[q] (List.getElem_mem h)
  rw [List.getD_eq_getElem?_getD, List.getElem?_eq_getElem h] at hp
  rw [show p l[q] = false from hp] at h3
  cases h3
end Go.Proofs.YtmeapfckibbbbaaDoor.Am
/- The words: Digits, the reference's. -/
set_option linter.unusedVariables false
namespace Go.Proofs.YtmeapfckibbbbaaDoor.Am
open Go.RowKit Lw Wo
end Go.Proofs.YtmeapfckibbbbaaDoor.Am
/- The words: Int, the reference's. -/
set_option linter.unusedVariables false
namespace Go.Proofs.YtmeapfckibbbbaaDoor.Am
open Go.RowKit Lw Wo
end Go.Proofs.YtmeapfckibbbbaaDoor.Am
/- The words: bytes between quotes, the program's. -/
set_option linter.unusedVariables false
namespace Go.Proofs.YtmeapfckibbbbaaDoor.Am
open Go.RowKit Lw Wo
set_option maxRecDepth 20000 in
theorem plain_c (c : UInt8) : Con Tryd.prog 40 [.o (.c (.int .u8 c.toNat))] [] 0 0 U (fun _ => .o (.sb (plainC c))) G0 := by
  refine con_of Tryd.func40 rfl (by kernel_rfl) Tryd.ntmps40 rfl (by first | exact Nat.zero_le _ | decide) (fun _ => ⟨rfl, rfl⟩) fun w S ν => ?_
  (repeat' (first | (with_reducible refine AllP.go ?_; (first | exact trivial | exact fun i _ => ⟨_, rfl⟩ | ((try simp only [OS]); repeat' (first | omega | exact fun i _ => ⟨_, rfl⟩ | refine And.intro ?_ ?_)))) | (refine TE.rgo tysOk rfl (by rfl) ?_ ?_) | (with_reducible first | refine t1 ?_ | refine t2 ?_ | refine t3 ?_ | refine t4 ?_ | refine t5 ?_ | refine t6 ?_ | refine t7 ?_ | refine t8 ?_ | refine t9 ?_ | refine tA ?_ | refine tB ?_ | refine tC ?_ | refine tD rfl ?_ | refine tE ?_ | refine tF ?_ | refine tG ?_ | refine tH ?_ | refine tI ?_ | refine tJ ?_ | refine tK ?_ | refine tL ?_) | (with_reducible first | exact PanicOk.body | exact rd.panic | refine PanicOk.then' ?_ | refine PanicOk.block ?_ | refine PanicOk.jump ?_) | (refine TE.drawC (by rfl) (by rfl) (by rfl) (by rfl) ?_) | (refine TE.drawN (by rfl) (by rfl) (by rfl) ?_) | (refine TL.done (by rfl) ?_) | (refine TL.auto tysOk rfl ?_ (by rfl) ?_ ?_) | ((refine TL.one (by rfl) ?_); first | (refine StepL.mem tysOk rfl rfl rfl rfl (by rfl) ?_ (by rfl) ?_) | (refine StepL.pure tysOk rfl rfl rfl rfl (by rfl) ?_ (by rfl) ?_)) | (refine StepL.mem tysOk rfl rfl rfl rfl (by rfl) ?_ (by rfl) ?_) | refine TE.cond_true (by rfl) ?_ | refine TE.cond_false (by rfl) ?_ | ((refine TE.gsplit (by rfl) (by rfl) ?_ ?_ <;> intro h <;> (try simp only [NS] at h) <;> (try (exfalso; first | omega | exact h trivial | exact h | exact h rfl | contradiction))) <;> (refine TE.run tysOk rfl (by rfl) ?_ ?_)) | ((first | refine TL.gsplit (by rfl) (by rfl) ?_ ?_ | refine TE.cond_split (by rfl) ?_ ?_) <;> intro h <;> (try simp only [NS] at h) <;> (try (exfalso; first | omega | exact h trivial | exact h | exact h rfl | contradiction)))))
  · rw [show plainC c = !decide ((c.toNat : Int) = 92) by rw [← decide_not]; exact decide_eq_decide.2 ⟨fun h => by omega, fun h => by omega⟩]
    (refine TE.ret' (by first | exact .inl rfl | exact .inr rfl) rfl tysOk (()) ?_ rfl (by rfl) ?_; all_goals (try (first | exact trivial | ((with_reducible refine AllP.go ?_); dsimp only [AllP, appP]; repeat' (first | with_reducible rfl | with_reducible exact LeD.refl | refine And.intro ?_ ?_ | (refine congrArg (Value.int _) ?_; first | omega | rfl | (simp only [Int.toNat_natCast]; omega)) | rfl | (refine congrArg Value.bool ?_; assumption) | exact LeD.refl)))))
  all_goals rw [show plainC c = false from decide_eq_false (by omega)]; (refine TE.ret' (by first | exact .inl rfl | exact .inr rfl) rfl tysOk (()) ?_ rfl (by rfl) ?_; all_goals (try (first | exact trivial | ((with_reducible refine AllP.go ?_); dsimp only [AllP, appP]; repeat' (first | with_reducible rfl | with_reducible exact LeD.refl | refine And.intro ?_ ?_ | (refine congrArg (Value.int _) ?_; first | omega | rfl | (simp only [Int.toNat_natCast]; omega)) | rfl | (refine congrArg Value.bool ?_; assumption) | exact LeD.refl)))))
theorem ltr_at {c : UInt8} {q : Nat} (hq : q < 5) (h : c.toNat = escL.getD (2 * q) 0) : (ltrI c).toNat = escL.getD (2 * q + 1) 0 := by
  rcases q with _ | _ | _ | _ | _ | q
  all_goals first
    | (unfold ltrI; rw [h]; rfl)
    | omega
theorem ltr_no {c : UInt8} (h : ∀ j, j < 5 → c.toNat ≠ escL.getD (2 * j) 0) : ltrI c = 0 := by
  unfold ltrI
  rw [if_neg (show c.toNat ≠ 34 from h 0 (by decide)), if_neg (show c.toNat ≠ 92 from h 1 (by decide)), if_neg (show c.toNat ≠ 10 from h 2 (by decide)), if_neg (show c.toNat ≠ 13 from h 3 (by decide)), if_neg (show c.toNat ≠ 9 from h 4 (by decide))]
set_option maxRecDepth 20000 in
theorem ltr_c (m : Int) (te : TypeId) (pe : Value) (c : UInt8) : Con Tryd.prog 39 [.o (.c (.int .u8 c.toNat))] (glC m te pe) 4 4 U (fun _ => .o (.c (.int .u8 (ltrI c).toNat))) (fun _ => glC m te pe) := by
  refine con_of Tryd.func39 rfl (by kernel_rfl) Tryd.ntmps39 rfl (by first | exact Nat.zero_le _ | decide) (fun _ => ⟨rfl, rfl⟩) fun w S ν => ?_
  (repeat (with_reducible first | refine t1 ?_ | refine t2 ?_ | refine t3 ?_ | refine t4 ?_ | refine t5 ?_ | refine t6 ?_ | refine t7 ?_ | refine t8 ?_ | refine t9 ?_ | refine tA ?_ | refine tB ?_ | refine tC ?_ | refine tD rfl ?_ | refine tE ?_ | refine tF ?_ | refine tG ?_ | refine tH ?_ | refine tI ?_ | refine tJ ?_ | refine tK ?_ | refine tL ?_))
  ((refine TE.rgo tysOk rfl (by rfl) ?_ ?_); try (with_reducible refine AllP.go ?_; (first | exact trivial | exact fun i _ => ⟨_, rfl⟩ | ((try simp only [OS]); repeat' (first | omega | exact fun i _ => ⟨_, rfl⟩ | refine And.intro ?_ ?_)))))
  (repeat (with_reducible first | refine t1 ?_ | refine t2 ?_ | refine t3 ?_ | refine t4 ?_ | refine t5 ?_ | refine t6 ?_ | refine t7 ?_ | refine t8 ?_ | refine t9 ?_ | refine tA ?_ | refine tB ?_ | refine tC ?_ | refine tD rfl ?_ | refine tE ?_ | refine tF ?_ | refine tG ?_ | refine tH ?_ | refine tI ?_ | refine tJ ?_ | refine tK ?_ | refine tL ?_))
  refine TE.region ?_
  (refine TE.step rfl rfl rfl (fun _ h => nomatch h) (m_statLoad tysOk rfl rfl (by rfl) (by rfl)) ?_; rintro _ rfl)
  ((refine TE.run tysOk rfl (by rfl) ?_ ?_); try (with_reducible refine AllP.go ?_; (first | exact trivial | exact fun i _ => ⟨_, rfl⟩ | ((try simp only [OS]); repeat' (first | omega | exact fun i _ => ⟨_, rfl⟩ | refine And.intro ?_ ?_)))))
  (repeat (with_reducible first | refine t1 ?_ | refine t2 ?_ | refine t3 ?_ | refine t4 ?_ | refine t5 ?_ | refine t6 ?_ | refine t7 ?_ | refine t8 ?_ | refine t9 ?_ | refine tA ?_ | refine tB ?_ | refine tC ?_ | refine tD rfl ?_ | refine tE ?_ | refine tF ?_ | refine tG ?_ | refine tH ?_ | refine tI ?_ | refine tJ ?_ | refine tK ?_ | refine tL ?_))
  refine TE.loopG (fun q : Nat => q ≤ 5 ∧ ∀ j, j < q → c.toNat ≠ escL.getD (2 * j) 0) (fun q => [(6, .o (.c (.int .i64 q)))]) [] (fun _ => []) (fun q => 5 - q) 0 (by rfl) ⟨Nat.zero_le _, fun _ h => absurd h (Nat.not_lt_zero _)⟩ ?_ ?_
  · (refine Ent.of rfl rfl (by rfl) ?_; (try (first | exact trivial | ((with_reducible refine AllP.go ?_); dsimp only [AllP, appP]; repeat' (first | with_reducible rfl | with_reducible exact LeD.refl | refine And.intro ?_ ?_ | (refine congrArg (Value.int _) ?_; first | omega | rfl | (simp only [Int.toNat_natCast]; omega)) | rfl | (refine congrArg Value.bool ?_; assumption) | exact LeD.refl)))))
  rintro q ⟨hq, hqa⟩
  (repeat (with_reducible first | refine t1 ?_ | refine t2 ?_ | refine t3 ?_ | refine t4 ?_ | refine t5 ?_ | refine t6 ?_ | refine t7 ?_ | refine t8 ?_ | refine t9 ?_ | refine tA ?_ | refine tB ?_ | refine tC ?_ | refine tD rfl ?_ | refine tE ?_ | refine tF ?_ | refine tG ?_ | refine tH ?_ | refine tI ?_ | refine tJ ?_ | refine tK ?_ | refine tL ?_))
  ((refine TE.rgo tysOk rfl (by rfl) ?_ ?_); try (with_reducible refine AllP.go ?_; (first | exact trivial | exact fun i _ => ⟨_, rfl⟩ | ((try simp only [OS]); repeat' (first | omega | exact fun i _ => ⟨_, rfl⟩ | refine And.intro ?_ ?_)))))
  (repeat (with_reducible first | refine t1 ?_ | refine t2 ?_ | refine t3 ?_ | refine t4 ?_ | refine t5 ?_ | refine t6 ?_ | refine t7 ?_ | refine t8 ?_ | refine t9 ?_ | refine tA ?_ | refine tB ?_ | refine tC ?_ | refine tD rfl ?_ | refine tE ?_ | refine tF ?_ | refine tG ?_ | refine tH ?_ | refine tI ?_ | refine tJ ?_ | refine tK ?_ | refine tL ?_))
  (refine TE.cond_split (by rfl) ?_ ?_ <;> intro h <;> (try simp only [NS] at h) <;> (try (exfalso; first | omega | exact h trivial | exact h | exact h rfl | contradiction)))
  · rcases q with _ | _ | _ | _ | _ | q
    all_goals try (exfalso; omega)
    all_goals (repeat (with_reducible first | refine t1 ?_ | refine t2 ?_ | refine t3 ?_ | refine t4 ?_ | refine t5 ?_ | refine t6 ?_ | refine t7 ?_ | refine t8 ?_ | refine t9 ?_ | refine tA ?_ | refine tB ?_ | refine tC ?_ | refine tD rfl ?_ | refine tE ?_ | refine tF ?_ | refine tG ?_ | refine tH ?_ | refine tI ?_ | refine tJ ?_ | refine tK ?_ | refine tL ?_))
    all_goals refine TE.region ?_
    all_goals (refine TE.step rfl rfl rfl (fun _ h => nomatch h) (m_aggIdx tysOk rfl (Tryd.underlying86) rfl rfl rfl rfl (by rfl) ?_) ?_; rotate_left; rintro _ rfl; rotate_right)
    all_goals try (first | exact trivial | exact fun i _ => ⟨_, rfl⟩ | ((try simp only [OS]); repeat' (first | omega | exact fun i _ => ⟨_, rfl⟩ | refine And.intro ?_ ?_)))
    all_goals ((refine TE.run tysOk rfl (by rfl) ?_ ?_); try (with_reducible refine AllP.go ?_; (first | exact trivial | exact fun i _ => ⟨_, rfl⟩ | ((try simp only [OS]); repeat' (first | omega | exact fun i _ => ⟨_, rfl⟩ | refine And.intro ?_ ?_)))))
    all_goals (repeat (with_reducible first | refine t1 ?_ | refine t2 ?_ | refine t3 ?_ | refine t4 ?_ | refine t5 ?_ | refine t6 ?_ | refine t7 ?_ | refine t8 ?_ | refine t9 ?_ | refine tA ?_ | refine tB ?_ | refine tC ?_ | refine tD rfl ?_ | refine tE ?_ | refine tF ?_ | refine tG ?_ | refine tH ?_ | refine tI ?_ | refine tJ ?_ | refine tK ?_ | refine tL ?_))
    all_goals ((refine TE.rgo tysOk rfl (by rfl) ?_ ?_); try (with_reducible refine AllP.go ?_; (first | exact trivial | exact fun i _ => ⟨_, rfl⟩ | ((try simp only [OS]); repeat' (first | omega | exact fun i _ => ⟨_, rfl⟩ | refine And.intro ?_ ?_)))))
    all_goals (repeat (with_reducible first | refine t1 ?_ | refine t2 ?_ | refine t3 ?_ | refine t4 ?_ | refine t5 ?_ | refine t6 ?_ | refine t7 ?_ | refine t8 ?_ | refine t9 ?_ | refine tA ?_ | refine tB ?_ | refine tC ?_ | refine tD rfl ?_ | refine tE ?_ | refine tF ?_ | refine tG ?_ | refine tH ?_ | refine tI ?_ | refine tJ ?_ | refine tK ?_ | refine tL ?_))
    all_goals (refine TE.cond_split (by rfl) ?_ ?_ <;> intro h <;> (try simp only [NS] at h) <;> (try (exfalso; first | omega | exact h trivial | exact h | exact h rfl | contradiction)))
    · (repeat' (first | (with_reducible refine AllP.go ?_; (first | exact trivial | exact fun i _ => ⟨_, rfl⟩ | ((try simp only [OS]); repeat' (first | omega | exact fun i _ => ⟨_, rfl⟩ | refine And.intro ?_ ?_)))) | (refine TE.rgo tysOk rfl (by rfl) ?_ ?_) | (with_reducible first | refine t1 ?_ | refine t2 ?_ | refine t3 ?_ | refine t4 ?_ | refine t5 ?_ | refine t6 ?_ | refine t7 ?_ | refine t8 ?_ | refine t9 ?_ | refine tA ?_ | refine tB ?_ | refine tC ?_ | refine tD rfl ?_ | refine tE ?_ | refine tF ?_ | refine tG ?_ | refine tH ?_ | refine tI ?_ | refine tJ ?_ | refine tK ?_ | refine tL ?_) | (with_reducible first | exact PanicOk.body | exact rd.panic | refine PanicOk.then' ?_ | refine PanicOk.block ?_ | refine PanicOk.jump ?_) | (refine TE.drawC (by rfl) (by rfl) (by rfl) (by rfl) ?_) | (refine TE.drawN (by rfl) (by rfl) (by rfl) ?_) | (refine TL.done (by rfl) ?_) | (refine TL.auto tysOk rfl ?_ (by rfl) ?_ ?_) | ((refine TL.one (by rfl) ?_); first | (refine StepL.mem tysOk rfl rfl rfl rfl (by rfl) ?_ (by rfl) ?_) | (refine StepL.pure tysOk rfl rfl rfl rfl (by rfl) ?_ (by rfl) ?_)) | (refine StepL.mem tysOk rfl rfl rfl rfl (by rfl) ?_ (by rfl) ?_) | refine TE.cond_true (by rfl) ?_ | refine TE.cond_false (by rfl) ?_ | ((refine TE.gsplit (by rfl) (by rfl) ?_ ?_ <;> intro h <;> (try simp only [NS] at h) <;> (try (exfalso; first | omega | exact h trivial | exact h | exact h rfl | contradiction))) <;> (refine TE.run tysOk rfl (by rfl) ?_ ?_)) | ((first | refine TL.gsplit (by rfl) (by rfl) ?_ ?_ | refine TE.cond_split (by rfl) ?_ ?_) <;> intro h <;> (try simp only [NS] at h) <;> (try (exfalso; first | omega | exact h trivial | exact h | exact h rfl | contradiction)))))
      rw [show (ltrI c).toNat = escL.getD (2 * 0 + 1) 0 from ltr_at (q := 0) (by decide) h.symm]
      (refine TE.ret' (by first | exact .inl rfl | exact .inr rfl) rfl tysOk (()) ?_ rfl (by rfl) ?_; all_goals (try (first | exact trivial | ((with_reducible refine AllP.go ?_); dsimp only [AllP, appP]; repeat' (first | with_reducible rfl | with_reducible exact LeD.refl | refine And.intro ?_ ?_ | (refine congrArg (Value.int _) ?_; first | omega | rfl | (simp only [Int.toNat_natCast]; omega)) | rfl | (refine congrArg Value.bool ?_; assumption) | exact LeD.refl)))))
    · (repeat' (first | (with_reducible refine AllP.go ?_; (first | exact trivial | exact fun i _ => ⟨_, rfl⟩ | ((try simp only [OS]); repeat' (first | omega | exact fun i _ => ⟨_, rfl⟩ | refine And.intro ?_ ?_)))) | (refine TE.rgo tysOk rfl (by rfl) ?_ ?_) | (with_reducible first | refine t1 ?_ | refine t2 ?_ | refine t3 ?_ | refine t4 ?_ | refine t5 ?_ | refine t6 ?_ | refine t7 ?_ | refine t8 ?_ | refine t9 ?_ | refine tA ?_ | refine tB ?_ | refine tC ?_ | refine tD rfl ?_ | refine tE ?_ | refine tF ?_ | refine tG ?_ | refine tH ?_ | refine tI ?_ | refine tJ ?_ | refine tK ?_ | refine tL ?_) | (with_reducible first | exact PanicOk.body | exact rd.panic | refine PanicOk.then' ?_ | refine PanicOk.block ?_ | refine PanicOk.jump ?_) | (refine TE.drawC (by rfl) (by rfl) (by rfl) (by rfl) ?_) | (refine TE.drawN (by rfl) (by rfl) (by rfl) ?_) | (refine TL.done (by rfl) ?_) | (refine TL.auto tysOk rfl ?_ (by rfl) ?_ ?_) | ((refine TL.one (by rfl) ?_); first | (refine StepL.mem tysOk rfl rfl rfl rfl (by rfl) ?_ (by rfl) ?_) | (refine StepL.pure tysOk rfl rfl rfl rfl (by rfl) ?_ (by rfl) ?_)) | (refine StepL.mem tysOk rfl rfl rfl rfl (by rfl) ?_ (by rfl) ?_) | refine TE.cond_true (by rfl) ?_ | refine TE.cond_false (by rfl) ?_ | ((refine TE.gsplit (by rfl) (by rfl) ?_ ?_ <;> intro h <;> (try simp only [NS] at h) <;> (try (exfalso; first | omega | exact h trivial | exact h | exact h rfl | contradiction))) <;> (refine TE.run tysOk rfl (by rfl) ?_ ?_)) | ((first | refine TL.gsplit (by rfl) (by rfl) ?_ ?_ | refine TE.cond_split (by rfl) ?_ ?_) <;> intro h <;> (try simp only [NS] at h) <;> (try (exfalso; first | omega | exact h trivial | exact h | exact h rfl | contradiction)))))
      refine TE.again' 1 ⟨by decide, fun j hj => ?_⟩ (by decide) ?_
      · by_cases hj2 : j = 0
        · subst hj2
          exact fun hh => h hh.symm
        · exact hqa j (by omega)
      · (refine Ent.of rfl rfl (by rfl) ?_; (try (first | exact trivial | ((with_reducible refine AllP.go ?_); dsimp only [AllP, appP]; repeat' (first | with_reducible rfl | with_reducible exact LeD.refl | refine And.intro ?_ ?_ | (refine congrArg (Value.int _) ?_; first | omega | rfl | (simp only [Int.toNat_natCast]; omega)) | rfl | (refine congrArg Value.bool ?_; assumption) | exact LeD.refl)))))
    · (repeat' (first | (with_reducible refine AllP.go ?_; (first | exact trivial | exact fun i _ => ⟨_, rfl⟩ | ((try simp only [OS]); repeat' (first | omega | exact fun i _ => ⟨_, rfl⟩ | refine And.intro ?_ ?_)))) | (refine TE.rgo tysOk rfl (by rfl) ?_ ?_) | (with_reducible first | refine t1 ?_ | refine t2 ?_ | refine t3 ?_ | refine t4 ?_ | refine t5 ?_ | refine t6 ?_ | refine t7 ?_ | refine t8 ?_ | refine t9 ?_ | refine tA ?_ | refine tB ?_ | refine tC ?_ | refine tD rfl ?_ | refine tE ?_ | refine tF ?_ | refine tG ?_ | refine tH ?_ | refine tI ?_ | refine tJ ?_ | refine tK ?_ | refine tL ?_) | (with_reducible first | exact PanicOk.body | exact rd.panic | refine PanicOk.then' ?_ | refine PanicOk.block ?_ | refine PanicOk.jump ?_) | (refine TE.drawC (by rfl) (by rfl) (by rfl) (by rfl) ?_) | (refine TE.drawN (by rfl) (by rfl) (by rfl) ?_) | (refine TL.done (by rfl) ?_) | (refine TL.auto tysOk rfl ?_ (by rfl) ?_ ?_) | ((refine TL.one (by rfl) ?_); first | (refine StepL.mem tysOk rfl rfl rfl rfl (by rfl) ?_ (by rfl) ?_) | (refine StepL.pure tysOk rfl rfl rfl rfl (by rfl) ?_ (by rfl) ?_)) | (refine StepL.mem tysOk rfl rfl rfl rfl (by rfl) ?_ (by rfl) ?_) | refine TE.cond_true (by rfl) ?_ | refine TE.cond_false (by rfl) ?_ | ((refine TE.gsplit (by rfl) (by rfl) ?_ ?_ <;> intro h <;> (try simp only [NS] at h) <;> (try (exfalso; first | omega | exact h trivial | exact h | exact h rfl | contradiction))) <;> (refine TE.run tysOk rfl (by rfl) ?_ ?_)) | ((first | refine TL.gsplit (by rfl) (by rfl) ?_ ?_ | refine TE.cond_split (by rfl) ?_ ?_) <;> intro h <;> (try simp only [NS] at h) <;> (try (exfalso; first | omega | exact h trivial | exact h | exact h rfl | contradiction)))))
      rw [show (ltrI c).toNat = escL.getD (2 * 1 + 1) 0 from ltr_at (q := 1) (by decide) h.symm]
      (refine TE.ret' (by first | exact .inl rfl | exact .inr rfl) rfl tysOk (()) ?_ rfl (by rfl) ?_; all_goals (try (first | exact trivial | ((with_reducible refine AllP.go ?_); dsimp only [AllP, appP]; repeat' (first | with_reducible rfl | with_reducible exact LeD.refl | refine And.intro ?_ ?_ | (refine congrArg (Value.int _) ?_; first | omega | rfl | (simp only [Int.toNat_natCast]; omega)) | rfl | (refine congrArg Value.bool ?_; assumption) | exact LeD.refl)))))
    · (repeat' (first | (with_reducible refine AllP.go ?_; (first | exact trivial | exact fun i _ => ⟨_, rfl⟩ | ((try simp only [OS]); repeat' (first | omega | exact fun i _ => ⟨_, rfl⟩ | refine And.intro ?_ ?_)))) | (refine TE.rgo tysOk rfl (by rfl) ?_ ?_) | (with_reducible first | refine t1 ?_ | refine t2 ?_ | refine t3 ?_ | refine t4 ?_ | refine t5 ?_ | refine t6 ?_ | refine t7 ?_ | refine t8 ?_ | refine t9 ?_ | refine tA ?_ | refine tB ?_ | refine tC ?_ | refine tD rfl ?_ | refine tE ?_ | refine tF ?_ | refine tG ?_ | refine tH ?_ | refine tI ?_ | refine tJ ?_ | refine tK ?_ | refine tL ?_) | (with_reducible first | exact PanicOk.body | exact rd.panic | refine PanicOk.then' ?_ | refine PanicOk.block ?_ | refine PanicOk.jump ?_) | (refine TE.drawC (by rfl) (by rfl) (by rfl) (by rfl) ?_) | (refine TE.drawN (by rfl) (by rfl) (by rfl) ?_) | (refine TL.done (by rfl) ?_) | (refine TL.auto tysOk rfl ?_ (by rfl) ?_ ?_) | ((refine TL.one (by rfl) ?_); first | (refine StepL.mem tysOk rfl rfl rfl rfl (by rfl) ?_ (by rfl) ?_) | (refine StepL.pure tysOk rfl rfl rfl rfl (by rfl) ?_ (by rfl) ?_)) | (refine StepL.mem tysOk rfl rfl rfl rfl (by rfl) ?_ (by rfl) ?_) | refine TE.cond_true (by rfl) ?_ | refine TE.cond_false (by rfl) ?_ | ((refine TE.gsplit (by rfl) (by rfl) ?_ ?_ <;> intro h <;> (try simp only [NS] at h) <;> (try (exfalso; first | omega | exact h trivial | exact h | exact h rfl | contradiction))) <;> (refine TE.run tysOk rfl (by rfl) ?_ ?_)) | ((first | refine TL.gsplit (by rfl) (by rfl) ?_ ?_ | refine TE.cond_split (by rfl) ?_ ?_) <;> intro h <;> (try simp only [NS] at h) <;> (try (exfalso; first | omega | exact h trivial | exact h | exact h rfl | contradiction)))))
      refine TE.again' 2 ⟨by decide, fun j hj => ?_⟩ (by decide) ?_
      · by_cases hj2 : j = 1
        · subst hj2
          exact fun hh => h hh.symm
        · exact hqa j (by omega)
      · (refine Ent.of rfl rfl (by rfl) ?_; (try (first | exact trivial | ((with_reducible refine AllP.go ?_); dsimp only [AllP, appP]; repeat' (first | with_reducible rfl | with_reducible exact LeD.refl | refine And.intro ?_ ?_ | (refine congrArg (Value.int _) ?_; first | omega | rfl | (simp only [Int.toNat_natCast]; omega)) | rfl | (refine congrArg Value.bool ?_; assumption) | exact LeD.refl)))))
    · (repeat' (first | (with_reducible refine AllP.go ?_; (first | exact trivial | exact fun i _ => ⟨_, rfl⟩ | ((try simp only [OS]); repeat' (first | omega | exact fun i _ => ⟨_, rfl⟩ | refine And.intro ?_ ?_)))) | (refine TE.rgo tysOk rfl (by rfl) ?_ ?_) | (with_reducible first | refine t1 ?_ | refine t2 ?_ | refine t3 ?_ | refine t4 ?_ | refine t5 ?_ | refine t6 ?_ | refine t7 ?_ | refine t8 ?_ | refine t9 ?_ | refine tA ?_ | refine tB ?_ | refine tC ?_ | refine tD rfl ?_ | refine tE ?_ | refine tF ?_ | refine tG ?_ | refine tH ?_ | refine tI ?_ | refine tJ ?_ | refine tK ?_ | refine tL ?_) | (with_reducible first | exact PanicOk.body | exact rd.panic | refine PanicOk.then' ?_ | refine PanicOk.block ?_ | refine PanicOk.jump ?_) | (refine TE.drawC (by rfl) (by rfl) (by rfl) (by rfl) ?_) | (refine TE.drawN (by rfl) (by rfl) (by rfl) ?_) | (refine TL.done (by rfl) ?_) | (refine TL.auto tysOk rfl ?_ (by rfl) ?_ ?_) | ((refine TL.one (by rfl) ?_); first | (refine StepL.mem tysOk rfl rfl rfl rfl (by rfl) ?_ (by rfl) ?_) | (refine StepL.pure tysOk rfl rfl rfl rfl (by rfl) ?_ (by rfl) ?_)) | (refine StepL.mem tysOk rfl rfl rfl rfl (by rfl) ?_ (by rfl) ?_) | refine TE.cond_true (by rfl) ?_ | refine TE.cond_false (by rfl) ?_ | ((refine TE.gsplit (by rfl) (by rfl) ?_ ?_ <;> intro h <;> (try simp only [NS] at h) <;> (try (exfalso; first | omega | exact h trivial | exact h | exact h rfl | contradiction))) <;> (refine TE.run tysOk rfl (by rfl) ?_ ?_)) | ((first | refine TL.gsplit (by rfl) (by rfl) ?_ ?_ | refine TE.cond_split (by rfl) ?_ ?_) <;> intro h <;> (try simp only [NS] at h) <;> (try (exfalso; first | omega | exact h trivial | exact h | exact h rfl | contradiction)))))
      rw [show (ltrI c).toNat = escL.getD (2 * 2 + 1) 0 from ltr_at (q := 2) (by decide) h.symm]
      (refine TE.ret' (by first | exact .inl rfl | exact .inr rfl) rfl tysOk (()) ?_ rfl (by rfl) ?_; all_goals (try (first | exact trivial | ((with_reducible refine AllP.go ?_); dsimp only [AllP, appP]; repeat' (first | with_reducible rfl | with_reducible exact LeD.refl | refine And.intro ?_ ?_ | (refine congrArg (Value.int _) ?_; first | omega | rfl | (simp only [Int.toNat_natCast]; omega)) | rfl | (refine congrArg Value.bool ?_; assumption) | exact LeD.refl)))))
    · (repeat' (first | (with_reducible refine AllP.go ?_; (first | exact trivial | exact fun i _ => ⟨_, rfl⟩ | ((try simp only [OS]); repeat' (first | omega | exact fun i _ => ⟨_, rfl⟩ | refine And.intro ?_ ?_)))) | (refine TE.rgo tysOk rfl (by rfl) ?_ ?_) | (with_reducible first | refine t1 ?_ | refine t2 ?_ | refine t3 ?_ | refine t4 ?_ | refine t5 ?_ | refine t6 ?_ | refine t7 ?_ | refine t8 ?_ | refine t9 ?_ | refine tA ?_ | refine tB ?_ | refine tC ?_ | refine tD rfl ?_ | refine tE ?_ | refine tF ?_ | refine tG ?_ | refine tH ?_ | refine tI ?_ | refine tJ ?_ | refine tK ?_ | refine tL ?_) | (with_reducible first | exact PanicOk.body | exact rd.panic | refine PanicOk.then' ?_ | refine PanicOk.block ?_ | refine PanicOk.jump ?_) | (refine TE.drawC (by rfl) (by rfl) (by rfl) (by rfl) ?_) | (refine TE.drawN (by rfl) (by rfl) (by rfl) ?_) | (refine TL.done (by rfl) ?_) | (refine TL.auto tysOk rfl ?_ (by rfl) ?_ ?_) | ((refine TL.one (by rfl) ?_); first | (refine StepL.mem tysOk rfl rfl rfl rfl (by rfl) ?_ (by rfl) ?_) | (refine StepL.pure tysOk rfl rfl rfl rfl (by rfl) ?_ (by rfl) ?_)) | (refine StepL.mem tysOk rfl rfl rfl rfl (by rfl) ?_ (by rfl) ?_) | refine TE.cond_true (by rfl) ?_ | refine TE.cond_false (by rfl) ?_ | ((refine TE.gsplit (by rfl) (by rfl) ?_ ?_ <;> intro h <;> (try simp only [NS] at h) <;> (try (exfalso; first | omega | exact h trivial | exact h | exact h rfl | contradiction))) <;> (refine TE.run tysOk rfl (by rfl) ?_ ?_)) | ((first | refine TL.gsplit (by rfl) (by rfl) ?_ ?_ | refine TE.cond_split (by rfl) ?_ ?_) <;> intro h <;> (try simp only [NS] at h) <;> (try (exfalso; first | omega | exact h trivial | exact h | exact h rfl | contradiction)))))
      refine TE.again' 3 ⟨by decide, fun j hj => ?_⟩ (by decide) ?_
      · by_cases hj2 : j = 2
        · subst hj2
          exact fun hh => h hh.symm
        · exact hqa j (by omega)
      · (refine Ent.of rfl rfl (by rfl) ?_; (try (first | exact trivial | ((with_reducible refine AllP.go ?_); dsimp only [AllP, appP]; repeat' (first | with_reducible rfl | with_reducible exact LeD.refl | refine And.intro ?_ ?_ | (refine congrArg (Value.int _) ?_; first | omega | rfl | (simp only [Int.toNat_natCast]; omega)) | rfl | (refine congrArg Value.bool ?_; assumption) | exact LeD.refl)))))
    · (repeat' (first | (with_reducible refine AllP.go ?_; (first | exact trivial | exact fun i _ => ⟨_, rfl⟩ | ((try simp only [OS]); repeat' (first | omega | exact fun i _ => ⟨_, rfl⟩ | refine And.intro ?_ ?_)))) | (refine TE.rgo tysOk rfl (by rfl) ?_ ?_) | (with_reducible first | refine t1 ?_ | refine t2 ?_ | refine t3 ?_ | refine t4 ?_ | refine t5 ?_ | refine t6 ?_ | refine t7 ?_ | refine t8 ?_ | refine t9 ?_ | refine tA ?_ | refine tB ?_ | refine tC ?_ | refine tD rfl ?_ | refine tE ?_ | refine tF ?_ | refine tG ?_ | refine tH ?_ | refine tI ?_ | refine tJ ?_ | refine tK ?_ | refine tL ?_) | (with_reducible first | exact PanicOk.body | exact rd.panic | refine PanicOk.then' ?_ | refine PanicOk.block ?_ | refine PanicOk.jump ?_) | (refine TE.drawC (by rfl) (by rfl) (by rfl) (by rfl) ?_) | (refine TE.drawN (by rfl) (by rfl) (by rfl) ?_) | (refine TL.done (by rfl) ?_) | (refine TL.auto tysOk rfl ?_ (by rfl) ?_ ?_) | ((refine TL.one (by rfl) ?_); first | (refine StepL.mem tysOk rfl rfl rfl rfl (by rfl) ?_ (by rfl) ?_) | (refine StepL.pure tysOk rfl rfl rfl rfl (by rfl) ?_ (by rfl) ?_)) | (refine StepL.mem tysOk rfl rfl rfl rfl (by rfl) ?_ (by rfl) ?_) | refine TE.cond_true (by rfl) ?_ | refine TE.cond_false (by rfl) ?_ | ((refine TE.gsplit (by rfl) (by rfl) ?_ ?_ <;> intro h <;> (try simp only [NS] at h) <;> (try (exfalso; first | omega | exact h trivial | exact h | exact h rfl | contradiction))) <;> (refine TE.run tysOk rfl (by rfl) ?_ ?_)) | ((first | refine TL.gsplit (by rfl) (by rfl) ?_ ?_ | refine TE.cond_split (by rfl) ?_ ?_) <;> intro h <;> (try simp only [NS] at h) <;> (try (exfalso; first | omega | exact h trivial | exact h | exact h rfl | contradiction)))))
      rw [show (ltrI c).toNat = escL.getD (2 * 3 + 1) 0 from ltr_at (q := 3) (by decide) h.symm]
      (refine TE.ret' (by first | exact .inl rfl | exact .inr rfl) rfl tysOk (()) ?_ rfl (by rfl) ?_; all_goals (try (first | exact trivial | ((with_reducible refine AllP.go ?_); dsimp only [AllP, appP]; repeat' (first | with_reducible rfl | with_reducible exact LeD.refl | refine And.intro ?_ ?_ | (refine congrArg (Value.int _) ?_; first | omega | rfl | (simp only [Int.toNat_natCast]; omega)) | rfl | (refine congrArg Value.bool ?_; assumption) | exact LeD.refl)))))
    · (repeat' (first | (with_reducible refine AllP.go ?_; (first | exact trivial | exact fun i _ => ⟨_, rfl⟩ | ((try simp only [OS]); repeat' (first | omega | exact fun i _ => ⟨_, rfl⟩ | refine And.intro ?_ ?_)))) | (refine TE.rgo tysOk rfl (by rfl) ?_ ?_) | (with_reducible first | refine t1 ?_ | refine t2 ?_ | refine t3 ?_ | refine t4 ?_ | refine t5 ?_ | refine t6 ?_ | refine t7 ?_ | refine t8 ?_ | refine t9 ?_ | refine tA ?_ | refine tB ?_ | refine tC ?_ | refine tD rfl ?_ | refine tE ?_ | refine tF ?_ | refine tG ?_ | refine tH ?_ | refine tI ?_ | refine tJ ?_ | refine tK ?_ | refine tL ?_) | (with_reducible first | exact PanicOk.body | exact rd.panic | refine PanicOk.then' ?_ | refine PanicOk.block ?_ | refine PanicOk.jump ?_) | (refine TE.drawC (by rfl) (by rfl) (by rfl) (by rfl) ?_) | (refine TE.drawN (by rfl) (by rfl) (by rfl) ?_) | (refine TL.done (by rfl) ?_) | (refine TL.auto tysOk rfl ?_ (by rfl) ?_ ?_) | ((refine TL.one (by rfl) ?_); first | (refine StepL.mem tysOk rfl rfl rfl rfl (by rfl) ?_ (by rfl) ?_) | (refine StepL.pure tysOk rfl rfl rfl rfl (by rfl) ?_ (by rfl) ?_)) | (refine StepL.mem tysOk rfl rfl rfl rfl (by rfl) ?_ (by rfl) ?_) | refine TE.cond_true (by rfl) ?_ | refine TE.cond_false (by rfl) ?_ | ((refine TE.gsplit (by rfl) (by rfl) ?_ ?_ <;> intro h <;> (try simp only [NS] at h) <;> (try (exfalso; first | omega | exact h trivial | exact h | exact h rfl | contradiction))) <;> (refine TE.run tysOk rfl (by rfl) ?_ ?_)) | ((first | refine TL.gsplit (by rfl) (by rfl) ?_ ?_ | refine TE.cond_split (by rfl) ?_ ?_) <;> intro h <;> (try simp only [NS] at h) <;> (try (exfalso; first | omega | exact h trivial | exact h | exact h rfl | contradiction)))))
      refine TE.again' 4 ⟨by decide, fun j hj => ?_⟩ (by decide) ?_
      · by_cases hj2 : j = 3
        · subst hj2
          exact fun hh => h hh.symm
        · exact hqa j (by omega)
      · (refine Ent.of rfl rfl (by rfl) ?_; (try (first | exact trivial | ((with_reducible refine AllP.go ?_); dsimp only [AllP, appP]; repeat' (first | with_reducible rfl | with_reducible exact LeD.refl | refine And.intro ?_ ?_ | (refine congrArg (Value.int _) ?_; first | omega | rfl | (simp only [Int.toNat_natCast]; omega)) | rfl | (refine congrArg Value.bool ?_; assumption) | exact LeD.refl)))))
    · (repeat' (first | (with_reducible refine AllP.go ?_; (first | exact trivial | exact fun i _ => ⟨_, rfl⟩ | ((try simp only [OS]); repeat' (first | omega | exact fun i _ => ⟨_, rfl⟩ | refine And.intro ?_ ?_)))) | (refine TE.rgo tysOk rfl (by rfl) ?_ ?_) | (with_reducible first | refine t1 ?_ | refine t2 ?_ | refine t3 ?_ | refine t4 ?_ | refine t5 ?_ | refine t6 ?_ | refine t7 ?_ | refine t8 ?_ | refine t9 ?_ | refine tA ?_ | refine tB ?_ | refine tC ?_ | refine tD rfl ?_ | refine tE ?_ | refine tF ?_ | refine tG ?_ | refine tH ?_ | refine tI ?_ | refine tJ ?_ | refine tK ?_ | refine tL ?_) | (with_reducible first | exact PanicOk.body | exact rd.panic | refine PanicOk.then' ?_ | refine PanicOk.block ?_ | refine PanicOk.jump ?_) | (refine TE.drawC (by rfl) (by rfl) (by rfl) (by rfl) ?_) | (refine TE.drawN (by rfl) (by rfl) (by rfl) ?_) | (refine TL.done (by rfl) ?_) | (refine TL.auto tysOk rfl ?_ (by rfl) ?_ ?_) | ((refine TL.one (by rfl) ?_); first | (refine StepL.mem tysOk rfl rfl rfl rfl (by rfl) ?_ (by rfl) ?_) | (refine StepL.pure tysOk rfl rfl rfl rfl (by rfl) ?_ (by rfl) ?_)) | (refine StepL.mem tysOk rfl rfl rfl rfl (by rfl) ?_ (by rfl) ?_) | refine TE.cond_true (by rfl) ?_ | refine TE.cond_false (by rfl) ?_ | ((refine TE.gsplit (by rfl) (by rfl) ?_ ?_ <;> intro h <;> (try simp only [NS] at h) <;> (try (exfalso; first | omega | exact h trivial | exact h | exact h rfl | contradiction))) <;> (refine TE.run tysOk rfl (by rfl) ?_ ?_)) | ((first | refine TL.gsplit (by rfl) (by rfl) ?_ ?_ | refine TE.cond_split (by rfl) ?_ ?_) <;> intro h <;> (try simp only [NS] at h) <;> (try (exfalso; first | omega | exact h trivial | exact h | exact h rfl | contradiction)))))
      rw [show (ltrI c).toNat = escL.getD (2 * 4 + 1) 0 from ltr_at (q := 4) (by decide) h.symm]
      (refine TE.ret' (by first | exact .inl rfl | exact .inr rfl) rfl tysOk (()) ?_ rfl (by rfl) ?_; all_goals (try (first | exact trivial | ((with_reducible refine AllP.go ?_); dsimp only [AllP, appP]; repeat' (first | with_reducible rfl | with_reducible exact LeD.refl | refine And.intro ?_ ?_ | (refine congrArg (Value.int _) ?_; first | omega | rfl | (simp only [Int.toNat_natCast]; omega)) | rfl | (refine congrArg Value.bool ?_; assumption) | exact LeD.refl)))))
    · (repeat' (first | (with_reducible refine AllP.go ?_; (first | exact trivial | exact fun i _ => ⟨_, rfl⟩ | ((try simp only [OS]); repeat' (first | omega | exact fun i _ => ⟨_, rfl⟩ | refine And.intro ?_ ?_)))) | (refine TE.rgo tysOk rfl (by rfl) ?_ ?_) | (with_reducible first | refine t1 ?_ | refine t2 ?_ | refine t3 ?_ | refine t4 ?_ | refine t5 ?_ | refine t6 ?_ | refine t7 ?_ | refine t8 ?_ | refine t9 ?_ | refine tA ?_ | refine tB ?_ | refine tC ?_ | refine tD rfl ?_ | refine tE ?_ | refine tF ?_ | refine tG ?_ | refine tH ?_ | refine tI ?_ | refine tJ ?_ | refine tK ?_ | refine tL ?_) | (with_reducible first | exact PanicOk.body | exact rd.panic | refine PanicOk.then' ?_ | refine PanicOk.block ?_ | refine PanicOk.jump ?_) | (refine TE.drawC (by rfl) (by rfl) (by rfl) (by rfl) ?_) | (refine TE.drawN (by rfl) (by rfl) (by rfl) ?_) | (refine TL.done (by rfl) ?_) | (refine TL.auto tysOk rfl ?_ (by rfl) ?_ ?_) | ((refine TL.one (by rfl) ?_); first | (refine StepL.mem tysOk rfl rfl rfl rfl (by rfl) ?_ (by rfl) ?_) | (refine StepL.pure tysOk rfl rfl rfl rfl (by rfl) ?_ (by rfl) ?_)) | (refine StepL.mem tysOk rfl rfl rfl rfl (by rfl) ?_ (by rfl) ?_) | refine TE.cond_true (by rfl) ?_ | refine TE.cond_false (by rfl) ?_ | ((refine TE.gsplit (by rfl) (by rfl) ?_ ?_ <;> intro h <;> (try simp only [NS] at h) <;> (try (exfalso; first | omega | exact h trivial | exact h | exact h rfl | contradiction))) <;> (refine TE.run tysOk rfl (by rfl) ?_ ?_)) | ((first | refine TL.gsplit (by rfl) (by rfl) ?_ ?_ | refine TE.cond_split (by rfl) ?_ ?_) <;> intro h <;> (try simp only [NS] at h) <;> (try (exfalso; first | omega | exact h trivial | exact h | exact h rfl | contradiction)))))
      refine TE.again' 5 ⟨by decide, fun j hj => ?_⟩ (by decide) ?_
      · by_cases hj2 : j = 4
        · subst hj2
          exact fun hh => h hh.symm
        · exact hqa j (by omega)
      · (refine Ent.of rfl rfl (by rfl) ?_; (try (first | exact trivial | ((with_reducible refine AllP.go ?_); dsimp only [AllP, appP]; repeat' (first | with_reducible rfl | with_reducible exact LeD.refl | refine And.intro ?_ ?_ | (refine congrArg (Value.int _) ?_; first | omega | rfl | (simp only [Int.toNat_natCast]; omega)) | rfl | (refine congrArg Value.bool ?_; assumption) | exact LeD.refl)))))
  · (repeat (with_reducible first | refine t1 ?_ | refine t2 ?_ | refine t3 ?_ | refine t4 ?_ | refine t5 ?_ | refine t6 ?_ | refine t7 ?_ | refine t8 ?_ | refine t9 ?_ | refine tA ?_ | refine tB ?_ | refine tC ?_ | refine tD rfl ?_ | refine tE ?_ | refine tF ?_ | refine tG ?_ | refine tH ?_ | refine tI ?_ | refine tJ ?_ | refine tK ?_ | refine tL ?_))
    (repeat' (first | (with_reducible refine AllP.go ?_; (first | exact trivial | exact fun i _ => ⟨_, rfl⟩ | ((try simp only [OS]); repeat' (first | omega | exact fun i _ => ⟨_, rfl⟩ | refine And.intro ?_ ?_)))) | (refine TE.rgo tysOk rfl (by rfl) ?_ ?_) | (with_reducible first | refine t1 ?_ | refine t2 ?_ | refine t3 ?_ | refine t4 ?_ | refine t5 ?_ | refine t6 ?_ | refine t7 ?_ | refine t8 ?_ | refine t9 ?_ | refine tA ?_ | refine tB ?_ | refine tC ?_ | refine tD rfl ?_ | refine tE ?_ | refine tF ?_ | refine tG ?_ | refine tH ?_ | refine tI ?_ | refine tJ ?_ | refine tK ?_ | refine tL ?_) | (with_reducible first | exact PanicOk.body | exact rd.panic | refine PanicOk.then' ?_ | refine PanicOk.block ?_ | refine PanicOk.jump ?_) | (refine TE.drawC (by rfl) (by rfl) (by rfl) (by rfl) ?_) | (refine TE.drawN (by rfl) (by rfl) (by rfl) ?_) | (refine TL.done (by rfl) ?_) | (refine TL.auto tysOk rfl ?_ (by rfl) ?_ ?_) | ((refine TL.one (by rfl) ?_); first | (refine StepL.mem tysOk rfl rfl rfl rfl (by rfl) ?_ (by rfl) ?_) | (refine StepL.pure tysOk rfl rfl rfl rfl (by rfl) ?_ (by rfl) ?_)) | (refine StepL.mem tysOk rfl rfl rfl rfl (by rfl) ?_ (by rfl) ?_) | refine TE.cond_true (by rfl) ?_ | refine TE.cond_false (by rfl) ?_ | ((refine TE.gsplit (by rfl) (by rfl) ?_ ?_ <;> intro h <;> (try simp only [NS] at h) <;> (try (exfalso; first | omega | exact h trivial | exact h | exact h rfl | contradiction))) <;> (refine TE.run tysOk rfl (by rfl) ?_ ?_)) | ((first | refine TL.gsplit (by rfl) (by rfl) ?_ ?_ | refine TE.cond_split (by rfl) ?_ ?_) <;> intro h <;> (try simp only [NS] at h) <;> (try (exfalso; first | omega | exact h trivial | exact h | exact h rfl | contradiction)))))
    rw [ltr_no (fun j hj => hqa j (by omega))]
    (refine TE.ret' (by first | exact .inl rfl | exact .inr rfl) rfl tysOk (()) ?_ rfl (by rfl) ?_; all_goals (try (first | exact trivial | ((with_reducible refine AllP.go ?_); dsimp only [AllP, appP]; repeat' (first | with_reducible rfl | with_reducible exact LeD.refl | refine And.intro ?_ ?_ | (refine congrArg (Value.int _) ?_; first | omega | rfl | (simp only [Int.toNat_natCast]; omega)) | rfl | (refine congrArg Value.bool ?_; assumption) | exact LeD.refl)))))
end Go.Proofs.YtmeapfckibbbbaaDoor.Am
/- The words: quoting and bare words, the program's. -/
set_option linter.unusedVariables false
namespace Go.Proofs.YtmeapfckibbbbaaDoor.Am
open Go.RowKit Lw Wo
theorem hx0 (c : UInt8) : (c.toNat : Int) < 2 ^ 8 := by have := c.toNat_lt; omega
theorem hx1 (c : UInt8) : 0 ≤ (c.toNat : Int) / 2 ^ Int.toNat 4 := Int.ediv_nonneg (by omega) (by decide)
theorem hx2 (c : UInt8) : (c.toNat : Int) / 2 ^ Int.toNat 4 < 16 := by
  have := c.toNat_lt
  show (c.toNat : Int) / 16 < 16
  omega
set_option maxRecDepth 20000 in
theorem isBare_c (l : Bs) (hl : l.length ≤ 1000000) : Con Tryd.prog 42 [.o (.c (.string (sB l)))] [] 0 0 U (fun _ => .o (.sb (bareI l))) G0 := by
  refine con_of Tryd.func42 rfl (by kernel_rfl) Tryd.ntmps42 rfl (by first | exact Nat.zero_le _ | decide) (fun _ => ⟨rfl, rfl⟩) fun w S ν => ?_
  have hz := sB_size l
  (repeat' (first | (with_reducible refine AllP.go ?_; (first | exact trivial | exact fun i _ => ⟨_, rfl⟩ | ((try simp only [OS]); repeat' (first | omega | exact fun i _ => ⟨_, rfl⟩ | refine And.intro ?_ ?_)))) | (refine TE.rgo tysOk rfl (by rfl) ?_ ?_) | (with_reducible first | refine t1 ?_ | refine t2 ?_ | refine t3 ?_ | refine t4 ?_ | refine t5 ?_ | refine t6 ?_ | refine t7 ?_ | refine t8 ?_ | refine t9 ?_ | refine tA ?_ | refine tB ?_ | refine tC ?_ | refine tD rfl ?_ | refine tE ?_ | refine tF ?_ | refine tG ?_ | refine tH ?_ | refine tI ?_ | refine tJ ?_ | refine tK ?_ | refine tL ?_) | (with_reducible first | exact PanicOk.body | exact rd.panic | refine PanicOk.then' ?_ | refine PanicOk.block ?_ | refine PanicOk.jump ?_) | (refine TE.drawC (by rfl) (by rfl) (by rfl) (by rfl) ?_) | (refine TE.drawN (by rfl) (by rfl) (by rfl) ?_) | (refine TL.done (by rfl) ?_) | (refine TL.auto tysOk rfl ?_ (by rfl) ?_ ?_) | ((refine TL.one (by rfl) ?_); first | (refine StepL.mem tysOk rfl rfl rfl rfl (by rfl) ?_ (by rfl) ?_) | (refine StepL.pure tysOk rfl rfl rfl rfl (by rfl) ?_ (by rfl) ?_)) | (refine StepL.mem tysOk rfl rfl rfl rfl (by rfl) ?_ (by rfl) ?_) | refine TE.cond_true (by rfl) ?_ | refine TE.cond_false (by rfl) ?_ | ((refine TE.gsplit (by rfl) (by rfl) ?_ ?_ <;> intro h <;> (try simp only [NS] at h) <;> (try (exfalso; first | omega | exact h trivial | exact h | exact h rfl | contradiction))) <;> (refine TE.run tysOk rfl (by rfl) ?_ ?_)) | ((first | refine TL.gsplit (by rfl) (by rfl) ?_ ?_ | refine TE.cond_split (by rfl) ?_ ?_) <;> intro h <;> (try simp only [NS] at h) <;> (try (exfalso; first | omega | exact h trivial | exact h | exact h rfl | contradiction)))))
  refine TE.loopG (fun q : Nat => q ≤ l.length ∧ (l.take q).all bareC = true) (fun q => [(6, .o (.c (.int .i64 q)))]) [] (fun _ => []) (fun q => l.length - q) 0 (by rfl) ⟨Nat.zero_le _, rfl⟩ ?_ ?_
  · (refine Ent.of rfl rfl (by rfl) ?_; (try (first | exact trivial | ((with_reducible refine AllP.go ?_); dsimp only [AllP, appP]; repeat' (first | with_reducible rfl | with_reducible exact LeD.refl | refine And.intro ?_ ?_ | (refine congrArg (Value.int _) ?_; first | omega | rfl | (simp only [Int.toNat_natCast]; omega)) | rfl | (refine congrArg Value.bool ?_; assumption) | exact LeD.refl)))))
  rintro q ⟨hq, hqa⟩
  have hst := fun h => all_step (p := bareC) (l := l) (q := q) h
  have hno := fun h => all_no (p := bareC) (l := l) (q := q) h
  (repeat' (first | (with_reducible refine AllP.go ?_; (first | exact trivial | exact fun i _ => ⟨_, rfl⟩ | ((try simp only [OS]); repeat' (first | omega | exact fun i _ => ⟨_, rfl⟩ | refine And.intro ?_ ?_)))) | (refine TE.rgo tysOk rfl (by rfl) ?_ ?_) | (with_reducible first | refine t1 ?_ | refine t2 ?_ | refine t3 ?_ | refine t4 ?_ | refine t5 ?_ | refine t6 ?_ | refine t7 ?_ | refine t8 ?_ | refine t9 ?_ | refine tA ?_ | refine tB ?_ | refine tC ?_ | refine tD rfl ?_ | refine tE ?_ | refine tF ?_ | refine tG ?_ | refine tH ?_ | refine tI ?_ | refine tJ ?_ | refine tK ?_ | refine tL ?_) | (with_reducible first | exact PanicOk.body | exact rd.panic | refine PanicOk.then' ?_ | refine PanicOk.block ?_ | refine PanicOk.jump ?_) | (refine TE.drawC (by rfl) (by rfl) (by rfl) (by rfl) ?_) | (refine TE.drawN (by rfl) (by rfl) (by rfl) ?_) | (refine TL.done (by rfl) ?_) | (refine TL.auto tysOk rfl ?_ (by rfl) ?_ ?_) | ((refine TL.one (by rfl) ?_); first | (refine StepL.mem tysOk rfl rfl rfl rfl (by rfl) ?_ (by rfl) ?_) | (refine StepL.pure tysOk rfl rfl rfl rfl (by rfl) ?_ (by rfl) ?_)) | (refine StepL.mem tysOk rfl rfl rfl rfl (by rfl) ?_ (by rfl) ?_) | refine TE.cond_true (by rfl) ?_ | refine TE.cond_false (by rfl) ?_ | ((refine TE.gsplit (by rfl) (by rfl) ?_ ?_ <;> intro h <;> (try simp only [NS] at h) <;> (try (exfalso; first | omega | exact h trivial | exact h | exact h rfl | contradiction))) <;> (refine TE.run tysOk rfl (by rfl) ?_ ?_)) | ((first | refine TL.gsplit (by rfl) (by rfl) ?_ ?_ | refine TE.cond_split (by rfl) ?_ ?_) <;> intro h <;> (try simp only [NS] at h) <;> (try (exfalso; first | omega | exact h trivial | exact h | exact h rfl | contradiction)))))
  · refine TE.callW (plain_c (l.getD q 0)) rfl (by rfl) (by rfl) rfl (by rfl) (by (first | exact trivial | ((with_reducible refine AllP.go ?_); dsimp only [AllP, appP]; repeat' (first | with_reducible rfl | with_reducible exact LeD.refl | refine And.intro ?_ ?_ | (refine congrArg (Value.int _) ?_; first | omega | rfl | (simp only [Int.toNat_natCast]; omega)) | rfl | (refine congrArg Value.bool ?_; assumption) | assumption | exact LeD.refl)))) ?_
    intro _ _
    ((refine TE.run tysOk rfl (by rfl) ?_ ?_); (repeat' (first | (with_reducible refine AllP.go ?_; (first | exact trivial | exact fun i _ => ⟨_, rfl⟩ | ((try simp only [OS]); repeat' (first | omega | exact fun i _ => ⟨_, rfl⟩ | refine And.intro ?_ ?_)))) | (refine TE.rgo tysOk rfl (by rfl) ?_ ?_) | (with_reducible first | refine t1 ?_ | refine t2 ?_ | refine t3 ?_ | refine t4 ?_ | refine t5 ?_ | refine t6 ?_ | refine t7 ?_ | refine t8 ?_ | refine t9 ?_ | refine tA ?_ | refine tB ?_ | refine tC ?_ | refine tD rfl ?_ | refine tE ?_ | refine tF ?_ | refine tG ?_ | refine tH ?_ | refine tI ?_ | refine tJ ?_ | refine tK ?_ | refine tL ?_) | (with_reducible first | exact PanicOk.body | exact rd.panic | refine PanicOk.then' ?_ | refine PanicOk.block ?_ | refine PanicOk.jump ?_) | (refine TE.drawC (by rfl) (by rfl) (by rfl) (by rfl) ?_) | (refine TE.drawN (by rfl) (by rfl) (by rfl) ?_) | (refine TL.done (by rfl) ?_) | (refine TL.auto tysOk rfl ?_ (by rfl) ?_ ?_) | ((refine TL.one (by rfl) ?_); first | (refine StepL.mem tysOk rfl rfl rfl rfl (by rfl) ?_ (by rfl) ?_) | (refine StepL.pure tysOk rfl rfl rfl rfl (by rfl) ?_ (by rfl) ?_)) | (refine StepL.mem tysOk rfl rfl rfl rfl (by rfl) ?_ (by rfl) ?_) | refine TE.cond_true (by rfl) ?_ | refine TE.cond_false (by rfl) ?_ | ((refine TE.gsplit (by rfl) (by rfl) ?_ ?_ <;> intro h <;> (try simp only [NS] at h) <;> (try (exfalso; first | omega | exact h trivial | exact h | exact h rfl | contradiction))) <;> (refine TE.run tysOk rfl (by rfl) ?_ ?_)) | ((first | refine TL.gsplit (by rfl) (by rfl) ?_ ?_ | refine TE.cond_split (by rfl) ?_ ?_) <;> intro h <;> (try simp only [NS] at h) <;> (try (exfalso; first | omega | exact h trivial | exact h | exact h rfl | contradiction))))))
    · rw [show bareI l = false by unfold bareI; rw [hno (by omega) (by show (plainC _ && _) = false; rw [show plainC (l.getD q 0) = false from decide_eq_false (by assumption), Bool.false_and]), Bool.and_false]]
      (refine TE.ret' (by first | exact .inl rfl | exact .inr rfl) rfl tysOk (()) ?_ rfl (by rfl) ?_; all_goals (try (first | exact trivial | ((with_reducible refine AllP.go ?_); dsimp only [AllP, appP]; repeat' (first | with_reducible rfl | with_reducible exact LeD.refl | refine And.intro ?_ ?_ | (refine congrArg (Value.int _) ?_; first | omega | rfl | (simp only [Int.toNat_natCast]; omega)) | rfl | (refine congrArg Value.bool ?_; assumption) | exact LeD.refl)))))
    · rw [show bareI l = false by unfold bareI; rw [hno (by omega) (by show (_ && decide ((l.getD q 0).toNat ≠ 32)) = false; rw [decide_eq_false (by omega), Bool.and_false]), Bool.and_false]]
      (refine TE.ret' (by first | exact .inl rfl | exact .inr rfl) rfl tysOk (()) ?_ rfl (by rfl) ?_; all_goals (try (first | exact trivial | ((with_reducible refine AllP.go ?_); dsimp only [AllP, appP]; repeat' (first | with_reducible rfl | with_reducible exact LeD.refl | refine And.intro ?_ ?_ | (refine congrArg (Value.int _) ?_; first | omega | rfl | (simp only [Int.toNat_natCast]; omega)) | rfl | (refine congrArg Value.bool ?_; assumption) | exact LeD.refl)))))
    · refine TE.again' (q + 1) ⟨by omega, ?_⟩ (by omega) ?_
      · rw [hst (by omega), hqa, Bool.true_and]
        show (plainC _ && decide ((l.getD q 0).toNat ≠ 32)) = true
        rw [show plainC (l.getD q 0) = true from decide_eq_true (by assumption), decide_eq_true (by omega)]
        rfl
      · (refine Ent.of rfl rfl (by rfl) ?_; (try (first | exact trivial | ((with_reducible refine AllP.go ?_); dsimp only [AllP, appP]; repeat' (first | with_reducible rfl | with_reducible exact LeD.refl | refine And.intro ?_ ?_ | (refine congrArg (Value.int _) ?_; first | omega | rfl | (simp only [Int.toNat_natCast]; omega)) | rfl | (refine congrArg Value.bool ?_; assumption) | exact LeD.refl)))))
  · obtain rfl : q = l.length := by omega
    rw [List.take_length] at hqa
    rw [show bareI l = !decide (sB l = ⟨#[]⟩) by unfold bareI; rw [hqa, Bool.and_true, ← decide_not]; exact decide_eq_decide.2 (not_congr sB_inj.symm)]
    (refine TE.ret' (by first | exact .inl rfl | exact .inr rfl) rfl tysOk (()) ?_ rfl (by rfl) ?_; all_goals (try (first | exact trivial | ((with_reducible refine AllP.go ?_); dsimp only [AllP, appP]; repeat' (first | with_reducible rfl | with_reducible exact LeD.refl | refine And.intro ?_ ?_ | (refine congrArg (Value.int _) ?_; first | omega | rfl | (simp only [Int.toNat_natCast]; omega)) | rfl | (refine congrArg Value.bool ?_; assumption) | exact LeD.refl)))))
end Go.Proofs.YtmeapfckibbbbaaDoor.Am
/- The words: escapes read, the program's. -/
set_option linter.unusedVariables false
namespace Go.Proofs.YtmeapfckibbbbaaDoor.Am
open Go.RowKit Lw Wo
theorem byt_at {a : UInt8} {q : Nat} (hq : q < 5) (h : a.toNat = escL.getD (2 * q + 1) 0) : ∃ c : UInt8, bytI a = some c ∧ c.toNat = escL.getD (2 * q) 0 := by
  rcases q with _ | _ | _ | _ | _ | q
  all_goals first
    | (unfold bytI; rw [h]; exact ⟨_, rfl, rfl⟩)
    | omega
theorem byt_no {a : UInt8} (h : ∀ j, j < 5 → a.toNat ≠ escL.getD (2 * j + 1) 0) : bytI a = none := by
  unfold bytI
  rw [if_neg (show a.toNat ≠ 34 from h 0 (by decide)), if_neg (show a.toNat ≠ 92 from h 1 (by decide)), if_neg (show a.toNat ≠ 110 from h 2 (by decide)), if_neg (show a.toNat ≠ 114 from h 3 (by decide)), if_neg (show a.toNat ≠ 116 from h 4 (by decide))]
theorem orv {x y : Nat} (hx : x < 16) (hy : y < 16) : ((((x : Int) * 2 ^ Int.toNat 4).toNat ||| (y : Int).toNat : Nat) : Int) % 256 = ((UInt8.ofNat (16 * x + y)).toNat : Nat) := by
  have key : ∀ a b : Fin 16, ((((a.1 : Int) * 2 ^ Int.toNat 4).toNat ||| (b.1 : Int).toNat : Nat) : Int) % 256 = ((UInt8.ofNat (16 * a.1 + b.1)).toNat : Nat) := by decide +kernel
  exact key ⟨x, hx⟩ ⟨y, hy⟩
theorem ixh (c : UInt8) : ∃ z : Int, Lib.indexByte hexL c = z ∧ (idxH c = none ∧ z = -1 ∨ ∃ x : Nat, x < 16 ∧ idxH c = some x ∧ z = x) := by
  have key : ∀ c : UInt8, Lib.indexByte hexL c = (match idxH c with | some x => (x : Int) | none => -1) := by
    refine fin_all ?_
    decide +kernel
  refine ⟨_, key c, ?_⟩
  cases h : idxH c with
  | none => exact .inl ⟨rfl, rfl⟩
  | some x => exact .inr ⟨x, (hex_idx c x h).1, rfl, rfl⟩
set_option maxRecDepth 20000 in
theorem ixh_c (c : UInt8) (z : Int) (h : Lib.indexByte hexL c = z) : Con Tryd.prog 87 [.o (.c (.string (sB hexL))), .o (.c (.int .u8 c.toNat))] [] 0 0 U (fun _ => .o (.c (.int .i64 z))) G0 := h ▸ ixb_c hexL c
set_option maxRecDepth 20000 in
set_option maxHeartbeats 4000000 in
theorem unesc_c (m : Int) (te : TypeId) (pe : Value) (l : Bs) (hl : l.length ≤ 1000000) : Con Tryd.prog 65 [.o (.c (.string (sB l)))] (glC m te pe) 4 4 U (fun _ => .t [.inl (.c (.int .u8 (unescI l).1.toNat)), .inl (.c (.int .i64 ((unescI l).2 : Nat)))]) (fun _ => glC m te pe) := by
  match l, hl with
  | [], hl =>
    refine con_of Tryd.func65 rfl (by kernel_rfl) Tryd.ntmps65 rfl (by first | exact Nat.zero_le _ | decide) (fun _ => ⟨rfl, rfl⟩) fun w S ν => ?_
    (repeat' (first | (with_reducible refine AllP.go ?_; (first | exact trivial | exact fun i _ => ⟨_, rfl⟩ | ((try simp only [OS]); repeat' (first | omega | exact fun i _ => ⟨_, rfl⟩ | refine And.intro ?_ ?_)))) | (refine TE.rgo tysOk rfl (by rfl) ?_ ?_) | (with_reducible first | refine t1 ?_ | refine t2 ?_ | refine t3 ?_ | refine t4 ?_ | refine t5 ?_ | refine t6 ?_ | refine t7 ?_ | refine t8 ?_ | refine t9 ?_ | refine tA ?_ | refine tB ?_ | refine tC ?_ | refine tD rfl ?_ | refine tE ?_ | refine tF ?_ | refine tG ?_ | refine tH ?_ | refine tI ?_ | refine tJ ?_ | refine tK ?_ | refine tL ?_) | (with_reducible first | exact PanicOk.body | exact rd.panic | refine PanicOk.then' ?_ | refine PanicOk.block ?_ | refine PanicOk.jump ?_) | (refine TE.drawC (by rfl) (by rfl) (by rfl) (by rfl) ?_) | (refine TE.drawN (by rfl) (by rfl) (by rfl) ?_) | (refine TL.done (by rfl) ?_) | (refine TL.auto tysOk rfl ?_ (by rfl) ?_ ?_) | ((refine TL.one (by rfl) ?_); first | (refine StepL.mem tysOk rfl rfl rfl rfl (by rfl) ?_ (by rfl) ?_) | (refine StepL.pure tysOk rfl rfl rfl rfl (by rfl) ?_ (by rfl) ?_)) | (refine StepL.mem tysOk rfl rfl rfl rfl (by rfl) ?_ (by rfl) ?_) | refine TE.cond_true (by rfl) ?_ | refine TE.cond_false (by rfl) ?_ | ((refine TE.gsplit (by rfl) (by rfl) ?_ ?_ <;> intro h <;> (try simp only [NS] at h) <;> (try (exfalso; first | omega | exact h trivial | exact h | exact h rfl | contradiction))) <;> (refine TE.run tysOk rfl (by rfl) ?_ ?_)) | ((first | refine TL.gsplit (by rfl) (by rfl) ?_ ?_ | refine TE.cond_split (by rfl) ?_ ?_) <;> intro h <;> (try simp only [NS] at h) <;> (try (exfalso; first | omega | exact h trivial | exact h | exact h rfl | contradiction)))))
    (refine TE.ret' (by first | exact .inl rfl | exact .inr rfl) rfl tysOk (()) ?_ rfl (by rfl) ?_; all_goals (try (first | exact trivial | ((with_reducible refine AllP.go ?_); dsimp only [AllP, appP]; repeat' (first | with_reducible rfl | with_reducible exact LeD.refl | refine And.intro ?_ ?_ | (refine congrArg (Value.int _) ?_; first | omega | rfl | (simp only [Int.toNat_natCast]; omega)) | rfl | (refine congrArg Value.bool ?_; assumption) | exact LeD.refl)))))
  | a :: r, hl =>
  refine con_of Tryd.func65 rfl (by kernel_rfl) Tryd.ntmps65 rfl (by first | exact Nat.zero_le _ | decide) (fun _ => ⟨rfl, rfl⟩) fun w S ν => ?_
  have hz : (sB (a :: r)).size = r.length + 1 := sB_size _
  have hz2 : r.length + 1 ≤ 1000000 := hl
  (repeat (with_reducible first | refine t1 ?_ | refine t2 ?_ | refine t3 ?_ | refine t4 ?_ | refine t5 ?_ | refine t6 ?_ | refine t7 ?_ | refine t8 ?_ | refine t9 ?_ | refine tA ?_ | refine tB ?_ | refine tC ?_ | refine tD rfl ?_ | refine tE ?_ | refine tF ?_ | refine tG ?_ | refine tH ?_ | refine tI ?_ | refine tJ ?_ | refine tK ?_ | refine tL ?_))
  ((refine TE.rgo tysOk rfl (by rfl) ?_ ?_); try (with_reducible refine AllP.go ?_; (first | exact trivial | exact fun i _ => ⟨_, rfl⟩ | ((try simp only [OS]); repeat' (first | omega | exact fun i _ => ⟨_, rfl⟩ | refine And.intro ?_ ?_)))))
  (repeat (with_reducible first | refine t1 ?_ | refine t2 ?_ | refine t3 ?_ | refine t4 ?_ | refine t5 ?_ | refine t6 ?_ | refine t7 ?_ | refine t8 ?_ | refine t9 ?_ | refine tA ?_ | refine tB ?_ | refine tC ?_ | refine tD rfl ?_ | refine tE ?_ | refine tF ?_ | refine tG ?_ | refine tH ?_ | refine tI ?_ | refine tJ ?_ | refine tK ?_ | refine tL ?_))
  ((refine TE.rgo tysOk rfl (by rfl) ?_ ?_); try (with_reducible refine AllP.go ?_; (first | exact trivial | exact fun i _ => ⟨_, rfl⟩ | ((try simp only [OS]); repeat' (first | omega | exact fun i _ => ⟨_, rfl⟩ | refine And.intro ?_ ?_)))))
  (repeat (with_reducible first | refine t1 ?_ | refine t2 ?_ | refine t3 ?_ | refine t4 ?_ | refine t5 ?_ | refine t6 ?_ | refine t7 ?_ | refine t8 ?_ | refine t9 ?_ | refine tA ?_ | refine tB ?_ | refine tC ?_ | refine tD rfl ?_ | refine tE ?_ | refine tF ?_ | refine tG ?_ | refine tH ?_ | refine tI ?_ | refine tJ ?_ | refine tK ?_ | refine tL ?_))
  (refine TE.cond_split (by rfl) ?_ ?_ <;> intro h <;> (try simp only [NS] at h) <;> (try (exfalso; first | omega | exact h trivial | exact h | exact h rfl | contradiction)))
  (repeat (with_reducible first | refine t1 ?_ | refine t2 ?_ | refine t3 ?_ | refine t4 ?_ | refine t5 ?_ | refine t6 ?_ | refine t7 ?_ | refine t8 ?_ | refine t9 ?_ | refine tA ?_ | refine tB ?_ | refine tC ?_ | refine tD rfl ?_ | refine tE ?_ | refine tF ?_ | refine tG ?_ | refine tH ?_ | refine tI ?_ | refine tJ ?_ | refine tK ?_ | refine tL ?_))
  refine TE.region ?_
  (refine TE.step rfl rfl rfl (fun _ h => nomatch h) (m_statLoad tysOk rfl rfl (by rfl) (by rfl)) ?_; rintro _ rfl)
  ((refine TE.run tysOk rfl (by rfl) ?_ ?_); try (with_reducible refine AllP.go ?_; (first | exact trivial | exact fun i _ => ⟨_, rfl⟩ | ((try simp only [OS]); repeat' (first | omega | exact fun i _ => ⟨_, rfl⟩ | refine And.intro ?_ ?_)))))
  (repeat (with_reducible first | refine t1 ?_ | refine t2 ?_ | refine t3 ?_ | refine t4 ?_ | refine t5 ?_ | refine t6 ?_ | refine t7 ?_ | refine t8 ?_ | refine t9 ?_ | refine tA ?_ | refine tB ?_ | refine tC ?_ | refine tD rfl ?_ | refine tE ?_ | refine tF ?_ | refine tG ?_ | refine tH ?_ | refine tI ?_ | refine tJ ?_ | refine tK ?_ | refine tL ?_))
  refine TE.loopG (fun q : Nat => q ≤ 5 ∧ ∀ j, j < q → a.toNat ≠ escL.getD (2 * j + 1) 0) (fun q => [(12, .o (.c (.int .i64 q)))]) [] (fun _ => []) (fun q => 5 - q) 0 (by rfl) ⟨Nat.zero_le _, fun _ h => absurd h (Nat.not_lt_zero _)⟩ ?_ ?_
  · (refine Ent.of rfl rfl (by rfl) ?_; (try (first | exact trivial | ((with_reducible refine AllP.go ?_); dsimp only [AllP, appP]; repeat' (first | with_reducible rfl | with_reducible exact LeD.refl | refine And.intro ?_ ?_ | (refine congrArg (Value.int _) ?_; first | omega | rfl | (simp only [Int.toNat_natCast]; omega)) | rfl | (refine congrArg Value.bool ?_; assumption) | exact LeD.refl)))))
  rintro q ⟨hq, hqa⟩
  (repeat (with_reducible first | refine t1 ?_ | refine t2 ?_ | refine t3 ?_ | refine t4 ?_ | refine t5 ?_ | refine t6 ?_ | refine t7 ?_ | refine t8 ?_ | refine t9 ?_ | refine tA ?_ | refine tB ?_ | refine tC ?_ | refine tD rfl ?_ | refine tE ?_ | refine tF ?_ | refine tG ?_ | refine tH ?_ | refine tI ?_ | refine tJ ?_ | refine tK ?_ | refine tL ?_))
  ((refine TE.rgo tysOk rfl (by rfl) ?_ ?_); try (with_reducible refine AllP.go ?_; (first | exact trivial | exact fun i _ => ⟨_, rfl⟩ | ((try simp only [OS]); repeat' (first | omega | exact fun i _ => ⟨_, rfl⟩ | refine And.intro ?_ ?_)))))
  (repeat (with_reducible first | refine t1 ?_ | refine t2 ?_ | refine t3 ?_ | refine t4 ?_ | refine t5 ?_ | refine t6 ?_ | refine t7 ?_ | refine t8 ?_ | refine t9 ?_ | refine tA ?_ | refine tB ?_ | refine tC ?_ | refine tD rfl ?_ | refine tE ?_ | refine tF ?_ | refine tG ?_ | refine tH ?_ | refine tI ?_ | refine tJ ?_ | refine tK ?_ | refine tL ?_))
  (refine TE.cond_split (by rfl) ?_ ?_ <;> intro h <;> (try simp only [NS] at h) <;> (try (exfalso; first | omega | exact h trivial | exact h | exact h rfl | contradiction)))
  · rcases q with _ | _ | _ | _ | _ | q
    all_goals try (exfalso; omega)
    all_goals (repeat (with_reducible first | refine t1 ?_ | refine t2 ?_ | refine t3 ?_ | refine t4 ?_ | refine t5 ?_ | refine t6 ?_ | refine t7 ?_ | refine t8 ?_ | refine t9 ?_ | refine tA ?_ | refine tB ?_ | refine tC ?_ | refine tD rfl ?_ | refine tE ?_ | refine tF ?_ | refine tG ?_ | refine tH ?_ | refine tI ?_ | refine tJ ?_ | refine tK ?_ | refine tL ?_))
    all_goals refine TE.region ?_
    all_goals (refine TE.step rfl rfl rfl (fun _ h => nomatch h) (m_aggIdx tysOk rfl (Tryd.underlying86) rfl rfl rfl rfl (by rfl) ?_) ?_; rotate_left; rintro _ rfl; rotate_right)
    all_goals try (first | exact trivial | exact fun i _ => ⟨_, rfl⟩ | ((try simp only [OS]); repeat' (first | omega | exact fun i _ => ⟨_, rfl⟩ | refine And.intro ?_ ?_)))
    all_goals ((refine TE.run tysOk rfl (by rfl) ?_ ?_); try (with_reducible refine AllP.go ?_; (first | exact trivial | exact fun i _ => ⟨_, rfl⟩ | ((try simp only [OS]); repeat' (first | omega | exact fun i _ => ⟨_, rfl⟩ | refine And.intro ?_ ?_)))))
    all_goals (repeat (with_reducible first | refine t1 ?_ | refine t2 ?_ | refine t3 ?_ | refine t4 ?_ | refine t5 ?_ | refine t6 ?_ | refine t7 ?_ | refine t8 ?_ | refine t9 ?_ | refine tA ?_ | refine tB ?_ | refine tC ?_ | refine tD rfl ?_ | refine tE ?_ | refine tF ?_ | refine tG ?_ | refine tH ?_ | refine tI ?_ | refine tJ ?_ | refine tK ?_ | refine tL ?_))
    all_goals ((refine TE.drawN (by rfl) (by rfl) (by rfl) ?_); repeat' (first | (with_reducible refine AllP.go ?_; (first | exact trivial | exact fun i _ => ⟨_, rfl⟩ | ((try simp only [OS]); repeat' (first | omega | exact fun i _ => ⟨_, rfl⟩ | refine And.intro ?_ ?_)))) | (with_reducible first | exact PanicOk.body | exact rd.panic | refine PanicOk.then' ?_ | refine PanicOk.block ?_ | refine PanicOk.jump ?_) | (refine TL.done (by rfl) ?_) | (refine TL.auto tysOk rfl ?_ (by rfl) ?_ ?_) | ((refine TL.one (by rfl) ?_); first | (refine StepL.mem tysOk rfl rfl rfl rfl (by rfl) ?_ (by rfl) ?_) | (refine StepL.pure tysOk rfl rfl rfl rfl (by rfl) ?_ (by rfl) ?_)) | (refine StepL.mem tysOk rfl rfl rfl rfl (by rfl) ?_ (by rfl) ?_) | ((first | refine TL.gsplit (by rfl) (by rfl) ?_ ?_ | refine TE.cond_split (by rfl) ?_ ?_) <;> intro h <;> (try simp only [NS] at h) <;> (try (exfalso; first | omega | exact h trivial | exact h | exact h rfl | contradiction)))))
    all_goals (repeat (with_reducible first | refine t1 ?_ | refine t2 ?_ | refine t3 ?_ | refine t4 ?_ | refine t5 ?_ | refine t6 ?_ | refine t7 ?_ | refine t8 ?_ | refine t9 ?_ | refine tA ?_ | refine tB ?_ | refine tC ?_ | refine tD rfl ?_ | refine tE ?_ | refine tF ?_ | refine tG ?_ | refine tH ?_ | refine tI ?_ | refine tJ ?_ | refine tK ?_ | refine tL ?_))
    · (repeat' (first | (with_reducible refine AllP.go ?_; (first | exact trivial | exact fun i _ => ⟨_, rfl⟩ | ((try simp only [OS]); repeat' (first | omega | exact fun i _ => ⟨_, rfl⟩ | refine And.intro ?_ ?_)))) | (refine TE.rgo tysOk rfl (by rfl) ?_ ?_) | (with_reducible first | refine t1 ?_ | refine t2 ?_ | refine t3 ?_ | refine t4 ?_ | refine t5 ?_ | refine t6 ?_ | refine t7 ?_ | refine t8 ?_ | refine t9 ?_ | refine tA ?_ | refine tB ?_ | refine tC ?_ | refine tD rfl ?_ | refine tE ?_ | refine tF ?_ | refine tG ?_ | refine tH ?_ | refine tI ?_ | refine tJ ?_ | refine tK ?_ | refine tL ?_) | (with_reducible first | exact PanicOk.body | exact rd.panic | refine PanicOk.then' ?_ | refine PanicOk.block ?_ | refine PanicOk.jump ?_) | (refine TE.drawC (by rfl) (by rfl) (by rfl) (by rfl) ?_) | (refine TE.drawN (by rfl) (by rfl) (by rfl) ?_) | (refine TL.done (by rfl) ?_) | (refine TL.auto tysOk rfl ?_ (by rfl) ?_ ?_) | ((refine TL.one (by rfl) ?_); first | (refine StepL.mem tysOk rfl rfl rfl rfl (by rfl) ?_ (by rfl) ?_) | (refine StepL.pure tysOk rfl rfl rfl rfl (by rfl) ?_ (by rfl) ?_)) | (refine StepL.mem tysOk rfl rfl rfl rfl (by rfl) ?_ (by rfl) ?_) | refine TE.cond_true (by rfl) ?_ | refine TE.cond_false (by rfl) ?_ | ((refine TE.gsplit (by rfl) (by rfl) ?_ ?_ <;> intro h <;> (try simp only [NS] at h) <;> (try (exfalso; first | omega | exact h trivial | exact h | exact h rfl | contradiction))) <;> (refine TE.run tysOk rfl (by rfl) ?_ ?_)) | ((first | refine TL.gsplit (by rfl) (by rfl) ?_ ?_ | refine TE.cond_split (by rfl) ?_ ?_) <;> intro h <;> (try simp only [NS] at h) <;> (try (exfalso; first | omega | exact h trivial | exact h | exact h rfl | contradiction)))))
      obtain ⟨c1, hc1, hc2⟩ := byt_at (a := a) (q := 0) (by decide) h.symm
      have hr : unescI (a :: r) = (c1, 1) := by unfold unescI; dsimp only; rw [hc1]
      rw [show (unescI (a :: r)).1.toNat = escL.getD (2 * 0) 0 by rw [hr]; exact hc2, show (unescI (a :: r)).2 = 1 by rw [hr]]
      (refine TE.ret' (by first | exact .inl rfl | exact .inr rfl) rfl tysOk (()) ?_ rfl (by rfl) ?_; all_goals (try (first | exact trivial | ((with_reducible refine AllP.go ?_); dsimp only [AllP, appP]; repeat' (first | with_reducible rfl | with_reducible exact LeD.refl | refine And.intro ?_ ?_ | (refine congrArg (Value.int _) ?_; first | omega | rfl | (simp only [Int.toNat_natCast]; omega)) | rfl | (refine congrArg Value.bool ?_; assumption) | exact LeD.refl)))))
    · (repeat' (first | (with_reducible refine AllP.go ?_; (first | exact trivial | exact fun i _ => ⟨_, rfl⟩ | ((try simp only [OS]); repeat' (first | omega | exact fun i _ => ⟨_, rfl⟩ | refine And.intro ?_ ?_)))) | (refine TE.rgo tysOk rfl (by rfl) ?_ ?_) | (with_reducible first | refine t1 ?_ | refine t2 ?_ | refine t3 ?_ | refine t4 ?_ | refine t5 ?_ | refine t6 ?_ | refine t7 ?_ | refine t8 ?_ | refine t9 ?_ | refine tA ?_ | refine tB ?_ | refine tC ?_ | refine tD rfl ?_ | refine tE ?_ | refine tF ?_ | refine tG ?_ | refine tH ?_ | refine tI ?_ | refine tJ ?_ | refine tK ?_ | refine tL ?_) | (with_reducible first | exact PanicOk.body | exact rd.panic | refine PanicOk.then' ?_ | refine PanicOk.block ?_ | refine PanicOk.jump ?_) | (refine TE.drawC (by rfl) (by rfl) (by rfl) (by rfl) ?_) | (refine TE.drawN (by rfl) (by rfl) (by rfl) ?_) | (refine TL.done (by rfl) ?_) | (refine TL.auto tysOk rfl ?_ (by rfl) ?_ ?_) | ((refine TL.one (by rfl) ?_); first | (refine StepL.mem tysOk rfl rfl rfl rfl (by rfl) ?_ (by rfl) ?_) | (refine StepL.pure tysOk rfl rfl rfl rfl (by rfl) ?_ (by rfl) ?_)) | (refine StepL.mem tysOk rfl rfl rfl rfl (by rfl) ?_ (by rfl) ?_) | refine TE.cond_true (by rfl) ?_ | refine TE.cond_false (by rfl) ?_ | ((refine TE.gsplit (by rfl) (by rfl) ?_ ?_ <;> intro h <;> (try simp only [NS] at h) <;> (try (exfalso; first | omega | exact h trivial | exact h | exact h rfl | contradiction))) <;> (refine TE.run tysOk rfl (by rfl) ?_ ?_)) | ((first | refine TL.gsplit (by rfl) (by rfl) ?_ ?_ | refine TE.cond_split (by rfl) ?_ ?_) <;> intro h <;> (try simp only [NS] at h) <;> (try (exfalso; first | omega | exact h trivial | exact h | exact h rfl | contradiction)))))
      refine TE.again' 1 ⟨by decide, fun j hj => ?_⟩ (by decide) ?_
      · by_cases hj2 : j = 0
        · subst hj2
          exact fun hh => h hh.symm
        · exact hqa j (by omega)
      · (refine Ent.of rfl rfl (by rfl) ?_; (try (first | exact trivial | ((with_reducible refine AllP.go ?_); dsimp only [AllP, appP]; repeat' (first | with_reducible rfl | with_reducible exact LeD.refl | refine And.intro ?_ ?_ | (refine congrArg (Value.int _) ?_; first | omega | rfl | (simp only [Int.toNat_natCast]; omega)) | rfl | (refine congrArg Value.bool ?_; assumption) | exact LeD.refl)))))
    · (repeat' (first | (with_reducible refine AllP.go ?_; (first | exact trivial | exact fun i _ => ⟨_, rfl⟩ | ((try simp only [OS]); repeat' (first | omega | exact fun i _ => ⟨_, rfl⟩ | refine And.intro ?_ ?_)))) | (refine TE.rgo tysOk rfl (by rfl) ?_ ?_) | (with_reducible first | refine t1 ?_ | refine t2 ?_ | refine t3 ?_ | refine t4 ?_ | refine t5 ?_ | refine t6 ?_ | refine t7 ?_ | refine t8 ?_ | refine t9 ?_ | refine tA ?_ | refine tB ?_ | refine tC ?_ | refine tD rfl ?_ | refine tE ?_ | refine tF ?_ | refine tG ?_ | refine tH ?_ | refine tI ?_ | refine tJ ?_ | refine tK ?_ | refine tL ?_) | (with_reducible first | exact PanicOk.body | exact rd.panic | refine PanicOk.then' ?_ | refine PanicOk.block ?_ | refine PanicOk.jump ?_) | (refine TE.drawC (by rfl) (by rfl) (by rfl) (by rfl) ?_) | (refine TE.drawN (by rfl) (by rfl) (by rfl) ?_) | (refine TL.done (by rfl) ?_) | (refine TL.auto tysOk rfl ?_ (by rfl) ?_ ?_) | ((refine TL.one (by rfl) ?_); first | (refine StepL.mem tysOk rfl rfl rfl rfl (by rfl) ?_ (by rfl) ?_) | (refine StepL.pure tysOk rfl rfl rfl rfl (by rfl) ?_ (by rfl) ?_)) | (refine StepL.mem tysOk rfl rfl rfl rfl (by rfl) ?_ (by rfl) ?_) | refine TE.cond_true (by rfl) ?_ | refine TE.cond_false (by rfl) ?_ | ((refine TE.gsplit (by rfl) (by rfl) ?_ ?_ <;> intro h <;> (try simp only [NS] at h) <;> (try (exfalso; first | omega | exact h trivial | exact h | exact h rfl | contradiction))) <;> (refine TE.run tysOk rfl (by rfl) ?_ ?_)) | ((first | refine TL.gsplit (by rfl) (by rfl) ?_ ?_ | refine TE.cond_split (by rfl) ?_ ?_) <;> intro h <;> (try simp only [NS] at h) <;> (try (exfalso; first | omega | exact h trivial | exact h | exact h rfl | contradiction)))))
      obtain ⟨c1, hc1, hc2⟩ := byt_at (a := a) (q := 1) (by decide) h.symm
      have hr : unescI (a :: r) = (c1, 1) := by unfold unescI; dsimp only; rw [hc1]
      rw [show (unescI (a :: r)).1.toNat = escL.getD (2 * 1) 0 by rw [hr]; exact hc2, show (unescI (a :: r)).2 = 1 by rw [hr]]
      (refine TE.ret' (by first | exact .inl rfl | exact .inr rfl) rfl tysOk (()) ?_ rfl (by rfl) ?_; all_goals (try (first | exact trivial | ((with_reducible refine AllP.go ?_); dsimp only [AllP, appP]; repeat' (first | with_reducible rfl | with_reducible exact LeD.refl | refine And.intro ?_ ?_ | (refine congrArg (Value.int _) ?_; first | omega | rfl | (simp only [Int.toNat_natCast]; omega)) | rfl | (refine congrArg Value.bool ?_; assumption) | exact LeD.refl)))))
    · (repeat' (first | (with_reducible refine AllP.go ?_; (first | exact trivial | exact fun i _ => ⟨_, rfl⟩ | ((try simp only [OS]); repeat' (first | omega | exact fun i _ => ⟨_, rfl⟩ | refine And.intro ?_ ?_)))) | (refine TE.rgo tysOk rfl (by rfl) ?_ ?_) | (with_reducible first | refine t1 ?_ | refine t2 ?_ | refine t3 ?_ | refine t4 ?_ | refine t5 ?_ | refine t6 ?_ | refine t7 ?_ | refine t8 ?_ | refine t9 ?_ | refine tA ?_ | refine tB ?_ | refine tC ?_ | refine tD rfl ?_ | refine tE ?_ | refine tF ?_ | refine tG ?_ | refine tH ?_ | refine tI ?_ | refine tJ ?_ | refine tK ?_ | refine tL ?_) | (with_reducible first | exact PanicOk.body | exact rd.panic | refine PanicOk.then' ?_ | refine PanicOk.block ?_ | refine PanicOk.jump ?_) | (refine TE.drawC (by rfl) (by rfl) (by rfl) (by rfl) ?_) | (refine TE.drawN (by rfl) (by rfl) (by rfl) ?_) | (refine TL.done (by rfl) ?_) | (refine TL.auto tysOk rfl ?_ (by rfl) ?_ ?_) | ((refine TL.one (by rfl) ?_); first | (refine StepL.mem tysOk rfl rfl rfl rfl (by rfl) ?_ (by rfl) ?_) | (refine StepL.pure tysOk rfl rfl rfl rfl (by rfl) ?_ (by rfl) ?_)) | (refine StepL.mem tysOk rfl rfl rfl rfl (by rfl) ?_ (by rfl) ?_) | refine TE.cond_true (by rfl) ?_ | refine TE.cond_false (by rfl) ?_ | ((refine TE.gsplit (by rfl) (by rfl) ?_ ?_ <;> intro h <;> (try simp only [NS] at h) <;> (try (exfalso; first | omega | exact h trivial | exact h | exact h rfl | contradiction))) <;> (refine TE.run tysOk rfl (by rfl) ?_ ?_)) | ((first | refine TL.gsplit (by rfl) (by rfl) ?_ ?_ | refine TE.cond_split (by rfl) ?_ ?_) <;> intro h <;> (try simp only [NS] at h) <;> (try (exfalso; first | omega | exact h trivial | exact h | exact h rfl | contradiction)))))
      refine TE.again' 2 ⟨by decide, fun j hj => ?_⟩ (by decide) ?_
      · by_cases hj2 : j = 1
        · subst hj2
          exact fun hh => h hh.symm
        · exact hqa j (by omega)
      · (refine Ent.of rfl rfl (by rfl) ?_; (try (first | exact trivial | ((with_reducible refine AllP.go ?_); dsimp only [AllP, appP]; repeat' (first | with_reducible rfl | with_reducible exact LeD.refl | refine And.intro ?_ ?_ | (refine congrArg (Value.int _) ?_; first | omega | rfl | (simp only [Int.toNat_natCast]; omega)) | rfl | (refine congrArg Value.bool ?_; assumption) | exact LeD.refl)))))
    · (repeat' (first | (with_reducible refine AllP.go ?_; (first | exact trivial | exact fun i _ => ⟨_, rfl⟩ | ((try simp only [OS]); repeat' (first | omega | exact fun i _ => ⟨_, rfl⟩ | refine And.intro ?_ ?_)))) | (refine TE.rgo tysOk rfl (by rfl) ?_ ?_) | (with_reducible first | refine t1 ?_ | refine t2 ?_ | refine t3 ?_ | refine t4 ?_ | refine t5 ?_ | refine t6 ?_ | refine t7 ?_ | refine t8 ?_ | refine t9 ?_ | refine tA ?_ | refine tB ?_ | refine tC ?_ | refine tD rfl ?_ | refine tE ?_ | refine tF ?_ | refine tG ?_ | refine tH ?_ | refine tI ?_ | refine tJ ?_ | refine tK ?_ | refine tL ?_) | (with_reducible first | exact PanicOk.body | exact rd.panic | refine PanicOk.then' ?_ | refine PanicOk.block ?_ | refine PanicOk.jump ?_) | (refine TE.drawC (by rfl) (by rfl) (by rfl) (by rfl) ?_) | (refine TE.drawN (by rfl) (by rfl) (by rfl) ?_) | (refine TL.done (by rfl) ?_) | (refine TL.auto tysOk rfl ?_ (by rfl) ?_ ?_) | ((refine TL.one (by rfl) ?_); first | (refine StepL.mem tysOk rfl rfl rfl rfl (by rfl) ?_ (by rfl) ?_) | (refine StepL.pure tysOk rfl rfl rfl rfl (by rfl) ?_ (by rfl) ?_)) | (refine StepL.mem tysOk rfl rfl rfl rfl (by rfl) ?_ (by rfl) ?_) | refine TE.cond_true (by rfl) ?_ | refine TE.cond_false (by rfl) ?_ | ((refine TE.gsplit (by rfl) (by rfl) ?_ ?_ <;> intro h <;> (try simp only [NS] at h) <;> (try (exfalso; first | omega | exact h trivial | exact h | exact h rfl | contradiction))) <;> (refine TE.run tysOk rfl (by rfl) ?_ ?_)) | ((first | refine TL.gsplit (by rfl) (by rfl) ?_ ?_ | refine TE.cond_split (by rfl) ?_ ?_) <;> intro h <;> (try simp only [NS] at h) <;> (try (exfalso; first | omega | exact h trivial | exact h | exact h rfl | contradiction)))))
      obtain ⟨c1, hc1, hc2⟩ := byt_at (a := a) (q := 2) (by decide) h.symm
      have hr : unescI (a :: r) = (c1, 1) := by unfold unescI; dsimp only; rw [hc1]
      rw [show (unescI (a :: r)).1.toNat = escL.getD (2 * 2) 0 by rw [hr]; exact hc2, show (unescI (a :: r)).2 = 1 by rw [hr]]
      (refine TE.ret' (by first | exact .inl rfl | exact .inr rfl) rfl tysOk (()) ?_ rfl (by rfl) ?_; all_goals (try (first | exact trivial | ((with_reducible refine AllP.go ?_); dsimp only [AllP, appP]; repeat' (first | with_reducible rfl | with_reducible exact LeD.refl | refine And.intro ?_ ?_ | (refine congrArg (Value.int _) ?_; first | omega | rfl | (simp only [Int.toNat_natCast]; omega)) | rfl | (refine congrArg Value.bool ?_; assumption) | exact LeD.refl)))))
    · (repeat' (first | (with_reducible refine AllP.go ?_; (first | exact trivial | exact fun i _ => ⟨_, rfl⟩ | ((try simp only [OS]); repeat' (first | omega | exact fun i _ => ⟨_, rfl⟩ | refine And.intro ?_ ?_)))) | (refine TE.rgo tysOk rfl (by rfl) ?_ ?_) | (with_reducible first | refine t1 ?_ | refine t2 ?_ | refine t3 ?_ | refine t4 ?_ | refine t5 ?_ | refine t6 ?_ | refine t7 ?_ | refine t8 ?_ | refine t9 ?_ | refine tA ?_ | refine tB ?_ | refine tC ?_ | refine tD rfl ?_ | refine tE ?_ | refine tF ?_ | refine tG ?_ | refine tH ?_ | refine tI ?_ | refine tJ ?_ | refine tK ?_ | refine tL ?_) | (with_reducible first | exact PanicOk.body | exact rd.panic | refine PanicOk.then' ?_ | refine PanicOk.block ?_ | refine PanicOk.jump ?_) | (refine TE.drawC (by rfl) (by rfl) (by rfl) (by rfl) ?_) | (refine TE.drawN (by rfl) (by rfl) (by rfl) ?_) | (refine TL.done (by rfl) ?_) | (refine TL.auto tysOk rfl ?_ (by rfl) ?_ ?_) | ((refine TL.one (by rfl) ?_); first | (refine StepL.mem tysOk rfl rfl rfl rfl (by rfl) ?_ (by rfl) ?_) | (refine StepL.pure tysOk rfl rfl rfl rfl (by rfl) ?_ (by rfl) ?_)) | (refine StepL.mem tysOk rfl rfl rfl rfl (by rfl) ?_ (by rfl) ?_) | refine TE.cond_true (by rfl) ?_ | refine TE.cond_false (by rfl) ?_ | ((refine TE.gsplit (by rfl) (by rfl) ?_ ?_ <;> intro h <;> (try simp only [NS] at h) <;> (try (exfalso; first | omega | exact h trivial | exact h | exact h rfl | contradiction))) <;> (refine TE.run tysOk rfl (by rfl) ?_ ?_)) | ((first | refine TL.gsplit (by rfl) (by rfl) ?_ ?_ | refine TE.cond_split (by rfl) ?_ ?_) <;> intro h <;> (try simp only [NS] at h) <;> (try (exfalso; first | omega | exact h trivial | exact h | exact h rfl | contradiction)))))
      refine TE.again' 3 ⟨by decide, fun j hj => ?_⟩ (by decide) ?_
      · by_cases hj2 : j = 2
        · subst hj2
          exact fun hh => h hh.symm
        · exact hqa j (by omega)
      · (refine Ent.of rfl rfl (by rfl) ?_; (try (first | exact trivial | ((with_reducible refine AllP.go ?_); dsimp only [AllP, appP]; repeat' (first | with_reducible rfl | with_reducible exact LeD.refl | refine And.intro ?_ ?_ | (refine congrArg (Value.int _) ?_; first | omega | rfl | (simp only [Int.toNat_natCast]; omega)) | rfl | (refine congrArg Value.bool ?_; assumption) | exact LeD.refl)))))
    · (repeat' (first | (with_reducible refine AllP.go ?_; (first | exact trivial | exact fun i _ => ⟨_, rfl⟩ | ((try simp only [OS]); repeat' (first | omega | exact fun i _ => ⟨_, rfl⟩ | refine And.intro ?_ ?_)))) | (refine TE.rgo tysOk rfl (by rfl) ?_ ?_) | (with_reducible first | refine t1 ?_ | refine t2 ?_ | refine t3 ?_ | refine t4 ?_ | refine t5 ?_ | refine t6 ?_ | refine t7 ?_ | refine t8 ?_ | refine t9 ?_ | refine tA ?_ | refine tB ?_ | refine tC ?_ | refine tD rfl ?_ | refine tE ?_ | refine tF ?_ | refine tG ?_ | refine tH ?_ | refine tI ?_ | refine tJ ?_ | refine tK ?_ | refine tL ?_) | (with_reducible first | exact PanicOk.body | exact rd.panic | refine PanicOk.then' ?_ | refine PanicOk.block ?_ | refine PanicOk.jump ?_) | (refine TE.drawC (by rfl) (by rfl) (by rfl) (by rfl) ?_) | (refine TE.drawN (by rfl) (by rfl) (by rfl) ?_) | (refine TL.done (by rfl) ?_) | (refine TL.auto tysOk rfl ?_ (by rfl) ?_ ?_) | ((refine TL.one (by rfl) ?_); first | (refine StepL.mem tysOk rfl rfl rfl rfl (by rfl) ?_ (by rfl) ?_) | (refine StepL.pure tysOk rfl rfl rfl rfl (by rfl) ?_ (by rfl) ?_)) | (refine StepL.mem tysOk rfl rfl rfl rfl (by rfl) ?_ (by rfl) ?_) | refine TE.cond_true (by rfl) ?_ | refine TE.cond_false (by rfl) ?_ | ((refine TE.gsplit (by rfl) (by rfl) ?_ ?_ <;> intro h <;> (try simp only [NS] at h) <;> (try (exfalso; first | omega | exact h trivial | exact h | exact h rfl | contradiction))) <;> (refine TE.run tysOk rfl (by rfl) ?_ ?_)) | ((first | refine TL.gsplit (by rfl) (by rfl) ?_ ?_ | refine TE.cond_split (by rfl) ?_ ?_) <;> intro h <;> (try simp only [NS] at h) <;> (try (exfalso; first | omega | exact h trivial | exact h | exact h rfl | contradiction)))))
      obtain ⟨c1, hc1, hc2⟩ := byt_at (a := a) (q := 3) (by decide) h.symm
      have hr : unescI (a :: r) = (c1, 1) := by unfold unescI; dsimp only; rw [hc1]
      rw [show (unescI (a :: r)).1.toNat = escL.getD (2 * 3) 0 by rw [hr]; exact hc2, show (unescI (a :: r)).2 = 1 by rw [hr]]
      (refine TE.ret' (by first | exact .inl rfl | exact .inr rfl) rfl tysOk (()) ?_ rfl (by rfl) ?_; all_goals (try (first | exact trivial | ((with_reducible refine AllP.go ?_); dsimp only [AllP, appP]; repeat' (first | with_reducible rfl | with_reducible exact LeD.refl | refine And.intro ?_ ?_ | (refine congrArg (Value.int _) ?_; first | omega | rfl | (simp only [Int.toNat_natCast]; omega)) | rfl | (refine congrArg Value.bool ?_; assumption) | exact LeD.refl)))))
    · (repeat' (first | (with_reducible refine AllP.go ?_; (first | exact trivial | exact fun i _ => ⟨_, rfl⟩ | ((try simp only [OS]); repeat' (first | omega | exact fun i _ => ⟨_, rfl⟩ | refine And.intro ?_ ?_)))) | (refine TE.rgo tysOk rfl (by rfl) ?_ ?_) | (with_reducible first | refine t1 ?_ | refine t2 ?_ | refine t3 ?_ | refine t4 ?_ | refine t5 ?_ | refine t6 ?_ | refine t7 ?_ | refine t8 ?_ | refine t9 ?_ | refine tA ?_ | refine tB ?_ | refine tC ?_ | refine tD rfl ?_ | refine tE ?_ | refine tF ?_ | refine tG ?_ | refine tH ?_ | refine tI ?_ | refine tJ ?_ | refine tK ?_ | refine tL ?_) | (with_reducible first | exact PanicOk.body | exact rd.panic | refine PanicOk.then' ?_ | refine PanicOk.block ?_ | refine PanicOk.jump ?_) | (refine TE.drawC (by rfl) (by rfl) (by rfl) (by rfl) ?_) | (refine TE.drawN (by rfl) (by rfl) (by rfl) ?_) | (refine TL.done (by rfl) ?_) | (refine TL.auto tysOk rfl ?_ (by rfl) ?_ ?_) | ((refine TL.one (by rfl) ?_); first | (refine StepL.mem tysOk rfl rfl rfl rfl (by rfl) ?_ (by rfl) ?_) | (refine StepL.pure tysOk rfl rfl rfl rfl (by rfl) ?_ (by rfl) ?_)) | (refine StepL.mem tysOk rfl rfl rfl rfl (by rfl) ?_ (by rfl) ?_) | refine TE.cond_true (by rfl) ?_ | refine TE.cond_false (by rfl) ?_ | ((refine TE.gsplit (by rfl) (by rfl) ?_ ?_ <;> intro h <;> (try simp only [NS] at h) <;> (try (exfalso; first | omega | exact h trivial | exact h | exact h rfl | contradiction))) <;> (refine TE.run tysOk rfl (by rfl) ?_ ?_)) | ((first | refine TL.gsplit (by rfl) (by rfl) ?_ ?_ | refine TE.cond_split (by rfl) ?_ ?_) <;> intro h <;> (try simp only [NS] at h) <;> (try (exfalso; first | omega | exact h trivial | exact h | exact h rfl | contradiction)))))
      refine TE.again' 4 ⟨by decide, fun j hj => ?_⟩ (by decide) ?_
      · by_cases hj2 : j = 3
        · subst hj2
          exact fun hh => h hh.symm
        · exact hqa j (by omega)
      · (refine Ent.of rfl rfl (by rfl) ?_; (try (first | exact trivial | ((with_reducible refine AllP.go ?_); dsimp only [AllP, appP]; repeat' (first | with_reducible rfl | with_reducible exact LeD.refl | refine And.intro ?_ ?_ | (refine congrArg (Value.int _) ?_; first | omega | rfl | (simp only [Int.toNat_natCast]; omega)) | rfl | (refine congrArg Value.bool ?_; assumption) | exact LeD.refl)))))
    · (repeat' (first | (with_reducible refine AllP.go ?_; (first | exact trivial | exact fun i _ => ⟨_, rfl⟩ | ((try simp only [OS]); repeat' (first | omega | exact fun i _ => ⟨_, rfl⟩ | refine And.intro ?_ ?_)))) | (refine TE.rgo tysOk rfl (by rfl) ?_ ?_) | (with_reducible first | refine t1 ?_ | refine t2 ?_ | refine t3 ?_ | refine t4 ?_ | refine t5 ?_ | refine t6 ?_ | refine t7 ?_ | refine t8 ?_ | refine t9 ?_ | refine tA ?_ | refine tB ?_ | refine tC ?_ | refine tD rfl ?_ | refine tE ?_ | refine tF ?_ | refine tG ?_ | refine tH ?_ | refine tI ?_ | refine tJ ?_ | refine tK ?_ | refine tL ?_) | (with_reducible first | exact PanicOk.body | exact rd.panic | refine PanicOk.then' ?_ | refine PanicOk.block ?_ | refine PanicOk.jump ?_) | (refine TE.drawC (by rfl) (by rfl) (by rfl) (by rfl) ?_) | (refine TE.drawN (by rfl) (by rfl) (by rfl) ?_) | (refine TL.done (by rfl) ?_) | (refine TL.auto tysOk rfl ?_ (by rfl) ?_ ?_) | ((refine TL.one (by rfl) ?_); first | (refine StepL.mem tysOk rfl rfl rfl rfl (by rfl) ?_ (by rfl) ?_) | (refine StepL.pure tysOk rfl rfl rfl rfl (by rfl) ?_ (by rfl) ?_)) | (refine StepL.mem tysOk rfl rfl rfl rfl (by rfl) ?_ (by rfl) ?_) | refine TE.cond_true (by rfl) ?_ | refine TE.cond_false (by rfl) ?_ | ((refine TE.gsplit (by rfl) (by rfl) ?_ ?_ <;> intro h <;> (try simp only [NS] at h) <;> (try (exfalso; first | omega | exact h trivial | exact h | exact h rfl | contradiction))) <;> (refine TE.run tysOk rfl (by rfl) ?_ ?_)) | ((first | refine TL.gsplit (by rfl) (by rfl) ?_ ?_ | refine TE.cond_split (by rfl) ?_ ?_) <;> intro h <;> (try simp only [NS] at h) <;> (try (exfalso; first | omega | exact h trivial | exact h | exact h rfl | contradiction)))))
      obtain ⟨c1, hc1, hc2⟩ := byt_at (a := a) (q := 4) (by decide) h.symm
      have hr : unescI (a :: r) = (c1, 1) := by unfold unescI; dsimp only; rw [hc1]
      rw [show (unescI (a :: r)).1.toNat = escL.getD (2 * 4) 0 by rw [hr]; exact hc2, show (unescI (a :: r)).2 = 1 by rw [hr]]
      (refine TE.ret' (by first | exact .inl rfl | exact .inr rfl) rfl tysOk (()) ?_ rfl (by rfl) ?_; all_goals (try (first | exact trivial | ((with_reducible refine AllP.go ?_); dsimp only [AllP, appP]; repeat' (first | with_reducible rfl | with_reducible exact LeD.refl | refine And.intro ?_ ?_ | (refine congrArg (Value.int _) ?_; first | omega | rfl | (simp only [Int.toNat_natCast]; omega)) | rfl | (refine congrArg Value.bool ?_; assumption) | exact LeD.refl)))))
    · (repeat' (first | (with_reducible refine AllP.go ?_; (first | exact trivial | exact fun i _ => ⟨_, rfl⟩ | ((try simp only [OS]); repeat' (first | omega | exact fun i _ => ⟨_, rfl⟩ | refine And.intro ?_ ?_)))) | (refine TE.rgo tysOk rfl (by rfl) ?_ ?_) | (with_reducible first | refine t1 ?_ | refine t2 ?_ | refine t3 ?_ | refine t4 ?_ | refine t5 ?_ | refine t6 ?_ | refine t7 ?_ | refine t8 ?_ | refine t9 ?_ | refine tA ?_ | refine tB ?_ | refine tC ?_ | refine tD rfl ?_ | refine tE ?_ | refine tF ?_ | refine tG ?_ | refine tH ?_ | refine tI ?_ | refine tJ ?_ | refine tK ?_ | refine tL ?_) | (with_reducible first | exact PanicOk.body | exact rd.panic | refine PanicOk.then' ?_ | refine PanicOk.block ?_ | refine PanicOk.jump ?_) | (refine TE.drawC (by rfl) (by rfl) (by rfl) (by rfl) ?_) | (refine TE.drawN (by rfl) (by rfl) (by rfl) ?_) | (refine TL.done (by rfl) ?_) | (refine TL.auto tysOk rfl ?_ (by rfl) ?_ ?_) | ((refine TL.one (by rfl) ?_); first | (refine StepL.mem tysOk rfl rfl rfl rfl (by rfl) ?_ (by rfl) ?_) | (refine StepL.pure tysOk rfl rfl rfl rfl (by rfl) ?_ (by rfl) ?_)) | (refine StepL.mem tysOk rfl rfl rfl rfl (by rfl) ?_ (by rfl) ?_) | refine TE.cond_true (by rfl) ?_ | refine TE.cond_false (by rfl) ?_ | ((refine TE.gsplit (by rfl) (by rfl) ?_ ?_ <;> intro h <;> (try simp only [NS] at h) <;> (try (exfalso; first | omega | exact h trivial | exact h | exact h rfl | contradiction))) <;> (refine TE.run tysOk rfl (by rfl) ?_ ?_)) | ((first | refine TL.gsplit (by rfl) (by rfl) ?_ ?_ | refine TE.cond_split (by rfl) ?_ ?_) <;> intro h <;> (try simp only [NS] at h) <;> (try (exfalso; first | omega | exact h trivial | exact h | exact h rfl | contradiction)))))
      refine TE.again' 5 ⟨by decide, fun j hj => ?_⟩ (by decide) ?_
      · by_cases hj2 : j = 4
        · subst hj2
          exact fun hh => h hh.symm
        · exact hqa j (by omega)
      · (refine Ent.of rfl rfl (by rfl) ?_; (try (first | exact trivial | ((with_reducible refine AllP.go ?_); dsimp only [AllP, appP]; repeat' (first | with_reducible rfl | with_reducible exact LeD.refl | refine And.intro ?_ ?_ | (refine congrArg (Value.int _) ?_; first | omega | rfl | (simp only [Int.toNat_natCast]; omega)) | rfl | (refine congrArg Value.bool ?_; assumption) | exact LeD.refl)))))
  · have hn := byt_no (a := a) (fun j hj => hqa j (by omega))
    (repeat (with_reducible first | refine t1 ?_ | refine t2 ?_ | refine t3 ?_ | refine t4 ?_ | refine t5 ?_ | refine t6 ?_ | refine t7 ?_ | refine t8 ?_ | refine t9 ?_ | refine tA ?_ | refine tB ?_ | refine tC ?_ | refine tD rfl ?_ | refine tE ?_ | refine tF ?_ | refine tG ?_ | refine tH ?_ | refine tI ?_ | refine tJ ?_ | refine tK ?_ | refine tL ?_))
    match r, hz, hz2, hl with
    | [], hz, hz2, hl =>
      have hr : unescI [a] = (0, 0) := by unfold unescI; dsimp only; rw [hn]; dsimp only; split <;> rfl
      rw [hr]
      have hz : (sB [a]).size = 1 := hz
      (repeat' (first | (with_reducible refine AllP.go ?_; (first | exact trivial | exact fun i _ => ⟨_, rfl⟩ | ((try simp only [OS]); repeat' (first | omega | exact fun i _ => ⟨_, rfl⟩ | refine And.intro ?_ ?_)))) | (refine TE.rgo tysOk rfl (by rfl) ?_ ?_) | (with_reducible first | refine t1 ?_ | refine t2 ?_ | refine t3 ?_ | refine t4 ?_ | refine t5 ?_ | refine t6 ?_ | refine t7 ?_ | refine t8 ?_ | refine t9 ?_ | refine tA ?_ | refine tB ?_ | refine tC ?_ | refine tD rfl ?_ | refine tE ?_ | refine tF ?_ | refine tG ?_ | refine tH ?_ | refine tI ?_ | refine tJ ?_ | refine tK ?_ | refine tL ?_) | (with_reducible first | exact PanicOk.body | exact rd.panic | refine PanicOk.then' ?_ | refine PanicOk.block ?_ | refine PanicOk.jump ?_) | (refine TE.drawC (by rfl) (by rfl) (by rfl) (by rfl) ?_) | (refine TE.drawN (by rfl) (by rfl) (by rfl) ?_) | (refine TL.done (by rfl) ?_) | (refine TL.auto tysOk rfl ?_ (by rfl) ?_ ?_) | ((refine TL.one (by rfl) ?_); first | (refine StepL.mem tysOk rfl rfl rfl rfl (by rfl) ?_ (by rfl) ?_) | (refine StepL.pure tysOk rfl rfl rfl rfl (by rfl) ?_ (by rfl) ?_)) | (refine StepL.mem tysOk rfl rfl rfl rfl (by rfl) ?_ (by rfl) ?_) | refine TE.cond_true (by rfl) ?_ | refine TE.cond_false (by rfl) ?_ | ((refine TE.gsplit (by rfl) (by rfl) ?_ ?_ <;> intro h <;> (try simp only [NS] at h) <;> (try (exfalso; first | omega | exact h trivial | exact h | exact h rfl | contradiction))) <;> (refine TE.run tysOk rfl (by rfl) ?_ ?_)) | ((first | refine TL.gsplit (by rfl) (by rfl) ?_ ?_ | refine TE.cond_split (by rfl) ?_ ?_) <;> intro h <;> (try simp only [NS] at h) <;> (try (exfalso; first | omega | exact h trivial | exact h | exact h rfl | contradiction)))))
      all_goals (refine TE.ret' (by first | exact .inl rfl | exact .inr rfl) rfl tysOk (()) ?_ rfl (by rfl) ?_; all_goals (try (first | exact trivial | ((with_reducible refine AllP.go ?_); dsimp only [AllP, appP]; repeat' (first | with_reducible rfl | with_reducible exact LeD.refl | refine And.intro ?_ ?_ | (refine congrArg (Value.int _) ?_; first | omega | rfl | (simp only [Int.toNat_natCast]; omega)) | rfl | (refine congrArg Value.bool ?_; assumption) | exact LeD.refl)))))
    | [b1], hz, hz2, hl =>
      have hr : unescI [a, b1] = (0, 0) := by unfold unescI; dsimp only; rw [hn]; dsimp only; split <;> rfl
      rw [hr]
      have hz : (sB [a, b1]).size = 2 := hz
      (repeat' (first | (with_reducible refine AllP.go ?_; (first | exact trivial | exact fun i _ => ⟨_, rfl⟩ | ((try simp only [OS]); repeat' (first | omega | exact fun i _ => ⟨_, rfl⟩ | refine And.intro ?_ ?_)))) | (refine TE.rgo tysOk rfl (by rfl) ?_ ?_) | (with_reducible first | refine t1 ?_ | refine t2 ?_ | refine t3 ?_ | refine t4 ?_ | refine t5 ?_ | refine t6 ?_ | refine t7 ?_ | refine t8 ?_ | refine t9 ?_ | refine tA ?_ | refine tB ?_ | refine tC ?_ | refine tD rfl ?_ | refine tE ?_ | refine tF ?_ | refine tG ?_ | refine tH ?_ | refine tI ?_ | refine tJ ?_ | refine tK ?_ | refine tL ?_) | (with_reducible first | exact PanicOk.body | exact rd.panic | refine PanicOk.then' ?_ | refine PanicOk.block ?_ | refine PanicOk.jump ?_) | (refine TE.drawC (by rfl) (by rfl) (by rfl) (by rfl) ?_) | (refine TE.drawN (by rfl) (by rfl) (by rfl) ?_) | (refine TL.done (by rfl) ?_) | (refine TL.auto tysOk rfl ?_ (by rfl) ?_ ?_) | ((refine TL.one (by rfl) ?_); first | (refine StepL.mem tysOk rfl rfl rfl rfl (by rfl) ?_ (by rfl) ?_) | (refine StepL.pure tysOk rfl rfl rfl rfl (by rfl) ?_ (by rfl) ?_)) | (refine StepL.mem tysOk rfl rfl rfl rfl (by rfl) ?_ (by rfl) ?_) | refine TE.cond_true (by rfl) ?_ | refine TE.cond_false (by rfl) ?_ | ((refine TE.gsplit (by rfl) (by rfl) ?_ ?_ <;> intro h <;> (try simp only [NS] at h) <;> (try (exfalso; first | omega | exact h trivial | exact h | exact h rfl | contradiction))) <;> (refine TE.run tysOk rfl (by rfl) ?_ ?_)) | ((first | refine TL.gsplit (by rfl) (by rfl) ?_ ?_ | refine TE.cond_split (by rfl) ?_ ?_) <;> intro h <;> (try simp only [NS] at h) <;> (try (exfalso; first | omega | exact h trivial | exact h | exact h rfl | contradiction)))))
      all_goals (refine TE.ret' (by first | exact .inl rfl | exact .inr rfl) rfl tysOk (()) ?_ rfl (by rfl) ?_; all_goals (try (first | exact trivial | ((with_reducible refine AllP.go ?_); dsimp only [AllP, appP]; repeat' (first | with_reducible rfl | with_reducible exact LeD.refl | refine And.intro ?_ ?_ | (refine congrArg (Value.int _) ?_; first | omega | rfl | (simp only [Int.toNat_natCast]; omega)) | rfl | (refine congrArg Value.bool ?_; assumption) | exact LeD.refl)))))
    | b1 :: b2 :: r, hz, hz2, hl =>
      have hz : (sB (a :: b1 :: b2 :: r)).size = r.length + 3 := hz
      (repeat' (first | (with_reducible refine AllP.go ?_; (first | exact trivial | exact fun i _ => ⟨_, rfl⟩ | ((try simp only [OS]); repeat' (first | omega | exact fun i _ => ⟨_, rfl⟩ | refine And.intro ?_ ?_)))) | (refine TE.rgo tysOk rfl (by rfl) ?_ ?_) | (with_reducible first | refine t1 ?_ | refine t2 ?_ | refine t3 ?_ | refine t4 ?_ | refine t5 ?_ | refine t6 ?_ | refine t7 ?_ | refine t8 ?_ | refine t9 ?_ | refine tA ?_ | refine tB ?_ | refine tC ?_ | refine tD rfl ?_ | refine tE ?_ | refine tF ?_ | refine tG ?_ | refine tH ?_ | refine tI ?_ | refine tJ ?_ | refine tK ?_ | refine tL ?_) | refine TE.cond_true (by rfl) ?_ | refine TE.cond_false (by rfl) ?_ | ((refine TE.gsplit (by rfl) (by rfl) ?_ ?_ <;> intro h <;> (try simp only [NS] at h) <;> (try (exfalso; first | omega | exact h trivial | exact h | exact h rfl | contradiction))) <;> (refine TE.run tysOk rfl (by rfl) ?_ ?_)) | ((first | refine TL.gsplit (by rfl) (by rfl) ?_ ?_ | refine TE.cond_split (by rfl) ?_ ?_) <;> intro h <;> (try simp only [NS] at h) <;> (try (exfalso; first | omega | exact h trivial | exact h | exact h rfl | contradiction)))))
      · have hr : unescI (a :: b1 :: b2 :: r) = (0, 0) := by
          unfold unescI; dsimp only; rw [hn]; dsimp only; rw [if_pos (show a.toNat ≠ 120 from fun e => h (congrArg Nat.cast e))]
        rw [hr]
        (refine TE.ret' (by first | exact .inl rfl | exact .inr rfl) rfl tysOk (()) ?_ rfl (by rfl) ?_; all_goals (try (first | exact trivial | ((with_reducible refine AllP.go ?_); dsimp only [AllP, appP]; repeat' (first | with_reducible rfl | with_reducible exact LeD.refl | refine And.intro ?_ ?_ | (refine congrArg (Value.int _) ?_; first | omega | rfl | (simp only [Int.toNat_natCast]; omega)) | rfl | (refine congrArg Value.bool ?_; assumption) | exact LeD.refl)))))
      · obtain rfl : a = 120 := UInt8.toNat_inj.1 (by rename_i hh; exact Int.ofNat.inj hh)
        obtain ⟨z1, hz1, hx1⟩ := ixh b1
        obtain ⟨z2, hz2, hx2⟩ := ixh b2
        have hb1 : -1 ≤ z1 ∧ z1 ≤ 15 := by rcases hx1 with ⟨_, e⟩ | ⟨x, e1, _, e2⟩ <;> omega
        have hb2 : -1 ≤ z2 ∧ z2 ≤ 15 := by rcases hx2 with ⟨_, e⟩ | ⟨x, e1, _, e2⟩ <;> omega
        ((refine TE.drawK (fun _ => false) (by rfl) (by rfl) (by rfl) ?_); (repeat' (first | (with_reducible refine AllP.go ?_; (first | exact trivial | exact fun i _ => ⟨_, rfl⟩ | ((try simp only [OS]); repeat' (first | omega | exact fun i _ => ⟨_, rfl⟩ | refine And.intro ?_ ?_)))) | (with_reducible first | exact PanicOk.body | exact rd.panic | refine PanicOk.then' ?_ | refine PanicOk.block ?_ | refine PanicOk.jump ?_) | (refine TL.done (by rfl) ?_) | (refine TL.auto tysOk rfl ?_ (by rfl) ?_ ?_) | (refine StepL.mem tysOk rfl rfl rfl rfl (by rfl) ?_ (by rfl) ?_) | (refine StepL.pure tysOk rfl rfl rfl rfl (by rfl) ?_ (by rfl) ?_) | (refine TL.one (by rfl) ?_) | (refine TL.two (by rfl) ?_ ?_) | (refine TL.three (by rfl) ?_ ?_ ?_) | (refine TL.four (by rfl) ?_ ?_ ?_ ?_))))
        refine StepL.callW (ixh_c b1 z1 hz1) rfl rfl rfl rfl rfl (by rfl) (by (first | exact trivial | ((with_reducible refine AllP.go ?_); dsimp only [AllP, appP]; repeat' (first | with_reducible rfl | with_reducible exact LeD.refl | refine And.intro ?_ ?_ | (refine congrArg (Value.int _) ?_; first | omega | rfl | (simp only [Int.toNat_natCast]; omega)) | rfl | (refine congrArg Value.bool ?_; assumption) | assumption | exact LeD.refl)))) (by rfl) (by rfl) ?_
        intro _ _
        (repeat' (first | (with_reducible refine AllP.go ?_; (first | exact trivial | exact fun i _ => ⟨_, rfl⟩ | ((try simp only [OS]); repeat' (first | omega | exact fun i _ => ⟨_, rfl⟩ | refine And.intro ?_ ?_)))) | (with_reducible first | exact PanicOk.body | exact rd.panic | refine PanicOk.then' ?_ | refine PanicOk.block ?_ | refine PanicOk.jump ?_) | (refine TL.done (by rfl) ?_) | (refine TL.auto tysOk rfl ?_ (by rfl) ?_ ?_) | (refine StepL.mem tysOk rfl rfl rfl rfl (by rfl) ?_ (by rfl) ?_) | (refine StepL.pure tysOk rfl rfl rfl rfl (by rfl) ?_ (by rfl) ?_) | (refine TL.one (by rfl) ?_) | (refine TL.two (by rfl) ?_ ?_) | (refine TL.three (by rfl) ?_ ?_ ?_) | (refine TL.four (by rfl) ?_ ?_ ?_ ?_)))
        refine StepL.callW (ixh_c b2 z2 hz2) rfl rfl rfl rfl rfl (by rfl) (by (first | exact trivial | ((with_reducible refine AllP.go ?_); dsimp only [AllP, appP]; repeat' (first | with_reducible rfl | with_reducible exact LeD.refl | refine And.intro ?_ ?_ | (refine congrArg (Value.int _) ?_; first | omega | rfl | (simp only [Int.toNat_natCast]; omega)) | rfl | (refine congrArg Value.bool ?_; assumption) | assumption | exact LeD.refl)))) (by rfl) (by rfl) ?_
        intro _ _
        (repeat' (first | (with_reducible refine AllP.go ?_; (first | exact trivial | exact fun i _ => ⟨_, rfl⟩ | ((try simp only [OS]); repeat' (first | omega | exact fun i _ => ⟨_, rfl⟩ | refine And.intro ?_ ?_)))) | (with_reducible first | exact PanicOk.body | exact rd.panic | refine PanicOk.then' ?_ | refine PanicOk.block ?_ | refine PanicOk.jump ?_) | (refine TL.done (by rfl) ?_) | (refine TL.auto tysOk rfl ?_ (by rfl) ?_ ?_) | (refine StepL.mem tysOk rfl rfl rfl rfl (by rfl) ?_ (by rfl) ?_) | (refine StepL.pure tysOk rfl rfl rfl rfl (by rfl) ?_ (by rfl) ?_) | (refine TL.one (by rfl) ?_) | (refine TL.two (by rfl) ?_ ?_) | (refine TL.three (by rfl) ?_ ?_ ?_) | (refine TL.four (by rfl) ?_ ?_ ?_ ?_)))
        have hr : unescI (120 :: b1 :: b2 :: r) = match idxH b1, idxH b2 with | some x, some y => (if plainC (UInt8.ofNat (16 * x + y)) = true ∨ ltrI (UInt8.ofNat (16 * x + y)) ≠ 0 then (0, 0) else (UInt8.ofNat (16 * x + y), 3)) | _, _ => (0, 0) := unesc_x ..
        (repeat' (first | (with_reducible refine AllP.go ?_; (first | exact trivial | exact fun i _ => ⟨_, rfl⟩ | ((try simp only [OS]); repeat' (first | omega | exact fun i _ => ⟨_, rfl⟩ | refine And.intro ?_ ?_)))) | (refine TE.rgo tysOk rfl (by rfl) ?_ ?_) | (with_reducible first | refine t1 ?_ | refine t2 ?_ | refine t3 ?_ | refine t4 ?_ | refine t5 ?_ | refine t6 ?_ | refine t7 ?_ | refine t8 ?_ | refine t9 ?_ | refine tA ?_ | refine tB ?_ | refine tC ?_ | refine tD rfl ?_ | refine tE ?_ | refine tF ?_ | refine tG ?_ | refine tH ?_ | refine tI ?_ | refine tJ ?_ | refine tK ?_ | refine tL ?_) | refine TE.cond_true (by rfl) ?_ | refine TE.cond_false (by rfl) ?_ | ((refine TE.gsplit (by rfl) (by rfl) ?_ ?_ <;> intro h <;> (try simp only [NS] at h) <;> (try (exfalso; first | omega | exact h trivial | exact h | exact h rfl | contradiction))) <;> (refine TE.run tysOk rfl (by rfl) ?_ ?_)) | ((first | refine TL.gsplit (by rfl) (by rfl) ?_ ?_ | refine TE.cond_split (by rfl) ?_ ?_) <;> intro h <;> (try simp only [NS] at h) <;> (try (exfalso; first | omega | exact h trivial | exact h | exact h rfl | contradiction)))))
        · rw [show unescI (120 :: b1 :: b2 :: r) = (0, 0) by rw [hr, (hx1.resolve_right fun ⟨x, k1, _, k2⟩ => by omega).1]]
          (refine TE.ret' (by first | exact .inl rfl | exact .inr rfl) rfl tysOk (()) ?_ rfl (by rfl) ?_; all_goals (try (first | exact trivial | ((with_reducible refine AllP.go ?_); dsimp only [AllP, appP]; repeat' (first | with_reducible rfl | with_reducible exact LeD.refl | refine And.intro ?_ ?_ | (refine congrArg (Value.int _) ?_; first | omega | rfl | (simp only [Int.toNat_natCast]; omega)) | rfl | (refine congrArg Value.bool ?_; assumption) | exact LeD.refl)))))
        · obtain ⟨x, k1, k2, k3⟩ := hx1.resolve_left (fun k => by omega)
          rw [show unescI (120 :: b1 :: b2 :: r) = (0, 0) by rw [hr, (hx2.resolve_right fun ⟨x, k1, _, k2⟩ => by omega).1, k2]]
          (refine TE.ret' (by first | exact .inl rfl | exact .inr rfl) rfl tysOk (()) ?_ rfl (by rfl) ?_; all_goals (try (first | exact trivial | ((with_reducible refine AllP.go ?_); dsimp only [AllP, appP]; repeat' (first | with_reducible rfl | with_reducible exact LeD.refl | refine And.intro ?_ ?_ | (refine congrArg (Value.int _) ?_; first | omega | rfl | (simp only [Int.toNat_natCast]; omega)) | rfl | (refine congrArg Value.bool ?_; assumption) | exact LeD.refl)))))
        · obtain ⟨x, k1, k2, rfl⟩ := hx1.resolve_left (fun k => by omega)
          obtain ⟨y, k4, k5, rfl⟩ := hx2.resolve_left (fun k => by omega)
          rw [k2, k5] at hr
          dsimp only at hr
          (refine TE.step rfl rfl rfl (fun _ h => nomatch h) (m_shlI rfl rfl rfl (by decide) ?_) ?_; rotate_left; rintro _ rfl; rotate_right)
          · show -9223372036854775808 ≤ (x : Int) * 16 ∧ (x : Int) * 16 ≤ 9223372036854775807
            omega
          (refine TE.step rfl rfl rfl (fun _ h => nomatch h) (m_pure tysOk rfl ?_) ?_; rotate_left; rintro _ rfl; rotate_right; (with_reducible refine AllP.go ?_; (first | exact trivial | exact fun i _ => ⟨_, rfl⟩ | ((try simp only [OS]); repeat' (first | omega | exact fun i _ => ⟨_, rfl⟩ | refine And.intro ?_ ?_)))))
          (refine TE.step rfl rfl rfl (fun _ h => nomatch h) (m_orI rfl rfl rfl ?_ ?_) ?_; rotate_left 2; rintro _ rfl; rotate_right 2)
          · show 0 ≤ (x : Int) * 16 ∧ (x : Int) * 16 < 9223372036854775808
            omega
          · omega
          ((refine TE.run tysOk rfl (by rfl) ?_ ?_); try (with_reducible refine AllP.go ?_; (first | exact trivial | exact fun i _ => ⟨_, rfl⟩ | ((try simp only [OS]); repeat' (first | omega | exact fun i _ => ⟨_, rfl⟩ | refine And.intro ?_ ?_)))))
          (repeat (with_reducible first | refine t1 ?_ | refine t2 ?_ | refine t3 ?_ | refine t4 ?_ | refine t5 ?_ | refine t6 ?_ | refine t7 ?_ | refine t8 ?_ | refine t9 ?_ | refine tA ?_ | refine tB ?_ | refine tC ?_ | refine tD rfl ?_ | refine tE ?_ | refine tF ?_ | refine tG ?_ | refine tH ?_ | refine tI ?_ | refine tJ ?_ | refine tK ?_ | refine tL ?_))
          rw [orv k1 k4]
          generalize UInt8.ofNat (16 * x + y) = c0 at *
          (repeat' (first | (with_reducible refine AllP.go ?_; (first | exact trivial | exact fun i _ => ⟨_, rfl⟩ | ((try simp only [OS]); repeat' (first | omega | exact fun i _ => ⟨_, rfl⟩ | refine And.intro ?_ ?_)))) | (refine TE.rgo tysOk rfl (by rfl) ?_ ?_) | (with_reducible first | refine t1 ?_ | refine t2 ?_ | refine t3 ?_ | refine t4 ?_ | refine t5 ?_ | refine t6 ?_ | refine t7 ?_ | refine t8 ?_ | refine t9 ?_ | refine tA ?_ | refine tB ?_ | refine tC ?_ | refine tD rfl ?_ | refine tE ?_ | refine tF ?_ | refine tG ?_ | refine tH ?_ | refine tI ?_ | refine tJ ?_ | refine tK ?_ | refine tL ?_) | refine TE.cond_true (by rfl) ?_ | refine TE.cond_false (by rfl) ?_ | ((refine TE.gsplit (by rfl) (by rfl) ?_ ?_ <;> intro h <;> (try simp only [NS] at h) <;> (try (exfalso; first | omega | exact h trivial | exact h | exact h rfl | contradiction))) <;> (refine TE.run tysOk rfl (by rfl) ?_ ?_)) | ((first | refine TL.gsplit (by rfl) (by rfl) ?_ ?_ | refine TE.cond_split (by rfl) ?_ ?_) <;> intro h <;> (try simp only [NS] at h) <;> (try (exfalso; first | omega | exact h trivial | exact h | exact h rfl | contradiction)))))
          refine TE.callW (plain_c c0) rfl (by rfl) (by rfl) rfl (by rfl) (by (first | exact trivial | ((with_reducible refine AllP.go ?_); dsimp only [AllP, appP]; repeat' (first | with_reducible rfl | with_reducible exact LeD.refl | refine And.intro ?_ ?_ | (refine congrArg (Value.int _) ?_; first | omega | rfl | (simp only [Int.toNat_natCast]; omega)) | rfl | (refine congrArg Value.bool ?_; assumption) | assumption | exact LeD.refl)))) ?_
          intro _ _
          ((refine TE.run tysOk rfl (by rfl) ?_ ?_); (repeat' (first | (with_reducible refine AllP.go ?_; (first | exact trivial | exact fun i _ => ⟨_, rfl⟩ | ((try simp only [OS]); repeat' (first | omega | exact fun i _ => ⟨_, rfl⟩ | refine And.intro ?_ ?_)))) | (refine TE.rgo tysOk rfl (by rfl) ?_ ?_) | (with_reducible first | refine t1 ?_ | refine t2 ?_ | refine t3 ?_ | refine t4 ?_ | refine t5 ?_ | refine t6 ?_ | refine t7 ?_ | refine t8 ?_ | refine t9 ?_ | refine tA ?_ | refine tB ?_ | refine tC ?_ | refine tD rfl ?_ | refine tE ?_ | refine tF ?_ | refine tG ?_ | refine tH ?_ | refine tI ?_ | refine tJ ?_ | refine tK ?_ | refine tL ?_) | refine TE.cond_true (by rfl) ?_ | refine TE.cond_false (by rfl) ?_ | ((refine TE.gsplit (by rfl) (by rfl) ?_ ?_ <;> intro h <;> (try simp only [NS] at h) <;> (try (exfalso; first | omega | exact h trivial | exact h | exact h rfl | contradiction))) <;> (refine TE.run tysOk rfl (by rfl) ?_ ?_)) | ((first | refine TL.gsplit (by rfl) (by rfl) ?_ ?_ | refine TE.cond_split (by rfl) ?_ ?_) <;> intro h <;> (try simp only [NS] at h) <;> (try (exfalso; first | omega | exact h trivial | exact h | exact h rfl | contradiction))))))
          · rw [show unescI (120 :: b1 :: b2 :: r) = (0, 0) by rw [hr, if_pos (.inl (decide_eq_true (by assumption)))]]
            (refine TE.ret' (by first | exact .inl rfl | exact .inr rfl) rfl tysOk (()) ?_ rfl (by rfl) ?_; all_goals (try (first | exact trivial | ((with_reducible refine AllP.go ?_); dsimp only [AllP, appP]; repeat' (first | with_reducible rfl | with_reducible exact LeD.refl | refine And.intro ?_ ?_ | (refine congrArg (Value.int _) ?_; first | omega | rfl | (simp only [Int.toNat_natCast]; omega)) | rfl | (refine congrArg Value.bool ?_; assumption) | exact LeD.refl)))))
          · refine TE.callW (ltr_c m te pe c0) rfl (by rfl) (by rfl) rfl (by rfl) (by (first | exact trivial | ((with_reducible refine AllP.go ?_); dsimp only [AllP, appP]; repeat' (first | with_reducible rfl | with_reducible exact LeD.refl | refine And.intro ?_ ?_ | (refine congrArg (Value.int _) ?_; first | omega | rfl | (simp only [Int.toNat_natCast]; omega)) | rfl | (refine congrArg Value.bool ?_; assumption) | assumption | exact LeD.refl)))) ?_
            intro _ _
            ((refine TE.run tysOk rfl (by rfl) ?_ ?_); (repeat' (first | (with_reducible refine AllP.go ?_; (first | exact trivial | exact fun i _ => ⟨_, rfl⟩ | ((try simp only [OS]); repeat' (first | omega | exact fun i _ => ⟨_, rfl⟩ | refine And.intro ?_ ?_)))) | (refine TE.rgo tysOk rfl (by rfl) ?_ ?_) | (with_reducible first | refine t1 ?_ | refine t2 ?_ | refine t3 ?_ | refine t4 ?_ | refine t5 ?_ | refine t6 ?_ | refine t7 ?_ | refine t8 ?_ | refine t9 ?_ | refine tA ?_ | refine tB ?_ | refine tC ?_ | refine tD rfl ?_ | refine tE ?_ | refine tF ?_ | refine tG ?_ | refine tH ?_ | refine tI ?_ | refine tJ ?_ | refine tK ?_ | refine tL ?_) | refine TE.cond_true (by rfl) ?_ | refine TE.cond_false (by rfl) ?_ | ((refine TE.gsplit (by rfl) (by rfl) ?_ ?_ <;> intro h <;> (try simp only [NS] at h) <;> (try (exfalso; first | omega | exact h trivial | exact h | exact h rfl | contradiction))) <;> (refine TE.run tysOk rfl (by rfl) ?_ ?_)) | ((first | refine TL.gsplit (by rfl) (by rfl) ?_ ?_ | refine TE.cond_split (by rfl) ?_ ?_) <;> intro h <;> (try simp only [NS] at h) <;> (try (exfalso; first | omega | exact h trivial | exact h | exact h rfl | contradiction))))))
            · rw [show unescI (120 :: b1 :: b2 :: r) = (0, 0) by rw [hr, if_pos (.inr (fun e => by rw [e] at h; exact h rfl))]]
              (refine TE.ret' (by first | exact .inl rfl | exact .inr rfl) rfl tysOk (()) ?_ rfl (by rfl) ?_; all_goals (try (first | exact trivial | ((with_reducible refine AllP.go ?_); dsimp only [AllP, appP]; repeat' (first | with_reducible rfl | with_reducible exact LeD.refl | refine And.intro ?_ ?_ | (refine congrArg (Value.int _) ?_; first | omega | rfl | (simp only [Int.toNat_natCast]; omega)) | rfl | (refine congrArg Value.bool ?_; assumption) | exact LeD.refl)))))
            · rw [show unescI (120 :: b1 :: b2 :: r) = (c0, 3) by rw [hr, if_neg (fun e => e.elim (fun e => by have := of_decide_eq_true e; contradiction) (fun e => e (UInt8.toNat_inj.1 (Int.ofNat.inj h))))]]
              (refine TE.ret' (by first | exact .inl rfl | exact .inr rfl) rfl tysOk (()) ?_ rfl (by rfl) ?_; all_goals (try (first | exact trivial | ((with_reducible refine AllP.go ?_); dsimp only [AllP, appP]; repeat' (first | with_reducible rfl | with_reducible exact LeD.refl | refine And.intro ?_ ?_ | (refine congrArg (Value.int _) ?_; first | omega | rfl | (simp only [Int.toNat_natCast]; omega)) | rfl | (refine congrArg Value.bool ?_; assumption) | exact LeD.refl)))))
end Go.Proofs.YtmeapfckibbbbaaDoor.Am
/- The words: what stands between quotes read, the program's. -/
set_option linter.unusedVariables false
namespace Go.Proofs.YtmeapfckibbbbaaDoor.Am
open Go.RowKit Lw Wo
theorem unesc_3 (s : Bs) : (unescI s).2 ≤ 3 := by
  unfold unescI
  repeat' split
  all_goals simp
set_option maxRecDepth 20000 in
set_option maxHeartbeats 4000000 in
theorem unq_c (m : Int) (te : TypeId) (pe : Value) (l : Bs) (hl : l.length ≤ 1000000) : Con Tryd.prog 38 [.o (.c (.string (sB l)))] (glC m te pe) 4 4 U (fun _ => .t [.inl (.c (.string (sB (unqI l).1))), .inl (.c (.int .i64 ((unqI l).2 : Nat)))]) (fun _ => glC m te pe) := by
  refine con_of Tryd.func38 rfl (by kernel_rfl) Tryd.ntmps38 rfl (by first | exact Nat.zero_le _ | decide) (fun _ => ⟨rfl, rfl⟩) fun w S ν => ?_
  have hz : (sB l).size = l.length := sB_size _
  (repeat' (first | (with_reducible refine AllP.go ?_; (first | exact trivial | exact fun i _ => ⟨_, rfl⟩ | ((try simp only [OS]); repeat' (first | omega | exact fun i _ => ⟨_, rfl⟩ | refine And.intro ?_ ?_)))) | (refine TE.rgo tysOk rfl (by rfl) ?_ ?_) | (with_reducible first | refine t1 ?_ | refine t2 ?_ | refine t3 ?_ | refine t4 ?_ | refine t5 ?_ | refine t6 ?_ | refine t7 ?_ | refine t8 ?_ | refine t9 ?_ | refine tA ?_ | refine tB ?_ | refine tC ?_ | refine tD rfl ?_ | refine tE ?_ | refine tF ?_ | refine tG ?_ | refine tH ?_ | refine tI ?_ | refine tJ ?_ | refine tK ?_ | refine tL ?_) | refine TE.cond_true (by rfl) ?_ | refine TE.cond_false (by rfl) ?_ | ((refine TE.gsplit (by rfl) (by rfl) ?_ ?_ <;> intro h <;> (try simp only [NS] at h) <;> (try (exfalso; first | omega | exact h trivial | exact h | exact h rfl | contradiction))) <;> (refine TE.run tysOk rfl (by rfl) ?_ ?_)) | ((first | refine TL.gsplit (by rfl) (by rfl) ?_ ?_ | refine TE.cond_split (by rfl) ?_ ?_) <;> intro h <;> (try simp only [NS] at h) <;> (try (exfalso; first | omega | exact h trivial | exact h | exact h rfl | contradiction)))))
  · have : l = [] := List.length_eq_zero_iff.1 (by omega)
    subst this
    (refine TE.ret' (by first | exact .inl rfl | exact .inr rfl) rfl tysOk (()) ?_ rfl (by rfl) ?_; all_goals (try (first | exact trivial | ((with_reducible refine AllP.go ?_); dsimp only [AllP, appP]; repeat' (first | with_reducible rfl | with_reducible exact LeD.refl | refine And.intro ?_ ?_ | (refine congrArg (Value.int _) ?_; first | omega | rfl | (simp only [Int.toNat_natCast]; omega)) | rfl | (refine congrArg Value.bool ?_; assumption) | exact LeD.refl)))))
  · rw [show unqI l = ([], 0) by
      match l with
      | [] => rfl
      | a :: r => exact if_neg (fun e => h (congrArg Nat.cast e))]
    (refine TE.ret' (by first | exact .inl rfl | exact .inr rfl) rfl tysOk (()) ?_ rfl (by rfl) ?_; all_goals (try (first | exact trivial | ((with_reducible refine AllP.go ?_); dsimp only [AllP, appP]; repeat' (first | with_reducible rfl | with_reducible exact LeD.refl | refine And.intro ?_ ?_ | (refine congrArg (Value.int _) ?_; first | omega | rfl | (simp only [Int.toNat_natCast]; omega)) | rfl | (refine congrArg Value.bool ?_; assumption) | exact LeD.refl)))))
  have h1 : unqI l = finQ [] 1 (unqG (l.drop 1)) := by
    match l with
    | [] => exact absurd rfl (by assumption)
    | a :: r => exact if_pos (Int.ofNat.inj h)
  refine TE.nilOwn 4 5 1 (by rfl) ?_
  (refine TE.only [5, 4, 3, 2, 0] (by rfl) ?_)
  refine TE.loopG (fun p : Nat × Bs => 1 ≤ p.1 ∧ p.1 ≤ l.length ∧ p.2.length ≤ p.1 ∧ finQ p.2 p.1 (unqG (l.drop p.1)) = unqI l) (fun p => [(5, .o (.c (.int .i64 p.1))), (4, .o (.own 4))]) [4] (fun p => [.own 4 5 1 (bytesC p.2)]) (fun p => l.length - p.1) (1, []) (by rfl) ⟨Nat.le_refl _, by omega, Nat.zero_le _, h1.symm⟩ ?_ ?_
  · (refine Ent.of rfl rfl (by rfl) ?_; (try (first | exact trivial | ((with_reducible refine AllP.go ?_); dsimp only [AllP, appP]; repeat' (first | with_reducible rfl | with_reducible exact LeD.refl | refine And.intro ?_ ?_ | (refine congrArg (Value.int _) ?_; first | omega | rfl | (simp only [Int.toNat_natCast]; omega)) | rfl | (refine congrArg Value.bool ?_; assumption) | exact LeD.refl)))))
    exact LeDC.nil rfl rfl
  rintro ⟨i, out⟩ ⟨g1, g2, g3, g4⟩
  dsimp only at g1 g2 g3 g4
  have hu3 := unesc_3 (l.drop (i + 1))
  have hle := dec_le (l.drop i)
  rw [List.length_drop] at hle
  have hx : Value.string ((sB l).extract ((i : Int) + 1).toNat ((sB l).size : Int).toNat) = Value.string (sB (l.drop (i + 1))) := by
    rw [sB_ext, List.take_of_length_le (by rw [List.length_drop, hz]; omega)]
    rfl
  (repeat' (first | (with_reducible refine AllP.go ?_; (first | exact trivial | exact fun i _ => ⟨_, rfl⟩ | ((try simp only [OS]); repeat' (first | omega | exact fun i _ => ⟨_, rfl⟩ | refine And.intro ?_ ?_)))) | (refine TE.rgo tysOk rfl (by rfl) ?_ ?_) | (with_reducible first | refine t1 ?_ | refine t2 ?_ | refine t3 ?_ | refine t4 ?_ | refine t5 ?_ | refine t6 ?_ | refine t7 ?_ | refine t8 ?_ | refine t9 ?_ | refine tA ?_ | refine tB ?_ | refine tC ?_ | refine tD rfl ?_ | refine tE ?_ | refine tF ?_ | refine tG ?_ | refine tH ?_ | refine tI ?_ | refine tJ ?_ | refine tK ?_ | refine tL ?_) | refine TE.cond_true (by rfl) ?_ | refine TE.cond_false (by rfl) ?_ | ((refine TE.gsplit (by rfl) (by rfl) ?_ ?_ <;> intro h <;> (try simp only [NS] at h) <;> (try (exfalso; first | omega | exact h trivial | exact h | exact h rfl | contradiction))) <;> (refine TE.run tysOk rfl (by rfl) ?_ ?_)) | ((first | refine TL.gsplit (by rfl) (by rfl) ?_ ?_ | refine TE.cond_split (by rfl) ?_ ?_) <;> intro h <;> (try simp only [NS] at h) <;> (try (exfalso; first | omega | exact h trivial | exact h | exact h rfl | contradiction)))))
  · have g5 : unqI l = (out, i + 1) := by
      rw [← g4, unqG_q (by omega) (by omega)]
      show (out ++ [], i + 1) = _
      rw [List.append_nil]
    rw [g5]
    (refine TE.ret' (by first | exact .inl rfl | exact .inr rfl) rfl tysOk (()) ?_ rfl (by rfl) ?_; all_goals (try (first | exact trivial | ((with_reducible refine AllP.go ?_); dsimp only [AllP, appP]; repeat' (first | with_reducible rfl | with_reducible exact LeD.refl | refine And.intro ?_ ?_ | (refine congrArg (Value.int _) ?_; first | omega | rfl | (simp only [Int.toNat_natCast]; omega)) | rfl | (refine congrArg Value.bool ?_; assumption) | exact LeD.refl)))))
    exact congrArg Value.string (cb_str out)
  · have hdr : decI1 (l.drop i) = if (unescI (l.drop (i + 1))).2 = 0 then (0, 0) else ((unescI (l.drop (i + 1))).1, (unescI (l.drop (i + 1))).2 + 1) := by
      rw [drop_at (by omega), show l.getD i 0 = 92 from UInt8.toNat_inj.1 (by show _ = 92; omega)]
      exact dec_bs _
    refine TE.callW (unesc_c m te pe (l.drop (i + 1)) (by rw [List.length_drop]; omega)) rfl (by rfl) (by rfl) rfl (by rfl) (by (first | exact trivial | ((with_reducible refine AllP.go ?_); dsimp only [AllP, appP]; repeat' (first | with_reducible rfl | with_reducible exact LeD.refl | refine And.intro ?_ ?_ | (refine congrArg (Value.int _) ?_; first | omega | rfl | (simp only [Int.toNat_natCast]; omega)) | rfl | (refine congrArg Value.bool ?_; assumption) | assumption | exact LeD.refl)))) ?_
    intro _ _
    ((refine TE.run tysOk rfl (by rfl) ?_ ?_); (repeat' (first | (with_reducible refine AllP.go ?_; (first | exact trivial | exact fun i _ => ⟨_, rfl⟩ | ((try simp only [OS]); repeat' (first | omega | exact fun i _ => ⟨_, rfl⟩ | refine And.intro ?_ ?_)))) | (refine TE.rgo tysOk rfl (by rfl) ?_ ?_) | (with_reducible first | refine t1 ?_ | refine t2 ?_ | refine t3 ?_ | refine t4 ?_ | refine t5 ?_ | refine t6 ?_ | refine t7 ?_ | refine t8 ?_ | refine t9 ?_ | refine tA ?_ | refine tB ?_ | refine tC ?_ | refine tD rfl ?_ | refine tE ?_ | refine tF ?_ | refine tG ?_ | refine tH ?_ | refine tI ?_ | refine tJ ?_ | refine tK ?_ | refine tL ?_) | refine TE.cond_true (by rfl) ?_ | refine TE.cond_false (by rfl) ?_ | ((refine TE.gsplit (by rfl) (by rfl) ?_ ?_ <;> intro h <;> (try simp only [NS] at h) <;> (try (exfalso; first | omega | exact h trivial | exact h | exact h rfl | contradiction))) <;> (refine TE.run tysOk rfl (by rfl) ?_ ?_)) | ((first | refine TL.gsplit (by rfl) (by rfl) ?_ ?_ | refine TE.cond_split (by rfl) ?_ ?_) <;> intro h <;> (try simp only [NS] at h) <;> (try (exfalso; first | omega | exact h trivial | exact h | exact h rfl | contradiction))))))
    · have g5 : unqI l = ([], 0) := by
        rw [← g4, unqG_no (by omega) (by omega) (by rw [hdr, if_pos (by omega)])]
        rfl
      rw [g5]
      (refine TE.ret' (by first | exact .inl rfl | exact .inr rfl) rfl tysOk (()) ?_ rfl (by rfl) ?_; all_goals (try (first | exact trivial | ((with_reducible refine AllP.go ?_); dsimp only [AllP, appP]; repeat' (first | with_reducible rfl | with_reducible exact LeD.refl | refine And.intro ?_ ?_ | (refine congrArg (Value.int _) ?_; first | omega | rfl | (simp only [Int.toNat_natCast]; omega)) | rfl | (refine congrArg Value.bool ?_; assumption) | exact LeD.refl)))))
    · rw [if_neg (by omega)] at hdr
      rw [hdr] at hle
      dsimp only at hle
      refine TE.again' (i + ((unescI (l.drop (i + 1))).2 + 1), out ++ [(unescI (l.drop (i + 1))).1]) ⟨by dsimp only; omega, by dsimp only; omega, by simp; omega, ?_⟩ (by dsimp only; omega) ?_
      · rw [← g4, unqG_yes (by omega) (by omega) (by rw [hdr]; exact Nat.succ_ne_zero _) out, hdr]
      · (refine Ent.of rfl rfl (by rfl) ?_; (try (first | exact trivial | ((with_reducible refine AllP.go ?_); dsimp only [AllP, appP]; repeat' (first | with_reducible rfl | with_reducible exact LeD.refl | refine And.intro ?_ ?_ | (refine congrArg (Value.int _) ?_; first | omega | rfl | (simp only [Int.toNat_natCast]; omega)) | rfl | (refine congrArg Value.bool ?_; assumption) | exact LeD.refl)))))
        exact bytes_app (LeDC.refl _ _) (byte_lit rfl) rfl
  · have hdr : decI1 (l.drop i) = if plainC (l.getD i 0) = true then (l.getD i 0, 1) else (0, 0) := by
      rw [drop_at (by omega)]
      exact if_neg (by omega)
    refine TE.callW (plain_c (l.getD i 0)) rfl (by rfl) (by rfl) rfl (by rfl) (by (first | exact trivial | ((with_reducible refine AllP.go ?_); dsimp only [AllP, appP]; repeat' (first | with_reducible rfl | with_reducible exact LeD.refl | refine And.intro ?_ ?_ | (refine congrArg (Value.int _) ?_; first | omega | rfl | (simp only [Int.toNat_natCast]; omega)) | rfl | (refine congrArg Value.bool ?_; assumption) | assumption | exact LeD.refl)))) ?_
    intro _ _
    ((refine TE.run tysOk rfl (by rfl) ?_ ?_); (repeat' (first | (with_reducible refine AllP.go ?_; (first | exact trivial | exact fun i _ => ⟨_, rfl⟩ | ((try simp only [OS]); repeat' (first | omega | exact fun i _ => ⟨_, rfl⟩ | refine And.intro ?_ ?_)))) | (refine TE.rgo tysOk rfl (by rfl) ?_ ?_) | (with_reducible first | refine t1 ?_ | refine t2 ?_ | refine t3 ?_ | refine t4 ?_ | refine t5 ?_ | refine t6 ?_ | refine t7 ?_ | refine t8 ?_ | refine t9 ?_ | refine tA ?_ | refine tB ?_ | refine tC ?_ | refine tD rfl ?_ | refine tE ?_ | refine tF ?_ | refine tG ?_ | refine tH ?_ | refine tI ?_ | refine tJ ?_ | refine tK ?_ | refine tL ?_) | refine TE.cond_true (by rfl) ?_ | refine TE.cond_false (by rfl) ?_ | ((refine TE.gsplit (by rfl) (by rfl) ?_ ?_ <;> intro h <;> (try simp only [NS] at h) <;> (try (exfalso; first | omega | exact h trivial | exact h | exact h rfl | contradiction))) <;> (refine TE.run tysOk rfl (by rfl) ?_ ?_)) | ((first | refine TL.gsplit (by rfl) (by rfl) ?_ ?_ | refine TE.cond_split (by rfl) ?_ ?_) <;> intro h <;> (try simp only [NS] at h) <;> (try (exfalso; first | omega | exact h trivial | exact h | exact h rfl | contradiction))))))
    · rw [if_pos (decide_eq_true (by assumption))] at hdr
      refine TE.again' (i + 1, out ++ [l.getD i 0]) ⟨by dsimp only; omega, by dsimp only; omega, by simp; omega, ?_⟩ (by dsimp only; omega) ?_
      · rw [← g4, unqG_yes (by omega) (by omega) (by rw [hdr]; exact Nat.succ_ne_zero _) out, hdr]
      · (refine Ent.of rfl rfl (by rfl) ?_; (try (first | exact trivial | ((with_reducible refine AllP.go ?_); dsimp only [AllP, appP]; repeat' (first | with_reducible rfl | with_reducible exact LeD.refl | refine And.intro ?_ ?_ | (refine congrArg (Value.int _) ?_; first | omega | rfl | (simp only [Int.toNat_natCast]; omega)) | rfl | (refine congrArg Value.bool ?_; assumption) | exact LeD.refl)))))
        exact bytes_app (LeDC.refl _ _) (byte_lit rfl) rfl
    · rw [if_neg (fun e => by have := of_decide_eq_true e; contradiction)] at hdr
      have g5 : unqI l = ([], 0) := by
        rw [← g4, unqG_no (by omega) (by omega) (by rw [hdr])]
        rfl
      rw [g5]
      (refine TE.ret' (by first | exact .inl rfl | exact .inr rfl) rfl tysOk (()) ?_ rfl (by rfl) ?_; all_goals (try (first | exact trivial | ((with_reducible refine AllP.go ?_); dsimp only [AllP, appP]; repeat' (first | with_reducible rfl | with_reducible exact LeD.refl | refine And.intro ?_ ?_ | (refine congrArg (Value.int _) ?_; first | omega | rfl | (simp only [Int.toNat_natCast]; omega)) | rfl | (refine congrArg Value.bool ?_; assumption) | exact LeD.refl)))))
  · obtain rfl : i = l.length := by omega
    have g5 : unqI l = ([], 0) := by
      rw [← g4, List.drop_length, unqG_nil]
      rfl
    rw [g5]
    (refine TE.ret' (by first | exact .inl rfl | exact .inr rfl) rfl tysOk (()) ?_ rfl (by rfl) ?_; all_goals (try (first | exact trivial | ((with_reducible refine AllP.go ?_); dsimp only [AllP, appP]; repeat' (first | with_reducible rfl | with_reducible exact LeD.refl | refine And.intro ?_ ?_ | (refine congrArg (Value.int _) ?_; first | omega | rfl | (simp only [Int.toNat_natCast]; omega)) | rfl | (refine congrArg Value.bool ?_; assumption) | exact LeD.refl)))))
end Go.Proofs.YtmeapfckibbbbaaDoor.Am
/- The words: Unquote, the program's. -/
set_option linter.unusedVariables false
namespace Go.Proofs.YtmeapfckibbbbaaDoor.Wo
/-- A whole quoted word, or the fault 6. -/
def unquoteI (l : Bs) : Bs × Int := if (unqI l).2 = 0 ∨ (unqI l).2 < l.length then ([], 6) else ((unqI l).1, 0)
end Go.Proofs.YtmeapfckibbbbaaDoor.Wo
namespace Go.Proofs.YtmeapfckibbbbaaDoor.Am
open Go.RowKit Lw Wo
set_option maxRecDepth 20000 in
theorem Unquote_c (m : Int) (te : TypeId) (pe : Value) (l : Bs) (hl : l.length ≤ 1000000) : Con Tryd.prog 19 [.o (.c (.string (sB l)))] (glC m te pe) 4 4 U (fun _ => .t [.inl (.c (.string (sB (unquoteI l).1))), .inl (.c (.int .i64 (unquoteI l).2))]) (fun _ => glC m te pe) := by
  refine con_of Tryd.func19 rfl (by kernel_rfl) Tryd.ntmps19 rfl (by first | exact Nat.zero_le _ | decide) (fun _ => ⟨rfl, rfl⟩) fun w S ν => ?_
  have hz : (sB l).size = l.length := sB_size _
  (repeat' (first | (with_reducible refine AllP.go ?_; (first | exact trivial | exact fun i _ => ⟨_, rfl⟩ | ((try simp only [OS]); repeat' (first | omega | exact fun i _ => ⟨_, rfl⟩ | refine And.intro ?_ ?_)))) | (refine TE.rgo tysOk rfl (by rfl) ?_ ?_) | (with_reducible first | refine t1 ?_ | refine t2 ?_ | refine t3 ?_ | refine t4 ?_ | refine t5 ?_ | refine t6 ?_ | refine t7 ?_ | refine t8 ?_ | refine t9 ?_ | refine tA ?_ | refine tB ?_ | refine tC ?_ | refine tD rfl ?_ | refine tE ?_ | refine tF ?_ | refine tG ?_ | refine tH ?_ | refine tI ?_ | refine tJ ?_ | refine tK ?_ | refine tL ?_) | refine TE.cond_true (by rfl) ?_ | refine TE.cond_false (by rfl) ?_ | ((refine TE.gsplit (by rfl) (by rfl) ?_ ?_ <;> intro h <;> (try simp only [NS] at h) <;> (try (exfalso; first | omega | exact h trivial | exact h | exact h rfl | contradiction))) <;> (refine TE.run tysOk rfl (by rfl) ?_ ?_)) | ((first | refine TL.gsplit (by rfl) (by rfl) ?_ ?_ | refine TE.cond_split (by rfl) ?_ ?_) <;> intro h <;> (try simp only [NS] at h) <;> (try (exfalso; first | omega | exact h trivial | exact h | exact h rfl | contradiction)))))
  refine TE.callW (unq_c m te pe l hl) rfl (by rfl) (by rfl) rfl (by rfl) (by (first | exact trivial | ((with_reducible refine AllP.go ?_); dsimp only [AllP, appP]; repeat' (first | with_reducible rfl | with_reducible exact LeD.refl | refine And.intro ?_ ?_ | (refine congrArg (Value.int _) ?_; first | omega | rfl | (simp only [Int.toNat_natCast]; omega)) | rfl | (refine congrArg Value.bool ?_; assumption) | assumption | exact LeD.refl)))) ?_
  intro _ _
  ((refine TE.run tysOk rfl (by rfl) ?_ ?_); (repeat' (first | (with_reducible refine AllP.go ?_; (first | exact trivial | exact fun i _ => ⟨_, rfl⟩ | ((try simp only [OS]); repeat' (first | omega | exact fun i _ => ⟨_, rfl⟩ | refine And.intro ?_ ?_)))) | (refine TE.rgo tysOk rfl (by rfl) ?_ ?_) | (with_reducible first | refine t1 ?_ | refine t2 ?_ | refine t3 ?_ | refine t4 ?_ | refine t5 ?_ | refine t6 ?_ | refine t7 ?_ | refine t8 ?_ | refine t9 ?_ | refine tA ?_ | refine tB ?_ | refine tC ?_ | refine tD rfl ?_ | refine tE ?_ | refine tF ?_ | refine tG ?_ | refine tH ?_ | refine tI ?_ | refine tJ ?_ | refine tK ?_ | refine tL ?_) | refine TE.cond_true (by rfl) ?_ | refine TE.cond_false (by rfl) ?_ | ((refine TE.gsplit (by rfl) (by rfl) ?_ ?_ <;> intro h <;> (try simp only [NS] at h) <;> (try (exfalso; first | omega | exact h trivial | exact h | exact h rfl | contradiction))) <;> (refine TE.run tysOk rfl (by rfl) ?_ ?_)) | ((first | refine TL.gsplit (by rfl) (by rfl) ?_ ?_ | refine TE.cond_split (by rfl) ?_ ?_) <;> intro h <;> (try simp only [NS] at h) <;> (try (exfalso; first | omega | exact h trivial | exact h | exact h rfl | contradiction))))))
  · rw [show unquoteI l = ([], 6) from if_pos (.inl (by omega))]
    (refine TE.ret' (by first | exact .inl rfl | exact .inr rfl) rfl tysOk (()) ?_ rfl (by rfl) ?_; all_goals (try (first | exact trivial | ((with_reducible refine AllP.go ?_); dsimp only [AllP, appP]; repeat' (first | with_reducible rfl | with_reducible exact LeD.refl | refine And.intro ?_ ?_ | (refine congrArg (Value.int _) ?_; first | omega | rfl | (simp only [Int.toNat_natCast]; omega)) | rfl | (refine congrArg Value.bool ?_; assumption) | exact LeD.refl)))))
  · rw [show unquoteI l = ([], 6) from if_pos (.inr (by omega))]
    (refine TE.ret' (by first | exact .inl rfl | exact .inr rfl) rfl tysOk (()) ?_ rfl (by rfl) ?_; all_goals (try (first | exact trivial | ((with_reducible refine AllP.go ?_); dsimp only [AllP, appP]; repeat' (first | with_reducible rfl | with_reducible exact LeD.refl | refine And.intro ?_ ?_ | (refine congrArg (Value.int _) ?_; first | omega | rfl | (simp only [Int.toNat_natCast]; omega)) | rfl | (refine congrArg Value.bool ?_; assumption) | exact LeD.refl)))))
  · rw [show unquoteI l = ((unqI l).1, 0) from if_neg (by omega)]
    (refine TE.ret' (by first | exact .inl rfl | exact .inr rfl) rfl tysOk (()) ?_ rfl (by rfl) ?_; all_goals (try (first | exact trivial | ((with_reducible refine AllP.go ?_); dsimp only [AllP, appP]; repeat' (first | with_reducible rfl | with_reducible exact LeD.refl | refine And.intro ?_ ?_ | (refine congrArg (Value.int _) ?_; first | omega | rfl | (simp only [Int.toNat_natCast]; omega)) | rfl | (refine congrArg Value.bool ?_; assumption) | exact LeD.refl)))))
end Go.Proofs.YtmeapfckibbbbaaDoor.Am
/- The words: quoting and bare words, the reference's. -/
set_option linter.unusedVariables false
namespace Go.Proofs.YtmeapfckibbbbaaDoor.Am
open Go.RowKit Lw Wo
end Go.Proofs.YtmeapfckibbbbaaDoor.Am
/- The words: what stands between quotes read, the reference's. -/
set_option linter.unusedVariables false
namespace Go.Proofs.YtmeapfckibbbbaaDoor.Wo
end Go.Proofs.YtmeapfckibbbbaaDoor.Wo
namespace Go.Proofs.YtmeapfckibbbbaaDoor.Am
open Go.RowKit Lw Wo
end Go.Proofs.YtmeapfckibbbbaaDoor.Am
/- The words: Unquote, the reference's. -/
set_option linter.unusedVariables false
namespace Go.Proofs.YtmeapfckibbbbaaDoor.Wo
theorem unqG_le : ∀ (n : Nat) (s : Bs), s.length ≤ n → ∀ x, unqG s = some x → x.2 ≤ s.length
  | _, [], _, x, h => by rw [unqG_nil] at h; cases h
  | 0, _ :: _, hn, _, _ => absurd hn (Nat.not_succ_le_zero _)
  | n + 1, a :: r, hn, x, h => by
    rw [unqG] at h
    split at h
    · cases h; simp
    · split at h
      · cases h
      · rename_i hd
        cases hg : unqG ((a :: r).drop (decI1 (a :: r)).2) with
        | none => rw [hg] at h; cases h
        | some y =>
          rw [hg] at h
          cases h
          have hl := dec_le (a :: r)
          have := unqG_le n _ (by rw [List.length_drop]; omega) y hg
          rw [List.length_drop] at this
          dsimp only
          omega
theorem unqI_le (l : Bs) : (unqI l).2 ≤ l.length := by
  match l with
  | [] => exact Nat.zero_le _
  | a :: r =>
    unfold unqI
    dsimp only
    split
    · cases h : unqG r with
      | none => exact Nat.zero_le _
      | some x =>
        have := unqG_le _ r (Nat.le_refl _) x h
        show 1 + x.2 ≤ r.length + 1
        omega
    · exact Nat.zero_le _
end Go.Proofs.YtmeapfckibbbbaaDoor.Wo
namespace Go.Proofs.YtmeapfckibbbbaaDoor.Am
open Go.RowKit Lw Wo
end Go.Proofs.YtmeapfckibbbbaaDoor.Am
/- The words: the laws Names and Quotes, walked (shown is an assumption here; it wants Split and List). -/
set_option linter.unusedVariables false
namespace Go.Proofs.YtmeapfckibbbbaaDoor.Am
open Go.RowKit Lw Wo
end Go.Proofs.YtmeapfckibbbbaaDoor.Am
/- The words: the fields of a line, the reference's. -/
set_option linter.unusedVariables false
namespace Go.Proofs.YtmeapfckibbbbaaDoor.Am
open Go.RowKit Lw Wo
def fdR (x : Fld) (j : Nat) : DC := match j with
  | 0 => .c (.string (sB x.1))
  | _ => .c (.bool x.2)
abbrev fdC (l : List Fld) : Ct := listC fdR ([], false) l
end Go.Proofs.YtmeapfckibbbbaaDoor.Am
