/- Texts of this claim, joined. -/
import Derived.Test.YthhpofehcnjmmaaPk3
import Derived.Test.YthhpofehcnjmmaaProg
import Derived.KernelRfl
import Derived.Shelf.Strings.Builder1
import Derived.Shelf.Strings.Builder2
import Derived.Shelf.Strings.OnBuilder
set_option linter.unusedSimpArgs false
set_option linter.unusedVariables false
/- The table of the types. -/
namespace Go.Proofs.Ythhpofehcnjmmaa.Am
def tys : Tys := [
  ⟨1, .other, 1, 8, [.nilFunc], false⟩,
  ⟨2, .int .i64, 1, 8, [.int .i64 0], false⟩,
  ⟨3, .int .i64, 1, 8, [.int .i64 0], false⟩,
  ⟨4, .bool, 1, 1, [.bool false], false⟩,
  ⟨5, .int .u8, 1, 1, [.int .u8 0], false⟩,
  ⟨9, .str, 1, 16, [.string ⟨#[]⟩], false⟩,
  ⟨12, .int .u64, 1, 8, [.int .u64 0], false⟩,
  ⟨15, .other, 1, 8, [.pointer none], false⟩,
  ⟨16, .other, 1, 8, [.pointer none], false⟩,
  ⟨17, .other, 1, 8, [.pointer none], false⟩,
  ⟨20, .other, 1, 16, [.nilIface], false⟩,
  ⟨21, .int .i32, 1, 4, [.int .i32 0], false⟩,
  ⟨22, .slice 50, 1, 24, [.slice none 0 0], false⟩,
  ⟨23, .other, 1, 8, [.nilFunc], false⟩,
  ⟨24, .other, 1, 8, [.nilFunc], false⟩,
  ⟨25, .int .i64, 1, 8, [.int .i64 0], false⟩,
  ⟨27, .other, 1, 8, [.nilFunc], false⟩,
  ⟨28, .other, 1, 8, [.nilFunc], false⟩,
  ⟨29, .slice 70, 1, 24, [.slice none 0 0], false⟩,
  ⟨30, .other, 1, 8, [.nilFunc], false⟩,
  ⟨31, .struct [(5, 0, 1), (5, 1, 1), (5, 2, 1)], 3, 3, [.int .u8 0, .int .u8 0, .int .u8 0], true⟩,
  ⟨32, .struct [(5, 0, 1), (5, 1, 1), (5, 2, 1)], 3, 3, [.int .u8 0, .int .u8 0, .int .u8 0], true⟩,
  ⟨34, .other, 1, 8, [.nilFunc], false⟩,
  ⟨35, .other, 1, 8, [.nilFunc], false⟩,
  ⟨36, .slice 9, 1, 24, [.slice none 0 0], false⟩,
  ⟨37, .other, 1, 8, [.nilFunc], false⟩,
  ⟨38, .other, 1, 8, [.nilFunc], false⟩,
  ⟨40, .other, 1, 8, [.nilFunc], false⟩,
  ⟨41, .other, 1, 8, [.nilFunc], false⟩,
  ⟨42, .slice 3, 1, 24, [.slice none 0 0], false⟩,
  ⟨44, .other, 1, 8, [.nilFunc], false⟩,
  ⟨45, .other, 1, 8, [.nilFunc], false⟩,
  ⟨46, .other, 1, 8, [.nilFunc], false⟩,
  ⟨47, .other, 1, 8, [.nilFunc], false⟩,
  ⟨48, .slice 67, 1, 24, [.slice none 0 0], false⟩,
  ⟨49, .struct [(3, 0, 1), (9, 1, 1), (3, 2, 1), (48, 3, 1), (9, 4, 1), (3, 5, 1), (3, 6, 1), (3, 7, 1), (4, 8, 1), (36, 9, 1)], 10, 128, [.int .i64 0, .string ⟨#[]⟩, .int .i64 0, .slice none 0 0, .string ⟨#[]⟩, .int .i64 0, .int .i64 0, .int .i64 0, .bool false, .slice none 0 0], true⟩,
  ⟨50, .struct [(3, 0, 1), (9, 1, 1), (3, 2, 1), (48, 3, 1), (9, 4, 1), (3, 5, 1), (3, 6, 1), (3, 7, 1), (4, 8, 1), (36, 9, 1)], 10, 128, [.int .i64 0, .string ⟨#[]⟩, .int .i64 0, .slice none 0 0, .string ⟨#[]⟩, .int .i64 0, .int .i64 0, .int .i64 0, .bool false, .slice none 0 0], true⟩,
  ⟨51, .slice 72, 1, 24, [.slice none 0 0], false⟩,
  ⟨52, .struct [(48, 0, 1), (4, 1, 1), (36, 2, 1), (51, 3, 1)], 4, 80, [.slice none 0 0, .bool false, .slice none 0 0, .slice none 0 0], true⟩,
  ⟨53, .struct [(48, 0, 1), (4, 1, 1), (36, 2, 1), (51, 3, 1)], 4, 80, [.slice none 0 0, .bool false, .slice none 0 0, .slice none 0 0], true⟩,
  ⟨54, .other, 1, 8, [.nilFunc], false⟩,
  ⟨55, .slice 53, 1, 24, [.slice none 0 0], false⟩,
  ⟨56, .other, 1, 8, [.nilFunc], false⟩,
  ⟨58, .other, 1, 8, [.nilFunc], false⟩,
  ⟨59, .other, 1, 8, [.nilFunc], false⟩,
  ⟨61, .other, 1, 8, [.nilFunc], false⟩,
  ⟨62, .other, 1, 8, [.nilFunc], false⟩,
  ⟨63, .other, 1, 8, [.nilFunc], false⟩,
  ⟨64, .other, 1, 8, [.nilFunc], false⟩,
  ⟨65, .other, 1, 8, [.nilFunc], false⟩,
  ⟨66, .struct [(9, 0, 1), (9, 1, 1)], 2, 32, [.string ⟨#[]⟩, .string ⟨#[]⟩], true⟩,
  ⟨67, .struct [(9, 0, 1), (9, 1, 1)], 2, 32, [.string ⟨#[]⟩, .string ⟨#[]⟩], true⟩,
  ⟨68, .other, 1, 8, [.nilFunc], false⟩,
  ⟨69, .struct [(3, 0, 1), (9, 1, 1), (3, 2, 1), (48, 3, 1), (9, 4, 1), (3, 5, 1), (3, 6, 1), (3, 7, 1)], 8, 96, [.int .i64 0, .string ⟨#[]⟩, .int .i64 0, .slice none 0 0, .string ⟨#[]⟩, .int .i64 0, .int .i64 0, .int .i64 0], true⟩,
  ⟨70, .struct [(3, 0, 1), (9, 1, 1), (3, 2, 1), (48, 3, 1), (9, 4, 1), (3, 5, 1), (3, 6, 1), (3, 7, 1)], 8, 96, [.int .i64 0, .string ⟨#[]⟩, .int .i64 0, .slice none 0 0, .string ⟨#[]⟩, .int .i64 0, .int .i64 0, .int .i64 0], true⟩,
  ⟨71, .struct [(9, 0, 1), (70, 1, 8), (4, 9, 1), (4, 10, 1), (3, 11, 1)], 12, 128, [.string ⟨#[]⟩, .int .i64 0, .string ⟨#[]⟩, .int .i64 0, .slice none 0 0, .string ⟨#[]⟩, .int .i64 0, .int .i64 0, .int .i64 0, .bool false, .bool false, .int .i64 0], true⟩,
  ⟨72, .struct [(9, 0, 1), (70, 1, 8), (4, 9, 1), (4, 10, 1), (3, 11, 1)], 12, 128, [.string ⟨#[]⟩, .int .i64 0, .string ⟨#[]⟩, .int .i64 0, .slice none 0 0, .string ⟨#[]⟩, .int .i64 0, .int .i64 0, .int .i64 0, .bool false, .bool false, .int .i64 0], true⟩,
  ⟨73, .other, 1, 8, [.nilFunc], false⟩,
  ⟨74, .other, 1, 8, [.map none], false⟩,
  ⟨75, .other, 1, 8, [.nilFunc], false⟩,
  ⟨76, .other, 1, 8, [.nilFunc], false⟩,
  ⟨77, .other, 1, 8, [.nilFunc], false⟩,
  ⟨78, .struct [(3, 0, 1), (36, 1, 1)], 2, 32, [.int .i64 0, .slice none 0 0], true⟩,
  ⟨79, .struct [(3, 0, 1), (36, 1, 1)], 2, 32, [.int .i64 0, .slice none 0 0], true⟩,
  ⟨81, .other, 1, 8, [.nilFunc], false⟩,
  ⟨82, .other, 1, 8, [.nilFunc], false⟩,
  ⟨83, .other, 1, 8, [.nilFunc], false⟩,
  ⟨84, .other, 1, 8, [.nilFunc], false⟩,
  ⟨85, .other, 1, 8, [.nilFunc], false⟩,
  ⟨86, .other, 1, 8, [.nilFunc], false⟩,
  ⟨87, .other, 1, 8, [.nilFunc], false⟩,
  ⟨88, .other, 1, 8, [.nilFunc], false⟩,
  ⟨89, .other, 1, 8, [.nilFunc], false⟩,
  ⟨90, .other, 1, 8, [.nilFunc], false⟩,
  ⟨91, .other, 1, 8, [.nilFunc], false⟩,
  ⟨92, .other, 1, 8, [.nilFunc], false⟩,
  ⟨93, .other, 1, 8, [.nilFunc], false⟩,
  ⟨94, .other, 1, 8, [.nilFunc], false⟩,
  ⟨95, .other, 1, 8, [.nilFunc], false⟩,
  ⟨96, .other, 1, 8, [.map none], false⟩,
  ⟨97, .other, 1, 8, [.nilFunc], false⟩,
  ⟨98, .other, 1, 8, [.nilFunc], false⟩,
  ⟨99, .other, 1, 8, [.nilFunc], false⟩,
  ⟨100, .other, 1, 8, [.nilFunc], false⟩,
  ⟨101, .other, 1, 8, [.pointer none], false⟩,
  ⟨102, .struct [(55, 0, 1), (22, 1, 1)], 2, 48, [.slice none 0 0, .slice none 0 0], true⟩,
  ⟨103, .struct [(55, 0, 1), (22, 1, 1)], 2, 48, [.slice none 0 0, .slice none 0 0], true⟩,
  ⟨104, .other, 1, 8, [.nilFunc], false⟩,
  ⟨105, .other, 1, 8, [.pointer none], false⟩,
  ⟨106, .other, 1, 8, [.map none], false⟩,
  ⟨107, .slice 146, 1, 24, [.slice none 0 0], false⟩,
  ⟨108, .struct [(107, 0, 1), (4, 1, 1), (106, 2, 1), (96, 3, 1), (3, 4, 1)], 5, 56, [.slice none 0 0, .bool false, .map none, .map none, .int .i64 0], true⟩,
  ⟨109, .struct [(107, 0, 1), (4, 1, 1), (106, 2, 1), (96, 3, 1), (3, 4, 1)], 5, 56, [.slice none 0 0, .bool false, .map none, .map none, .int .i64 0], true⟩,
  ⟨110, .other, 1, 8, [.nilFunc], false⟩,
  ⟨111, .other, 1, 8, [.nilFunc], false⟩,
  ⟨112, .other, 1, 8, [.nilFunc], false⟩,
  ⟨113, .other, 1, 8, [.nilFunc], false⟩,
  ⟨114, .other, 1, 8, [.nilFunc], false⟩,
  ⟨115, .other, 1, 8, [.nilFunc], false⟩,
  ⟨116, .other, 1, 8, [.nilFunc], false⟩,
  ⟨117, .other, 1, 8, [.nilFunc], false⟩,
  ⟨118, .other, 1, 8, [.nilFunc], false⟩,
  ⟨119, .other, 1, 8, [.nilFunc], false⟩,
  ⟨121, .other, 1, 8, [.nilFunc], false⟩,
  ⟨122, .other, 1, 8, [.nilFunc], false⟩,
  ⟨123, .other, 1, 8, [.nilFunc], false⟩,
  ⟨124, .other, 1, 8, [.nilFunc], false⟩,
  ⟨125, .other, 1, 8, [.nilFunc], false⟩,
  ⟨126, .other, 1, 8, [.nilFunc], false⟩,
  ⟨127, .other, 1, 8, [.pointer none], false⟩,
  ⟨128, .slice 5, 1, 24, [.slice none 0 0], false⟩,
  ⟨129, .struct [(127, 0, 1), (128, 1, 1)], 2, 32, [.pointer none, .slice none 0 0], true⟩,
  ⟨130, .struct [(127, 0, 1), (128, 1, 1)], 2, 32, [.pointer none, .slice none 0 0], true⟩,
  ⟨131, .other, 1, 8, [.nilFunc], false⟩,
  ⟨132, .other, 1, 16, [.nilIface], false⟩,
  ⟨133, .other, 1, 16, [.nilIface], false⟩,
  ⟨135, .other, 1, 8, [.nilFunc], false⟩,
  ⟨136, .other, 1, 8, [.nilFunc], false⟩,
  ⟨137, .slice 29, 1, 24, [.slice none 0 0], false⟩,
  ⟨138, .other, 1, 8, [.nilFunc], false⟩,
  ⟨139, .other, 1, 8, [.nilFunc], false⟩,
  ⟨140, .other, 1, 8, [.nilFunc], false⟩,
  ⟨141, .other, 1, 8, [.nilFunc], false⟩,
  ⟨142, .other, 1, 8, [.nilFunc], false⟩,
  ⟨143, .other, 1, 8, [.nilFunc], false⟩,
  ⟨144, .other, 1, 8, [.nilFunc], false⟩,
  ⟨145, .struct [(3, 0, 1), (9, 1, 1)], 2, 24, [.int .i64 0, .string ⟨#[]⟩], true⟩,
  ⟨146, .struct [(3, 0, 1), (9, 1, 1)], 2, 24, [.int .i64 0, .string ⟨#[]⟩], true⟩,
  ⟨147, .other, 1, 8, [.pointer none], false⟩,
  ⟨148, .other, 1, 8, [.pointer none], false⟩,
  ⟨149, .other, 1, 8, [.nilFunc], false⟩,
  ⟨150, .other, 1, 8, [.nilFunc], false⟩,
  ⟨152, .other, 1, 8, [.nilFunc], false⟩,
  ⟨153, .other, 1, 8, [.nilFunc], false⟩,
  ⟨159, .other, 1, 8, [.nilFunc], false⟩,
  ⟨160, .int .u32, 1, 4, [.int .u32 0], false⟩,
  ⟨163, .other, 1, 8, [.nilFunc], false⟩,
  ⟨166, .struct [(12, 0, 1), (12, 1, 1), (160, 2, 1), (161, 3, 1), (5, 4, 1), (5, 5, 1), (162, 6, 1), (163, 7, 1), (148, 8, 1), (164, 9, 1), (165, 10, 1)], 11, 48, [.int .u64 0, .int .u64 0, .int .u32 0, .int .u8 0, .int .u8 0, .int .u8 0, .int .u8 0, .nilFunc, .pointer none, .int .i32 0, .int .i32 0], true⟩]
set_option maxRecDepth 100000 in
set_option maxHeartbeats 4000000 in
theorem tysOk : tys.Ok Try.prog := by
  intro t ht
  unfold tys at ht
  simp only [List.mem_cons, List.not_mem_nil, or_false] at ht
  rcases ht with rfl | rfl | rfl | rfl | rfl | rfl | rfl | rfl | rfl | rfl | rfl | rfl | rfl | rfl | rfl | rfl | rfl | rfl | rfl | rfl | rfl | rfl | rfl | rfl | rfl | rfl | rfl | rfl | rfl | rfl | rfl | rfl | rfl | rfl | rfl | rfl | rfl | rfl | rfl | rfl | rfl | rfl | rfl | rfl | rfl | rfl | rfl | rfl | rfl | rfl | rfl | rfl | rfl | rfl | rfl | rfl | rfl | rfl | rfl | rfl | rfl | rfl | rfl | rfl | rfl | rfl | rfl | rfl | rfl | rfl | rfl | rfl | rfl | rfl | rfl | rfl | rfl | rfl | rfl | rfl | rfl | rfl | rfl | rfl | rfl | rfl | rfl | rfl | rfl | rfl | rfl | rfl | rfl | rfl | rfl | rfl | rfl | rfl | rfl | rfl | rfl | rfl | rfl | rfl | rfl | rfl | rfl | rfl | rfl | rfl | rfl | rfl | rfl | rfl | rfl | rfl | rfl | rfl | rfl | rfl | rfl | rfl | rfl | rfl | rfl | rfl | rfl | rfl | rfl | rfl | rfl | rfl | rfl | rfl | rfl | rfl | rfl | rfl
  · exact TI.mkOk (z := .nilFunc) (by kernel_rfl) Try.underlying1 trivial rfl rfl rfl rfl (.inl ⟨rfl, rfl, rfl⟩) (by decide)
  · exact TI.mkOk (z := .int .i64 0) (by kernel_rfl) Try.underlying2 rfl rfl rfl rfl rfl (.inl ⟨rfl, rfl, rfl⟩) (by decide)
  · exact TI.mkOk (z := .int .i64 0) (by kernel_rfl) Try.underlying3 rfl rfl rfl rfl rfl (.inl ⟨rfl, rfl, rfl⟩) (by decide)
  · exact TI.mkOk (z := .bool false) (by kernel_rfl) Try.underlying4 rfl rfl rfl rfl rfl (.inl ⟨rfl, rfl, rfl⟩) (by decide)
  · exact TI.mkOk (z := .int .u8 0) (by kernel_rfl) Try.underlying5 rfl rfl rfl rfl rfl (.inl ⟨rfl, rfl, rfl⟩) (by decide)
  · exact TI.mkOk (z := .string ⟨#[]⟩) (by kernel_rfl) Try.underlying9 rfl rfl rfl rfl rfl (.inl ⟨rfl, rfl, rfl⟩) (by decide)
  · exact TI.mkOk (z := .int .u64 0) (by kernel_rfl) Try.underlying12 rfl rfl rfl rfl rfl (.inl ⟨rfl, rfl, rfl⟩) (by decide)
  · exact TI.mkOk (z := .pointer none) (by kernel_rfl) Try.underlying15 trivial rfl rfl rfl rfl (.inl ⟨rfl, rfl, rfl⟩) (by decide)
  · exact TI.mkOk (z := .pointer none) (by kernel_rfl) Try.underlying16 trivial rfl rfl rfl rfl (.inl ⟨rfl, rfl, rfl⟩) (by decide)
  · exact TI.mkOk (z := .pointer none) (by kernel_rfl) Try.underlying17 trivial rfl rfl rfl rfl (.inl ⟨rfl, rfl, rfl⟩) (by decide)
  · exact TI.mkOk (z := .nilIface) (by kernel_rfl) Try.underlying20 trivial rfl rfl rfl rfl (.inl ⟨rfl, rfl, rfl⟩) (by decide)
  · exact TI.mkOk (z := .int .i32 0) (by kernel_rfl) Try.underlying21 rfl rfl rfl rfl rfl (.inl ⟨rfl, rfl, rfl⟩) (by decide)
  · exact TI.mkOk (z := .slice none 0 0) (by kernel_rfl) Try.underlying22 rfl rfl rfl rfl rfl (.inl ⟨rfl, rfl, rfl⟩) (by decide)
  · exact TI.mkOk (z := .nilFunc) (by kernel_rfl) Try.underlying23 trivial rfl rfl rfl rfl (.inl ⟨rfl, rfl, rfl⟩) (by decide)
  · exact TI.mkOk (z := .nilFunc) (by kernel_rfl) Try.underlying24 trivial rfl rfl rfl rfl (.inl ⟨rfl, rfl, rfl⟩) (by decide)
  · exact TI.mkOk (z := .int .i64 0) (by kernel_rfl) Try.underlying25 rfl rfl rfl rfl rfl (.inl ⟨rfl, rfl, rfl⟩) (by decide)
  · exact TI.mkOk (z := .nilFunc) (by kernel_rfl) Try.underlying27 trivial rfl rfl rfl rfl (.inl ⟨rfl, rfl, rfl⟩) (by decide)
  · exact TI.mkOk (z := .nilFunc) (by kernel_rfl) Try.underlying28 trivial rfl rfl rfl rfl (.inl ⟨rfl, rfl, rfl⟩) (by decide)
  · exact TI.mkOk (z := .slice none 0 0) (by kernel_rfl) Try.underlying29 rfl rfl rfl rfl rfl (.inl ⟨rfl, rfl, rfl⟩) (by decide)
  · exact TI.mkOk (z := .nilFunc) (by kernel_rfl) Try.underlying30 trivial rfl rfl rfl rfl (.inl ⟨rfl, rfl, rfl⟩) (by decide)
  · exact TI.mkOk (z := .agg #[.int .u8 0, .int .u8 0, .int .u8 0]) (by kernel_rfl) Try.underlying31 ⟨_, rfl, by kernel_rfl, fieldsOk_of (by kernel_rfl)⟩ rfl rfl rfl rfl (.inr ⟨rfl, rfl⟩) (by decide)
  · exact TI.mkOk (z := .agg #[.int .u8 0, .int .u8 0, .int .u8 0]) (by kernel_rfl) Try.underlying32 ⟨_, rfl, by kernel_rfl, fieldsOk_of (by kernel_rfl)⟩ rfl rfl rfl rfl (.inr ⟨rfl, rfl⟩) (by decide)
  · exact TI.mkOk (z := .nilFunc) (by kernel_rfl) Try.underlying34 trivial rfl rfl rfl rfl (.inl ⟨rfl, rfl, rfl⟩) (by decide)
  · exact TI.mkOk (z := .nilFunc) (by kernel_rfl) Try.underlying35 trivial rfl rfl rfl rfl (.inl ⟨rfl, rfl, rfl⟩) (by decide)
  · exact TI.mkOk (z := .slice none 0 0) (by kernel_rfl) Try.underlying36 rfl rfl rfl rfl rfl (.inl ⟨rfl, rfl, rfl⟩) (by decide)
  · exact TI.mkOk (z := .nilFunc) (by kernel_rfl) Try.underlying37 trivial rfl rfl rfl rfl (.inl ⟨rfl, rfl, rfl⟩) (by decide)
  · exact TI.mkOk (z := .nilFunc) (by kernel_rfl) Try.underlying38 trivial rfl rfl rfl rfl (.inl ⟨rfl, rfl, rfl⟩) (by decide)
  · exact TI.mkOk (z := .nilFunc) (by kernel_rfl) Try.underlying40 trivial rfl rfl rfl rfl (.inl ⟨rfl, rfl, rfl⟩) (by decide)
  · exact TI.mkOk (z := .nilFunc) (by kernel_rfl) Try.underlying41 trivial rfl rfl rfl rfl (.inl ⟨rfl, rfl, rfl⟩) (by decide)
  · exact TI.mkOk (z := .slice none 0 0) (by kernel_rfl) Try.underlying42 rfl rfl rfl rfl rfl (.inl ⟨rfl, rfl, rfl⟩) (by decide)
  · exact TI.mkOk (z := .nilFunc) (by kernel_rfl) Try.underlying44 trivial rfl rfl rfl rfl (.inl ⟨rfl, rfl, rfl⟩) (by decide)
  · exact TI.mkOk (z := .nilFunc) (by kernel_rfl) Try.underlying45 trivial rfl rfl rfl rfl (.inl ⟨rfl, rfl, rfl⟩) (by decide)
  · exact TI.mkOk (z := .nilFunc) (by kernel_rfl) Try.underlying46 trivial rfl rfl rfl rfl (.inl ⟨rfl, rfl, rfl⟩) (by decide)
  · exact TI.mkOk (z := .nilFunc) (by kernel_rfl) Try.underlying47 trivial rfl rfl rfl rfl (.inl ⟨rfl, rfl, rfl⟩) (by decide)
  · exact TI.mkOk (z := .slice none 0 0) (by kernel_rfl) Try.underlying48 rfl rfl rfl rfl rfl (.inl ⟨rfl, rfl, rfl⟩) (by decide)
  · exact TI.mkOk (z := .agg #[.int .i64 0, .string ⟨#[]⟩, .int .i64 0, .slice none 0 0, .string ⟨#[]⟩, .int .i64 0, .int .i64 0, .int .i64 0, .bool false, .slice none 0 0]) (by kernel_rfl) Try.underlying49 ⟨_, rfl, by kernel_rfl, fieldsOk_of (by kernel_rfl)⟩ rfl rfl rfl rfl (.inr ⟨rfl, rfl⟩) (by decide)
  · exact TI.mkOk (z := .agg #[.int .i64 0, .string ⟨#[]⟩, .int .i64 0, .slice none 0 0, .string ⟨#[]⟩, .int .i64 0, .int .i64 0, .int .i64 0, .bool false, .slice none 0 0]) (by kernel_rfl) Try.underlying50 ⟨_, rfl, by kernel_rfl, fieldsOk_of (by kernel_rfl)⟩ rfl rfl rfl rfl (.inr ⟨rfl, rfl⟩) (by decide)
  · exact TI.mkOk (z := .slice none 0 0) (by kernel_rfl) Try.underlying51 rfl rfl rfl rfl rfl (.inl ⟨rfl, rfl, rfl⟩) (by decide)
  · exact TI.mkOk (z := .agg #[.slice none 0 0, .bool false, .slice none 0 0, .slice none 0 0]) (by kernel_rfl) Try.underlying52 ⟨_, rfl, by kernel_rfl, fieldsOk_of (by kernel_rfl)⟩ rfl rfl rfl rfl (.inr ⟨rfl, rfl⟩) (by decide)
  · exact TI.mkOk (z := .agg #[.slice none 0 0, .bool false, .slice none 0 0, .slice none 0 0]) (by kernel_rfl) Try.underlying53 ⟨_, rfl, by kernel_rfl, fieldsOk_of (by kernel_rfl)⟩ rfl rfl rfl rfl (.inr ⟨rfl, rfl⟩) (by decide)
  · exact TI.mkOk (z := .nilFunc) (by kernel_rfl) Try.underlying54 trivial rfl rfl rfl rfl (.inl ⟨rfl, rfl, rfl⟩) (by decide)
  · exact TI.mkOk (z := .slice none 0 0) (by kernel_rfl) Try.underlying55 rfl rfl rfl rfl rfl (.inl ⟨rfl, rfl, rfl⟩) (by decide)
  · exact TI.mkOk (z := .nilFunc) (by kernel_rfl) Try.underlying56 trivial rfl rfl rfl rfl (.inl ⟨rfl, rfl, rfl⟩) (by decide)
  · exact TI.mkOk (z := .nilFunc) (by kernel_rfl) Try.underlying58 trivial rfl rfl rfl rfl (.inl ⟨rfl, rfl, rfl⟩) (by decide)
  · exact TI.mkOk (z := .nilFunc) (by kernel_rfl) Try.underlying59 trivial rfl rfl rfl rfl (.inl ⟨rfl, rfl, rfl⟩) (by decide)
  · exact TI.mkOk (z := .nilFunc) (by kernel_rfl) Try.underlying61 trivial rfl rfl rfl rfl (.inl ⟨rfl, rfl, rfl⟩) (by decide)
  · exact TI.mkOk (z := .nilFunc) (by kernel_rfl) Try.underlying62 trivial rfl rfl rfl rfl (.inl ⟨rfl, rfl, rfl⟩) (by decide)
  · exact TI.mkOk (z := .nilFunc) (by kernel_rfl) Try.underlying63 trivial rfl rfl rfl rfl (.inl ⟨rfl, rfl, rfl⟩) (by decide)
  · exact TI.mkOk (z := .nilFunc) (by kernel_rfl) Try.underlying64 trivial rfl rfl rfl rfl (.inl ⟨rfl, rfl, rfl⟩) (by decide)
  · exact TI.mkOk (z := .nilFunc) (by kernel_rfl) Try.underlying65 trivial rfl rfl rfl rfl (.inl ⟨rfl, rfl, rfl⟩) (by decide)
  · exact TI.mkOk (z := .agg #[.string ⟨#[]⟩, .string ⟨#[]⟩]) (by kernel_rfl) Try.underlying66 ⟨_, rfl, by kernel_rfl, fieldsOk_of (by kernel_rfl)⟩ rfl rfl rfl rfl (.inr ⟨rfl, rfl⟩) (by decide)
  · exact TI.mkOk (z := .agg #[.string ⟨#[]⟩, .string ⟨#[]⟩]) (by kernel_rfl) Try.underlying67 ⟨_, rfl, by kernel_rfl, fieldsOk_of (by kernel_rfl)⟩ rfl rfl rfl rfl (.inr ⟨rfl, rfl⟩) (by decide)
  · exact TI.mkOk (z := .nilFunc) (by kernel_rfl) Try.underlying68 trivial rfl rfl rfl rfl (.inl ⟨rfl, rfl, rfl⟩) (by decide)
  · exact TI.mkOk (z := .agg #[.int .i64 0, .string ⟨#[]⟩, .int .i64 0, .slice none 0 0, .string ⟨#[]⟩, .int .i64 0, .int .i64 0, .int .i64 0]) (by kernel_rfl) Try.underlying69 ⟨_, rfl, by kernel_rfl, fieldsOk_of (by kernel_rfl)⟩ rfl rfl rfl rfl (.inr ⟨rfl, rfl⟩) (by decide)
  · exact TI.mkOk (z := .agg #[.int .i64 0, .string ⟨#[]⟩, .int .i64 0, .slice none 0 0, .string ⟨#[]⟩, .int .i64 0, .int .i64 0, .int .i64 0]) (by kernel_rfl) Try.underlying70 ⟨_, rfl, by kernel_rfl, fieldsOk_of (by kernel_rfl)⟩ rfl rfl rfl rfl (.inr ⟨rfl, rfl⟩) (by decide)
  · exact TI.mkOk (z := .agg #[.string ⟨#[]⟩, .int .i64 0, .string ⟨#[]⟩, .int .i64 0, .slice none 0 0, .string ⟨#[]⟩, .int .i64 0, .int .i64 0, .int .i64 0, .bool false, .bool false, .int .i64 0]) (by kernel_rfl) Try.underlying71 ⟨_, rfl, by kernel_rfl, fieldsOk_of (by kernel_rfl)⟩ rfl rfl rfl rfl (.inr ⟨rfl, rfl⟩) (by decide)
  · exact TI.mkOk (z := .agg #[.string ⟨#[]⟩, .int .i64 0, .string ⟨#[]⟩, .int .i64 0, .slice none 0 0, .string ⟨#[]⟩, .int .i64 0, .int .i64 0, .int .i64 0, .bool false, .bool false, .int .i64 0]) (by kernel_rfl) Try.underlying72 ⟨_, rfl, by kernel_rfl, fieldsOk_of (by kernel_rfl)⟩ rfl rfl rfl rfl (.inr ⟨rfl, rfl⟩) (by decide)
  · exact TI.mkOk (z := .nilFunc) (by kernel_rfl) Try.underlying73 trivial rfl rfl rfl rfl (.inl ⟨rfl, rfl, rfl⟩) (by decide)
  · exact TI.mkOk (z := .map none) (by kernel_rfl) Try.underlying74 trivial rfl rfl rfl rfl (.inl ⟨rfl, rfl, rfl⟩) (by decide)
  · exact TI.mkOk (z := .nilFunc) (by kernel_rfl) Try.underlying75 trivial rfl rfl rfl rfl (.inl ⟨rfl, rfl, rfl⟩) (by decide)
  · exact TI.mkOk (z := .nilFunc) (by kernel_rfl) Try.underlying76 trivial rfl rfl rfl rfl (.inl ⟨rfl, rfl, rfl⟩) (by decide)
  · exact TI.mkOk (z := .nilFunc) (by kernel_rfl) Try.underlying77 trivial rfl rfl rfl rfl (.inl ⟨rfl, rfl, rfl⟩) (by decide)
  · exact TI.mkOk (z := .agg #[.int .i64 0, .slice none 0 0]) (by kernel_rfl) Try.underlying78 ⟨_, rfl, by kernel_rfl, fieldsOk_of (by kernel_rfl)⟩ rfl rfl rfl rfl (.inr ⟨rfl, rfl⟩) (by decide)
  · exact TI.mkOk (z := .agg #[.int .i64 0, .slice none 0 0]) (by kernel_rfl) Try.underlying79 ⟨_, rfl, by kernel_rfl, fieldsOk_of (by kernel_rfl)⟩ rfl rfl rfl rfl (.inr ⟨rfl, rfl⟩) (by decide)
  · exact TI.mkOk (z := .nilFunc) (by kernel_rfl) Try.underlying81 trivial rfl rfl rfl rfl (.inl ⟨rfl, rfl, rfl⟩) (by decide)
  · exact TI.mkOk (z := .nilFunc) (by kernel_rfl) Try.underlying82 trivial rfl rfl rfl rfl (.inl ⟨rfl, rfl, rfl⟩) (by decide)
  · exact TI.mkOk (z := .nilFunc) (by kernel_rfl) Try.underlying83 trivial rfl rfl rfl rfl (.inl ⟨rfl, rfl, rfl⟩) (by decide)
  · exact TI.mkOk (z := .nilFunc) (by kernel_rfl) Try.underlying84 trivial rfl rfl rfl rfl (.inl ⟨rfl, rfl, rfl⟩) (by decide)
  · exact TI.mkOk (z := .nilFunc) (by kernel_rfl) Try.underlying85 trivial rfl rfl rfl rfl (.inl ⟨rfl, rfl, rfl⟩) (by decide)
  · exact TI.mkOk (z := .nilFunc) (by kernel_rfl) Try.underlying86 trivial rfl rfl rfl rfl (.inl ⟨rfl, rfl, rfl⟩) (by decide)
  · exact TI.mkOk (z := .nilFunc) (by kernel_rfl) Try.underlying87 trivial rfl rfl rfl rfl (.inl ⟨rfl, rfl, rfl⟩) (by decide)
  · exact TI.mkOk (z := .nilFunc) (by kernel_rfl) Try.underlying88 trivial rfl rfl rfl rfl (.inl ⟨rfl, rfl, rfl⟩) (by decide)
  · exact TI.mkOk (z := .nilFunc) (by kernel_rfl) Try.underlying89 trivial rfl rfl rfl rfl (.inl ⟨rfl, rfl, rfl⟩) (by decide)
  · exact TI.mkOk (z := .nilFunc) (by kernel_rfl) Try.underlying90 trivial rfl rfl rfl rfl (.inl ⟨rfl, rfl, rfl⟩) (by decide)
  · exact TI.mkOk (z := .nilFunc) (by kernel_rfl) Try.underlying91 trivial rfl rfl rfl rfl (.inl ⟨rfl, rfl, rfl⟩) (by decide)
  · exact TI.mkOk (z := .nilFunc) (by kernel_rfl) Try.underlying92 trivial rfl rfl rfl rfl (.inl ⟨rfl, rfl, rfl⟩) (by decide)
  · exact TI.mkOk (z := .nilFunc) (by kernel_rfl) Try.underlying93 trivial rfl rfl rfl rfl (.inl ⟨rfl, rfl, rfl⟩) (by decide)
  · exact TI.mkOk (z := .nilFunc) (by kernel_rfl) Try.underlying94 trivial rfl rfl rfl rfl (.inl ⟨rfl, rfl, rfl⟩) (by decide)
  · exact TI.mkOk (z := .nilFunc) (by kernel_rfl) Try.underlying95 trivial rfl rfl rfl rfl (.inl ⟨rfl, rfl, rfl⟩) (by decide)
  · exact TI.mkOk (z := .map none) (by kernel_rfl) Try.underlying96 trivial rfl rfl rfl rfl (.inl ⟨rfl, rfl, rfl⟩) (by decide)
  · exact TI.mkOk (z := .nilFunc) (by kernel_rfl) Try.underlying97 trivial rfl rfl rfl rfl (.inl ⟨rfl, rfl, rfl⟩) (by decide)
  · exact TI.mkOk (z := .nilFunc) (by kernel_rfl) Try.underlying98 trivial rfl rfl rfl rfl (.inl ⟨rfl, rfl, rfl⟩) (by decide)
  · exact TI.mkOk (z := .nilFunc) (by kernel_rfl) Try.underlying99 trivial rfl rfl rfl rfl (.inl ⟨rfl, rfl, rfl⟩) (by decide)
  · exact TI.mkOk (z := .nilFunc) (by kernel_rfl) Try.underlying100 trivial rfl rfl rfl rfl (.inl ⟨rfl, rfl, rfl⟩) (by decide)
  · exact TI.mkOk (z := .pointer none) (by kernel_rfl) Try.underlying101 trivial rfl rfl rfl rfl (.inl ⟨rfl, rfl, rfl⟩) (by decide)
  · exact TI.mkOk (z := .agg #[.slice none 0 0, .slice none 0 0]) (by kernel_rfl) Try.underlying102 ⟨_, rfl, by kernel_rfl, fieldsOk_of (by kernel_rfl)⟩ rfl rfl rfl rfl (.inr ⟨rfl, rfl⟩) (by decide)
  · exact TI.mkOk (z := .agg #[.slice none 0 0, .slice none 0 0]) (by kernel_rfl) Try.underlying103 ⟨_, rfl, by kernel_rfl, fieldsOk_of (by kernel_rfl)⟩ rfl rfl rfl rfl (.inr ⟨rfl, rfl⟩) (by decide)
  · exact TI.mkOk (z := .nilFunc) (by kernel_rfl) Try.underlying104 trivial rfl rfl rfl rfl (.inl ⟨rfl, rfl, rfl⟩) (by decide)
  · exact TI.mkOk (z := .pointer none) (by kernel_rfl) Try.underlying105 trivial rfl rfl rfl rfl (.inl ⟨rfl, rfl, rfl⟩) (by decide)
  · exact TI.mkOk (z := .map none) (by kernel_rfl) Try.underlying106 trivial rfl rfl rfl rfl (.inl ⟨rfl, rfl, rfl⟩) (by decide)
  · exact TI.mkOk (z := .slice none 0 0) (by kernel_rfl) Try.underlying107 rfl rfl rfl rfl rfl (.inl ⟨rfl, rfl, rfl⟩) (by decide)
  · exact TI.mkOk (z := .agg #[.slice none 0 0, .bool false, .map none, .map none, .int .i64 0]) (by kernel_rfl) Try.underlying108 ⟨_, rfl, by kernel_rfl, fieldsOk_of (by kernel_rfl)⟩ rfl rfl rfl rfl (.inr ⟨rfl, rfl⟩) (by decide)
  · exact TI.mkOk (z := .agg #[.slice none 0 0, .bool false, .map none, .map none, .int .i64 0]) (by kernel_rfl) Try.underlying109 ⟨_, rfl, by kernel_rfl, fieldsOk_of (by kernel_rfl)⟩ rfl rfl rfl rfl (.inr ⟨rfl, rfl⟩) (by decide)
  · exact TI.mkOk (z := .nilFunc) (by kernel_rfl) Try.underlying110 trivial rfl rfl rfl rfl (.inl ⟨rfl, rfl, rfl⟩) (by decide)
  · exact TI.mkOk (z := .nilFunc) (by kernel_rfl) Try.underlying111 trivial rfl rfl rfl rfl (.inl ⟨rfl, rfl, rfl⟩) (by decide)
  · exact TI.mkOk (z := .nilFunc) (by kernel_rfl) Try.underlying112 trivial rfl rfl rfl rfl (.inl ⟨rfl, rfl, rfl⟩) (by decide)
  · exact TI.mkOk (z := .nilFunc) (by kernel_rfl) Try.underlying113 trivial rfl rfl rfl rfl (.inl ⟨rfl, rfl, rfl⟩) (by decide)
  · exact TI.mkOk (z := .nilFunc) (by kernel_rfl) Try.underlying114 trivial rfl rfl rfl rfl (.inl ⟨rfl, rfl, rfl⟩) (by decide)
  · exact TI.mkOk (z := .nilFunc) (by kernel_rfl) Try.underlying115 trivial rfl rfl rfl rfl (.inl ⟨rfl, rfl, rfl⟩) (by decide)
  · exact TI.mkOk (z := .nilFunc) (by kernel_rfl) Try.underlying116 trivial rfl rfl rfl rfl (.inl ⟨rfl, rfl, rfl⟩) (by decide)
  · exact TI.mkOk (z := .nilFunc) (by kernel_rfl) Try.underlying117 trivial rfl rfl rfl rfl (.inl ⟨rfl, rfl, rfl⟩) (by decide)
  · exact TI.mkOk (z := .nilFunc) (by kernel_rfl) Try.underlying118 trivial rfl rfl rfl rfl (.inl ⟨rfl, rfl, rfl⟩) (by decide)
  · exact TI.mkOk (z := .nilFunc) (by kernel_rfl) Try.underlying119 trivial rfl rfl rfl rfl (.inl ⟨rfl, rfl, rfl⟩) (by decide)
  · exact TI.mkOk (z := .nilFunc) (by kernel_rfl) Try.underlying121 trivial rfl rfl rfl rfl (.inl ⟨rfl, rfl, rfl⟩) (by decide)
  · exact TI.mkOk (z := .nilFunc) (by kernel_rfl) Try.underlying122 trivial rfl rfl rfl rfl (.inl ⟨rfl, rfl, rfl⟩) (by decide)
  · exact TI.mkOk (z := .nilFunc) (by kernel_rfl) Try.underlying123 trivial rfl rfl rfl rfl (.inl ⟨rfl, rfl, rfl⟩) (by decide)
  · exact TI.mkOk (z := .nilFunc) (by kernel_rfl) Try.underlying124 trivial rfl rfl rfl rfl (.inl ⟨rfl, rfl, rfl⟩) (by decide)
  · exact TI.mkOk (z := .nilFunc) (by kernel_rfl) Try.underlying125 trivial rfl rfl rfl rfl (.inl ⟨rfl, rfl, rfl⟩) (by decide)
  · exact TI.mkOk (z := .nilFunc) (by kernel_rfl) Try.underlying126 trivial rfl rfl rfl rfl (.inl ⟨rfl, rfl, rfl⟩) (by decide)
  · exact TI.mkOk (z := .pointer none) (by kernel_rfl) Try.underlying127 trivial rfl rfl rfl rfl (.inl ⟨rfl, rfl, rfl⟩) (by decide)
  · exact TI.mkOk (z := .slice none 0 0) (by kernel_rfl) Try.underlying128 rfl rfl rfl rfl rfl (.inl ⟨rfl, rfl, rfl⟩) (by decide)
  · exact TI.mkOk (z := .agg #[.pointer none, .slice none 0 0]) (by kernel_rfl) Try.underlying129 ⟨_, rfl, by kernel_rfl, fieldsOk_of (by kernel_rfl)⟩ rfl rfl rfl rfl (.inr ⟨rfl, rfl⟩) (by decide)
  · exact TI.mkOk (z := .agg #[.pointer none, .slice none 0 0]) (by kernel_rfl) Try.underlying130 ⟨_, rfl, by kernel_rfl, fieldsOk_of (by kernel_rfl)⟩ rfl rfl rfl rfl (.inr ⟨rfl, rfl⟩) (by decide)
  · exact TI.mkOk (z := .nilFunc) (by kernel_rfl) Try.underlying131 trivial rfl rfl rfl rfl (.inl ⟨rfl, rfl, rfl⟩) (by decide)
  · exact TI.mkOk (z := .nilIface) (by kernel_rfl) Try.underlying132 trivial rfl rfl rfl rfl (.inl ⟨rfl, rfl, rfl⟩) (by decide)
  · exact TI.mkOk (z := .nilIface) (by kernel_rfl) Try.underlying133 trivial rfl rfl rfl rfl (.inl ⟨rfl, rfl, rfl⟩) (by decide)
  · exact TI.mkOk (z := .nilFunc) (by kernel_rfl) Try.underlying135 trivial rfl rfl rfl rfl (.inl ⟨rfl, rfl, rfl⟩) (by decide)
  · exact TI.mkOk (z := .nilFunc) (by kernel_rfl) Try.underlying136 trivial rfl rfl rfl rfl (.inl ⟨rfl, rfl, rfl⟩) (by decide)
  · exact TI.mkOk (z := .slice none 0 0) (by kernel_rfl) Try.underlying137 rfl rfl rfl rfl rfl (.inl ⟨rfl, rfl, rfl⟩) (by decide)
  · exact TI.mkOk (z := .nilFunc) (by kernel_rfl) Try.underlying138 trivial rfl rfl rfl rfl (.inl ⟨rfl, rfl, rfl⟩) (by decide)
  · exact TI.mkOk (z := .nilFunc) (by kernel_rfl) Try.underlying139 trivial rfl rfl rfl rfl (.inl ⟨rfl, rfl, rfl⟩) (by decide)
  · exact TI.mkOk (z := .nilFunc) (by kernel_rfl) Try.underlying140 trivial rfl rfl rfl rfl (.inl ⟨rfl, rfl, rfl⟩) (by decide)
  · exact TI.mkOk (z := .nilFunc) (by kernel_rfl) Try.underlying141 trivial rfl rfl rfl rfl (.inl ⟨rfl, rfl, rfl⟩) (by decide)
  · exact TI.mkOk (z := .nilFunc) (by kernel_rfl) Try.underlying142 trivial rfl rfl rfl rfl (.inl ⟨rfl, rfl, rfl⟩) (by decide)
  · exact TI.mkOk (z := .nilFunc) (by kernel_rfl) Try.underlying143 trivial rfl rfl rfl rfl (.inl ⟨rfl, rfl, rfl⟩) (by decide)
  · exact TI.mkOk (z := .nilFunc) (by kernel_rfl) Try.underlying144 trivial rfl rfl rfl rfl (.inl ⟨rfl, rfl, rfl⟩) (by decide)
  · exact TI.mkOk (z := .agg #[.int .i64 0, .string ⟨#[]⟩]) (by kernel_rfl) Try.underlying145 ⟨_, rfl, by kernel_rfl, fieldsOk_of (by kernel_rfl)⟩ rfl rfl rfl rfl (.inr ⟨rfl, rfl⟩) (by decide)
  · exact TI.mkOk (z := .agg #[.int .i64 0, .string ⟨#[]⟩]) (by kernel_rfl) Try.underlying146 ⟨_, rfl, by kernel_rfl, fieldsOk_of (by kernel_rfl)⟩ rfl rfl rfl rfl (.inr ⟨rfl, rfl⟩) (by decide)
  · exact TI.mkOk (z := .pointer none) (by kernel_rfl) Try.underlying147 trivial rfl rfl rfl rfl (.inl ⟨rfl, rfl, rfl⟩) (by decide)
  · exact TI.mkOk (z := .pointer none) (by kernel_rfl) Try.underlying148 trivial rfl rfl rfl rfl (.inl ⟨rfl, rfl, rfl⟩) (by decide)
  · exact TI.mkOk (z := .nilFunc) (by kernel_rfl) Try.underlying149 trivial rfl rfl rfl rfl (.inl ⟨rfl, rfl, rfl⟩) (by decide)
  · exact TI.mkOk (z := .nilFunc) (by kernel_rfl) Try.underlying150 trivial rfl rfl rfl rfl (.inl ⟨rfl, rfl, rfl⟩) (by decide)
  · exact TI.mkOk (z := .nilFunc) (by kernel_rfl) Try.underlying152 trivial rfl rfl rfl rfl (.inl ⟨rfl, rfl, rfl⟩) (by decide)
  · exact TI.mkOk (z := .nilFunc) (by kernel_rfl) Try.underlying153 trivial rfl rfl rfl rfl (.inl ⟨rfl, rfl, rfl⟩) (by decide)
  · exact TI.mkOk (z := .nilFunc) (by kernel_rfl) Try.underlying159 trivial rfl rfl rfl rfl (.inl ⟨rfl, rfl, rfl⟩) (by decide)
  · exact TI.mkOk (z := .int .u32 0) (by kernel_rfl) Try.underlying160 rfl rfl rfl rfl rfl (.inl ⟨rfl, rfl, rfl⟩) (by decide)
  · exact TI.mkOk (z := .nilFunc) (by kernel_rfl) Try.underlying163 trivial rfl rfl rfl rfl (.inl ⟨rfl, rfl, rfl⟩) (by decide)
  · exact TI.mkOk (z := .agg #[.int .u64 0, .int .u64 0, .int .u32 0, .int .u8 0, .int .u8 0, .int .u8 0, .int .u8 0, .nilFunc, .pointer none, .int .i32 0, .int .i32 0]) (by kernel_rfl) Try.underlying166 ⟨_, rfl, by kernel_rfl, fieldsOk_of (by kernel_rfl)⟩ rfl rfl rfl rfl (.inr ⟨rfl, rfl⟩) (by decide)
end Go.Proofs.Ythhpofehcnjmmaa.Am
/- The attributes: strings compared, small functions of the library. -/
set_option linter.unusedSimpArgs false
set_option linter.unusedVariables false
namespace Go.Proofs.Ythhpofehcnjmmaa.Am
open Go.RowKit Lw At

def atR (x : At.At) (j : Nat) : DC := match j with
  | 0 => .c (.string x.1)
  | _ => .c (.string x.2)
abbrev atC (l : List At.At) : Ct := listC atR d0 l
abbrev atA (x : At.At) : List A1 := [.c (.string x.1), .c (.string x.2)]

set_option maxRecDepth 20000 in
theorem isNaN_c (s : ByteArray) : Con Try.prog 106 [.o (.c (.string s))] [] 0 0 U (fun _ => .o (.c (.bool false))) G0 := by
  refine con_of Try.func106 rfl (by kernel_rfl) Try.ntmps106 rfl (by first | exact Nat.zero_le _ | decide) (fun _ => ⟨rfl, rfl⟩) fun w S ν => ?_
  (repeat' (first|(with_reducible refine AllP.go ?_;(first|exact trivial|exact fun i _ => ⟨_, rfl⟩|((try simp only [OS]);repeat' (first|omega|exact fun i _ => ⟨_, rfl⟩|refine And.intro ?_ ?_))))|(refine TE.rgo tysOk rfl (by rfl) ?_ ?_)|(with_reducible first|refine stp ?_|refine tD rfl ?_)|(with_reducible first|exact PanicOk.body|exact rd.panic|refine PanicOk.then' ?_|refine PanicOk.block ?_|refine PanicOk.jump ?_)|(refine TE.drawC (by rfl) (by rfl) (by rfl) (by rfl) ?_)|(refine TE.drawN (by rfl) (by rfl) (by rfl) ?_)|(refine TL.done (by rfl) ?_)|(refine TL.auto tysOk rfl ?_ (by rfl) ?_ ?_)|((refine TL.one (by rfl) ?_);first|(refine StepL.mem tysOk rfl rfl rfl rfl (by rfl) ?_ (by rfl) ?_)|(refine StepL.pure tysOk rfl rfl rfl rfl (by rfl) ?_ (by rfl) ?_))|(refine StepL.mem tysOk rfl rfl rfl rfl (by rfl) ?_ (by rfl) ?_)|refine TE.cond_true (by rfl) ?_|refine TE.cond_false (by rfl) ?_|((first|refine TE.gsplit (by rfl) (by rfl) ?_ ?_|refine TL.gsplit (by rfl) (by rfl) ?_ ?_|refine TE.cond_split (by rfl) ?_ ?_)<;>intro h<;>(try simp only [NS] at h)<;>(try (exfalso;first|omega|exact h trivial|exact h|exact h rfl|contradiction))<;>(try refine TE.run tysOk rfl (by rfl) ?_ ?_))))
  (refine TE.ret' (by first|exact .inl rfl|exact .inr rfl) rfl tysOk (()) ?_ rfl (by rfl) ?_;all_goals (try (first|exact trivial|((with_reducible refine AllP.go ?_);dsimp only [AllP, appP];repeat' (first|with_reducible rfl|with_reducible exact LeD.refl|refine And.intro ?_ ?_|(refine congrArg (Value.int _) ?_;first|omega|rfl|(simp only [Int.toNat_natCast];omega))|rfl|(refine congrArg Value.bool ?_;assumption)|exact LeD.refl)))))
  simp
set_option maxRecDepth 20000 in
theorem cmp_c (s t : ByteArray) : Con Try.prog 88 [.o (.c (.string s)), .o (.c (.string t))] [] 0 0 U (fun _ => .o (.c (.int .i64 (cmpI s t)))) G0 := by
  refine con_of Try.func88 rfl (by kernel_rfl) Try.ntmps88 rfl (by first | exact Nat.zero_le _ | decide) (fun _ => ⟨rfl, rfl⟩) fun w S ν => ?_
  (repeat' (first|(with_reducible refine AllP.go ?_;(first|exact trivial|exact fun i _ => ⟨_, rfl⟩|((try simp only [OS]);repeat' (first|omega|exact fun i _ => ⟨_, rfl⟩|refine And.intro ?_ ?_))))|(refine TE.rgo tysOk rfl (by rfl) ?_ ?_)|(with_reducible first|refine stp ?_|refine tD rfl ?_)|(with_reducible first|exact PanicOk.body|exact rd.panic|refine PanicOk.then' ?_|refine PanicOk.block ?_|refine PanicOk.jump ?_)|(refine TE.drawC (by rfl) (by rfl) (by rfl) (by rfl) ?_)|(refine TE.drawN (by rfl) (by rfl) (by rfl) ?_)|(refine TL.done (by rfl) ?_)|(refine TL.auto tysOk rfl ?_ (by rfl) ?_ ?_)|((refine TL.one (by rfl) ?_);first|(refine StepL.mem tysOk rfl rfl rfl rfl (by rfl) ?_ (by rfl) ?_)|(refine StepL.pure tysOk rfl rfl rfl rfl (by rfl) ?_ (by rfl) ?_))|(refine StepL.mem tysOk rfl rfl rfl rfl (by rfl) ?_ (by rfl) ?_)|refine TE.cond_true (by rfl) ?_|refine TE.cond_false (by rfl) ?_|((first|refine TE.gsplit (by rfl) (by rfl) ?_ ?_|refine TL.gsplit (by rfl) (by rfl) ?_ ?_|refine TE.cond_split (by rfl) ?_ ?_)<;>intro h<;>(try simp only [NS] at h)<;>(try (exfalso;first|omega|exact h trivial|exact h|exact h rfl|contradiction))<;>(try refine TE.run tysOk rfl (by rfl) ?_ ?_))))
  refine TE.callW (isNaN_c s) rfl (by rfl) (by rfl) rfl (by rfl) (by (first|exact trivial|((with_reducible refine AllP.go ?_);dsimp only [AllP, appP];repeat' (first|with_reducible rfl|with_reducible exact LeD.refl|refine And.intro ?_ ?_|(refine congrArg (Value.int _) ?_;first|omega|rfl|(simp only [Int.toNat_natCast];omega))|rfl|(refine congrArg Value.bool ?_;assumption)|assumption|exact LeD.refl)))) ?_
  intro _ _
  ((refine TE.run tysOk rfl (by rfl) ?_ ?_);(repeat (first|(with_reducible refine AllP.go ?_;(first|exact trivial|exact fun i _ => ⟨_, rfl⟩|((try simp only [OS]);repeat' (first|omega|exact fun i _ => ⟨_, rfl⟩|refine And.intro ?_ ?_))))|(refine TE.rgo tysOk rfl (by rfl) ?_ ?_)|(with_reducible first|refine stp ?_|refine tD rfl ?_)|(with_reducible first|exact PanicOk.body|exact rd.panic|refine PanicOk.then' ?_|refine PanicOk.block ?_|refine PanicOk.jump ?_)|(refine TE.drawC (by rfl) (by rfl) (by rfl) (by rfl) ?_)|(refine TE.drawN (by rfl) (by rfl) (by rfl) ?_)|(refine TL.done (by rfl) ?_)|(refine TL.auto tysOk rfl ?_ (by rfl) ?_ ?_)|((refine TL.one (by rfl) ?_);first|(refine StepL.mem tysOk rfl rfl rfl rfl (by rfl) ?_ (by rfl) ?_)|(refine StepL.pure tysOk rfl rfl rfl rfl (by rfl) ?_ (by rfl) ?_))|(refine StepL.mem tysOk rfl rfl rfl rfl (by rfl) ?_ (by rfl) ?_)|refine TE.cond_true (by rfl) ?_|refine TE.cond_false (by rfl) ?_)))
  refine TE.callW (isNaN_c t) rfl (by rfl) (by rfl) rfl (by rfl) (by (first|exact trivial|((with_reducible refine AllP.go ?_);dsimp only [AllP, appP];repeat' (first|with_reducible rfl|with_reducible exact LeD.refl|refine And.intro ?_ ?_|(refine congrArg (Value.int _) ?_;first|omega|rfl|(simp only [Int.toNat_natCast];omega))|rfl|(refine congrArg Value.bool ?_;assumption)|assumption|exact LeD.refl)))) ?_
  intro _ _
  ((refine TE.run tysOk rfl (by rfl) ?_ ?_);(repeat' (first|(with_reducible refine AllP.go ?_;(first|exact trivial|exact fun i _ => ⟨_, rfl⟩|((try simp only [OS]);repeat' (first|omega|exact fun i _ => ⟨_, rfl⟩|refine And.intro ?_ ?_))))|(refine TE.rgo tysOk rfl (by rfl) ?_ ?_)|(with_reducible first|refine stp ?_|refine tD rfl ?_)|(with_reducible first|exact PanicOk.body|exact rd.panic|refine PanicOk.then' ?_|refine PanicOk.block ?_|refine PanicOk.jump ?_)|(refine TE.drawC (by rfl) (by rfl) (by rfl) (by rfl) ?_)|(refine TE.drawN (by rfl) (by rfl) (by rfl) ?_)|(refine TL.done (by rfl) ?_)|(refine TL.auto tysOk rfl ?_ (by rfl) ?_ ?_)|((refine TL.one (by rfl) ?_);first|(refine StepL.mem tysOk rfl rfl rfl rfl (by rfl) ?_ (by rfl) ?_)|(refine StepL.pure tysOk rfl rfl rfl rfl (by rfl) ?_ (by rfl) ?_))|(refine StepL.mem tysOk rfl rfl rfl rfl (by rfl) ?_ (by rfl) ?_)|refine TE.cond_true (by rfl) ?_|refine TE.cond_false (by rfl) ?_|((first|refine TE.gsplit (by rfl) (by rfl) ?_ ?_|refine TL.gsplit (by rfl) (by rfl) ?_ ?_|refine TE.cond_split (by rfl) ?_ ?_)<;>intro h<;>(try simp only [NS] at h)<;>(try (exfalso;first|omega|exact h trivial|exact h|exact h rfl|contradiction))<;>(try refine TE.run tysOk rfl (by rfl) ?_ ?_)))))
  all_goals ((refine TE.ret' (by first|exact .inl rfl|exact .inr rfl) rfl tysOk (()) ?_ rfl (by rfl) ?_;all_goals (try (first|exact trivial|((with_reducible refine AllP.go ?_);dsimp only [AllP, appP];repeat' (first|with_reducible rfl|with_reducible exact LeD.refl|refine And.intro ?_ ?_|(refine congrArg (Value.int _) ?_;first|omega|rfl|(simp only [Int.toNat_natCast];omega))|rfl|(refine congrArg Value.bool ?_;assumption)|exact LeD.refl)))));unfold cmpI ltS;simp_all)
set_option maxRecDepth 20000 in
theorem Clone_c (n : Nat) (cell : Nat → Nat → DC) (hn : n ≤ 1000000) : Con Try.prog 65 [.o (.ro 2 n cell)] [] 0 1 U (fun _ => .o (.own 0)) (fun _ => [.own 0 67 2 ⟨n, cell⟩]) := by
  refine con_of Try.func65 rfl (by kernel_rfl) Try.ntmps65 rfl (by first | exact Nat.zero_le _ | decide) (fun _ => ⟨rfl, rfl⟩) fun w S ν => ?_
  (repeat' (first|(with_reducible refine AllP.go ?_;(first|exact trivial|exact fun i _ => ⟨_, rfl⟩|((try simp only [OS]);repeat' (first|omega|exact fun i _ => ⟨_, rfl⟩|refine And.intro ?_ ?_))))|(refine TE.rgo tysOk rfl (by rfl) ?_ ?_)|(with_reducible first|refine stp ?_|refine tD rfl ?_)|(with_reducible first|exact PanicOk.body|exact rd.panic|refine PanicOk.then' ?_|refine PanicOk.block ?_|refine PanicOk.jump ?_)|(refine TE.drawC (by rfl) (by rfl) (by rfl) (by rfl) ?_)|(refine TE.drawN (by rfl) (by rfl) (by rfl) ?_)|(refine TL.done (by rfl) ?_)|(refine TL.auto tysOk rfl ?_ (by rfl) ?_ ?_)|((refine TL.one (by rfl) ?_);first|(refine StepL.mem tysOk rfl rfl rfl rfl (by rfl) ?_ (by rfl) ?_)|(refine StepL.pure tysOk rfl rfl rfl rfl (by rfl) ?_ (by rfl) ?_))|(refine StepL.mem tysOk rfl rfl rfl rfl (by rfl) ?_ (by rfl) ?_)|refine TE.cond_true (by rfl) ?_|refine TE.cond_false (by rfl) ?_|((first|refine TE.gsplit (by rfl) (by rfl) ?_ ?_|refine TL.gsplit (by rfl) (by rfl) ?_ ?_|refine TE.cond_split (by rfl) ?_ ?_)<;>intro h<;>(try simp only [NS] at h)<;>(try (exfalso;first|omega|exact h trivial|exact h|exact h rfl|contradiction))<;>(try refine TE.run tysOk rfl (by rfl) ?_ ?_))))
  (refine TE.step rfl rfl rfl (fun _ h => nomatch h) (m_isnil tysOk rfl (by first | exact .inl rfl | exact .inr rfl) rfl rfl rfl) ?_; rintro _ ⟨b, hb, rfl⟩; cases b)
  · ((refine TE.run tysOk rfl (by rfl) ?_ ?_);(repeat' (first|(with_reducible refine AllP.go ?_;(first|exact trivial|exact fun i _ => ⟨_, rfl⟩|((try simp only [OS]);repeat' (first|omega|exact fun i _ => ⟨_, rfl⟩|refine And.intro ?_ ?_))))|(refine TE.rgo tysOk rfl (by rfl) ?_ ?_)|(with_reducible first|refine stp ?_|refine tD rfl ?_)|(with_reducible first|exact PanicOk.body|exact rd.panic|refine PanicOk.then' ?_|refine PanicOk.block ?_|refine PanicOk.jump ?_)|(refine TE.drawC (by rfl) (by rfl) (by rfl) (by rfl) ?_)|(refine TE.drawN (by rfl) (by rfl) (by rfl) ?_)|(refine TL.done (by rfl) ?_)|(refine TL.auto tysOk rfl ?_ (by rfl) ?_ ?_)|((refine TL.one (by rfl) ?_);first|(refine StepL.mem tysOk rfl rfl rfl rfl (by rfl) ?_ (by rfl) ?_)|(refine StepL.pure tysOk rfl rfl rfl rfl (by rfl) ?_ (by rfl) ?_))|(refine StepL.mem tysOk rfl rfl rfl rfl (by rfl) ?_ (by rfl) ?_)|refine TE.cond_true (by rfl) ?_|refine TE.cond_false (by rfl) ?_|((first|refine TE.gsplit (by rfl) (by rfl) ?_ ?_|refine TL.gsplit (by rfl) (by rfl) ?_ ?_|refine TE.cond_split (by rfl) ?_ ?_)<;>intro h<;>(try simp only [NS] at h)<;>(try (exfalso;first|omega|exact h trivial|exact h|exact h rfl|contradiction))<;>(try refine TE.run tysOk rfl (by rfl) ?_ ?_)))))
    (refine TE.ret' (by first|exact .inl rfl|exact .inr rfl) rfl tysOk (()) ?_ rfl (by rfl) ?_;all_goals (try (first|exact trivial|((with_reducible refine AllP.go ?_);dsimp only [AllP, appP];repeat' (first|with_reducible rfl|with_reducible exact LeD.refl|refine And.intro ?_ ?_|(refine congrArg (Value.int _) ?_;first|omega|rfl|(simp only [Int.toNat_natCast];omega))|rfl|(refine congrArg Value.bool ?_;assumption)|exact LeD.refl)))))
    exact litnil_app 2 _
  · obtain rfl := hb rfl
    ((refine TE.run tysOk rfl (by rfl) ?_ ?_);(repeat' (first|(with_reducible refine AllP.go ?_;(first|exact trivial|exact fun i _ => ⟨_, rfl⟩|((try simp only [OS]);repeat' (first|omega|exact fun i _ => ⟨_, rfl⟩|refine And.intro ?_ ?_))))|(refine TE.rgo tysOk rfl (by rfl) ?_ ?_)|(with_reducible first|refine stp ?_|refine tD rfl ?_)|(with_reducible first|exact PanicOk.body|exact rd.panic|refine PanicOk.then' ?_|refine PanicOk.block ?_|refine PanicOk.jump ?_)|(refine TE.drawC (by rfl) (by rfl) (by rfl) (by rfl) ?_)|(refine TE.drawN (by rfl) (by rfl) (by rfl) ?_)|(refine TL.done (by rfl) ?_)|(refine TL.auto tysOk rfl ?_ (by rfl) ?_ ?_)|((refine TL.one (by rfl) ?_);first|(refine StepL.mem tysOk rfl rfl rfl rfl (by rfl) ?_ (by rfl) ?_)|(refine StepL.pure tysOk rfl rfl rfl rfl (by rfl) ?_ (by rfl) ?_))|(refine StepL.mem tysOk rfl rfl rfl rfl (by rfl) ?_ (by rfl) ?_)|refine TE.cond_true (by rfl) ?_|refine TE.cond_false (by rfl) ?_|((first|refine TE.gsplit (by rfl) (by rfl) ?_ ?_|refine TL.gsplit (by rfl) (by rfl) ?_ ?_|refine TE.cond_split (by rfl) ?_ ?_)<;>intro h<;>(try simp only [NS] at h)<;>(try (exfalso;first|omega|exact h trivial|exact h|exact h rfl|contradiction))<;>(try refine TE.run tysOk rfl (by rfl) ?_ ?_)))))
    refine TE.nilOwn 2 67 2 (by rfl) ?_
    (refine TE.ret' (by first|exact .inl rfl|exact .inr rfl) rfl tysOk (()) ?_ rfl (by rfl) ?_;all_goals (try (first|exact trivial|((with_reducible refine AllP.go ?_);dsimp only [AllP, appP];repeat' (first|with_reducible rfl|with_reducible exact LeD.refl|refine And.intro ?_ ?_|(refine congrArg (Value.int _) ?_;first|omega|rfl|(simp only [Int.toNat_natCast];omega))|rfl|(refine congrArg Value.bool ?_;assumption)|exact LeD.refl)))))
    exact LeD.zero rfl rfl
end Go.Proofs.Ythhpofehcnjmmaa.Am
/- The attributes: Insert and Delete of the library. -/
set_option linter.unusedSimpArgs false
set_option linter.unusedVariables false
namespace Go.Proofs.Ythhpofehcnjmmaa.Am
open Go.RowKit Lw At
end Go.Proofs.Ythhpofehcnjmmaa.Am
/- The attributes: names, the program. -/
set_option linter.unusedSimpArgs false
set_option linter.unusedVariables false
namespace Go.Proofs.Ythhpofehcnjmmaa.Am
open Go.RowKit Lw At

set_option maxRecDepth 20000 in
theorem nm1_c (c : Int) : Con Try.prog 115 [.o (.c (.int .i32 c))] [] 0 0 U (fun _ => .o (.sb (decide (c < 33 ∨ 126 < c)))) G0 := by
  refine con_of Try.func115 rfl (by kernel_rfl) Try.ntmps115 rfl (by first | exact Nat.zero_le _ | decide) (fun _ => ⟨rfl, rfl⟩) fun w S ν => ?_
  (repeat' (first|(with_reducible refine AllP.go ?_;(first|exact trivial|exact fun i _ => ⟨_, rfl⟩|((try simp only [OS]);repeat' (first|omega|exact fun i _ => ⟨_, rfl⟩|refine And.intro ?_ ?_))))|(refine TE.rgo tysOk rfl (by rfl) ?_ ?_)|(with_reducible first|refine stp ?_|refine tD rfl ?_)|(with_reducible first|exact PanicOk.body|exact rd.panic|refine PanicOk.then' ?_|refine PanicOk.block ?_|refine PanicOk.jump ?_)|(refine TE.drawC (by rfl) (by rfl) (by rfl) (by rfl) ?_)|(refine TE.drawN (by rfl) (by rfl) (by rfl) ?_)|(refine TL.done (by rfl) ?_)|(refine TL.auto tysOk rfl ?_ (by rfl) ?_ ?_)|((refine TL.one (by rfl) ?_);first|(refine StepL.mem tysOk rfl rfl rfl rfl (by rfl) ?_ (by rfl) ?_)|(refine StepL.pure tysOk rfl rfl rfl rfl (by rfl) ?_ (by rfl) ?_))|(refine StepL.mem tysOk rfl rfl rfl rfl (by rfl) ?_ (by rfl) ?_)|refine TE.cond_true (by rfl) ?_|refine TE.cond_false (by rfl) ?_|((first|refine TE.gsplit (by rfl) (by rfl) ?_ ?_|refine TL.gsplit (by rfl) (by rfl) ?_ ?_|refine TE.cond_split (by rfl) ?_ ?_)<;>intro h<;>(try simp only [NS] at h)<;>(try (exfalso;first|omega|exact h trivial|exact h|exact h rfl|contradiction))<;>(try refine TE.run tysOk rfl (by rfl) ?_ ?_))))
  all_goals ((refine TE.ret' (by first|exact .inl rfl|exact .inr rfl) rfl tysOk (()) ?_ rfl (by rfl) ?_;all_goals (try (first|exact trivial|((with_reducible refine AllP.go ?_);dsimp only [AllP, appP];repeat' (first|with_reducible rfl|with_reducible exact LeD.refl|refine And.intro ?_ ?_|(refine congrArg (Value.int _) ?_;first|omega|rfl|(simp only [Int.toNat_natCast];omega))|rfl|(refine congrArg Value.bool ?_;assumption)|exact LeD.refl)))));first|(refine congrArg Value.bool (Eq.symm (decide_eq_true ?_));omega)|(simp only [decide_eq_decide];omega)|skip)
theorem any_getD {p : UInt8 → Bool} {l : List UInt8} {k : Nat} (hk : k < l.length) (h : p (l.getD k 0) = true) : l.any p = true := by
  rw [List.getD_eq_getElem?_getD, List.getElem?_eq_getElem hk] at h
  exact List.any_eq_true.2 ⟨_, List.getElem_mem hk, h⟩
theorem any_false {p : UInt8 → Bool} {l : List UInt8} (h : ∀ k, k < l.length → p (l.getD k 0) = false) : l.any p = false := by
  rw [List.any_eq_false]
  intro x hx
  obtain ⟨k, hk, rfl⟩ := List.getElem_of_mem hx
  have := h k hk
  rw [List.getD_eq_getElem?_getD, List.getElem?_eq_getElem hk] at this
  simpa using this
set_option maxRecDepth 20000 in
theorem indexf_c (s : ByteArray) (hs : s.size ≤ 1000000000) : Con Try.prog 116 [.o (.c (.string s)), .o (.c (.func (.func 115) #[] #[])), .o (.c (.bool true))] [] 0 0 (fun i : Int => (i = -1 ∧ s.data.toList.any badB = false) ∨ (0 ≤ i ∧ s.data.toList.any badB = true)) (fun i => .o (.c (.int .i64 i))) (fun _ => []) := by
  refine con_of Try.func116 rfl (by kernel_rfl) Try.ntmps116 rfl (by first | exact Nat.zero_le _ | decide) (fun _ => ⟨rfl, rfl⟩) fun w S ν => ?_
  have hsz : s.data.toList.length = s.size := rfl
  (repeat' (first|(with_reducible refine AllP.go ?_;(first|exact trivial|exact fun i _ => ⟨_, rfl⟩|((try simp only [OS]);repeat' (first|omega|exact fun i _ => ⟨_, rfl⟩|refine And.intro ?_ ?_))))|(refine TE.rgo tysOk rfl (by rfl) ?_ ?_)|(with_reducible first|refine stp ?_|refine tD rfl ?_)|(with_reducible first|exact PanicOk.body|exact rd.panic|refine PanicOk.then' ?_|refine PanicOk.block ?_|refine PanicOk.jump ?_)|(refine TE.drawC (by rfl) (by rfl) (by rfl) (by rfl) ?_)|(refine TE.drawN (by rfl) (by rfl) (by rfl) ?_)|(refine TL.done (by rfl) ?_)|(refine TL.auto tysOk rfl ?_ (by rfl) ?_ ?_)|((refine TL.one (by rfl) ?_);first|(refine StepL.mem tysOk rfl rfl rfl rfl (by rfl) ?_ (by rfl) ?_)|(refine StepL.pure tysOk rfl rfl rfl rfl (by rfl) ?_ (by rfl) ?_))|(refine StepL.mem tysOk rfl rfl rfl rfl (by rfl) ?_ (by rfl) ?_)|refine TE.cond_true (by rfl) ?_|refine TE.cond_false (by rfl) ?_|((first|refine TE.gsplit (by rfl) (by rfl) ?_ ?_|refine TL.gsplit (by rfl) (by rfl) ?_ ?_|refine TE.cond_split (by rfl) ?_ ?_)<;>intro h<;>(try simp only [NS] at h)<;>(try (exfalso;first|omega|exact h trivial|exact h|exact h rfl|contradiction))<;>(try refine TE.run tysOk rfl (by rfl) ?_ ?_))))
  (refine TE.step rfl rfl rfl (fun _ h => nomatch h) (m_rangeS tysOk rfl rfl rfl) ?_; rintro _ rfl)
  ((refine TE.run tysOk rfl (by rfl) ?_ ?_);(repeat' (first|(with_reducible refine AllP.go ?_;(first|exact trivial|exact fun i _ => ⟨_, rfl⟩|((try simp only [OS]);repeat' (first|omega|exact fun i _ => ⟨_, rfl⟩|refine And.intro ?_ ?_))))|(refine TE.rgo tysOk rfl (by rfl) ?_ ?_)|(with_reducible first|refine stp ?_|refine tD rfl ?_)|(with_reducible first|exact PanicOk.body|exact rd.panic|refine PanicOk.then' ?_|refine PanicOk.block ?_|refine PanicOk.jump ?_)|(refine TE.drawC (by rfl) (by rfl) (by rfl) (by rfl) ?_)|(refine TE.drawN (by rfl) (by rfl) (by rfl) ?_)|(refine TL.done (by rfl) ?_)|(refine TL.auto tysOk rfl ?_ (by rfl) ?_ ?_)|((refine TL.one (by rfl) ?_);first|(refine StepL.mem tysOk rfl rfl rfl rfl (by rfl) ?_ (by rfl) ?_)|(refine StepL.pure tysOk rfl rfl rfl rfl (by rfl) ?_ (by rfl) ?_))|(refine StepL.mem tysOk rfl rfl rfl rfl (by rfl) ?_ (by rfl) ?_)|refine TE.cond_true (by rfl) ?_|refine TE.cond_false (by rfl) ?_|((first|refine TE.gsplit (by rfl) (by rfl) ?_ ?_|refine TL.gsplit (by rfl) (by rfl) ?_ ?_|refine TE.cond_split (by rfl) ?_ ?_)<;>intro h<;>(try simp only [NS] at h)<;>(try (exfalso;first|omega|exact h trivial|exact h|exact h rfl|contradiction))<;>(try refine TE.run tysOk rfl (by rfl) ?_ ?_)))))
  refine TE.loopG (fun q : Nat => q ≤ s.size ∧ ∀ k, k < q → badB (s.data.toList.getD k 0) = false) (fun _ => []) [0] (fun q => [.obj 0 (.stringIter s q)]) (fun q => s.size - q) 0 (by rfl) ⟨Nat.zero_le _, fun k hk => absurd hk (Nat.not_lt_zero _)⟩ ?_ ?_
  · (refine Ent.of rfl rfl (by rfl) ?_;(try (first|exact trivial|((with_reducible refine AllP.go ?_);dsimp only [AllP, appP];repeat' (first|with_reducible rfl|with_reducible exact LeD.refl|refine And.intro ?_ ?_|(refine congrArg (Value.int _) ?_;first|omega|rfl|(simp only [Int.toNat_natCast];omega))|rfl|(refine congrArg Value.bool ?_;assumption)|exact LeD.refl)))))
  rintro q ⟨h1, h2⟩
  (repeat' (first|(with_reducible refine AllP.go ?_;(first|exact trivial|exact fun i _ => ⟨_, rfl⟩|((try simp only [OS]);repeat' (first|omega|exact fun i _ => ⟨_, rfl⟩|refine And.intro ?_ ?_))))|(refine TE.rgo tysOk rfl (by rfl) ?_ ?_)|(with_reducible first|refine stp ?_|refine tD rfl ?_)|(with_reducible first|exact PanicOk.body|exact rd.panic|refine PanicOk.then' ?_|refine PanicOk.block ?_|refine PanicOk.jump ?_)|(refine TE.drawC (by rfl) (by rfl) (by rfl) (by rfl) ?_)|(refine TE.drawN (by rfl) (by rfl) (by rfl) ?_)|(refine TL.done (by rfl) ?_)|(refine TL.auto tysOk rfl ?_ (by rfl) ?_ ?_)|((refine TL.one (by rfl) ?_);first|(refine StepL.mem tysOk rfl rfl rfl rfl (by rfl) ?_ (by rfl) ?_)|(refine StepL.pure tysOk rfl rfl rfl rfl (by rfl) ?_ (by rfl) ?_))|(refine StepL.mem tysOk rfl rfl rfl rfl (by rfl) ?_ (by rfl) ?_)|refine TE.cond_true (by rfl) ?_|refine TE.cond_false (by rfl) ?_|((first|refine TE.gsplit (by rfl) (by rfl) ?_ ?_|refine TL.gsplit (by rfl) (by rfl) ?_ ?_|refine TE.cond_split (by rfl) ?_ ?_)<;>intro h<;>(try simp only [NS] at h)<;>(try (exfalso;first|omega|exact h trivial|exact h|exact h rfl|contradiction))<;>(try refine TE.run tysOk rfl (by rfl) ?_ ?_))))
  (refine TE.step rfl rfl rfl (fun _ h => nomatch h) (m_nextS rfl rfl rfl rfl) ?_; rintro _ (⟨h, rfl⟩ | ⟨h, rfl⟩))
  · obtain ⟨c, hc, hw, hbad⟩ : ∃ c : Nat, (Utf8.decode s q).1 = c ∧ (decide ((c : Int) < 33 ∨ (126 : Int) < c) = false → (Utf8.decode s q).2 = 1 ∧ badB (s.data.toList.getD q 0) = false) ∧ (decide ((c : Int) < 33 ∨ (126 : Int) < c) = true → badB (s.data.toList.getD q 0) = true) := by
      refine ⟨_, rfl, ?_, ?_⟩
      all_goals
        rcases Nat.lt_or_ge (s.data.toList.getD q 0).toNat 128 with h3 | h3
        · rw [decode_low h h3]
          unfold badB
          intro hx
          simp only [decide_eq_true_eq, decide_eq_false_iff_not] at hx ⊢
          first | exact ⟨trivial, by omega⟩ | omega
        · have := decode_high h h3
          unfold badB
          intro hx
          simp only [decide_eq_true_eq, decide_eq_false_iff_not] at hx ⊢
          omega
    rw [hc]
    ((refine TE.run tysOk rfl (by rfl) ?_ ?_);(repeat' (first|(with_reducible refine AllP.go ?_;(first|exact trivial|exact fun i _ => ⟨_, rfl⟩|((try simp only [OS]);repeat' (first|omega|exact fun i _ => ⟨_, rfl⟩|refine And.intro ?_ ?_))))|(refine TE.rgo tysOk rfl (by rfl) ?_ ?_)|(with_reducible first|refine stp ?_|refine tD rfl ?_)|(with_reducible first|exact PanicOk.body|exact rd.panic|refine PanicOk.then' ?_|refine PanicOk.block ?_|refine PanicOk.jump ?_)|(refine TE.drawC (by rfl) (by rfl) (by rfl) (by rfl) ?_)|(refine TE.drawN (by rfl) (by rfl) (by rfl) ?_)|(refine TL.done (by rfl) ?_)|(refine TL.auto tysOk rfl ?_ (by rfl) ?_ ?_)|((refine TL.one (by rfl) ?_);first|(refine StepL.mem tysOk rfl rfl rfl rfl (by rfl) ?_ (by rfl) ?_)|(refine StepL.pure tysOk rfl rfl rfl rfl (by rfl) ?_ (by rfl) ?_))|(refine StepL.mem tysOk rfl rfl rfl rfl (by rfl) ?_ (by rfl) ?_)|refine TE.cond_true (by rfl) ?_|refine TE.cond_false (by rfl) ?_|((first|refine TE.gsplit (by rfl) (by rfl) ?_ ?_|refine TL.gsplit (by rfl) (by rfl) ?_ ?_|refine TE.cond_split (by rfl) ?_ ?_)<;>intro h<;>(try simp only [NS] at h)<;>(try (exfalso;first|omega|exact h trivial|exact h|exact h rfl|contradiction))<;>(try refine TE.run tysOk rfl (by rfl) ?_ ?_)))))
    refine TE.callW (nm1_c c) rfl (by rfl) (by rfl) rfl (by rfl) (by (first|exact trivial|((with_reducible refine AllP.go ?_);dsimp only [AllP, appP];repeat' (first|with_reducible rfl|with_reducible exact LeD.refl|refine And.intro ?_ ?_|(refine congrArg (Value.int _) ?_;first|omega|rfl|(simp only [Int.toNat_natCast];omega))|rfl|(refine congrArg Value.bool ?_;assumption)|assumption|exact LeD.refl)))) ?_
    intro _ _
    ((refine TE.run tysOk rfl (by rfl) ?_ ?_);(repeat' (first|(with_reducible refine AllP.go ?_;(first|exact trivial|exact fun i _ => ⟨_, rfl⟩|((try simp only [OS]);repeat' (first|omega|exact fun i _ => ⟨_, rfl⟩|refine And.intro ?_ ?_))))|(refine TE.rgo tysOk rfl (by rfl) ?_ ?_)|(with_reducible first|refine stp ?_|refine tD rfl ?_)|(with_reducible first|exact PanicOk.body|exact rd.panic|refine PanicOk.then' ?_|refine PanicOk.block ?_|refine PanicOk.jump ?_)|(refine TE.drawC (by rfl) (by rfl) (by rfl) (by rfl) ?_)|(refine TE.drawN (by rfl) (by rfl) (by rfl) ?_)|(refine TL.done (by rfl) ?_)|(refine TL.auto tysOk rfl ?_ (by rfl) ?_ ?_)|((refine TL.one (by rfl) ?_);first|(refine StepL.mem tysOk rfl rfl rfl rfl (by rfl) ?_ (by rfl) ?_)|(refine StepL.pure tysOk rfl rfl rfl rfl (by rfl) ?_ (by rfl) ?_))|(refine StepL.mem tysOk rfl rfl rfl rfl (by rfl) ?_ (by rfl) ?_)|refine TE.cond_true (by rfl) ?_|refine TE.cond_false (by rfl) ?_|((first|refine TE.gsplit (by rfl) (by rfl) ?_ ?_|refine TL.gsplit (by rfl) (by rfl) ?_ ?_|refine TE.cond_split (by rfl) ?_ ?_)<;>intro h<;>(try simp only [NS] at h)<;>(try (exfalso;first|omega|exact h trivial|exact h|exact h rfl|contradiction))<;>(try refine TE.run tysOk rfl (by rfl) ?_ ?_)))))
    · (refine TE.ret' (by first|exact .inl rfl|exact .inr rfl) rfl tysOk ((q : Int)) ?_ rfl (by rfl) ?_;all_goals (try (first|exact trivial|((with_reducible refine AllP.go ?_);dsimp only [AllP, appP];repeat' (first|with_reducible rfl|with_reducible exact LeD.refl|refine And.intro ?_ ?_|(refine congrArg (Value.int _) ?_;first|omega|rfl|(simp only [Int.toNat_natCast];omega))|rfl|(refine congrArg Value.bool ?_;assumption)|exact LeD.refl)))))
      exact .inr ⟨by omega, any_getD (by omega) (hbad (by simpa using h))⟩
    · obtain ⟨hw1, hw2⟩ := hw (by simpa using h)
      refine TE.again' (q + 1) ⟨by omega, fun k hk => ?_⟩ (by omega) ?_
      · rcases Nat.lt_or_ge k q with h4 | h4
        · exact h2 k h4
        · obtain rfl : k = q := by omega
          exact hw2
      · (refine Ent.of rfl rfl (by rfl) ?_;(try (first|exact trivial|((with_reducible refine AllP.go ?_);dsimp only [AllP, appP];repeat' (first|with_reducible rfl|with_reducible exact LeD.refl|refine And.intro ?_ ?_|(refine congrArg (Value.int _) ?_;first|omega|rfl|(simp only [Int.toNat_natCast];omega))|rfl|(refine congrArg Value.bool ?_;assumption)|exact LeD.refl)))))
        rw [hw1]
  · ((refine TE.run tysOk rfl (by rfl) ?_ ?_);(repeat' (first|(with_reducible refine AllP.go ?_;(first|exact trivial|exact fun i _ => ⟨_, rfl⟩|((try simp only [OS]);repeat' (first|omega|exact fun i _ => ⟨_, rfl⟩|refine And.intro ?_ ?_))))|(refine TE.rgo tysOk rfl (by rfl) ?_ ?_)|(with_reducible first|refine stp ?_|refine tD rfl ?_)|(with_reducible first|exact PanicOk.body|exact rd.panic|refine PanicOk.then' ?_|refine PanicOk.block ?_|refine PanicOk.jump ?_)|(refine TE.drawC (by rfl) (by rfl) (by rfl) (by rfl) ?_)|(refine TE.drawN (by rfl) (by rfl) (by rfl) ?_)|(refine TL.done (by rfl) ?_)|(refine TL.auto tysOk rfl ?_ (by rfl) ?_ ?_)|((refine TL.one (by rfl) ?_);first|(refine StepL.mem tysOk rfl rfl rfl rfl (by rfl) ?_ (by rfl) ?_)|(refine StepL.pure tysOk rfl rfl rfl rfl (by rfl) ?_ (by rfl) ?_))|(refine StepL.mem tysOk rfl rfl rfl rfl (by rfl) ?_ (by rfl) ?_)|refine TE.cond_true (by rfl) ?_|refine TE.cond_false (by rfl) ?_|((first|refine TE.gsplit (by rfl) (by rfl) ?_ ?_|refine TL.gsplit (by rfl) (by rfl) ?_ ?_|refine TE.cond_split (by rfl) ?_ ?_)<;>intro h<;>(try simp only [NS] at h)<;>(try (exfalso;first|omega|exact h trivial|exact h|exact h rfl|contradiction))<;>(try refine TE.run tysOk rfl (by rfl) ?_ ?_)))))
    (refine TE.ret' (by first|exact .inl rfl|exact .inr rfl) rfl tysOk ((-1 : Int)) ?_ rfl (by rfl) ?_;all_goals (try (first|exact trivial|((with_reducible refine AllP.go ?_);dsimp only [AllP, appP];repeat' (first|with_reducible rfl|with_reducible exact LeD.refl|refine And.intro ?_ ?_|(refine congrArg (Value.int _) ?_;first|omega|rfl|(simp only [Int.toNat_natCast];omega))|rfl|(refine congrArg Value.bool ?_;assumption)|exact LeD.refl)))))
    exact .inl ⟨rfl, any_false fun k hk => h2 k (by omega)⟩
set_option maxRecDepth 20000 in
theorem IndexF_c (s : ByteArray) (hs : s.size ≤ 1000000000) : Con Try.prog 108 [.o (.c (.string s)), .o (.c (.func (.func 115) #[] #[]))] [] 0 0 (fun i : Int => (i = -1 ∧ s.data.toList.any badB = false) ∨ (0 ≤ i ∧ s.data.toList.any badB = true)) (fun i => .o (.c (.int .i64 i))) (fun _ => []) := by
  refine con_of Try.func108 rfl (by kernel_rfl) Try.ntmps108 rfl (by first | exact Nat.zero_le _ | decide) (fun _ => ⟨rfl, rfl⟩) fun w S ν => ?_
  (repeat' (first|(with_reducible refine AllP.go ?_;(first|exact trivial|exact fun i _ => ⟨_, rfl⟩|((try simp only [OS]);repeat' (first|omega|exact fun i _ => ⟨_, rfl⟩|refine And.intro ?_ ?_))))|(refine TE.rgo tysOk rfl (by rfl) ?_ ?_)|(with_reducible first|refine stp ?_|refine tD rfl ?_)|(with_reducible first|exact PanicOk.body|exact rd.panic|refine PanicOk.then' ?_|refine PanicOk.block ?_|refine PanicOk.jump ?_)|(refine TE.drawC (by rfl) (by rfl) (by rfl) (by rfl) ?_)|(refine TE.drawN (by rfl) (by rfl) (by rfl) ?_)|(refine TL.done (by rfl) ?_)|(refine TL.auto tysOk rfl ?_ (by rfl) ?_ ?_)|((refine TL.one (by rfl) ?_);first|(refine StepL.mem tysOk rfl rfl rfl rfl (by rfl) ?_ (by rfl) ?_)|(refine StepL.pure tysOk rfl rfl rfl rfl (by rfl) ?_ (by rfl) ?_))|(refine StepL.mem tysOk rfl rfl rfl rfl (by rfl) ?_ (by rfl) ?_)|refine TE.cond_true (by rfl) ?_|refine TE.cond_false (by rfl) ?_|((first|refine TE.gsplit (by rfl) (by rfl) ?_ ?_|refine TL.gsplit (by rfl) (by rfl) ?_ ?_|refine TE.cond_split (by rfl) ?_ ?_)<;>intro h<;>(try simp only [NS] at h)<;>(try (exfalso;first|omega|exact h trivial|exact h|exact h rfl|contradiction))<;>(try refine TE.run tysOk rfl (by rfl) ?_ ?_))))
  refine TE.callW (indexf_c s hs) rfl (by rfl) (by rfl) rfl (by rfl) (by (first|exact trivial|((with_reducible refine AllP.go ?_);dsimp only [AllP, appP];repeat' (first|with_reducible rfl|with_reducible exact LeD.refl|refine And.intro ?_ ?_|(refine congrArg (Value.int _) ?_;first|omega|rfl|(simp only [Int.toNat_natCast];omega))|rfl|(refine congrArg Value.bool ?_;assumption)|assumption|exact LeD.refl)))) ?_
  intro i hi
  ((refine TE.run tysOk rfl (by rfl) ?_ ?_);(repeat' (first|(with_reducible refine AllP.go ?_;(first|exact trivial|exact fun i _ => ⟨_, rfl⟩|((try simp only [OS]);repeat' (first|omega|exact fun i _ => ⟨_, rfl⟩|refine And.intro ?_ ?_))))|(refine TE.rgo tysOk rfl (by rfl) ?_ ?_)|(with_reducible first|refine stp ?_|refine tD rfl ?_)|(with_reducible first|exact PanicOk.body|exact rd.panic|refine PanicOk.then' ?_|refine PanicOk.block ?_|refine PanicOk.jump ?_)|(refine TE.drawC (by rfl) (by rfl) (by rfl) (by rfl) ?_)|(refine TE.drawN (by rfl) (by rfl) (by rfl) ?_)|(refine TL.done (by rfl) ?_)|(refine TL.auto tysOk rfl ?_ (by rfl) ?_ ?_)|((refine TL.one (by rfl) ?_);first|(refine StepL.mem tysOk rfl rfl rfl rfl (by rfl) ?_ (by rfl) ?_)|(refine StepL.pure tysOk rfl rfl rfl rfl (by rfl) ?_ (by rfl) ?_))|(refine StepL.mem tysOk rfl rfl rfl rfl (by rfl) ?_ (by rfl) ?_)|refine TE.cond_true (by rfl) ?_|refine TE.cond_false (by rfl) ?_|((first|refine TE.gsplit (by rfl) (by rfl) ?_ ?_|refine TL.gsplit (by rfl) (by rfl) ?_ ?_|refine TE.cond_split (by rfl) ?_ ?_)<;>intro h<;>(try simp only [NS] at h)<;>(try (exfalso;first|omega|exact h trivial|exact h|exact h rfl|contradiction))<;>(try refine TE.run tysOk rfl (by rfl) ?_ ?_)))))
  (refine TE.ret' (by first|exact .inl rfl|exact .inr rfl) rfl tysOk (i) ?_ rfl (by rfl) ?_;all_goals (try (first|exact trivial|((with_reducible refine AllP.go ?_);dsimp only [AllP, appP];repeat' (first|with_reducible rfl|with_reducible exact LeD.refl|refine And.intro ?_ ?_|(refine congrArg (Value.int _) ?_;first|omega|rfl|(simp only [Int.toNat_natCast];omega))|rfl|(refine congrArg Value.bool ?_;assumption)|exact LeD.refl)))))
  exact hi
set_option maxRecDepth 20000 in
theorem Contains_c (s : ByteArray) (hs : s.size ≤ 1000000000) : Con Try.prog 90 [.o (.c (.string s)), .o (.c (.func (.func 115) #[] #[]))] [] 0 0 U (fun _ => .o (.sb (s.data.toList.any badB))) G0 := by
  refine con_of Try.func90 rfl (by kernel_rfl) Try.ntmps90 rfl (by first | exact Nat.zero_le _ | decide) (fun _ => ⟨rfl, rfl⟩) fun w S ν => ?_
  (repeat' (first|(with_reducible refine AllP.go ?_;(first|exact trivial|exact fun i _ => ⟨_, rfl⟩|((try simp only [OS]);repeat' (first|omega|exact fun i _ => ⟨_, rfl⟩|refine And.intro ?_ ?_))))|(refine TE.rgo tysOk rfl (by rfl) ?_ ?_)|(with_reducible first|refine stp ?_|refine tD rfl ?_)|(with_reducible first|exact PanicOk.body|exact rd.panic|refine PanicOk.then' ?_|refine PanicOk.block ?_|refine PanicOk.jump ?_)|(refine TE.drawC (by rfl) (by rfl) (by rfl) (by rfl) ?_)|(refine TE.drawN (by rfl) (by rfl) (by rfl) ?_)|(refine TL.done (by rfl) ?_)|(refine TL.auto tysOk rfl ?_ (by rfl) ?_ ?_)|((refine TL.one (by rfl) ?_);first|(refine StepL.mem tysOk rfl rfl rfl rfl (by rfl) ?_ (by rfl) ?_)|(refine StepL.pure tysOk rfl rfl rfl rfl (by rfl) ?_ (by rfl) ?_))|(refine StepL.mem tysOk rfl rfl rfl rfl (by rfl) ?_ (by rfl) ?_)|refine TE.cond_true (by rfl) ?_|refine TE.cond_false (by rfl) ?_|((first|refine TE.gsplit (by rfl) (by rfl) ?_ ?_|refine TL.gsplit (by rfl) (by rfl) ?_ ?_|refine TE.cond_split (by rfl) ?_ ?_)<;>intro h<;>(try simp only [NS] at h)<;>(try (exfalso;first|omega|exact h trivial|exact h|exact h rfl|contradiction))<;>(try refine TE.run tysOk rfl (by rfl) ?_ ?_))))
  refine TE.callW (IndexF_c s hs) rfl (by rfl) (by rfl) rfl (by rfl) (by (first|exact trivial|((with_reducible refine AllP.go ?_);dsimp only [AllP, appP];repeat' (first|with_reducible rfl|with_reducible exact LeD.refl|refine And.intro ?_ ?_|(refine congrArg (Value.int _) ?_;first|omega|rfl|(simp only [Int.toNat_natCast];omega))|rfl|(refine congrArg Value.bool ?_;assumption)|assumption|exact LeD.refl)))) ?_
  intro i hi
  ((refine TE.run tysOk rfl (by rfl) ?_ ?_);(repeat' (first|(with_reducible refine AllP.go ?_;(first|exact trivial|exact fun i _ => ⟨_, rfl⟩|((try simp only [OS]);repeat' (first|omega|exact fun i _ => ⟨_, rfl⟩|refine And.intro ?_ ?_))))|(refine TE.rgo tysOk rfl (by rfl) ?_ ?_)|(with_reducible first|refine stp ?_|refine tD rfl ?_)|(with_reducible first|exact PanicOk.body|exact rd.panic|refine PanicOk.then' ?_|refine PanicOk.block ?_|refine PanicOk.jump ?_)|(refine TE.drawC (by rfl) (by rfl) (by rfl) (by rfl) ?_)|(refine TE.drawN (by rfl) (by rfl) (by rfl) ?_)|(refine TL.done (by rfl) ?_)|(refine TL.auto tysOk rfl ?_ (by rfl) ?_ ?_)|((refine TL.one (by rfl) ?_);first|(refine StepL.mem tysOk rfl rfl rfl rfl (by rfl) ?_ (by rfl) ?_)|(refine StepL.pure tysOk rfl rfl rfl rfl (by rfl) ?_ (by rfl) ?_))|(refine StepL.mem tysOk rfl rfl rfl rfl (by rfl) ?_ (by rfl) ?_)|refine TE.cond_true (by rfl) ?_|refine TE.cond_false (by rfl) ?_|((first|refine TE.gsplit (by rfl) (by rfl) ?_ ?_|refine TL.gsplit (by rfl) (by rfl) ?_ ?_|refine TE.cond_split (by rfl) ?_ ?_)<;>intro h<;>(try simp only [NS] at h)<;>(try (exfalso;first|omega|exact h trivial|exact h|exact h rfl|contradiction))<;>(try refine TE.run tysOk rfl (by rfl) ?_ ?_)))))
  (refine TE.ret' (by first|exact .inl rfl|exact .inr rfl) rfl tysOk (()) ?_ rfl (by rfl) ?_;all_goals (try (first|exact trivial|((with_reducible refine AllP.go ?_);dsimp only [AllP, appP];repeat' (first|with_reducible rfl|with_reducible exact LeD.refl|refine And.intro ?_ ?_|(refine congrArg (Value.int _) ?_;first|omega|rfl|(simp only [Int.toNat_natCast];omega))|rfl|(refine congrArg Value.bool ?_;assumption)|exact LeD.refl)))))
  rcases hi with ⟨h1, h2⟩ | ⟨h1, h2⟩
  · rw [h1, h2]; rfl
  · rw [h2]; exact decide_eq_true h1
set_option maxRecDepth 20000 in
theorem name_c (s : ByteArray) (hs : s.size ≤ 1000000000) : Con Try.prog 105 [.o (.c (.string s))] [] 0 0 U (fun _ => .o (.c (.int .i64 (keyE s)))) G0 := by
  refine con_of Try.func105 rfl (by kernel_rfl) Try.ntmps105 rfl (by first | exact Nat.zero_le _ | decide) (fun _ => ⟨rfl, rfl⟩) fun w S ν => ?_
  (repeat' (first|(with_reducible refine AllP.go ?_;(first|exact trivial|exact fun i _ => ⟨_, rfl⟩|((try simp only [OS]);repeat' (first|omega|exact fun i _ => ⟨_, rfl⟩|refine And.intro ?_ ?_))))|(refine TE.rgo tysOk rfl (by rfl) ?_ ?_)|(with_reducible first|refine stp ?_|refine tD rfl ?_)|(with_reducible first|exact PanicOk.body|exact rd.panic|refine PanicOk.then' ?_|refine PanicOk.block ?_|refine PanicOk.jump ?_)|(refine TE.drawC (by rfl) (by rfl) (by rfl) (by rfl) ?_)|(refine TE.drawN (by rfl) (by rfl) (by rfl) ?_)|(refine TL.done (by rfl) ?_)|(refine TL.auto tysOk rfl ?_ (by rfl) ?_ ?_)|((refine TL.one (by rfl) ?_);first|(refine StepL.mem tysOk rfl rfl rfl rfl (by rfl) ?_ (by rfl) ?_)|(refine StepL.pure tysOk rfl rfl rfl rfl (by rfl) ?_ (by rfl) ?_))|(refine StepL.mem tysOk rfl rfl rfl rfl (by rfl) ?_ (by rfl) ?_)|refine TE.cond_true (by rfl) ?_|refine TE.cond_false (by rfl) ?_|((first|refine TE.gsplit (by rfl) (by rfl) ?_ ?_|refine TL.gsplit (by rfl) (by rfl) ?_ ?_|refine TE.cond_split (by rfl) ?_ ?_)<;>intro h<;>(try simp only [NS] at h)<;>(try (exfalso;first|omega|exact h trivial|exact h|exact h rfl|contradiction))<;>(try refine TE.run tysOk rfl (by rfl) ?_ ?_))))
  · (refine TE.ret' (by first|exact .inl rfl|exact .inr rfl) rfl tysOk (()) ?_ rfl (by rfl) ?_;all_goals (try (first|exact trivial|((with_reducible refine AllP.go ?_);dsimp only [AllP, appP];repeat' (first|with_reducible rfl|with_reducible exact LeD.refl|refine And.intro ?_ ?_|(refine congrArg (Value.int _) ?_;first|omega|rfl|(simp only [Int.toNat_natCast];omega))|rfl|(refine congrArg Value.bool ?_;assumption)|exact LeD.refl)))))
    unfold keyE; rw [if_pos (.inl (by assumption))]
  refine TE.callW (Contains_c s hs) rfl (by rfl) (by rfl) rfl (by rfl) (by (first|exact trivial|((with_reducible refine AllP.go ?_);dsimp only [AllP, appP];repeat' (first|with_reducible rfl|with_reducible exact LeD.refl|refine And.intro ?_ ?_|(refine congrArg (Value.int _) ?_;first|omega|rfl|(simp only [Int.toNat_natCast];omega))|rfl|(refine congrArg Value.bool ?_;assumption)|assumption|exact LeD.refl)))) ?_
  intro _ _
  ((refine TE.run tysOk rfl (by rfl) ?_ ?_);(repeat' (first|(with_reducible refine AllP.go ?_;(first|exact trivial|exact fun i _ => ⟨_, rfl⟩|((try simp only [OS]);repeat' (first|omega|exact fun i _ => ⟨_, rfl⟩|refine And.intro ?_ ?_))))|(refine TE.rgo tysOk rfl (by rfl) ?_ ?_)|(with_reducible first|refine stp ?_|refine tD rfl ?_)|(with_reducible first|exact PanicOk.body|exact rd.panic|refine PanicOk.then' ?_|refine PanicOk.block ?_|refine PanicOk.jump ?_)|(refine TE.drawC (by rfl) (by rfl) (by rfl) (by rfl) ?_)|(refine TE.drawN (by rfl) (by rfl) (by rfl) ?_)|(refine TL.done (by rfl) ?_)|(refine TL.auto tysOk rfl ?_ (by rfl) ?_ ?_)|((refine TL.one (by rfl) ?_);first|(refine StepL.mem tysOk rfl rfl rfl rfl (by rfl) ?_ (by rfl) ?_)|(refine StepL.pure tysOk rfl rfl rfl rfl (by rfl) ?_ (by rfl) ?_))|(refine StepL.mem tysOk rfl rfl rfl rfl (by rfl) ?_ (by rfl) ?_)|refine TE.cond_true (by rfl) ?_|refine TE.cond_false (by rfl) ?_|((first|refine TE.gsplit (by rfl) (by rfl) ?_ ?_|refine TL.gsplit (by rfl) (by rfl) ?_ ?_|refine TE.cond_split (by rfl) ?_ ?_)<;>intro h<;>(try simp only [NS] at h)<;>(try (exfalso;first|omega|exact h trivial|exact h|exact h rfl|contradiction))<;>(try refine TE.run tysOk rfl (by rfl) ?_ ?_)))))
  · (refine TE.ret' (by first|exact .inl rfl|exact .inr rfl) rfl tysOk (()) ?_ rfl (by rfl) ?_;all_goals (try (first|exact trivial|((with_reducible refine AllP.go ?_);dsimp only [AllP, appP];repeat' (first|with_reducible rfl|with_reducible exact LeD.refl|refine And.intro ?_ ?_|(refine congrArg (Value.int _) ?_;first|omega|rfl|(simp only [Int.toNat_natCast];omega))|rfl|(refine congrArg Value.bool ?_;assumption)|exact LeD.refl)))))
    unfold keyE; rw [if_pos (.inr (by assumption))]
  · (refine TE.ret' (by first|exact .inl rfl|exact .inr rfl) rfl tysOk (()) ?_ rfl (by rfl) ?_;all_goals (try (first|exact trivial|((with_reducible refine AllP.go ?_);dsimp only [AllP, appP];repeat' (first|with_reducible rfl|with_reducible exact LeD.refl|refine And.intro ?_ ?_|(refine congrArg (Value.int _) ?_;first|omega|rfl|(simp only [Int.toNat_natCast];omega))|rfl|(refine congrArg Value.bool ?_;assumption)|exact LeD.refl)))))
    unfold keyE; rw [if_neg (by simp_all), if_pos (by omega)]
  · (refine TE.ret' (by first|exact .inl rfl|exact .inr rfl) rfl tysOk (()) ?_ rfl (by rfl) ?_;all_goals (try (first|exact trivial|((with_reducible refine AllP.go ?_);dsimp only [AllP, appP];repeat' (first|with_reducible rfl|with_reducible exact LeD.refl|refine And.intro ?_ ?_|(refine congrArg (Value.int _) ?_;first|omega|rfl|(simp only [Int.toNat_natCast];omega))|rfl|(refine congrArg Value.bool ?_;assumption)|exact LeD.refl)))))
    unfold keyE; rw [if_neg (by simp_all), if_neg (by omega)]
set_option maxRecDepth 20000 in
theorem alone_c (x : At.At) (hs : x.1.size ≤ 1000000000) : Con Try.prog 87 [.g (atA x)] [] 0 0 U (fun _ => .o (.c (.int .i64 (aloneE x)))) G0 := by
  refine con_of Try.func87 rfl (by kernel_rfl) Try.ntmps87 rfl (by first | exact Nat.zero_le _ | decide) (fun _ => ⟨rfl, rfl⟩) fun w S ν => ?_
  (repeat' (first|(with_reducible refine AllP.go ?_;(first|exact trivial|exact fun i _ => ⟨_, rfl⟩|((try simp only [OS]);repeat' (first|omega|exact fun i _ => ⟨_, rfl⟩|refine And.intro ?_ ?_))))|(refine TE.rgo tysOk rfl (by rfl) ?_ ?_)|(with_reducible first|refine stp ?_|refine tD rfl ?_)|(with_reducible first|exact PanicOk.body|exact rd.panic|refine PanicOk.then' ?_|refine PanicOk.block ?_|refine PanicOk.jump ?_)|(refine TE.drawC (by rfl) (by rfl) (by rfl) (by rfl) ?_)|(refine TE.drawN (by rfl) (by rfl) (by rfl) ?_)|(refine TL.done (by rfl) ?_)|(refine TL.auto tysOk rfl ?_ (by rfl) ?_ ?_)|((refine TL.one (by rfl) ?_);first|(refine StepL.mem tysOk rfl rfl rfl rfl (by rfl) ?_ (by rfl) ?_)|(refine StepL.pure tysOk rfl rfl rfl rfl (by rfl) ?_ (by rfl) ?_))|(refine StepL.mem tysOk rfl rfl rfl rfl (by rfl) ?_ (by rfl) ?_)|refine TE.cond_true (by rfl) ?_|refine TE.cond_false (by rfl) ?_|((first|refine TE.gsplit (by rfl) (by rfl) ?_ ?_|refine TL.gsplit (by rfl) (by rfl) ?_ ?_|refine TE.cond_split (by rfl) ?_ ?_)<;>intro h<;>(try simp only [NS] at h)<;>(try (exfalso;first|omega|exact h trivial|exact h|exact h rfl|contradiction))<;>(try refine TE.run tysOk rfl (by rfl) ?_ ?_))))
  refine TE.callW (name_c x.1 hs) rfl (by rfl) (by rfl) rfl (by rfl) (by (first|exact trivial|((with_reducible refine AllP.go ?_);dsimp only [AllP, appP];repeat' (first|with_reducible rfl|with_reducible exact LeD.refl|refine And.intro ?_ ?_|(refine congrArg (Value.int _) ?_;first|omega|rfl|(simp only [Int.toNat_natCast];omega))|rfl|(refine congrArg Value.bool ?_;assumption)|assumption|exact LeD.refl)))) ?_
  intro _ _
  ((refine TE.run tysOk rfl (by rfl) ?_ ?_);(repeat' (first|(with_reducible refine AllP.go ?_;(first|exact trivial|exact fun i _ => ⟨_, rfl⟩|((try simp only [OS]);repeat' (first|omega|exact fun i _ => ⟨_, rfl⟩|refine And.intro ?_ ?_))))|(refine TE.rgo tysOk rfl (by rfl) ?_ ?_)|(with_reducible first|refine stp ?_|refine tD rfl ?_)|(with_reducible first|exact PanicOk.body|exact rd.panic|refine PanicOk.then' ?_|refine PanicOk.block ?_|refine PanicOk.jump ?_)|(refine TE.drawC (by rfl) (by rfl) (by rfl) (by rfl) ?_)|(refine TE.drawN (by rfl) (by rfl) (by rfl) ?_)|(refine TL.done (by rfl) ?_)|(refine TL.auto tysOk rfl ?_ (by rfl) ?_ ?_)|((refine TL.one (by rfl) ?_);first|(refine StepL.mem tysOk rfl rfl rfl rfl (by rfl) ?_ (by rfl) ?_)|(refine StepL.pure tysOk rfl rfl rfl rfl (by rfl) ?_ (by rfl) ?_))|(refine StepL.mem tysOk rfl rfl rfl rfl (by rfl) ?_ (by rfl) ?_)|refine TE.cond_true (by rfl) ?_|refine TE.cond_false (by rfl) ?_|((first|refine TE.gsplit (by rfl) (by rfl) ?_ ?_|refine TL.gsplit (by rfl) (by rfl) ?_ ?_|refine TE.cond_split (by rfl) ?_ ?_)<;>intro h<;>(try simp only [NS] at h)<;>(try (exfalso;first|omega|exact h trivial|exact h|exact h rfl|contradiction))<;>(try refine TE.run tysOk rfl (by rfl) ?_ ?_)))))
  · (refine TE.ret' (by first|exact .inl rfl|exact .inr rfl) rfl tysOk (()) ?_ rfl (by rfl) ?_;all_goals (try (first|exact trivial|((with_reducible refine AllP.go ?_);dsimp only [AllP, appP];repeat' (first|with_reducible rfl|with_reducible exact LeD.refl|refine And.intro ?_ ?_|(refine congrArg (Value.int _) ?_;first|omega|rfl|(simp only [Int.toNat_natCast];omega))|rfl|(refine congrArg Value.bool ?_;assumption)|exact LeD.refl)))))
    unfold aloneE; rw [if_pos (by assumption)]
  · (refine TE.ret' (by first|exact .inl rfl|exact .inr rfl) rfl tysOk (()) ?_ rfl (by rfl) ?_;all_goals (try (first|exact trivial|((with_reducible refine AllP.go ?_);dsimp only [AllP, appP];repeat' (first|with_reducible rfl|with_reducible exact LeD.refl|refine And.intro ?_ ?_|(refine congrArg (Value.int _) ?_;first|omega|rfl|(simp only [Int.toNat_natCast];omega))|rfl|(refine congrArg Value.bool ?_;assumption)|exact LeD.refl)))))
    unfold aloneE; rw [if_neg (by simp_all), if_pos (by omega)]
  · (refine TE.ret' (by first|exact .inl rfl|exact .inr rfl) rfl tysOk (()) ?_ rfl (by rfl) ?_;all_goals (try (first|exact trivial|((with_reducible refine AllP.go ?_);dsimp only [AllP, appP];repeat' (first|with_reducible rfl|with_reducible exact LeD.refl|refine And.intro ?_ ?_|(refine congrArg (Value.int _) ?_;first|omega|rfl|(simp only [Int.toNat_natCast];omega))|rfl|(refine congrArg Value.bool ?_;assumption)|exact LeD.refl)))))
    unfold aloneE; rw [if_neg (by simp_all), if_neg (by omega)]
end Go.Proofs.Ythhpofehcnjmmaa.Am
/- The attributes: the program's Check, Size, Get. -/
set_option linter.unusedSimpArgs false
set_option linter.unusedVariables false
namespace Go.Proofs.Ythhpofehcnjmmaa.Am
open Go.RowKit Lw At

set_option maxRecDepth 20000 in
theorem bytes_c (l : List At.At) (hl : l.length ≤ 1000000) (hb : sizeI l ≤ 1000000000) : Con Try.prog 107 [.o (.ro 2 l.length (atC l).cell)] [] 0 1 U (fun _ => .o (.own 0)) (fun _ => [.own 0 5 1 (bytesC (bytesI l))]) := by
  refine con_of Try.func107 rfl (by kernel_rfl) Try.ntmps107 rfl (by first | exact Nat.zero_le _ | decide) (fun _ => ⟨rfl, rfl⟩) fun w S ν => ?_
  (repeat' (first|(with_reducible refine AllP.go ?_;(first|exact trivial|exact fun i _ => ⟨_, rfl⟩|((try simp only [OS]);repeat' (first|omega|exact fun i _ => ⟨_, rfl⟩|refine And.intro ?_ ?_))))|(refine TE.rgo tysOk rfl (by rfl) ?_ ?_)|(with_reducible first|refine stp ?_|refine tD rfl ?_)|(with_reducible first|exact PanicOk.body|exact rd.panic|refine PanicOk.then' ?_|refine PanicOk.block ?_|refine PanicOk.jump ?_)|(refine TE.drawC (by rfl) (by rfl) (by rfl) (by rfl) ?_)|(refine TE.drawN (by rfl) (by rfl) (by rfl) ?_)|(refine TL.done (by rfl) ?_)|(refine TL.auto tysOk rfl ?_ (by rfl) ?_ ?_)|((refine TL.one (by rfl) ?_);first|(refine StepL.mem tysOk rfl rfl rfl rfl (by rfl) ?_ (by rfl) ?_)|(refine StepL.pure tysOk rfl rfl rfl rfl (by rfl) ?_ (by rfl) ?_))|(refine StepL.mem tysOk rfl rfl rfl rfl (by rfl) ?_ (by rfl) ?_)|refine TE.cond_true (by rfl) ?_|refine TE.cond_false (by rfl) ?_|((first|refine TE.gsplit (by rfl) (by rfl) ?_ ?_|refine TL.gsplit (by rfl) (by rfl) ?_ ?_|refine TE.cond_split (by rfl) ?_ ?_)<;>intro h<;>(try simp only [NS] at h)<;>(try (exfalso;first|omega|exact h trivial|exact h|exact h rfl|contradiction))<;>(try refine TE.run tysOk rfl (by rfl) ?_ ?_))))
  refine TE.nilOwn 3 5 1 (by rfl) ?_
  refine TE.loopG (fun q : Nat => q ≤ l.length) (fun q => [(3, .o (.own 0)), (8, .o (.c (.int .i64 q)))]) [0] (fun q => [.own 0 5 1 (bytesC (bytesI (l.take q)))]) (fun q => l.length - q) 0 (by rfl) (Nat.zero_le _) ?_ ?_
  · (refine Ent.of rfl rfl (by rfl) ?_;(try (first|exact trivial|((with_reducible refine AllP.go ?_);dsimp only [AllP, appP];repeat' (first|with_reducible rfl|with_reducible exact LeD.refl|refine And.intro ?_ ?_|(refine congrArg (Value.int _) ?_;first|omega|rfl|(simp only [Int.toNat_natCast];omega))|rfl|(refine congrArg Value.bool ?_;assumption)|exact LeD.refl)))))
    exact LeDC.nil rfl rfl
  rintro q h1
  have hq1 := bytesI_len (l.take q)
  have hq2 := sizeI_take l q
  have hq3 := bytesI_len (l.take (q + 1))
  have hq4 := sizeI_take l (q + 1)
  have hq5 : l.length ≤ q ∨ sizeI (l.take (q + 1)) = sizeI (l.take q) + (2 + (l.getD q d0).1.size + (l.getD q d0).2.size) := (Nat.lt_or_ge q l.length).elim (fun h => .inr (sizeI_snoc h)) .inl
  (repeat' (first|(with_reducible refine AllP.go ?_;(first|exact trivial|exact fun i _ => ⟨_, rfl⟩|((try simp only [OS]);repeat' (first|omega|exact fun i _ => ⟨_, rfl⟩|refine And.intro ?_ ?_))))|(refine TE.rgo tysOk rfl (by rfl) ?_ ?_)|(with_reducible first|refine stp ?_|refine tD rfl ?_)|(with_reducible first|exact PanicOk.body|exact rd.panic|refine PanicOk.then' ?_|refine PanicOk.block ?_|refine PanicOk.jump ?_)|(refine TE.drawC (by rfl) (by rfl) (by rfl) (by rfl) ?_)|(refine TE.drawN (by rfl) (by rfl) (by rfl) ?_)|(refine TL.done (by rfl) ?_)|(refine TL.auto tysOk rfl ?_ (by rfl) ?_ ?_)|((refine TL.one (by rfl) ?_);first|(refine StepL.mem tysOk rfl rfl rfl rfl (by rfl) ?_ (by rfl) ?_)|(refine StepL.pure tysOk rfl rfl rfl rfl (by rfl) ?_ (by rfl) ?_))|(refine StepL.mem tysOk rfl rfl rfl rfl (by rfl) ?_ (by rfl) ?_)|refine TE.cond_true (by rfl) ?_|refine TE.cond_false (by rfl) ?_|((first|refine TE.gsplit (by rfl) (by rfl) ?_ ?_|refine TL.gsplit (by rfl) (by rfl) ?_ ?_|refine TE.cond_split (by rfl) ?_ ?_)<;>intro h<;>(try simp only [NS] at h)<;>(try (exfalso;first|omega|exact h trivial|exact h|exact h rfl|contradiction))<;>(try refine TE.run tysOk rfl (by rfl) ?_ ?_))))
  · refine TE.again' (q + 1) (by omega) (by omega) ?_
    (refine Ent.of rfl rfl (by rfl) ?_;(try (first|exact trivial|((with_reducible refine AllP.go ?_);dsimp only [AllP, appP];repeat' (first|with_reducible rfl|with_reducible exact LeD.refl|refine And.intro ?_ ?_|(refine congrArg (Value.int _) ?_;first|omega|rfl|(simp only [Int.toNat_natCast];omega))|rfl|(refine congrArg Value.bool ?_;assumption)|exact LeD.refl)))))
    refine bytes_app (bytes_app (bytes_app (bytes_app (LeDC.refl _ _) (byte_lit (b := UInt8.ofNat (l.getD q d0).1.size) ?_) rfl) (str_lit _) rfl) (byte_lit (b := UInt8.ofNat (l.getD q d0).2.size) ?_) rfl) (str_lit _) ?_
    · simp
    · simp
    · rw [bytesI_snoc h]; simp [rowB]
  · obtain rfl : q = l.length := by omega
    rw [List.take_length]
    (refine TE.ret' (by first|exact .inl rfl|exact .inr rfl) rfl tysOk (()) ?_ rfl (by rfl) ?_;all_goals (try (first|exact trivial|((with_reducible refine AllP.go ?_);dsimp only [AllP, appP];repeat' (first|with_reducible rfl|with_reducible exact LeD.refl|refine And.intro ?_ ?_|(refine congrArg (Value.int _) ?_;first|omega|rfl|(simp only [Int.toNat_natCast];omega))|rfl|(refine congrArg Value.bool ?_;assumption)|exact LeD.refl)))))
set_option maxRecDepth 20000 in
theorem fit_c (l : List At.At) (hl : l.length ≤ 1000000) (hb : sizeI l ≤ 1000000000) : Con Try.prog 89 [.o (.ro 2 l.length (atC l).cell)] [] 0 0 U (fun _ => .t [.inl (.ro 2 (if fullB l then [] else l).length (atC (if fullB l then [] else l)).cell), .inl (.c (.int .i64 (if fullB l then 5 else 0)))]) G0 := by
  refine con_of Try.func89 rfl (by kernel_rfl) Try.ntmps89 rfl (by first | exact Nat.zero_le _ | decide) (fun _ => ⟨rfl, rfl⟩) fun w S ν => ?_
  have hlen := bytesI_len l
  have hF : fullB l = decide (6 < l.length ∨ 288 < sizeI l) := rfl
  (repeat' (first|(with_reducible refine AllP.go ?_;(first|exact trivial|exact fun i _ => ⟨_, rfl⟩|((try simp only [OS]);repeat' (first|omega|exact fun i _ => ⟨_, rfl⟩|refine And.intro ?_ ?_))))|(refine TE.rgo tysOk rfl (by rfl) ?_ ?_)|(with_reducible first|refine stp ?_|refine tD rfl ?_)|(with_reducible first|exact PanicOk.body|exact rd.panic|refine PanicOk.then' ?_|refine PanicOk.block ?_|refine PanicOk.jump ?_)|(refine TE.drawC (by rfl) (by rfl) (by rfl) (by rfl) ?_)|(refine TE.drawN (by rfl) (by rfl) (by rfl) ?_)|(refine TL.done (by rfl) ?_)|(refine TL.auto tysOk rfl ?_ (by rfl) ?_ ?_)|((refine TL.one (by rfl) ?_);first|(refine StepL.mem tysOk rfl rfl rfl rfl (by rfl) ?_ (by rfl) ?_)|(refine StepL.pure tysOk rfl rfl rfl rfl (by rfl) ?_ (by rfl) ?_))|(refine StepL.mem tysOk rfl rfl rfl rfl (by rfl) ?_ (by rfl) ?_)|refine TE.cond_true (by rfl) ?_|refine TE.cond_false (by rfl) ?_|((first|refine TE.gsplit (by rfl) (by rfl) ?_ ?_|refine TL.gsplit (by rfl) (by rfl) ?_ ?_|refine TE.cond_split (by rfl) ?_ ?_)<;>intro h<;>(try simp only [NS] at h)<;>(try (exfalso;first|omega|exact h trivial|exact h|exact h rfl|contradiction))<;>(try refine TE.run tysOk rfl (by rfl) ?_ ?_))))
  · have : fullB l = true := by rw [hF]; exact decide_eq_true (.inl (by omega))
    rw [this]
    (refine TE.ret' (by first|exact .inl rfl|exact .inr rfl) rfl tysOk (()) ?_ rfl (by rfl) ?_;all_goals (try (first|exact trivial|((with_reducible refine AllP.go ?_);dsimp only [AllP, appP];repeat' (first|with_reducible rfl|with_reducible exact LeD.refl|refine And.intro ?_ ?_|(refine congrArg (Value.int _) ?_;first|omega|rfl|(simp only [Int.toNat_natCast];omega))|rfl|(refine congrArg Value.bool ?_;assumption)|exact LeD.refl)))))
  · refine TE.callW (bytes_c l hl hb) rfl (by rfl) (by rfl) rfl (by rfl) (by (first|exact trivial|((with_reducible refine AllP.go ?_);dsimp only [AllP, appP];repeat' (first|with_reducible rfl|with_reducible exact LeD.refl|refine And.intro ?_ ?_|(refine congrArg (Value.int _) ?_;first|omega|rfl|(simp only [Int.toNat_natCast];omega))|rfl|(refine congrArg Value.bool ?_;assumption)|assumption|exact LeD.refl)))) ?_
    intro _ _
    ((refine TE.run tysOk rfl (by rfl) ?_ ?_);(repeat' (first|(with_reducible refine AllP.go ?_;(first|exact trivial|exact fun i _ => ⟨_, rfl⟩|((try simp only [OS]);repeat' (first|omega|exact fun i _ => ⟨_, rfl⟩|refine And.intro ?_ ?_))))|(refine TE.rgo tysOk rfl (by rfl) ?_ ?_)|(with_reducible first|refine stp ?_|refine tD rfl ?_)|(with_reducible first|exact PanicOk.body|exact rd.panic|refine PanicOk.then' ?_|refine PanicOk.block ?_|refine PanicOk.jump ?_)|(refine TE.drawC (by rfl) (by rfl) (by rfl) (by rfl) ?_)|(refine TE.drawN (by rfl) (by rfl) (by rfl) ?_)|(refine TL.done (by rfl) ?_)|(refine TL.auto tysOk rfl ?_ (by rfl) ?_ ?_)|((refine TL.one (by rfl) ?_);first|(refine StepL.mem tysOk rfl rfl rfl rfl (by rfl) ?_ (by rfl) ?_)|(refine StepL.pure tysOk rfl rfl rfl rfl (by rfl) ?_ (by rfl) ?_))|(refine StepL.mem tysOk rfl rfl rfl rfl (by rfl) ?_ (by rfl) ?_)|refine TE.cond_true (by rfl) ?_|refine TE.cond_false (by rfl) ?_|((first|refine TE.gsplit (by rfl) (by rfl) ?_ ?_|refine TL.gsplit (by rfl) (by rfl) ?_ ?_|refine TE.cond_split (by rfl) ?_ ?_)<;>intro h<;>(try simp only [NS] at h)<;>(try (exfalso;first|omega|exact h trivial|exact h|exact h rfl|contradiction))<;>(try refine TE.run tysOk rfl (by rfl) ?_ ?_)))))
    · have : fullB l = true := by rw [hF]; exact decide_eq_true (.inr (by omega))
      rw [this]
      (refine TE.ret' (by first|exact .inl rfl|exact .inr rfl) rfl tysOk (()) ?_ rfl (by rfl) ?_;all_goals (try (first|exact trivial|((with_reducible refine AllP.go ?_);dsimp only [AllP, appP];repeat' (first|with_reducible rfl|with_reducible exact LeD.refl|refine And.intro ?_ ?_|(refine congrArg (Value.int _) ?_;first|omega|rfl|(simp only [Int.toNat_natCast];omega))|rfl|(refine congrArg Value.bool ?_;assumption)|exact LeD.refl)))))
    · have : fullB l = false := by rw [hF]; exact decide_eq_false (by omega)
      rw [this]
      (refine TE.ret' (by first|exact .inl rfl|exact .inr rfl) rfl tysOk (()) ?_ rfl (by rfl) ?_;all_goals (try (first|exact trivial|((with_reducible refine AllP.go ?_);dsimp only [AllP, appP];repeat' (first|with_reducible rfl|with_reducible exact LeD.refl|refine And.intro ?_ ?_|(refine congrArg (Value.int _) ?_;first|omega|rfl|(simp only [Int.toNat_natCast];omega))|rfl|(refine congrArg Value.bool ?_;assumption)|exact LeD.refl)))))
set_option maxRecDepth 20000 in
set_option maxHeartbeats 1000000 in
theorem Check_c (l : List At.At) (hl : l.length ≤ 1000000) (hb : sizeI l ≤ 1000000000) : Con Try.prog 58 [.o (.ro 2 l.length (atC l).cell)] [] 0 0 U (fun _ => .o (.c (.int .i64 (checkE l)))) G0 := by
  refine con_of Try.func58 rfl (by kernel_rfl) Try.ntmps58 rfl (by first | exact Nat.zero_le _ | decide) (fun _ => ⟨rfl, rfl⟩) fun w S ν => ?_
  have hel : ∀ q, q < l.length → (l.getD q d0).1.size ≤ 1000000000 := fun q h => by
    have h1 := sizeI_snoc h
    have h2 := sizeI_take l (q + 1)
    omega
  (repeat' (first|(with_reducible refine AllP.go ?_;(first|exact trivial|exact fun i _ => ⟨_, rfl⟩|((try simp only [OS]);repeat' (first|omega|exact fun i _ => ⟨_, rfl⟩|refine And.intro ?_ ?_))))|(refine TE.rgo tysOk rfl (by rfl) ?_ ?_)|(with_reducible first|refine stp ?_|refine tD rfl ?_)|(with_reducible first|exact PanicOk.body|exact rd.panic|refine PanicOk.then' ?_|refine PanicOk.block ?_|refine PanicOk.jump ?_)|(refine TE.drawC (by rfl) (by rfl) (by rfl) (by rfl) ?_)|(refine TE.drawN (by rfl) (by rfl) (by rfl) ?_)|(refine TL.done (by rfl) ?_)|(refine TL.auto tysOk rfl ?_ (by rfl) ?_ ?_)|((refine TL.one (by rfl) ?_);first|(refine StepL.mem tysOk rfl rfl rfl rfl (by rfl) ?_ (by rfl) ?_)|(refine StepL.pure tysOk rfl rfl rfl rfl (by rfl) ?_ (by rfl) ?_))|(refine StepL.mem tysOk rfl rfl rfl rfl (by rfl) ?_ (by rfl) ?_)|refine TE.cond_true (by rfl) ?_|refine TE.cond_false (by rfl) ?_|((first|refine TE.gsplit (by rfl) (by rfl) ?_ ?_|refine TL.gsplit (by rfl) (by rfl) ?_ ?_|refine TE.cond_split (by rfl) ?_ ?_)<;>intro h<;>(try simp only [NS] at h)<;>(try (exfalso;first|omega|exact h trivial|exact h|exact h rfl|contradiction))<;>(try refine TE.run tysOk rfl (by rfl) ?_ ?_))))
  · (refine TE.ret' (by first|exact .inl rfl|exact .inr rfl) rfl tysOk (()) ?_ rfl (by rfl) ?_;all_goals (try (first|exact trivial|((with_reducible refine AllP.go ?_);dsimp only [AllP, appP];repeat' (first|with_reducible rfl|with_reducible exact LeD.refl|refine And.intro ?_ ?_|(refine congrArg (Value.int _) ?_;first|omega|rfl|(simp only [Int.toNat_natCast];omega))|rfl|(refine congrArg Value.bool ?_;assumption)|exact LeD.refl)))))
    unfold checkE; rw [if_pos (by omega)]
  refine TE.loopG (fun q : Nat => q ≤ l.length ∧ alonesE l = alonesE (l.drop q)) (fun q => [(16, .o (.c (.int .i64 q)))]) [] (fun _ => []) (fun q => l.length - q) 0 (by rfl) ⟨Nat.zero_le _, rfl⟩ ?_ ?_
  · (refine Ent.of rfl rfl (by rfl) ?_;(try (first|exact trivial|((with_reducible refine AllP.go ?_);dsimp only [AllP, appP];repeat' (first|with_reducible rfl|with_reducible exact LeD.refl|refine And.intro ?_ ?_|(refine congrArg (Value.int _) ?_;first|omega|rfl|(simp only [Int.toNat_natCast];omega))|rfl|(refine congrArg Value.bool ?_;assumption)|exact LeD.refl)))))
  rintro q ⟨h1, h2⟩
  (repeat' (first|(with_reducible refine AllP.go ?_;(first|exact trivial|exact fun i _ => ⟨_, rfl⟩|((try simp only [OS]);repeat' (first|omega|exact fun i _ => ⟨_, rfl⟩|refine And.intro ?_ ?_))))|(refine TE.rgo tysOk rfl (by rfl) ?_ ?_)|(with_reducible first|refine stp ?_|refine tD rfl ?_)|(with_reducible first|exact PanicOk.body|exact rd.panic|refine PanicOk.then' ?_|refine PanicOk.block ?_|refine PanicOk.jump ?_)|(refine TE.drawC (by rfl) (by rfl) (by rfl) (by rfl) ?_)|(refine TE.drawN (by rfl) (by rfl) (by rfl) ?_)|(refine TL.done (by rfl) ?_)|(refine TL.auto tysOk rfl ?_ (by rfl) ?_ ?_)|((refine TL.one (by rfl) ?_);first|(refine StepL.mem tysOk rfl rfl rfl rfl (by rfl) ?_ (by rfl) ?_)|(refine StepL.pure tysOk rfl rfl rfl rfl (by rfl) ?_ (by rfl) ?_))|(refine StepL.mem tysOk rfl rfl rfl rfl (by rfl) ?_ (by rfl) ?_)|refine TE.cond_true (by rfl) ?_|refine TE.cond_false (by rfl) ?_|((first|refine TE.gsplit (by rfl) (by rfl) ?_ ?_|refine TL.gsplit (by rfl) (by rfl) ?_ ?_|refine TE.cond_split (by rfl) ?_ ?_)<;>intro h<;>(try simp only [NS] at h)<;>(try (exfalso;first|omega|exact h trivial|exact h|exact h rfl|contradiction))<;>(try refine TE.run tysOk rfl (by rfl) ?_ ?_))))
  · refine TE.callW (alone_c (l.getD q d0) (hel q (by omega))) rfl (by rfl) (by rfl) rfl (by rfl) (by (first|exact trivial|((with_reducible refine AllP.go ?_);dsimp only [AllP, appP];repeat' (first|with_reducible rfl|with_reducible exact LeD.refl|refine And.intro ?_ ?_|(refine congrArg (Value.int _) ?_;first|omega|rfl|(simp only [Int.toNat_natCast];omega))|rfl|(refine congrArg Value.bool ?_;assumption)|assumption|exact LeD.refl)))) ?_
    intro _ _
    ((refine TE.run tysOk rfl (by rfl) ?_ ?_);(repeat' (first|(with_reducible refine AllP.go ?_;(first|exact trivial|exact fun i _ => ⟨_, rfl⟩|((try simp only [OS]);repeat' (first|omega|exact fun i _ => ⟨_, rfl⟩|refine And.intro ?_ ?_))))|(refine TE.rgo tysOk rfl (by rfl) ?_ ?_)|(with_reducible first|refine stp ?_|refine tD rfl ?_)|(with_reducible first|exact PanicOk.body|exact rd.panic|refine PanicOk.then' ?_|refine PanicOk.block ?_|refine PanicOk.jump ?_)|(refine TE.drawC (by rfl) (by rfl) (by rfl) (by rfl) ?_)|(refine TE.drawN (by rfl) (by rfl) (by rfl) ?_)|(refine TL.done (by rfl) ?_)|(refine TL.auto tysOk rfl ?_ (by rfl) ?_ ?_)|((refine TL.one (by rfl) ?_);first|(refine StepL.mem tysOk rfl rfl rfl rfl (by rfl) ?_ (by rfl) ?_)|(refine StepL.pure tysOk rfl rfl rfl rfl (by rfl) ?_ (by rfl) ?_))|(refine StepL.mem tysOk rfl rfl rfl rfl (by rfl) ?_ (by rfl) ?_)|refine TE.cond_true (by rfl) ?_|refine TE.cond_false (by rfl) ?_|((first|refine TE.gsplit (by rfl) (by rfl) ?_ ?_|refine TL.gsplit (by rfl) (by rfl) ?_ ?_|refine TE.cond_split (by rfl) ?_ ?_)<;>intro h<;>(try simp only [NS] at h)<;>(try (exfalso;first|omega|exact h trivial|exact h|exact h rfl|contradiction))<;>(try refine TE.run tysOk rfl (by rfl) ?_ ?_)))))
    · rw [alonesE_drop (by omega), if_pos (by assumption)] at h2
      (refine TE.ret' (by first|exact .inl rfl|exact .inr rfl) rfl tysOk (()) ?_ rfl (by rfl) ?_;all_goals (try (first|exact trivial|((with_reducible refine AllP.go ?_);dsimp only [AllP, appP];repeat' (first|with_reducible rfl|with_reducible exact LeD.refl|refine And.intro ?_ ?_|(refine congrArg (Value.int _) ?_;first|omega|rfl|(simp only [Int.toNat_natCast];omega))|rfl|(refine congrArg Value.bool ?_;assumption)|exact LeD.refl)))))
      unfold checkE; rw [if_neg (by omega), if_pos (by rw [h2]; assumption), h2]
    · rw [alonesE_drop (by omega), if_neg (by simp_all)] at h2
      refine TE.again' (q + 1) ⟨by omega, h2⟩ (by omega) ?_
      (refine Ent.of rfl rfl (by rfl) ?_;(try (first|exact trivial|((with_reducible refine AllP.go ?_);dsimp only [AllP, appP];repeat' (first|with_reducible rfl|with_reducible exact LeD.refl|refine And.intro ?_ ?_|(refine congrArg (Value.int _) ?_;first|omega|rfl|(simp only [Int.toNat_natCast];omega))|rfl|(refine congrArg Value.bool ?_;assumption)|exact LeD.refl)))))
  obtain rfl : q = l.length := by omega
  rw [List.drop_length] at h2
  have hal : alonesE l = 0 := h2
  (repeat' (first|(with_reducible refine AllP.go ?_;(first|exact trivial|exact fun i _ => ⟨_, rfl⟩|((try simp only [OS]);repeat' (first|omega|exact fun i _ => ⟨_, rfl⟩|refine And.intro ?_ ?_))))|(refine TE.rgo tysOk rfl (by rfl) ?_ ?_)|(with_reducible first|refine stp ?_|refine tD rfl ?_)|(with_reducible first|exact PanicOk.body|exact rd.panic|refine PanicOk.then' ?_|refine PanicOk.block ?_|refine PanicOk.jump ?_)|(refine TE.drawC (by rfl) (by rfl) (by rfl) (by rfl) ?_)|(refine TE.drawN (by rfl) (by rfl) (by rfl) ?_)|(refine TL.done (by rfl) ?_)|(refine TL.auto tysOk rfl ?_ (by rfl) ?_ ?_)|((refine TL.one (by rfl) ?_);first|(refine StepL.mem tysOk rfl rfl rfl rfl (by rfl) ?_ (by rfl) ?_)|(refine StepL.pure tysOk rfl rfl rfl rfl (by rfl) ?_ (by rfl) ?_))|(refine StepL.mem tysOk rfl rfl rfl rfl (by rfl) ?_ (by rfl) ?_)|refine TE.cond_true (by rfl) ?_|refine TE.cond_false (by rfl) ?_|((first|refine TE.gsplit (by rfl) (by rfl) ?_ ?_|refine TL.gsplit (by rfl) (by rfl) ?_ ?_|refine TE.cond_split (by rfl) ?_ ?_)<;>intro h<;>(try simp only [NS] at h)<;>(try (exfalso;first|omega|exact h trivial|exact h|exact h rfl|contradiction))<;>(try refine TE.run tysOk rfl (by rfl) ?_ ?_))))
  refine TE.loopG (fun q : Nat => q ≤ l.length ∧ dupQ l q = false) (fun q => [(28, .o (.c (.int .i64 q))), (6, .o (.c (.int .i64 (if invQ l q then 6 else 0))))]) [] (fun _ => []) (fun q => l.length - q) 0 (by rfl) ⟨Nat.zero_le _, rfl⟩ ?_ ?_
  · (refine Ent.of rfl rfl (by rfl) ?_;(try (first|exact trivial|((with_reducible refine AllP.go ?_);dsimp only [AllP, appP];repeat' (first|with_reducible rfl|with_reducible exact LeD.refl|refine And.intro ?_ ?_|(refine congrArg (Value.int _) ?_;first|omega|rfl|(simp only [Int.toNat_natCast];omega))|rfl|(refine congrArg Value.bool ?_;assumption)|exact LeD.refl)))))
  clear h1 h2
  rintro q ⟨h1, h2⟩
  (repeat' (first|(with_reducible refine AllP.go ?_;(first|exact trivial|exact fun i _ => ⟨_, rfl⟩|((try simp only [OS]);repeat' (first|omega|exact fun i _ => ⟨_, rfl⟩|refine And.intro ?_ ?_))))|(refine TE.rgo tysOk rfl (by rfl) ?_ ?_)|(with_reducible first|refine stp ?_|refine tD rfl ?_)|(with_reducible first|exact PanicOk.body|exact rd.panic|refine PanicOk.then' ?_|refine PanicOk.block ?_|refine PanicOk.jump ?_)|(refine TE.drawC (by rfl) (by rfl) (by rfl) (by rfl) ?_)|(refine TE.drawN (by rfl) (by rfl) (by rfl) ?_)|(refine TL.done (by rfl) ?_)|(refine TL.auto tysOk rfl ?_ (by rfl) ?_ ?_)|((refine TL.one (by rfl) ?_);first|(refine StepL.mem tysOk rfl rfl rfl rfl (by rfl) ?_ (by rfl) ?_)|(refine StepL.pure tysOk rfl rfl rfl rfl (by rfl) ?_ (by rfl) ?_))|(refine StepL.mem tysOk rfl rfl rfl rfl (by rfl) ?_ (by rfl) ?_)|refine TE.cond_true (by rfl) ?_|refine TE.cond_false (by rfl) ?_|((first|refine TE.gsplit (by rfl) (by rfl) ?_ ?_|refine TL.gsplit (by rfl) (by rfl) ?_ ?_|refine TE.cond_split (by rfl) ?_ ?_)<;>intro h<;>(try simp only [NS] at h)<;>(try (exfalso;first|omega|exact h trivial|exact h|exact h rfl|contradiction))<;>(try refine TE.run tysOk rfl (by rfl) ?_ ?_))))
  · refine TE.loopG (fun k : Nat => k ≤ q ∧ ((l.take k).any fun y => decide (y.1 = (l.getD q d0).1)) = false) (fun k => [(37, .o (.c (.int .i64 k))), (6, .o (.c (.int .i64 (if invQ l q || (l.take k).any (fun y => ltS (l.getD q d0).1 y.1) then 6 else 0))))]) [] (fun _ => []) (fun k => q - k) 0 (by rfl) ⟨Nat.zero_le _, by simp⟩ ?_ ?_
    · (refine Ent.of rfl rfl (by rfl) ?_;(try (first|exact trivial|((with_reducible refine AllP.go ?_);dsimp only [AllP, appP];repeat' (first|with_reducible rfl|with_reducible exact LeD.refl|refine And.intro ?_ ?_|(refine congrArg (Value.int _) ?_;first|omega|rfl|(simp only [Int.toNat_natCast];omega))|rfl|(refine congrArg Value.bool ?_;assumption)|exact LeD.refl)))))
      simp
    rintro k ⟨h3, h4⟩
    have hk5 : l.length ≤ k ∨ ((l.take (k + 1)).any (fun y => decide (y.1 = (l.getD q d0).1)) = ((l.take k).any (fun y => decide (y.1 = (l.getD q d0).1)) || decide ((l.getD k d0).1 = (l.getD q d0).1)) ∧ (l.take (k + 1)).any (fun y => ltS (l.getD q d0).1 y.1) = ((l.take k).any (fun y => ltS (l.getD q d0).1 y.1) || ltS (l.getD q d0).1 (l.getD k d0).1)) := (Nat.lt_or_ge k l.length).elim (fun h => .inr ⟨any_take_succ h, any_take_succ h⟩) .inl
    (repeat' (first|(with_reducible refine AllP.go ?_;(first|exact trivial|exact fun i _ => ⟨_, rfl⟩|((try simp only [OS]);repeat' (first|omega|exact fun i _ => ⟨_, rfl⟩|refine And.intro ?_ ?_))))|(refine TE.rgo tysOk rfl (by rfl) ?_ ?_)|(with_reducible first|refine stp ?_|refine tD rfl ?_)|(with_reducible first|exact PanicOk.body|exact rd.panic|refine PanicOk.then' ?_|refine PanicOk.block ?_|refine PanicOk.jump ?_)|(refine TE.drawC (by rfl) (by rfl) (by rfl) (by rfl) ?_)|(refine TE.drawN (by rfl) (by rfl) (by rfl) ?_)|(refine TL.done (by rfl) ?_)|(refine TL.auto tysOk rfl ?_ (by rfl) ?_ ?_)|((refine TL.one (by rfl) ?_);first|(refine StepL.mem tysOk rfl rfl rfl rfl (by rfl) ?_ (by rfl) ?_)|(refine StepL.pure tysOk rfl rfl rfl rfl (by rfl) ?_ (by rfl) ?_))|(refine StepL.mem tysOk rfl rfl rfl rfl (by rfl) ?_ (by rfl) ?_)|refine TE.cond_true (by rfl) ?_|refine TE.cond_false (by rfl) ?_|((first|refine TE.gsplit (by rfl) (by rfl) ?_ ?_|refine TL.gsplit (by rfl) (by rfl) ?_ ?_|refine TE.cond_split (by rfl) ?_ ?_)<;>intro h<;>(try simp only [NS] at h)<;>(try (exfalso;first|omega|exact h trivial|exact h|exact h rfl|contradiction))<;>(try refine TE.run tysOk rfl (by rfl) ?_ ?_))))
    · refine TE.callW (cmp_c (l.getD k d0).1 (l.getD q d0).1) rfl (by rfl) (by rfl) rfl (by rfl) (by (first|exact trivial|((with_reducible refine AllP.go ?_);dsimp only [AllP, appP];repeat' (first|with_reducible rfl|with_reducible exact LeD.refl|refine And.intro ?_ ?_|(refine congrArg (Value.int _) ?_;first|omega|rfl|(simp only [Int.toNat_natCast];omega))|rfl|(refine congrArg Value.bool ?_;assumption)|assumption|exact LeD.refl)))) ?_
      intro _ _
      obtain ⟨C, hC⟩ : ∃ C, C = cmpI (l.getD k d0).1 (l.getD q d0).1 := ⟨_, rfl⟩
      rw [← hC]
      ((refine TE.run tysOk rfl (by rfl) ?_ ?_);(repeat' (first|(with_reducible refine AllP.go ?_;(first|exact trivial|exact fun i _ => ⟨_, rfl⟩|((try simp only [OS]);repeat' (first|omega|exact fun i _ => ⟨_, rfl⟩|refine And.intro ?_ ?_))))|(refine TE.rgo tysOk rfl (by rfl) ?_ ?_)|(with_reducible first|refine stp ?_|refine tD rfl ?_)|(with_reducible first|exact PanicOk.body|exact rd.panic|refine PanicOk.then' ?_|refine PanicOk.block ?_|refine PanicOk.jump ?_)|(refine TE.drawC (by rfl) (by rfl) (by rfl) (by rfl) ?_)|(refine TE.drawN (by rfl) (by rfl) (by rfl) ?_)|(refine TL.done (by rfl) ?_)|(refine TL.auto tysOk rfl ?_ (by rfl) ?_ ?_)|((refine TL.one (by rfl) ?_);first|(refine StepL.mem tysOk rfl rfl rfl rfl (by rfl) ?_ (by rfl) ?_)|(refine StepL.pure tysOk rfl rfl rfl rfl (by rfl) ?_ (by rfl) ?_))|(refine StepL.mem tysOk rfl rfl rfl rfl (by rfl) ?_ (by rfl) ?_)|refine TE.cond_true (by rfl) ?_|refine TE.cond_false (by rfl) ?_|((first|refine TE.gsplit (by rfl) (by rfl) ?_ ?_|refine TL.gsplit (by rfl) (by rfl) ?_ ?_|refine TE.cond_split (by rfl) ?_ ?_)<;>intro h<;>(try simp only [NS] at h)<;>(try (exfalso;first|omega|exact h trivial|exact h|exact h rfl|contradiction))<;>(try refine TE.run tysOk rfl (by rfl) ?_ ?_)))))
      · have he : (l.getD k d0).1 = (l.getD q d0).1 := cmpI_eq.1 (by omega)
        (refine TE.ret' (by first|exact .inl rfl|exact .inr rfl) rfl tysOk (()) ?_ rfl (by rfl) ?_;all_goals (try (first|exact trivial|((with_reducible refine AllP.go ?_);dsimp only [AllP, appP];repeat' (first|with_reducible rfl|with_reducible exact LeD.refl|refine And.intro ?_ ?_|(refine congrArg (Value.int _) ?_;first|omega|rfl|(simp only [Int.toNat_natCast];omega))|rfl|(refine congrArg Value.bool ?_;assumption)|exact LeD.refl)))))
        have hd : dupB l = true := by
          rw [← dupQ_dupB]; exact (dupQ_iff (Nat.le_refl _)).2 ⟨q, k, by omega, by omega, he⟩
        unfold checkE; rw [if_neg (by omega), if_neg (by simp [hal]), if_pos hd]
      · have he : (l.getD k d0).1 ≠ (l.getD q d0).1 := fun e => by have := cmpI_eq.2 e; omega
        have hg := cmpI_gt.1 (show cmpI (l.getD k d0).1 (l.getD q d0).1 = 1 by omega)
        obtain ⟨e1, e2⟩ := hk5.resolve_left (by omega)
        refine TE.again' (k + 1) ⟨by omega, by rw [e1, h4]; simpa using he⟩ (by omega) ?_
        (refine Ent.of rfl rfl (by rfl) ?_;(try (first|exact trivial|((with_reducible refine AllP.go ?_);dsimp only [AllP, appP];repeat' (first|with_reducible rfl|with_reducible exact LeD.refl|refine And.intro ?_ ?_|(refine congrArg (Value.int _) ?_;first|omega|rfl|(simp only [Int.toNat_natCast];omega))|rfl|(refine congrArg Value.bool ?_;assumption)|exact LeD.refl)))))
        rw [e2, hg]; simp
      · have he : (l.getD k d0).1 ≠ (l.getD q d0).1 := fun e => by have := cmpI_eq.2 e; omega
        have hg : ltS (l.getD q d0).1 (l.getD k d0).1 = false := by
          cases h9 : ltS (l.getD q d0).1 (l.getD k d0).1
          · rfl
          · have := cmpI_gt.2 h9; omega
        obtain ⟨e1, e2⟩ := hk5.resolve_left (by omega)
        refine TE.again' (k + 1) ⟨by omega, by rw [e1, h4]; simpa using he⟩ (by omega) ?_
        (refine Ent.of rfl rfl (by rfl) ?_;(try (first|exact trivial|((with_reducible refine AllP.go ?_);dsimp only [AllP, appP];repeat' (first|with_reducible rfl|with_reducible exact LeD.refl|refine And.intro ?_ ?_|(refine congrArg (Value.int _) ?_;first|omega|rfl|(simp only [Int.toNat_natCast];omega))|rfl|(refine congrArg Value.bool ?_;assumption)|exact LeD.refl)))))
        rw [e2, hg, Bool.or_false]
    · obtain rfl : k = q := by omega
      refine TE.again' (k + 1) ⟨by omega, by rw [dupQ, h2, h4]; rfl⟩ (by omega) ?_
      (refine Ent.of rfl rfl (by rfl) ?_;(try (first|exact trivial|((with_reducible refine AllP.go ?_);dsimp only [AllP, appP];repeat' (first|with_reducible rfl|with_reducible exact LeD.refl|refine And.intro ?_ ?_|(refine congrArg (Value.int _) ?_;first|omega|rfl|(simp only [Int.toNat_natCast];omega))|rfl|(refine congrArg Value.bool ?_;assumption)|exact LeD.refl)))))
  all_goals
    obtain rfl : q = l.length := by omega
    rw [dupQ_dupB] at h2
    rw [invQ_sorted h2] at *
  · have hs : sortedB l = true := by cases h9 : sortedB l <;> simp_all
    refine TE.callW (fit_c l hl hb) rfl (by rfl) (by rfl) rfl (by rfl) (by (first|exact trivial|((with_reducible refine AllP.go ?_);dsimp only [AllP, appP];repeat' (first|with_reducible rfl|with_reducible exact LeD.refl|refine And.intro ?_ ?_|(refine congrArg (Value.int _) ?_;first|omega|rfl|(simp only [Int.toNat_natCast];omega))|rfl|(refine congrArg Value.bool ?_;assumption)|assumption|exact LeD.refl)))) ?_
    intro _ _
    ((refine TE.run tysOk rfl (by rfl) ?_ ?_);(repeat' (first|(with_reducible refine AllP.go ?_;(first|exact trivial|exact fun i _ => ⟨_, rfl⟩|((try simp only [OS]);repeat' (first|omega|exact fun i _ => ⟨_, rfl⟩|refine And.intro ?_ ?_))))|(refine TE.rgo tysOk rfl (by rfl) ?_ ?_)|(with_reducible first|refine stp ?_|refine tD rfl ?_)|(with_reducible first|exact PanicOk.body|exact rd.panic|refine PanicOk.then' ?_|refine PanicOk.block ?_|refine PanicOk.jump ?_)|(refine TE.drawC (by rfl) (by rfl) (by rfl) (by rfl) ?_)|(refine TE.drawN (by rfl) (by rfl) (by rfl) ?_)|(refine TL.done (by rfl) ?_)|(refine TL.auto tysOk rfl ?_ (by rfl) ?_ ?_)|((refine TL.one (by rfl) ?_);first|(refine StepL.mem tysOk rfl rfl rfl rfl (by rfl) ?_ (by rfl) ?_)|(refine StepL.pure tysOk rfl rfl rfl rfl (by rfl) ?_ (by rfl) ?_))|(refine StepL.mem tysOk rfl rfl rfl rfl (by rfl) ?_ (by rfl) ?_)|refine TE.cond_true (by rfl) ?_|refine TE.cond_false (by rfl) ?_|((first|refine TE.gsplit (by rfl) (by rfl) ?_ ?_|refine TL.gsplit (by rfl) (by rfl) ?_ ?_|refine TE.cond_split (by rfl) ?_ ?_)<;>intro h<;>(try simp only [NS] at h)<;>(try (exfalso;first|omega|exact h trivial|exact h|exact h rfl|contradiction))<;>(try refine TE.run tysOk rfl (by rfl) ?_ ?_)))))
    (refine TE.ret' (by first|exact .inl rfl|exact .inr rfl) rfl tysOk (()) ?_ rfl (by rfl) ?_;all_goals (try (first|exact trivial|((with_reducible refine AllP.go ?_);dsimp only [AllP, appP];repeat' (first|with_reducible rfl|with_reducible exact LeD.refl|refine And.intro ?_ ?_|(refine congrArg (Value.int _) ?_;first|omega|rfl|(simp only [Int.toNat_natCast];omega))|rfl|(refine congrArg Value.bool ?_;assumption)|exact LeD.refl)))))
    rw [checkE_of (by omega) hal h2, hs]; rfl
  · have hs : sortedB l = false := by cases h9 : sortedB l <;> simp_all
    (refine TE.ret' (by first|exact .inl rfl|exact .inr rfl) rfl tysOk (()) ?_ rfl (by rfl) ?_;all_goals (try (first|exact trivial|((with_reducible refine AllP.go ?_);dsimp only [AllP, appP];repeat' (first|with_reducible rfl|with_reducible exact LeD.refl|refine And.intro ?_ ?_|(refine congrArg (Value.int _) ?_;first|omega|rfl|(simp only [Int.toNat_natCast];omega))|rfl|(refine congrArg Value.bool ?_;assumption)|exact LeD.refl)))))
    rw [checkE_of (by omega) hal h2, hs]; rfl
end Go.Proofs.Ythhpofehcnjmmaa.Am
/- The attributes: the program's set, Set, Del, Spare. -/
set_option linter.unusedSimpArgs false
set_option linter.unusedVariables false
namespace Go.Proofs.Ythhpofehcnjmmaa.Am
open Go.RowKit Lw At
end Go.Proofs.Ythhpofehcnjmmaa.Am
/- The attributes: the program's Spare and Pack. -/
set_option linter.unusedSimpArgs false
set_option linter.unusedVariables false
namespace Go.Proofs.Ythhpofehcnjmmaa.Am
open Go.RowKit Lw At
end Go.Proofs.Ythhpofehcnjmmaa.Am
/- The attributes: the reference's Check, Size, Get. -/
set_option linter.unusedSimpArgs false
set_option linter.unusedVariables false
namespace Go.Proofs.Ythhpofehcnjmmaa.Am
open Go.RowKit Lw At
end Go.Proofs.Ythhpofehcnjmmaa.Am
/- Branches: names and paths, checked. -/
set_option linter.unusedSimpArgs false
set_option linter.unusedVariables false
namespace Go.Proofs.Ythhpofehcnjmmaa.Am
open Go.RowKit Lw
open Br
set_option maxRecDepth 20000 in
theorem pbad_c (c : Int) : Con Try.prog 91 [.o (.c (.int .i32 c))] [] 0 0 U (fun _ => .o (.sb (decide (c < 33 ∨ 126 < c ∨ c = 47)))) G0 := by
  refine con_of Try.func91 rfl (by kernel_rfl) Try.ntmps91 rfl (by first | exact Nat.zero_le _ | decide) (fun _ => ⟨rfl, rfl⟩) fun w S ν => ?_
  (repeat' (first|(with_reducible refine AllP.go ?_;(first|exact trivial|exact fun i _ => ⟨_, rfl⟩|((try simp only [OS]);repeat' (first|omega|exact fun i _ => ⟨_, rfl⟩|refine And.intro ?_ ?_))))|(refine TE.rgo tysOk rfl (by rfl) ?_ ?_)|(with_reducible first|refine stp ?_|refine tD rfl ?_)|(with_reducible first|exact PanicOk.body|exact rd.panic|refine PanicOk.then' ?_|refine PanicOk.block ?_|refine PanicOk.jump ?_)|(refine TE.drawC (by rfl) (by rfl) (by rfl) (by rfl) ?_)|(refine TE.drawN (by rfl) (by rfl) (by rfl) ?_)|(refine TL.done (by rfl) ?_)|(refine TL.auto tysOk rfl ?_ (by rfl) ?_ ?_)|((refine TL.one (by rfl) ?_);first|(refine StepL.mem tysOk rfl rfl rfl rfl (by rfl) ?_ (by rfl) ?_)|(refine StepL.pure tysOk rfl rfl rfl rfl (by rfl) ?_ (by rfl) ?_))|(refine StepL.mem tysOk rfl rfl rfl rfl (by rfl) ?_ (by rfl) ?_)|refine TE.cond_true (by rfl) ?_|refine TE.cond_false (by rfl) ?_|((first|refine TE.gsplit (by rfl) (by rfl) ?_ ?_|refine TL.gsplit (by rfl) (by rfl) ?_ ?_|refine TE.cond_split (by rfl) ?_ ?_)<;>intro h<;>(try simp only [NS] at h)<;>(try (exfalso;first|omega|exact h trivial|exact h|exact h rfl|contradiction))<;>(try refine TE.run tysOk rfl (by rfl) ?_ ?_))))
  all_goals ((refine TE.ret' (by first|exact .inl rfl|exact .inr rfl) rfl tysOk (()) ?_ rfl (by rfl) ?_;all_goals (try (first|exact trivial|((with_reducible refine AllP.go ?_);dsimp only [AllP, appP];repeat' (first|with_reducible rfl|with_reducible exact LeD.refl|refine And.intro ?_ ?_|(refine congrArg (Value.int _) ?_;first|omega|rfl|(simp only [Int.toNat_natCast];omega))|rfl|(refine congrArg Value.bool ?_;assumption)|exact LeD.refl)))));first|(refine congrArg Value.bool (Eq.symm (decide_eq_true ?_));omega)|(simp only [decide_eq_decide];omega)|skip)
set_option maxRecDepth 20000 in
theorem pindexf_c (s : ByteArray) (hs : s.size ≤ 1000000000) : Con Try.prog 116 [.o (.c (.string s)), .o (.c (.func (.func 91) #[] #[])), .o (.c (.bool true))] [] 0 0 (fun i : Int => (i = -1 ∧ s.data.toList.any badC = false) ∨ (0 ≤ i ∧ s.data.toList.any badC = true)) (fun i => .o (.c (.int .i64 i))) (fun _ => []) := by
  refine con_of Try.func116 rfl (by kernel_rfl) Try.ntmps116 rfl (by first | exact Nat.zero_le _ | decide) (fun _ => ⟨rfl, rfl⟩) fun w S ν => ?_
  have hsz : s.data.toList.length = s.size := rfl
  (repeat' (first|(with_reducible refine AllP.go ?_;(first|exact trivial|exact fun i _ => ⟨_, rfl⟩|((try simp only [OS]);repeat' (first|omega|exact fun i _ => ⟨_, rfl⟩|refine And.intro ?_ ?_))))|(refine TE.rgo tysOk rfl (by rfl) ?_ ?_)|(with_reducible first|refine stp ?_|refine tD rfl ?_)|(with_reducible first|exact PanicOk.body|exact rd.panic|refine PanicOk.then' ?_|refine PanicOk.block ?_|refine PanicOk.jump ?_)|(refine TE.drawC (by rfl) (by rfl) (by rfl) (by rfl) ?_)|(refine TE.drawN (by rfl) (by rfl) (by rfl) ?_)|(refine TL.done (by rfl) ?_)|(refine TL.auto tysOk rfl ?_ (by rfl) ?_ ?_)|((refine TL.one (by rfl) ?_);first|(refine StepL.mem tysOk rfl rfl rfl rfl (by rfl) ?_ (by rfl) ?_)|(refine StepL.pure tysOk rfl rfl rfl rfl (by rfl) ?_ (by rfl) ?_))|(refine StepL.mem tysOk rfl rfl rfl rfl (by rfl) ?_ (by rfl) ?_)|refine TE.cond_true (by rfl) ?_|refine TE.cond_false (by rfl) ?_|((first|refine TE.gsplit (by rfl) (by rfl) ?_ ?_|refine TL.gsplit (by rfl) (by rfl) ?_ ?_|refine TE.cond_split (by rfl) ?_ ?_)<;>intro h<;>(try simp only [NS] at h)<;>(try (exfalso;first|omega|exact h trivial|exact h|exact h rfl|contradiction))<;>(try refine TE.run tysOk rfl (by rfl) ?_ ?_))))
  (refine TE.step rfl rfl rfl (fun _ h => nomatch h) (m_rangeS tysOk rfl rfl rfl) ?_; rintro _ rfl)
  ((refine TE.run tysOk rfl (by rfl) ?_ ?_);(repeat' (first|(with_reducible refine AllP.go ?_;(first|exact trivial|exact fun i _ => ⟨_, rfl⟩|((try simp only [OS]);repeat' (first|omega|exact fun i _ => ⟨_, rfl⟩|refine And.intro ?_ ?_))))|(refine TE.rgo tysOk rfl (by rfl) ?_ ?_)|(with_reducible first|refine stp ?_|refine tD rfl ?_)|(with_reducible first|exact PanicOk.body|exact rd.panic|refine PanicOk.then' ?_|refine PanicOk.block ?_|refine PanicOk.jump ?_)|(refine TE.drawC (by rfl) (by rfl) (by rfl) (by rfl) ?_)|(refine TE.drawN (by rfl) (by rfl) (by rfl) ?_)|(refine TL.done (by rfl) ?_)|(refine TL.auto tysOk rfl ?_ (by rfl) ?_ ?_)|((refine TL.one (by rfl) ?_);first|(refine StepL.mem tysOk rfl rfl rfl rfl (by rfl) ?_ (by rfl) ?_)|(refine StepL.pure tysOk rfl rfl rfl rfl (by rfl) ?_ (by rfl) ?_))|(refine StepL.mem tysOk rfl rfl rfl rfl (by rfl) ?_ (by rfl) ?_)|refine TE.cond_true (by rfl) ?_|refine TE.cond_false (by rfl) ?_|((first|refine TE.gsplit (by rfl) (by rfl) ?_ ?_|refine TL.gsplit (by rfl) (by rfl) ?_ ?_|refine TE.cond_split (by rfl) ?_ ?_)<;>intro h<;>(try simp only [NS] at h)<;>(try (exfalso;first|omega|exact h trivial|exact h|exact h rfl|contradiction))<;>(try refine TE.run tysOk rfl (by rfl) ?_ ?_)))))
  refine TE.loopG (fun q : Nat => q ≤ s.size ∧ ∀ k, k < q → badC (s.data.toList.getD k 0) = false) (fun _ => []) [0] (fun q => [.obj 0 (.stringIter s q)]) (fun q => s.size - q) 0 (by rfl) ⟨Nat.zero_le _, fun k hk => absurd hk (Nat.not_lt_zero _)⟩ ?_ ?_
  · (refine Ent.of rfl rfl (by rfl) ?_;(try (first|exact trivial|((with_reducible refine AllP.go ?_);dsimp only [AllP, appP];repeat' (first|with_reducible rfl|with_reducible exact LeD.refl|refine And.intro ?_ ?_|(refine congrArg (Value.int _) ?_;first|omega|rfl|(simp only [Int.toNat_natCast];omega))|rfl|(refine congrArg Value.bool ?_;assumption)|exact LeD.refl)))))
  rintro q ⟨h1, h2⟩
  (repeat' (first|(with_reducible refine AllP.go ?_;(first|exact trivial|exact fun i _ => ⟨_, rfl⟩|((try simp only [OS]);repeat' (first|omega|exact fun i _ => ⟨_, rfl⟩|refine And.intro ?_ ?_))))|(refine TE.rgo tysOk rfl (by rfl) ?_ ?_)|(with_reducible first|refine stp ?_|refine tD rfl ?_)|(with_reducible first|exact PanicOk.body|exact rd.panic|refine PanicOk.then' ?_|refine PanicOk.block ?_|refine PanicOk.jump ?_)|(refine TE.drawC (by rfl) (by rfl) (by rfl) (by rfl) ?_)|(refine TE.drawN (by rfl) (by rfl) (by rfl) ?_)|(refine TL.done (by rfl) ?_)|(refine TL.auto tysOk rfl ?_ (by rfl) ?_ ?_)|((refine TL.one (by rfl) ?_);first|(refine StepL.mem tysOk rfl rfl rfl rfl (by rfl) ?_ (by rfl) ?_)|(refine StepL.pure tysOk rfl rfl rfl rfl (by rfl) ?_ (by rfl) ?_))|(refine StepL.mem tysOk rfl rfl rfl rfl (by rfl) ?_ (by rfl) ?_)|refine TE.cond_true (by rfl) ?_|refine TE.cond_false (by rfl) ?_|((first|refine TE.gsplit (by rfl) (by rfl) ?_ ?_|refine TL.gsplit (by rfl) (by rfl) ?_ ?_|refine TE.cond_split (by rfl) ?_ ?_)<;>intro h<;>(try simp only [NS] at h)<;>(try (exfalso;first|omega|exact h trivial|exact h|exact h rfl|contradiction))<;>(try refine TE.run tysOk rfl (by rfl) ?_ ?_))))
  (refine TE.step rfl rfl rfl (fun _ h => nomatch h) (m_nextS rfl rfl rfl rfl) ?_; rintro _ (⟨h, rfl⟩ | ⟨h, rfl⟩))
  · obtain ⟨c, hc, hw, hbad⟩ : ∃ c : Nat, (Utf8.decode s q).1 = c ∧ (decide ((c : Int) < 33 ∨ (126 : Int) < c ∨ (c : Int) = 47) = false → (Utf8.decode s q).2 = 1 ∧ badC (s.data.toList.getD q 0) = false) ∧ (decide ((c : Int) < 33 ∨ (126 : Int) < c ∨ (c : Int) = 47) = true → badC (s.data.toList.getD q 0) = true) := by
      refine ⟨_, rfl, ?_, ?_⟩
      all_goals
        rcases Nat.lt_or_ge (s.data.toList.getD q 0).toNat 128 with h3 | h3
        · rw [decode_low h h3]
          unfold badC
          intro hx
          simp only [decide_eq_true_eq, decide_eq_false_iff_not] at hx ⊢
          first | exact ⟨trivial, by omega⟩ | omega
        · have := decode_high h h3
          unfold badC
          intro hx
          simp only [decide_eq_true_eq, decide_eq_false_iff_not] at hx ⊢
          omega
    rw [hc]
    ((refine TE.run tysOk rfl (by rfl) ?_ ?_);(repeat' (first|(with_reducible refine AllP.go ?_;(first|exact trivial|exact fun i _ => ⟨_, rfl⟩|((try simp only [OS]);repeat' (first|omega|exact fun i _ => ⟨_, rfl⟩|refine And.intro ?_ ?_))))|(refine TE.rgo tysOk rfl (by rfl) ?_ ?_)|(with_reducible first|refine stp ?_|refine tD rfl ?_)|(with_reducible first|exact PanicOk.body|exact rd.panic|refine PanicOk.then' ?_|refine PanicOk.block ?_|refine PanicOk.jump ?_)|(refine TE.drawC (by rfl) (by rfl) (by rfl) (by rfl) ?_)|(refine TE.drawN (by rfl) (by rfl) (by rfl) ?_)|(refine TL.done (by rfl) ?_)|(refine TL.auto tysOk rfl ?_ (by rfl) ?_ ?_)|((refine TL.one (by rfl) ?_);first|(refine StepL.mem tysOk rfl rfl rfl rfl (by rfl) ?_ (by rfl) ?_)|(refine StepL.pure tysOk rfl rfl rfl rfl (by rfl) ?_ (by rfl) ?_))|(refine StepL.mem tysOk rfl rfl rfl rfl (by rfl) ?_ (by rfl) ?_)|refine TE.cond_true (by rfl) ?_|refine TE.cond_false (by rfl) ?_|((first|refine TE.gsplit (by rfl) (by rfl) ?_ ?_|refine TL.gsplit (by rfl) (by rfl) ?_ ?_|refine TE.cond_split (by rfl) ?_ ?_)<;>intro h<;>(try simp only [NS] at h)<;>(try (exfalso;first|omega|exact h trivial|exact h|exact h rfl|contradiction))<;>(try refine TE.run tysOk rfl (by rfl) ?_ ?_)))))
    refine TE.callW (pbad_c c) rfl (by rfl) (by rfl) rfl (by rfl) (by (first|exact trivial|((with_reducible refine AllP.go ?_);dsimp only [AllP, appP];repeat' (first|with_reducible rfl|with_reducible exact LeD.refl|refine And.intro ?_ ?_|(refine congrArg (Value.int _) ?_;first|omega|rfl|(simp only [Int.toNat_natCast];omega))|rfl|(refine congrArg Value.bool ?_;assumption)|assumption|exact LeD.refl)))) ?_
    intro _ _
    ((refine TE.run tysOk rfl (by rfl) ?_ ?_);(repeat' (first|(with_reducible refine AllP.go ?_;(first|exact trivial|exact fun i _ => ⟨_, rfl⟩|((try simp only [OS]);repeat' (first|omega|exact fun i _ => ⟨_, rfl⟩|refine And.intro ?_ ?_))))|(refine TE.rgo tysOk rfl (by rfl) ?_ ?_)|(with_reducible first|refine stp ?_|refine tD rfl ?_)|(with_reducible first|exact PanicOk.body|exact rd.panic|refine PanicOk.then' ?_|refine PanicOk.block ?_|refine PanicOk.jump ?_)|(refine TE.drawC (by rfl) (by rfl) (by rfl) (by rfl) ?_)|(refine TE.drawN (by rfl) (by rfl) (by rfl) ?_)|(refine TL.done (by rfl) ?_)|(refine TL.auto tysOk rfl ?_ (by rfl) ?_ ?_)|((refine TL.one (by rfl) ?_);first|(refine StepL.mem tysOk rfl rfl rfl rfl (by rfl) ?_ (by rfl) ?_)|(refine StepL.pure tysOk rfl rfl rfl rfl (by rfl) ?_ (by rfl) ?_))|(refine StepL.mem tysOk rfl rfl rfl rfl (by rfl) ?_ (by rfl) ?_)|refine TE.cond_true (by rfl) ?_|refine TE.cond_false (by rfl) ?_|((first|refine TE.gsplit (by rfl) (by rfl) ?_ ?_|refine TL.gsplit (by rfl) (by rfl) ?_ ?_|refine TE.cond_split (by rfl) ?_ ?_)<;>intro h<;>(try simp only [NS] at h)<;>(try (exfalso;first|omega|exact h trivial|exact h|exact h rfl|contradiction))<;>(try refine TE.run tysOk rfl (by rfl) ?_ ?_)))))
    · (refine TE.ret' (by first|exact .inl rfl|exact .inr rfl) rfl tysOk ((q : Int)) ?_ rfl (by rfl) ?_;all_goals (try (first|exact trivial|((with_reducible refine AllP.go ?_);dsimp only [AllP, appP];repeat' (first|with_reducible rfl|with_reducible exact LeD.refl|refine And.intro ?_ ?_|(refine congrArg (Value.int _) ?_;first|omega|rfl|(simp only [Int.toNat_natCast];omega))|rfl|(refine congrArg Value.bool ?_;assumption)|exact LeD.refl)))))
      exact .inr ⟨by omega, any_getD (by omega) (hbad (by simpa using h))⟩
    · obtain ⟨hw1, hw2⟩ := hw (by simpa using h)
      refine TE.again' (q + 1) ⟨by omega, fun k hk => ?_⟩ (by omega) ?_
      · rcases Nat.lt_or_ge k q with h4 | h4
        · exact h2 k h4
        · obtain rfl : k = q := by omega
          exact hw2
      · (refine Ent.of rfl rfl (by rfl) ?_;(try (first|exact trivial|((with_reducible refine AllP.go ?_);dsimp only [AllP, appP];repeat' (first|with_reducible rfl|with_reducible exact LeD.refl|refine And.intro ?_ ?_|(refine congrArg (Value.int _) ?_;first|omega|rfl|(simp only [Int.toNat_natCast];omega))|rfl|(refine congrArg Value.bool ?_;assumption)|exact LeD.refl)))))
        rw [hw1]
  · ((refine TE.run tysOk rfl (by rfl) ?_ ?_);(repeat' (first|(with_reducible refine AllP.go ?_;(first|exact trivial|exact fun i _ => ⟨_, rfl⟩|((try simp only [OS]);repeat' (first|omega|exact fun i _ => ⟨_, rfl⟩|refine And.intro ?_ ?_))))|(refine TE.rgo tysOk rfl (by rfl) ?_ ?_)|(with_reducible first|refine stp ?_|refine tD rfl ?_)|(with_reducible first|exact PanicOk.body|exact rd.panic|refine PanicOk.then' ?_|refine PanicOk.block ?_|refine PanicOk.jump ?_)|(refine TE.drawC (by rfl) (by rfl) (by rfl) (by rfl) ?_)|(refine TE.drawN (by rfl) (by rfl) (by rfl) ?_)|(refine TL.done (by rfl) ?_)|(refine TL.auto tysOk rfl ?_ (by rfl) ?_ ?_)|((refine TL.one (by rfl) ?_);first|(refine StepL.mem tysOk rfl rfl rfl rfl (by rfl) ?_ (by rfl) ?_)|(refine StepL.pure tysOk rfl rfl rfl rfl (by rfl) ?_ (by rfl) ?_))|(refine StepL.mem tysOk rfl rfl rfl rfl (by rfl) ?_ (by rfl) ?_)|refine TE.cond_true (by rfl) ?_|refine TE.cond_false (by rfl) ?_|((first|refine TE.gsplit (by rfl) (by rfl) ?_ ?_|refine TL.gsplit (by rfl) (by rfl) ?_ ?_|refine TE.cond_split (by rfl) ?_ ?_)<;>intro h<;>(try simp only [NS] at h)<;>(try (exfalso;first|omega|exact h trivial|exact h|exact h rfl|contradiction))<;>(try refine TE.run tysOk rfl (by rfl) ?_ ?_)))))
    (refine TE.ret' (by first|exact .inl rfl|exact .inr rfl) rfl tysOk ((-1 : Int)) ?_ rfl (by rfl) ?_;all_goals (try (first|exact trivial|((with_reducible refine AllP.go ?_);dsimp only [AllP, appP];repeat' (first|with_reducible rfl|with_reducible exact LeD.refl|refine And.intro ?_ ?_|(refine congrArg (Value.int _) ?_;first|omega|rfl|(simp only [Int.toNat_natCast];omega))|rfl|(refine congrArg Value.bool ?_;assumption)|exact LeD.refl)))))
    exact .inl ⟨rfl, any_false fun k hk => h2 k (by omega)⟩
set_option maxRecDepth 20000 in
theorem pIndexF_c (s : ByteArray) (hs : s.size ≤ 1000000000) : Con Try.prog 108 [.o (.c (.string s)), .o (.c (.func (.func 91) #[] #[]))] [] 0 0 (fun i : Int => (i = -1 ∧ s.data.toList.any badC = false) ∨ (0 ≤ i ∧ s.data.toList.any badC = true)) (fun i => .o (.c (.int .i64 i))) (fun _ => []) := by
  refine con_of Try.func108 rfl (by kernel_rfl) Try.ntmps108 rfl (by first | exact Nat.zero_le _ | decide) (fun _ => ⟨rfl, rfl⟩) fun w S ν => ?_
  (repeat' (first|(with_reducible refine AllP.go ?_;(first|exact trivial|exact fun i _ => ⟨_, rfl⟩|((try simp only [OS]);repeat' (first|omega|exact fun i _ => ⟨_, rfl⟩|refine And.intro ?_ ?_))))|(refine TE.rgo tysOk rfl (by rfl) ?_ ?_)|(with_reducible first|refine stp ?_|refine tD rfl ?_)|(with_reducible first|exact PanicOk.body|exact rd.panic|refine PanicOk.then' ?_|refine PanicOk.block ?_|refine PanicOk.jump ?_)|(refine TE.drawC (by rfl) (by rfl) (by rfl) (by rfl) ?_)|(refine TE.drawN (by rfl) (by rfl) (by rfl) ?_)|(refine TL.done (by rfl) ?_)|(refine TL.auto tysOk rfl ?_ (by rfl) ?_ ?_)|((refine TL.one (by rfl) ?_);first|(refine StepL.mem tysOk rfl rfl rfl rfl (by rfl) ?_ (by rfl) ?_)|(refine StepL.pure tysOk rfl rfl rfl rfl (by rfl) ?_ (by rfl) ?_))|(refine StepL.mem tysOk rfl rfl rfl rfl (by rfl) ?_ (by rfl) ?_)|refine TE.cond_true (by rfl) ?_|refine TE.cond_false (by rfl) ?_|((first|refine TE.gsplit (by rfl) (by rfl) ?_ ?_|refine TL.gsplit (by rfl) (by rfl) ?_ ?_|refine TE.cond_split (by rfl) ?_ ?_)<;>intro h<;>(try simp only [NS] at h)<;>(try (exfalso;first|omega|exact h trivial|exact h|exact h rfl|contradiction))<;>(try refine TE.run tysOk rfl (by rfl) ?_ ?_))))
  refine TE.callW (pindexf_c s hs) rfl (by rfl) (by rfl) rfl (by rfl) (by (first|exact trivial|((with_reducible refine AllP.go ?_);dsimp only [AllP, appP];repeat' (first|with_reducible rfl|with_reducible exact LeD.refl|refine And.intro ?_ ?_|(refine congrArg (Value.int _) ?_;first|omega|rfl|(simp only [Int.toNat_natCast];omega))|rfl|(refine congrArg Value.bool ?_;assumption)|assumption|exact LeD.refl)))) ?_
  intro i hi
  ((refine TE.run tysOk rfl (by rfl) ?_ ?_);(repeat' (first|(with_reducible refine AllP.go ?_;(first|exact trivial|exact fun i _ => ⟨_, rfl⟩|((try simp only [OS]);repeat' (first|omega|exact fun i _ => ⟨_, rfl⟩|refine And.intro ?_ ?_))))|(refine TE.rgo tysOk rfl (by rfl) ?_ ?_)|(with_reducible first|refine stp ?_|refine tD rfl ?_)|(with_reducible first|exact PanicOk.body|exact rd.panic|refine PanicOk.then' ?_|refine PanicOk.block ?_|refine PanicOk.jump ?_)|(refine TE.drawC (by rfl) (by rfl) (by rfl) (by rfl) ?_)|(refine TE.drawN (by rfl) (by rfl) (by rfl) ?_)|(refine TL.done (by rfl) ?_)|(refine TL.auto tysOk rfl ?_ (by rfl) ?_ ?_)|((refine TL.one (by rfl) ?_);first|(refine StepL.mem tysOk rfl rfl rfl rfl (by rfl) ?_ (by rfl) ?_)|(refine StepL.pure tysOk rfl rfl rfl rfl (by rfl) ?_ (by rfl) ?_))|(refine StepL.mem tysOk rfl rfl rfl rfl (by rfl) ?_ (by rfl) ?_)|refine TE.cond_true (by rfl) ?_|refine TE.cond_false (by rfl) ?_|((first|refine TE.gsplit (by rfl) (by rfl) ?_ ?_|refine TL.gsplit (by rfl) (by rfl) ?_ ?_|refine TE.cond_split (by rfl) ?_ ?_)<;>intro h<;>(try simp only [NS] at h)<;>(try (exfalso;first|omega|exact h trivial|exact h|exact h rfl|contradiction))<;>(try refine TE.run tysOk rfl (by rfl) ?_ ?_)))))
  (refine TE.ret' (by first|exact .inl rfl|exact .inr rfl) rfl tysOk (i) ?_ rfl (by rfl) ?_;all_goals (try (first|exact trivial|((with_reducible refine AllP.go ?_);dsimp only [AllP, appP];repeat' (first|with_reducible rfl|with_reducible exact LeD.refl|refine And.intro ?_ ?_|(refine congrArg (Value.int _) ?_;first|omega|rfl|(simp only [Int.toNat_natCast];omega))|rfl|(refine congrArg Value.bool ?_;assumption)|exact LeD.refl)))))
  exact hi
set_option maxRecDepth 20000 in
theorem pContains_c (s : ByteArray) (hs : s.size ≤ 1000000000) : Con Try.prog 90 [.o (.c (.string s)), .o (.c (.func (.func 91) #[] #[]))] [] 0 0 U (fun _ => .o (.sb (s.data.toList.any badC))) G0 := by
  refine con_of Try.func90 rfl (by kernel_rfl) Try.ntmps90 rfl (by first | exact Nat.zero_le _ | decide) (fun _ => ⟨rfl, rfl⟩) fun w S ν => ?_
  (repeat' (first|(with_reducible refine AllP.go ?_;(first|exact trivial|exact fun i _ => ⟨_, rfl⟩|((try simp only [OS]);repeat' (first|omega|exact fun i _ => ⟨_, rfl⟩|refine And.intro ?_ ?_))))|(refine TE.rgo tysOk rfl (by rfl) ?_ ?_)|(with_reducible first|refine stp ?_|refine tD rfl ?_)|(with_reducible first|exact PanicOk.body|exact rd.panic|refine PanicOk.then' ?_|refine PanicOk.block ?_|refine PanicOk.jump ?_)|(refine TE.drawC (by rfl) (by rfl) (by rfl) (by rfl) ?_)|(refine TE.drawN (by rfl) (by rfl) (by rfl) ?_)|(refine TL.done (by rfl) ?_)|(refine TL.auto tysOk rfl ?_ (by rfl) ?_ ?_)|((refine TL.one (by rfl) ?_);first|(refine StepL.mem tysOk rfl rfl rfl rfl (by rfl) ?_ (by rfl) ?_)|(refine StepL.pure tysOk rfl rfl rfl rfl (by rfl) ?_ (by rfl) ?_))|(refine StepL.mem tysOk rfl rfl rfl rfl (by rfl) ?_ (by rfl) ?_)|refine TE.cond_true (by rfl) ?_|refine TE.cond_false (by rfl) ?_|((first|refine TE.gsplit (by rfl) (by rfl) ?_ ?_|refine TL.gsplit (by rfl) (by rfl) ?_ ?_|refine TE.cond_split (by rfl) ?_ ?_)<;>intro h<;>(try simp only [NS] at h)<;>(try (exfalso;first|omega|exact h trivial|exact h|exact h rfl|contradiction))<;>(try refine TE.run tysOk rfl (by rfl) ?_ ?_))))
  refine TE.callW (pIndexF_c s hs) rfl (by rfl) (by rfl) rfl (by rfl) (by (first|exact trivial|((with_reducible refine AllP.go ?_);dsimp only [AllP, appP];repeat' (first|with_reducible rfl|with_reducible exact LeD.refl|refine And.intro ?_ ?_|(refine congrArg (Value.int _) ?_;first|omega|rfl|(simp only [Int.toNat_natCast];omega))|rfl|(refine congrArg Value.bool ?_;assumption)|assumption|exact LeD.refl)))) ?_
  intro i hi
  ((refine TE.run tysOk rfl (by rfl) ?_ ?_);(repeat' (first|(with_reducible refine AllP.go ?_;(first|exact trivial|exact fun i _ => ⟨_, rfl⟩|((try simp only [OS]);repeat' (first|omega|exact fun i _ => ⟨_, rfl⟩|refine And.intro ?_ ?_))))|(refine TE.rgo tysOk rfl (by rfl) ?_ ?_)|(with_reducible first|refine stp ?_|refine tD rfl ?_)|(with_reducible first|exact PanicOk.body|exact rd.panic|refine PanicOk.then' ?_|refine PanicOk.block ?_|refine PanicOk.jump ?_)|(refine TE.drawC (by rfl) (by rfl) (by rfl) (by rfl) ?_)|(refine TE.drawN (by rfl) (by rfl) (by rfl) ?_)|(refine TL.done (by rfl) ?_)|(refine TL.auto tysOk rfl ?_ (by rfl) ?_ ?_)|((refine TL.one (by rfl) ?_);first|(refine StepL.mem tysOk rfl rfl rfl rfl (by rfl) ?_ (by rfl) ?_)|(refine StepL.pure tysOk rfl rfl rfl rfl (by rfl) ?_ (by rfl) ?_))|(refine StepL.mem tysOk rfl rfl rfl rfl (by rfl) ?_ (by rfl) ?_)|refine TE.cond_true (by rfl) ?_|refine TE.cond_false (by rfl) ?_|((first|refine TE.gsplit (by rfl) (by rfl) ?_ ?_|refine TL.gsplit (by rfl) (by rfl) ?_ ?_|refine TE.cond_split (by rfl) ?_ ?_)<;>intro h<;>(try simp only [NS] at h)<;>(try (exfalso;first|omega|exact h trivial|exact h|exact h rfl|contradiction))<;>(try refine TE.run tysOk rfl (by rfl) ?_ ?_)))))
  (refine TE.ret' (by first|exact .inl rfl|exact .inr rfl) rfl tysOk (()) ?_ rfl (by rfl) ?_;all_goals (try (first|exact trivial|((with_reducible refine AllP.go ?_);dsimp only [AllP, appP];repeat' (first|with_reducible rfl|with_reducible exact LeD.refl|refine And.intro ?_ ?_|(refine congrArg (Value.int _) ?_;first|omega|rfl|(simp only [Int.toNat_natCast];omega))|rfl|(refine congrArg Value.bool ?_;assumption)|exact LeD.refl)))))
  rcases hi with ⟨h1, h2⟩ | ⟨h1, h2⟩
  · rw [h1, h2]; rfl
  · rw [h2]; exact decide_eq_true h1
set_option maxRecDepth 20000 in
theorem pName_c (s : ByteArray) (hs : s.size ≤ 1000000000) : Con Try.prog 60 [.o (.c (.string s))] [] 0 0 U (fun _ => .o (.c (.int .i64 (pnameE s)))) G0 := by
  refine con_of Try.func60 rfl (by kernel_rfl) Try.ntmps60 rfl (by first | exact Nat.zero_le _ | decide) (fun _ => ⟨rfl, rfl⟩) fun w S ν => ?_
  (repeat' (first|(with_reducible refine AllP.go ?_;(first|exact trivial|exact fun i _ => ⟨_, rfl⟩|((try simp only [OS]);repeat' (first|omega|exact fun i _ => ⟨_, rfl⟩|refine And.intro ?_ ?_))))|(refine TE.rgo tysOk rfl (by rfl) ?_ ?_)|(with_reducible first|refine stp ?_|refine tD rfl ?_)|(with_reducible first|exact PanicOk.body|exact rd.panic|refine PanicOk.then' ?_|refine PanicOk.block ?_|refine PanicOk.jump ?_)|(refine TE.drawC (by rfl) (by rfl) (by rfl) (by rfl) ?_)|(refine TE.drawN (by rfl) (by rfl) (by rfl) ?_)|(refine TL.done (by rfl) ?_)|(refine TL.auto tysOk rfl ?_ (by rfl) ?_ ?_)|((refine TL.one (by rfl) ?_);first|(refine StepL.mem tysOk rfl rfl rfl rfl (by rfl) ?_ (by rfl) ?_)|(refine StepL.pure tysOk rfl rfl rfl rfl (by rfl) ?_ (by rfl) ?_))|(refine StepL.mem tysOk rfl rfl rfl rfl (by rfl) ?_ (by rfl) ?_)|refine TE.cond_true (by rfl) ?_|refine TE.cond_false (by rfl) ?_|((first|refine TE.gsplit (by rfl) (by rfl) ?_ ?_|refine TL.gsplit (by rfl) (by rfl) ?_ ?_|refine TE.cond_split (by rfl) ?_ ?_)<;>intro h<;>(try simp only [NS] at h)<;>(try (exfalso;first|omega|exact h trivial|exact h|exact h rfl|contradiction))<;>(try refine TE.run tysOk rfl (by rfl) ?_ ?_))))
  · (refine TE.ret' (by first|exact .inl rfl|exact .inr rfl) rfl tysOk (()) ?_ rfl (by rfl) ?_;all_goals (try (first|exact trivial|((with_reducible refine AllP.go ?_);dsimp only [AllP, appP];repeat' (first|with_reducible rfl|with_reducible exact LeD.refl|refine And.intro ?_ ?_|(refine congrArg (Value.int _) ?_;first|omega|rfl|(simp only [Int.toNat_natCast];omega))|rfl|(refine congrArg Value.bool ?_;assumption)|exact LeD.refl)))))
    unfold pnameE; rw [if_pos (.inl (by assumption))]
  · (refine TE.ret' (by first|exact .inl rfl|exact .inr rfl) rfl tysOk (()) ?_ rfl (by rfl) ?_;all_goals (try (first|exact trivial|((with_reducible refine AllP.go ?_);dsimp only [AllP, appP];repeat' (first|with_reducible rfl|with_reducible exact LeD.refl|refine And.intro ?_ ?_|(refine congrArg (Value.int _) ?_;first|omega|rfl|(simp only [Int.toNat_natCast];omega))|rfl|(refine congrArg Value.bool ?_;assumption)|exact LeD.refl)))))
    unfold pnameE; rw [if_pos (.inr (.inl (by assumption)))]
  · (refine TE.ret' (by first|exact .inl rfl|exact .inr rfl) rfl tysOk (()) ?_ rfl (by rfl) ?_;all_goals (try (first|exact trivial|((with_reducible refine AllP.go ?_);dsimp only [AllP, appP];repeat' (first|with_reducible rfl|with_reducible exact LeD.refl|refine And.intro ?_ ?_|(refine congrArg (Value.int _) ?_;first|omega|rfl|(simp only [Int.toNat_natCast];omega))|rfl|(refine congrArg Value.bool ?_;assumption)|exact LeD.refl)))))
    unfold pnameE; rw [if_pos (.inr (.inr (.inl (by assumption))))]
  refine TE.callW (pContains_c s hs) rfl (by rfl) (by rfl) rfl (by rfl) (by (first|exact trivial|((with_reducible refine AllP.go ?_);dsimp only [AllP, appP];repeat' (first|with_reducible rfl|with_reducible exact LeD.refl|refine And.intro ?_ ?_|(refine congrArg (Value.int _) ?_;first|omega|rfl|(simp only [Int.toNat_natCast];omega))|rfl|(refine congrArg Value.bool ?_;assumption)|assumption|exact LeD.refl)))) ?_
  intro _ _
  ((refine TE.run tysOk rfl (by rfl) ?_ ?_);(repeat' (first|(with_reducible refine AllP.go ?_;(first|exact trivial|exact fun i _ => ⟨_, rfl⟩|((try simp only [OS]);repeat' (first|omega|exact fun i _ => ⟨_, rfl⟩|refine And.intro ?_ ?_))))|(refine TE.rgo tysOk rfl (by rfl) ?_ ?_)|(with_reducible first|refine stp ?_|refine tD rfl ?_)|(with_reducible first|exact PanicOk.body|exact rd.panic|refine PanicOk.then' ?_|refine PanicOk.block ?_|refine PanicOk.jump ?_)|(refine TE.drawC (by rfl) (by rfl) (by rfl) (by rfl) ?_)|(refine TE.drawN (by rfl) (by rfl) (by rfl) ?_)|(refine TL.done (by rfl) ?_)|(refine TL.auto tysOk rfl ?_ (by rfl) ?_ ?_)|((refine TL.one (by rfl) ?_);first|(refine StepL.mem tysOk rfl rfl rfl rfl (by rfl) ?_ (by rfl) ?_)|(refine StepL.pure tysOk rfl rfl rfl rfl (by rfl) ?_ (by rfl) ?_))|(refine StepL.mem tysOk rfl rfl rfl rfl (by rfl) ?_ (by rfl) ?_)|refine TE.cond_true (by rfl) ?_|refine TE.cond_false (by rfl) ?_|((first|refine TE.gsplit (by rfl) (by rfl) ?_ ?_|refine TL.gsplit (by rfl) (by rfl) ?_ ?_|refine TE.cond_split (by rfl) ?_ ?_)<;>intro h<;>(try simp only [NS] at h)<;>(try (exfalso;first|omega|exact h trivial|exact h|exact h rfl|contradiction))<;>(try refine TE.run tysOk rfl (by rfl) ?_ ?_)))))
  · (refine TE.ret' (by first|exact .inl rfl|exact .inr rfl) rfl tysOk (()) ?_ rfl (by rfl) ?_;all_goals (try (first|exact trivial|((with_reducible refine AllP.go ?_);dsimp only [AllP, appP];repeat' (first|with_reducible rfl|with_reducible exact LeD.refl|refine And.intro ?_ ?_|(refine congrArg (Value.int _) ?_;first|omega|rfl|(simp only [Int.toNat_natCast];omega))|rfl|(refine congrArg Value.bool ?_;assumption)|exact LeD.refl)))))
    unfold pnameE; rw [if_pos (.inr (.inr (.inr (by assumption))))]
  · (refine TE.ret' (by first|exact .inl rfl|exact .inr rfl) rfl tysOk (()) ?_ rfl (by rfl) ?_;all_goals (try (first|exact trivial|((with_reducible refine AllP.go ?_);dsimp only [AllP, appP];repeat' (first|with_reducible rfl|with_reducible exact LeD.refl|refine And.intro ?_ ?_|(refine congrArg (Value.int _) ?_;first|omega|rfl|(simp only [Int.toNat_natCast];omega))|rfl|(refine congrArg Value.bool ?_;assumption)|exact LeD.refl)))))
    unfold pnameE; rw [if_neg (by simp_all), if_pos (by omega)]
  · (refine TE.ret' (by first|exact .inl rfl|exact .inr rfl) rfl tysOk (()) ?_ rfl (by rfl) ?_;all_goals (try (first|exact trivial|((with_reducible refine AllP.go ?_);dsimp only [AllP, appP];repeat' (first|with_reducible rfl|with_reducible exact LeD.refl|refine And.intro ?_ ?_|(refine congrArg (Value.int _) ?_;first|omega|rfl|(simp only [Int.toNat_natCast];omega))|rfl|(refine congrArg Value.bool ?_;assumption)|exact LeD.refl)))))
    unfold pnameE; rw [if_neg (by simp_all), if_neg (by omega)]
abbrev bsR (x : ByteArray) (_ : Nat) : DC := .c (.string x)
/-- A path, as a slice of strings holds it. -/
abbrev paC (p : List ByteArray) : Ct := listC bsR eS p
theorem pnamesE_drop {p : List ByteArray} {q : Nat} (h : q < p.length) : pnamesE (p.drop q) = if pnameE (p.getD q eS) ≠ 0 then pnameE (p.getD q eS) else pnamesE (p.drop (q + 1)) := by
  rw [List.drop_eq_getElem_cons h, pnamesE, List.getD_eq_getElem?_getD, List.getElem?_eq_getElem h]
  rfl
theorem getD_mem {α : Type} {l : List α} {d : α} {k : Nat} (h : k < l.length) : l.getD k d ∈ l := by
  rw [List.getD_eq_getElem?_getD, List.getElem?_eq_getElem h]
  exact List.getElem_mem h
set_option maxRecDepth 20000 in
theorem pCheck_c (p : List ByteArray) (hp : ∀ s ∈ p, s.size ≤ 1000000000) (hl : p.length ≤ 1000000) : Con Try.prog 59 [.o (.ro 1 p.length (paC p).cell)] [] 0 0 U (fun _ => .o (.c (.int .i64 (pcheckE p)))) G0 := by
  refine con_of Try.func59 rfl (by kernel_rfl) Try.ntmps59 rfl (by first | exact Nat.zero_le _ | decide) (fun _ => ⟨rfl, rfl⟩) fun w S ν => ?_
  (repeat' (first|(with_reducible refine AllP.go ?_;(first|exact trivial|exact fun i _ => ⟨_, rfl⟩|((try simp only [OS]);repeat' (first|omega|exact fun i _ => ⟨_, rfl⟩|refine And.intro ?_ ?_))))|(refine TE.rgo tysOk rfl (by rfl) ?_ ?_)|(with_reducible first|refine stp ?_|refine tD rfl ?_)|(with_reducible first|exact PanicOk.body|exact rd.panic|refine PanicOk.then' ?_|refine PanicOk.block ?_|refine PanicOk.jump ?_)|(refine TE.drawC (by rfl) (by rfl) (by rfl) (by rfl) ?_)|(refine TE.drawN (by rfl) (by rfl) (by rfl) ?_)|(refine TL.done (by rfl) ?_)|(refine TL.auto tysOk rfl ?_ (by rfl) ?_ ?_)|((refine TL.one (by rfl) ?_);first|(refine StepL.mem tysOk rfl rfl rfl rfl (by rfl) ?_ (by rfl) ?_)|(refine StepL.pure tysOk rfl rfl rfl rfl (by rfl) ?_ (by rfl) ?_))|(refine StepL.mem tysOk rfl rfl rfl rfl (by rfl) ?_ (by rfl) ?_)|refine TE.cond_true (by rfl) ?_|refine TE.cond_false (by rfl) ?_|((first|refine TE.gsplit (by rfl) (by rfl) ?_ ?_|refine TL.gsplit (by rfl) (by rfl) ?_ ?_|refine TE.cond_split (by rfl) ?_ ?_)<;>intro h<;>(try simp only [NS] at h)<;>(try (exfalso;first|omega|exact h trivial|exact h|exact h rfl|contradiction))<;>(try refine TE.run tysOk rfl (by rfl) ?_ ?_))))
  · rw [show pcheckE p = 3 from if_pos (by omega)]
    (refine TE.ret' (by first|exact .inl rfl|exact .inr rfl) rfl tysOk (()) ?_ rfl (by rfl) ?_;all_goals (try (first|exact trivial|((with_reducible refine AllP.go ?_);dsimp only [AllP, appP];repeat' (first|with_reducible rfl|with_reducible exact LeD.refl|refine And.intro ?_ ?_|(refine congrArg (Value.int _) ?_;first|omega|rfl|(simp only [Int.toNat_natCast];omega))|rfl|(refine congrArg Value.bool ?_;assumption)|exact LeD.refl)))))
  rw [show pcheckE p = pnamesE p from if_neg (by omega)]
  refine TE.loopG (fun q : Nat => q ≤ p.length ∧ pnamesE p = pnamesE (p.drop q)) (fun q => [(11, .o (.c (.int .i64 q)))]) [] (fun _ => []) (fun q => p.length - q) 0 (by rfl) ⟨Nat.zero_le _, rfl⟩ ?_ ?_
  · (refine Ent.of rfl rfl (by rfl) ?_;(try (first|exact trivial|((with_reducible refine AllP.go ?_);dsimp only [AllP, appP];repeat' (first|with_reducible rfl|with_reducible exact LeD.refl|refine And.intro ?_ ?_|(refine congrArg (Value.int _) ?_;first|omega|rfl|(simp only [Int.toNat_natCast];omega))|rfl|(refine congrArg Value.bool ?_;assumption)|exact LeD.refl)))))
  rintro q ⟨h1, h2⟩
  by_cases hq : q < p.length
  · rw [pnamesE_drop hq] at h2
    have hs := hp _ (getD_mem (l := p) (d := eS) hq)
    (repeat' (first|(with_reducible refine AllP.go ?_;(first|exact trivial|exact fun i _ => ⟨_, rfl⟩|((try simp only [OS]);repeat' (first|omega|exact fun i _ => ⟨_, rfl⟩|refine And.intro ?_ ?_))))|(refine TE.rgo tysOk rfl (by rfl) ?_ ?_)|(with_reducible first|refine stp ?_|refine tD rfl ?_)|(with_reducible first|exact PanicOk.body|exact rd.panic|refine PanicOk.then' ?_|refine PanicOk.block ?_|refine PanicOk.jump ?_)|(refine TE.drawC (by rfl) (by rfl) (by rfl) (by rfl) ?_)|(refine TE.drawN (by rfl) (by rfl) (by rfl) ?_)|(refine TL.done (by rfl) ?_)|(refine TL.auto tysOk rfl ?_ (by rfl) ?_ ?_)|((refine TL.one (by rfl) ?_);first|(refine StepL.mem tysOk rfl rfl rfl rfl (by rfl) ?_ (by rfl) ?_)|(refine StepL.pure tysOk rfl rfl rfl rfl (by rfl) ?_ (by rfl) ?_))|(refine StepL.mem tysOk rfl rfl rfl rfl (by rfl) ?_ (by rfl) ?_)|refine TE.cond_true (by rfl) ?_|refine TE.cond_false (by rfl) ?_|((first|refine TE.gsplit (by rfl) (by rfl) ?_ ?_|refine TL.gsplit (by rfl) (by rfl) ?_ ?_|refine TE.cond_split (by rfl) ?_ ?_)<;>intro h<;>(try simp only [NS] at h)<;>(try (exfalso;first|omega|exact h trivial|exact h|exact h rfl|contradiction))<;>(try refine TE.run tysOk rfl (by rfl) ?_ ?_))))
    refine TE.callW (pName_c (p.getD q eS) hs) rfl (by rfl) (by rfl) rfl (by rfl) (by (first|exact trivial|((with_reducible refine AllP.go ?_);dsimp only [AllP, appP];repeat' (first|with_reducible rfl|with_reducible exact LeD.refl|refine And.intro ?_ ?_|(refine congrArg (Value.int _) ?_;first|omega|rfl|(simp only [Int.toNat_natCast];omega))|rfl|(refine congrArg Value.bool ?_;assumption)|assumption|exact LeD.refl)))) ?_
    intro _ _
    ((refine TE.run tysOk rfl (by rfl) ?_ ?_);(repeat' (first|(with_reducible refine AllP.go ?_;(first|exact trivial|exact fun i _ => ⟨_, rfl⟩|((try simp only [OS]);repeat' (first|omega|exact fun i _ => ⟨_, rfl⟩|refine And.intro ?_ ?_))))|(refine TE.rgo tysOk rfl (by rfl) ?_ ?_)|(with_reducible first|refine stp ?_|refine tD rfl ?_)|(with_reducible first|exact PanicOk.body|exact rd.panic|refine PanicOk.then' ?_|refine PanicOk.block ?_|refine PanicOk.jump ?_)|(refine TE.drawC (by rfl) (by rfl) (by rfl) (by rfl) ?_)|(refine TE.drawN (by rfl) (by rfl) (by rfl) ?_)|(refine TL.done (by rfl) ?_)|(refine TL.auto tysOk rfl ?_ (by rfl) ?_ ?_)|((refine TL.one (by rfl) ?_);first|(refine StepL.mem tysOk rfl rfl rfl rfl (by rfl) ?_ (by rfl) ?_)|(refine StepL.pure tysOk rfl rfl rfl rfl (by rfl) ?_ (by rfl) ?_))|(refine StepL.mem tysOk rfl rfl rfl rfl (by rfl) ?_ (by rfl) ?_)|refine TE.cond_true (by rfl) ?_|refine TE.cond_false (by rfl) ?_|((first|refine TE.gsplit (by rfl) (by rfl) ?_ ?_|refine TL.gsplit (by rfl) (by rfl) ?_ ?_|refine TE.cond_split (by rfl) ?_ ?_)<;>intro h<;>(try simp only [NS] at h)<;>(try (exfalso;first|omega|exact h trivial|exact h|exact h rfl|contradiction))<;>(try refine TE.run tysOk rfl (by rfl) ?_ ?_)))))
    · rw [if_pos (by assumption)] at h2
      rw [h2]
      (refine TE.ret' (by first|exact .inl rfl|exact .inr rfl) rfl tysOk (()) ?_ rfl (by rfl) ?_;all_goals (try (first|exact trivial|((with_reducible refine AllP.go ?_);dsimp only [AllP, appP];repeat' (first|with_reducible rfl|with_reducible exact LeD.refl|refine And.intro ?_ ?_|(refine congrArg (Value.int _) ?_;first|omega|rfl|(simp only [Int.toNat_natCast];omega))|rfl|(refine congrArg Value.bool ?_;assumption)|exact LeD.refl)))))
    · rw [if_neg (by omega)] at h2
      refine TE.again' (q + 1) ⟨by omega, h2⟩ (by omega) ?_
      (refine Ent.of rfl rfl (by rfl) ?_;(try (first|exact trivial|((with_reducible refine AllP.go ?_);dsimp only [AllP, appP];repeat' (first|with_reducible rfl|with_reducible exact LeD.refl|refine And.intro ?_ ?_|(refine congrArg (Value.int _) ?_;first|omega|rfl|(simp only [Int.toNat_natCast];omega))|rfl|(refine congrArg Value.bool ?_;assumption)|exact LeD.refl)))))
  · obtain rfl : q = p.length := by omega
    rw [List.drop_length] at h2
    rw [h2]
    (repeat' (first|(with_reducible refine AllP.go ?_;(first|exact trivial|exact fun i _ => ⟨_, rfl⟩|((try simp only [OS]);repeat' (first|omega|exact fun i _ => ⟨_, rfl⟩|refine And.intro ?_ ?_))))|(refine TE.rgo tysOk rfl (by rfl) ?_ ?_)|(with_reducible first|refine stp ?_|refine tD rfl ?_)|(with_reducible first|exact PanicOk.body|exact rd.panic|refine PanicOk.then' ?_|refine PanicOk.block ?_|refine PanicOk.jump ?_)|(refine TE.drawC (by rfl) (by rfl) (by rfl) (by rfl) ?_)|(refine TE.drawN (by rfl) (by rfl) (by rfl) ?_)|(refine TL.done (by rfl) ?_)|(refine TL.auto tysOk rfl ?_ (by rfl) ?_ ?_)|((refine TL.one (by rfl) ?_);first|(refine StepL.mem tysOk rfl rfl rfl rfl (by rfl) ?_ (by rfl) ?_)|(refine StepL.pure tysOk rfl rfl rfl rfl (by rfl) ?_ (by rfl) ?_))|(refine StepL.mem tysOk rfl rfl rfl rfl (by rfl) ?_ (by rfl) ?_)|refine TE.cond_true (by rfl) ?_|refine TE.cond_false (by rfl) ?_|((first|refine TE.gsplit (by rfl) (by rfl) ?_ ?_|refine TL.gsplit (by rfl) (by rfl) ?_ ?_|refine TE.cond_split (by rfl) ?_ ?_)<;>intro h<;>(try simp only [NS] at h)<;>(try (exfalso;first|omega|exact h trivial|exact h|exact h rfl|contradiction))<;>(try refine TE.run tysOk rfl (by rfl) ?_ ?_))))
    (refine TE.ret' (by first|exact .inl rfl|exact .inr rfl) rfl tysOk (()) ?_ rfl (by rfl) ?_;all_goals (try (first|exact trivial|((with_reducible refine AllP.go ?_);dsimp only [AllP, appP];repeat' (first|with_reducible rfl|with_reducible exact LeD.refl|refine And.intro ?_ ?_|(refine congrArg (Value.int _) ?_;first|omega|rfl|(simp only [Int.toNat_natCast];omega))|rfl|(refine congrArg Value.bool ?_;assumption)|exact LeD.refl)))))
end Go.Proofs.Ythhpofehcnjmmaa.Am
/- Branches: nodes; their fields checked; nodes compared. -/
set_option linter.unusedSimpArgs false
set_option linter.unusedVariables false
namespace Go.Proofs.Ythhpofehcnjmmaa.Am
open Go.RowKit Lw
open Br
/-- A node, as a struct holds it. -/
abbrev ndA (x : Nd) : List A1 := [.c (.int .i64 x.depth), .c (.string x.name), .c (.int .i64 x.kind), .ro 2 x.attrs.length (atC x.attrs).cell, .c (.string x.data), .c (.int .i64 x.major), .c (.int .i64 x.minor), .c (.int .i64 x.cls)]
def ndR (x : Nd) (j : Nat) : DC := match j with
  | 0 => .c (.int .i64 x.depth)
  | 1 => .c (.string x.name)
  | 2 => .c (.int .i64 x.kind)
  | 3 => .sl 2 x.attrs.length (atC x.attrs).cell
  | 4 => .c (.string x.data)
  | 5 => .c (.int .i64 x.major)
  | 6 => .c (.int .i64 x.minor)
  | _ => .c (.int .i64 x.cls)
/-- Nodes, as a slice holds them. -/
abbrev ndC (l : List Nd) : Ct := listC ndR n0 l
set_option maxRecDepth 20000 in
set_option maxHeartbeats 8000000 in
theorem fields_c (n : Nd) : Con Try.prog 99 [.g (ndA n)] [] 0 0 U (fun _ => .o (.c (.int .i64 (fieldsE n)))) G0 := by
  refine con_of Try.func99 rfl (by kernel_rfl) Try.ntmps99 rfl (by first | exact Nat.zero_le _ | decide) (fun _ => ⟨rfl, rfl⟩) fun w S ν => ?_
  obtain ⟨dep, nam, kind, ats, dat, maj, mino, cls⟩ := n
  by_cases h5 : kind < 1 ∨ 5 < kind
  · (repeat' (first|(with_reducible refine AllP.go ?_;(first|exact trivial|exact fun i _ => ⟨_, rfl⟩|((try simp only [OS]);repeat' (first|omega|exact fun i _ => ⟨_, rfl⟩|refine And.intro ?_ ?_))))|(refine TE.rgo tysOk rfl (by rfl) ?_ ?_)|(with_reducible first|refine stp ?_|refine tD rfl ?_)|refine TE.cond_true (by rfl) ?_|refine TE.cond_false (by rfl) ?_|((first|refine TE.gsplit (by rfl) (by rfl) ?_ ?_|refine TL.gsplit (by rfl) (by rfl) ?_ ?_|refine TE.cond_split (by rfl) ?_ ?_)<;>intro h<;>(try simp only [NS] at h)<;>(try (exfalso;first|omega|exact h trivial|exact h|exact h rfl|contradiction))<;>(try refine TE.run tysOk rfl (by rfl) ?_ ?_))))
    all_goals ((refine TE.ret' (by first|exact .inl rfl|exact .inr rfl) rfl tysOk (()) ?_ rfl (by rfl) ?_;all_goals (try (first|exact trivial|((with_reducible refine AllP.go ?_);dsimp only [AllP, appP];repeat' (first|with_reducible rfl|with_reducible exact LeD.refl|refine And.intro ?_ ?_|(refine congrArg (Value.int _) ?_;first|omega|rfl|(simp only [Int.toNat_natCast];omega))|rfl|(refine congrArg Value.bool ?_;assumption)|exact LeD.refl)))));try (refine congrArg (Value.int _) ?_);unfold fieldsE;dsimp only;(repeat' split);all_goals first|rfl|(exfalso;omega))
  have hk : kind = 1 ∨ kind = 2 ∨ kind = 3 ∨ kind = 4 ∨ kind = 5 := by omega
  clear h5
  rcases hk with rfl | rfl | rfl | rfl | rfl
  all_goals (repeat' (first|(with_reducible refine AllP.go ?_;(first|exact trivial|exact fun i _ => ⟨_, rfl⟩|((try simp only [OS]);repeat' (first|omega|exact fun i _ => ⟨_, rfl⟩|refine And.intro ?_ ?_))))|(refine TE.rgo tysOk rfl (by rfl) ?_ ?_)|(with_reducible first|refine stp ?_|refine tD rfl ?_)|refine TE.cond_true (by rfl) ?_|refine TE.cond_false (by rfl) ?_|((first|refine TE.gsplit (by rfl) (by rfl) ?_ ?_|refine TL.gsplit (by rfl) (by rfl) ?_ ?_|refine TE.cond_split (by rfl) ?_ ?_)<;>intro h<;>(try simp only [NS] at h)<;>(try (exfalso;first|omega|exact h trivial|exact h|exact h rfl|contradiction))<;>(try refine TE.run tysOk rfl (by rfl) ?_ ?_))))
  all_goals ((refine TE.ret' (by first|exact .inl rfl|exact .inr rfl) rfl tysOk (()) ?_ rfl (by rfl) ?_;all_goals (try (first|exact trivial|((with_reducible refine AllP.go ?_);dsimp only [AllP, appP];repeat' (first|with_reducible rfl|with_reducible exact LeD.refl|refine And.intro ?_ ?_|(refine congrArg (Value.int _) ?_;first|omega|rfl|(simp only [Int.toNat_natCast];omega))|rfl|(refine congrArg Value.bool ?_;assumption)|exact LeD.refl)))));try (refine congrArg (Value.int _) ?_);unfold fieldsE;dsimp only;(repeat' split);all_goals first|rfl|(exfalso;omega))
end Go.Proofs.Ythhpofehcnjmmaa.Am
/- Branches: nodes compared. -/
set_option linter.unusedSimpArgs false
set_option linter.unusedVariables false
namespace Go.Proofs.Ythhpofehcnjmmaa.Am
open Go.RowKit Lw At
open Br
theorem eqA : eqOkB Try.prog 67 = true := by kernel_rfl
theorem list_eq_of {l m : List At.At} (hl : l.length = m.length) (h : ∀ k, k < l.length → l.getD k d0 = m.getD k d0) : l = m := by
  refine List.ext_getElem hl fun i h1 h2 => ?_
  have := h i h1
  rwa [List.getD_eq_getElem?_getD, List.getElem?_eq_getElem h1, List.getD_eq_getElem?_getD, List.getElem?_eq_getElem h2] at this
set_option maxRecDepth 20000 in
theorem eqAttrs_c (l m : List At.At) (hl : l.length ≤ 1000000) (hm : m.length ≤ 1000000) : Con Try.prog 95 [.o (.ro 2 l.length (atC l).cell), .o (.ro 2 m.length (atC m).cell)] [] 0 0 U (fun _ => .o (.sb (decide (l = m)))) G0 := by
  refine con_of Try.func95 rfl (by kernel_rfl) Try.ntmps95 rfl (by first | exact Nat.zero_le _ | decide) (fun _ => ⟨rfl, rfl⟩) fun w S ν => ?_
  (repeat' (first|(with_reducible refine AllP.go ?_;(first|exact trivial|exact fun i _ => ⟨_, rfl⟩|((try simp only [OS]);repeat' (first|omega|exact fun i _ => ⟨_, rfl⟩|refine And.intro ?_ ?_))))|(refine TE.rgo tysOk rfl (by rfl) ?_ ?_)|(with_reducible first|refine stp ?_|refine tD rfl ?_)|(with_reducible first|exact PanicOk.body|exact rd.panic|refine PanicOk.then' ?_|refine PanicOk.block ?_|refine PanicOk.jump ?_)|(refine TE.drawC (by rfl) (by rfl) (by rfl) (by rfl) ?_)|(refine TE.drawN (by rfl) (by rfl) (by rfl) ?_)|(refine TL.done (by rfl) ?_)|(refine TL.auto tysOk rfl ?_ (by rfl) ?_ ?_)|((refine TL.one (by rfl) ?_);first|(refine StepL.mem tysOk rfl rfl rfl rfl (by rfl) ?_ (by rfl) ?_)|(refine StepL.pure tysOk rfl rfl rfl rfl (by rfl) ?_ (by rfl) ?_))|(refine StepL.mem tysOk rfl rfl rfl rfl (by rfl) ?_ (by rfl) ?_)|refine TE.cond_true (by rfl) ?_|refine TE.cond_false (by rfl) ?_|((first|refine TE.gsplit (by rfl) (by rfl) ?_ ?_|refine TL.gsplit (by rfl) (by rfl) ?_ ?_|refine TE.cond_split (by rfl) ?_ ?_)<;>intro h<;>(try simp only [NS] at h)<;>(try (exfalso;first|omega|exact h trivial|exact h|exact h rfl|contradiction))<;>(try refine TE.run tysOk rfl (by rfl) ?_ ?_))))
  · (refine TE.ret' (by first|exact .inl rfl|exact .inr rfl) rfl tysOk (()) ?_ rfl (by rfl) ?_;all_goals (try (first|exact trivial|((with_reducible refine AllP.go ?_);dsimp only [AllP, appP];repeat' (first|with_reducible rfl|with_reducible exact LeD.refl|refine And.intro ?_ ?_|(refine congrArg (Value.int _) ?_;first|omega|rfl|(simp only [Int.toNat_natCast];omega))|rfl|(refine congrArg Value.bool ?_;assumption)|exact LeD.refl)))))
    rw [decide_eq_false (fun e => h (by rw [e]))]
  refine TE.loopG (fun q : Nat => q ≤ l.length ∧ ∀ k, k < q → l.getD k d0 = m.getD k d0) (fun q => [(13, .o (.c (.int .i64 q)))]) [] (fun _ => []) (fun q => l.length - q) 0 (by rfl) ⟨Nat.zero_le _, fun k hk => absurd hk (Nat.not_lt_zero _)⟩ ?_ ?_
  · (refine Ent.of rfl rfl (by rfl) ?_;(try (first|exact trivial|((with_reducible refine AllP.go ?_);dsimp only [AllP, appP];repeat' (first|with_reducible rfl|with_reducible exact LeD.refl|refine And.intro ?_ ?_|(refine congrArg (Value.int _) ?_;first|omega|rfl|(simp only [Int.toNat_natCast];omega))|rfl|(refine congrArg Value.bool ?_;assumption)|exact LeD.refl)))))
  rintro q ⟨h1, h2⟩
  (repeat' (first|(with_reducible refine AllP.go ?_;(first|exact trivial|exact fun i _ => ⟨_, rfl⟩|((try simp only [OS]);repeat' (first|omega|exact fun i _ => ⟨_, rfl⟩|refine And.intro ?_ ?_))))|(refine TE.rgo tysOk rfl (by rfl) ?_ ?_)|(with_reducible first|refine stp ?_|refine tD rfl ?_)|(with_reducible first|exact PanicOk.body|exact rd.panic|refine PanicOk.then' ?_|refine PanicOk.block ?_|refine PanicOk.jump ?_)|(refine TE.drawC (by rfl) (by rfl) (by rfl) (by rfl) ?_)|(refine TE.drawN (by rfl) (by rfl) (by rfl) ?_)|(refine TL.done (by rfl) ?_)|(refine TL.auto tysOk rfl ?_ (by rfl) ?_ ?_)|((refine TL.one (by rfl) ?_);first|(refine StepL.mem tysOk rfl rfl rfl rfl (by rfl) ?_ (by rfl) ?_)|(refine StepL.pure tysOk rfl rfl rfl rfl (by rfl) ?_ (by rfl) ?_))|(refine StepL.mem tysOk rfl rfl rfl rfl (by rfl) ?_ (by rfl) ?_)|refine TE.cond_true (by rfl) ?_|refine TE.cond_false (by rfl) ?_|((first|refine TE.gsplit (by rfl) (by rfl) ?_ ?_|refine TL.gsplit (by rfl) (by rfl) ?_ ?_|refine TE.cond_split (by rfl) ?_ ?_)<;>intro h<;>(try simp only [NS] at h)<;>(try (exfalso;first|omega|exact h trivial|exact h|exact h rfl|contradiction))<;>(try refine TE.run tysOk rfl (by rfl) ?_ ?_))))
  · (refine TL.one (by rfl) ?_)
    (refine StepL.law rfl rfl rfl (fun _ h => nomatch h) rfl (m_eqS tysOk (eqA) rfl (by first | exact .inl rfl | exact .inr rfl) rfl rfl rfl rfl) (by rfl) ?_; rintro _ rfl)
    (repeat' (first|(with_reducible refine AllP.go ?_;(first|exact trivial|exact fun i _ => ⟨_, rfl⟩|((try simp only [OS]);repeat' (first|omega|exact fun i _ => ⟨_, rfl⟩|refine And.intro ?_ ?_))))|(with_reducible first|exact PanicOk.body|exact rd.panic|refine PanicOk.then' ?_|refine PanicOk.block ?_|refine PanicOk.jump ?_)|(refine TL.done (by rfl) ?_)|(refine TL.auto tysOk rfl ?_ (by rfl) ?_ ?_)|(refine StepL.mem tysOk rfl rfl rfl rfl (by rfl) ?_ (by rfl) ?_)|(refine StepL.pure tysOk rfl rfl rfl rfl (by rfl) ?_ (by rfl) ?_)|(refine TL.one (by rfl) ?_)|(refine TL.two (by rfl) ?_ ?_)|(refine TL.three (by rfl) ?_ ?_ ?_)|(refine TL.four (by rfl) ?_ ?_ ?_ ?_)))
    obtain ⟨B, hB⟩ : ∃ B, B = ((decide ((l.getD q d0).1 = (m.getD q d0).1) && (decide ((l.getD q d0).2 = (m.getD q d0).2) && true)) == (BinOp.neq == BinOp.eql)) := ⟨_, rfl⟩
    have hB2 : B = !decide (l.getD q d0 = m.getD q d0) := by
      rw [hB, show (BinOp.neq == BinOp.eql) = false from rfl]
      have : (l.getD q d0 = m.getD q d0) = ((l.getD q d0).1 = (m.getD q d0).1 ∧ (l.getD q d0).2 = (m.getD q d0).2) := propext Prod.ext_iff
      simp only [this]
      by_cases c1 : (l.getD q d0).1 = (m.getD q d0).1 <;> by_cases c2 : (l.getD q d0).2 = (m.getD q d0).2 <;> simp [c1, c2]
    cases hB3 : B
    · have he : l.getD q d0 = m.getD q d0 := by rw [hB3] at hB2; simpa using hB2.symm
      (repeat' (first|(with_reducible refine AllP.go ?_;(first|exact trivial|exact fun i _ => ⟨_, rfl⟩|((try simp only [OS]);repeat' (first|omega|exact fun i _ => ⟨_, rfl⟩|refine And.intro ?_ ?_))))|(refine TE.rgo tysOk rfl (by rfl) ?_ ?_)|(with_reducible first|refine stp ?_|refine tD rfl ?_)|(with_reducible first|exact PanicOk.body|exact rd.panic|refine PanicOk.then' ?_|refine PanicOk.block ?_|refine PanicOk.jump ?_)|(refine TE.drawC (by rfl) (by rfl) (by rfl) (by rfl) ?_)|(refine TE.drawN (by rfl) (by rfl) (by rfl) ?_)|(refine TL.done (by rfl) ?_)|(refine TL.auto tysOk rfl ?_ (by rfl) ?_ ?_)|((refine TL.one (by rfl) ?_);first|(refine StepL.mem tysOk rfl rfl rfl rfl (by rfl) ?_ (by rfl) ?_)|(refine StepL.pure tysOk rfl rfl rfl rfl (by rfl) ?_ (by rfl) ?_))|(refine StepL.mem tysOk rfl rfl rfl rfl (by rfl) ?_ (by rfl) ?_)|refine TE.cond_true (by rfl) ?_|refine TE.cond_false (by rfl) ?_|((first|refine TE.gsplit (by rfl) (by rfl) ?_ ?_|refine TL.gsplit (by rfl) (by rfl) ?_ ?_|refine TE.cond_split (by rfl) ?_ ?_)<;>intro h<;>(try simp only [NS] at h)<;>(try (exfalso;first|omega|exact h trivial|exact h|exact h rfl|contradiction))<;>(try refine TE.run tysOk rfl (by rfl) ?_ ?_))))
      · exact absurd h (by show ¬ _ = true; rw [show ((decide ((l.getD q d0).1 = (m.getD q d0).1) && (decide ((l.getD q d0).2 = (m.getD q d0).2) && true)) == (BinOp.neq == BinOp.eql)) = false from hB ▸ hB3]; decide)
      · refine TE.again' (q + 1) ⟨by omega, fun k hk => ?_⟩ (by omega) ?_
        · rcases Nat.lt_or_ge k q with h4 | h4
          · exact h2 k h4
          · obtain rfl : k = q := by omega
            exact he
        · (refine Ent.of rfl rfl (by rfl) ?_;(try (first|exact trivial|((with_reducible refine AllP.go ?_);dsimp only [AllP, appP];repeat' (first|with_reducible rfl|with_reducible exact LeD.refl|refine And.intro ?_ ?_|(refine congrArg (Value.int _) ?_;first|omega|rfl|(simp only [Int.toNat_natCast];omega))|rfl|(refine congrArg Value.bool ?_;assumption)|exact LeD.refl)))))
    · have he : l.getD q d0 ≠ m.getD q d0 := by rw [hB3] at hB2; simpa using hB2.symm
      (repeat' (first|(with_reducible refine AllP.go ?_;(first|exact trivial|exact fun i _ => ⟨_, rfl⟩|((try simp only [OS]);repeat' (first|omega|exact fun i _ => ⟨_, rfl⟩|refine And.intro ?_ ?_))))|(refine TE.rgo tysOk rfl (by rfl) ?_ ?_)|(with_reducible first|refine stp ?_|refine tD rfl ?_)|(with_reducible first|exact PanicOk.body|exact rd.panic|refine PanicOk.then' ?_|refine PanicOk.block ?_|refine PanicOk.jump ?_)|(refine TE.drawC (by rfl) (by rfl) (by rfl) (by rfl) ?_)|(refine TE.drawN (by rfl) (by rfl) (by rfl) ?_)|(refine TL.done (by rfl) ?_)|(refine TL.auto tysOk rfl ?_ (by rfl) ?_ ?_)|((refine TL.one (by rfl) ?_);first|(refine StepL.mem tysOk rfl rfl rfl rfl (by rfl) ?_ (by rfl) ?_)|(refine StepL.pure tysOk rfl rfl rfl rfl (by rfl) ?_ (by rfl) ?_))|(refine StepL.mem tysOk rfl rfl rfl rfl (by rfl) ?_ (by rfl) ?_)|refine TE.cond_true (by rfl) ?_|refine TE.cond_false (by rfl) ?_|((first|refine TE.gsplit (by rfl) (by rfl) ?_ ?_|refine TL.gsplit (by rfl) (by rfl) ?_ ?_|refine TE.cond_split (by rfl) ?_ ?_)<;>intro h<;>(try simp only [NS] at h)<;>(try (exfalso;first|omega|exact h trivial|exact h|exact h rfl|contradiction))<;>(try refine TE.run tysOk rfl (by rfl) ?_ ?_))))
      · (refine TE.ret' (by first|exact .inl rfl|exact .inr rfl) rfl tysOk (()) ?_ rfl (by rfl) ?_;all_goals (try (first|exact trivial|((with_reducible refine AllP.go ?_);dsimp only [AllP, appP];repeat' (first|with_reducible rfl|with_reducible exact LeD.refl|refine And.intro ?_ ?_|(refine congrArg (Value.int _) ?_;first|omega|rfl|(simp only [Int.toNat_natCast];omega))|rfl|(refine congrArg Value.bool ?_;assumption)|exact LeD.refl)))))
        rw [decide_eq_false (fun e => he (by rw [e]))]
      · exact absurd h (by show ¬ _ = false; rw [show ((decide ((l.getD q d0).1 = (m.getD q d0).1) && (decide ((l.getD q d0).2 = (m.getD q d0).2) && true)) == (BinOp.neq == BinOp.eql)) = true from hB ▸ hB3]; decide)
  · (refine TE.ret' (by first|exact .inl rfl|exact .inr rfl) rfl tysOk (()) ?_ rfl (by rfl) ?_;all_goals (try (first|exact trivial|((with_reducible refine AllP.go ?_);dsimp only [AllP, appP];repeat' (first|with_reducible rfl|with_reducible exact LeD.refl|refine And.intro ?_ ?_|(refine congrArg (Value.int _) ?_;first|omega|rfl|(simp only [Int.toNat_natCast];omega))|rfl|(refine congrArg Value.bool ?_;assumption)|exact LeD.refl)))))
    rw [decide_eq_true (list_eq_of ‹_› fun k hk => h2 k (by omega))]
def lenN (x : Nd) : Prop := x.attrs.length ≤ 1000000
set_option maxRecDepth 20000 in
set_option maxHeartbeats 4000000 in
theorem like_c (a b : Nd) (ha : lenN a) (hb : lenN b) : Con Try.prog 111 [.g (ndA a), .g (ndA b)] [] 0 0 U (fun _ => .o (.sb (likeN a b))) G0 := by
  refine con_of Try.func111 rfl (by kernel_rfl) Try.ntmps111 rfl (by first | exact Nat.zero_le _ | decide) (fun _ => ⟨rfl, rfl⟩) fun w S ν => ?_
  (repeat' (first|(with_reducible refine AllP.go ?_;(first|exact trivial|exact fun i _ => ⟨_, rfl⟩|((try simp only [OS]);repeat' (first|omega|exact fun i _ => ⟨_, rfl⟩|refine And.intro ?_ ?_))))|(refine TE.rgo tysOk rfl (by rfl) ?_ ?_)|(with_reducible first|refine stp ?_|refine tD rfl ?_)|refine TE.cond_true (by rfl) ?_|refine TE.cond_false (by rfl) ?_|((first|refine TE.gsplit (by rfl) (by rfl) ?_ ?_|refine TL.gsplit (by rfl) (by rfl) ?_ ?_|refine TE.cond_split (by rfl) ?_ ?_)<;>intro h<;>(try simp only [NS] at h)<;>(try (exfalso;first|omega|exact h trivial|exact h|exact h rfl|contradiction))<;>(try refine TE.run tysOk rfl (by rfl) ?_ ?_))))
  · refine TE.callW (eqAttrs_c a.attrs b.attrs ha hb) rfl (by rfl) (by rfl) rfl (by rfl) (by (first|exact trivial|((with_reducible refine AllP.go ?_);dsimp only [AllP, appP];repeat' (first|with_reducible rfl|with_reducible exact LeD.refl|refine And.intro ?_ ?_|(refine congrArg (Value.int _) ?_;first|omega|rfl|(simp only [Int.toNat_natCast];omega))|rfl|(refine congrArg Value.bool ?_;assumption)|assumption|exact LeD.refl)))) ?_
    intro _ _
    rw [show decide (a.attrs = b.attrs) = likeN a b by unfold likeN; simp_all]
    ((refine TE.run tysOk rfl (by rfl) ?_ ?_);(repeat' (first|(with_reducible refine AllP.go ?_;(first|exact trivial|exact fun i _ => ⟨_, rfl⟩|((try simp only [OS]);repeat' (first|omega|exact fun i _ => ⟨_, rfl⟩|refine And.intro ?_ ?_))))|(refine TE.rgo tysOk rfl (by rfl) ?_ ?_)|(with_reducible first|refine stp ?_|refine tD rfl ?_)|refine TE.cond_true (by rfl) ?_|refine TE.cond_false (by rfl) ?_|((first|refine TE.gsplit (by rfl) (by rfl) ?_ ?_|refine TL.gsplit (by rfl) (by rfl) ?_ ?_|refine TE.cond_split (by rfl) ?_ ?_)<;>intro h<;>(try simp only [NS] at h)<;>(try (exfalso;first|omega|exact h trivial|exact h|exact h rfl|contradiction))<;>(try refine TE.run tysOk rfl (by rfl) ?_ ?_)))))
    (refine TE.ret' (by first|exact .inl rfl|exact .inr rfl) rfl tysOk (()) ?_ rfl (by rfl) ?_;all_goals (try (first|exact trivial|((with_reducible refine AllP.go ?_);dsimp only [AllP, appP];repeat' (first|with_reducible rfl|with_reducible exact LeD.refl|refine And.intro ?_ ?_|(refine congrArg (Value.int _) ?_;first|omega|rfl|(simp only [Int.toNat_natCast];omega))|rfl|(refine congrArg Value.bool ?_;assumption)|exact LeD.refl)))))
  all_goals
    rw [show likeN a b = false from decide_eq_false fun k => by simp_all]
    (refine TE.ret' (by first|exact .inl rfl|exact .inr rfl) rfl tysOk (()) ?_ rfl (by rfl) ?_;all_goals (try (first|exact trivial|((with_reducible refine AllP.go ?_);dsimp only [AllP, appP];repeat' (first|with_reducible rfl|with_reducible exact LeD.refl|refine And.intro ?_ ?_|(refine congrArg (Value.int _) ?_;first|omega|rfl|(simp only [Int.toNat_natCast];omega))|rfl|(refine congrArg Value.bool ?_;assumption)|exact LeD.refl)))))
end Go.Proofs.Ythhpofehcnjmmaa.Am
/- Branches: the check of a tree, the reference's parts. -/
set_option linter.unusedSimpArgs false
set_option linter.unusedVariables false
namespace Go.Proofs.Ythhpofehcnjmmaa.Am
open Go.RowKit Lw
open Br
end Go.Proofs.Ythhpofehcnjmmaa.Am
/- Branches: the check of a tree, the reference's parts: classes and entries. -/
set_option linter.unusedSimpArgs false
set_option linter.unusedVariables false
namespace Go.Proofs.Ythhpofehcnjmmaa.Am
open Go.RowKit Lw
open Br
end Go.Proofs.Ythhpofehcnjmmaa.Am
/- Branches: the check of a tree, the reference's parts: entries. -/
set_option linter.unusedSimpArgs false
set_option linter.unusedVariables false
namespace Go.Proofs.Ythhpofehcnjmmaa.Am
open Go.RowKit Lw
open Br
end Go.Proofs.Ythhpofehcnjmmaa.Am
/- Branches: the check of a tree, the reference's. -/
set_option linter.unusedSimpArgs false
set_option linter.unusedVariables false
namespace Go.Proofs.Ythhpofehcnjmmaa.Am
open Go.RowKit Lw
open Br
/-- A node whose strings and lists are not beyond all measure. -/
def okR (x : Nd) : Prop := x.attrs.length ≤ 1000000 ∧ At.sizeI x.attrs ≤ 1000000000 ∧ x.name.size ≤ 1000000000
end Go.Proofs.Ythhpofehcnjmmaa.Am
/- Branches: the tree of a branch. -/
set_option linter.unusedSimpArgs false
set_option linter.unusedVariables false
namespace Go.Proofs.Ythhpofehcnjmmaa.Am
open Go.RowKit Lw
open Br
/-- A node of a branch, as a struct holds it. -/
abbrev bnA (x : Bn) : List A1 := [.c (.int .i64 x.nd.depth), .c (.string x.nd.name), .c (.int .i64 x.nd.kind), .ro 2 x.nd.attrs.length (atC x.nd.attrs).cell, .c (.string x.nd.data), .c (.int .i64 x.nd.major), .c (.int .i64 x.nd.minor), .c (.int .i64 x.nd.cls), .c (.bool x.opq), .ro 1 x.red.length (paC x.red).cell]
def bnR (x : Bn) (j : Nat) : DC := match j with
  | 0 => .c (.int .i64 x.nd.depth)
  | 1 => .c (.string x.nd.name)
  | 2 => .c (.int .i64 x.nd.kind)
  | 3 => .sl 2 x.nd.attrs.length (atC x.nd.attrs).cell
  | 4 => .c (.string x.nd.data)
  | 5 => .c (.int .i64 x.nd.major)
  | 6 => .c (.int .i64 x.nd.minor)
  | 7 => .c (.int .i64 x.nd.cls)
  | 8 => .c (.bool x.opq)
  | _ => .sl 1 x.red.length (paC x.red).cell
/-- Nodes of a branch, as a slice holds them. -/
abbrev bnC (l : List Bn) : Ct := listC bnR b0 l
set_option maxRecDepth 20000 in
theorem plain_c (x : Bn) (hx : lenN x.nd) : Con Try.prog 49 [.g (bnA x)] [] 0 0 U (fun _ => .g (ndA x.nd)) G0 := by
  refine con_of Try.func49 rfl (by kernel_rfl) Try.ntmps49 rfl (by first | exact Nat.zero_le _ | decide) (fun _ => ⟨rfl, rfl⟩) fun w S ν => ?_
  (repeat' (first|(with_reducible refine AllP.go ?_;(first|exact trivial|exact fun i _ => ⟨_, rfl⟩|((try simp only [OS]);repeat' (first|omega|exact fun i _ => ⟨_, rfl⟩|refine And.intro ?_ ?_))))|(refine TE.rgo tysOk rfl (by rfl) ?_ ?_)|(with_reducible first|refine stp ?_|refine tD rfl ?_)|refine TE.cond_true (by rfl) ?_|refine TE.cond_false (by rfl) ?_|((first|refine TE.gsplit (by rfl) (by rfl) ?_ ?_|refine TL.gsplit (by rfl) (by rfl) ?_ ?_|refine TE.cond_split (by rfl) ?_ ?_)<;>intro h<;>(try simp only [NS] at h)<;>(try (exfalso;first|omega|exact h trivial|exact h|exact h rfl|contradiction))<;>(try refine TE.run tysOk rfl (by rfl) ?_ ?_))))
  (refine TE.drawK (fun i => Nat.beq i 0) (by rfl) (by rfl) (by rfl) ?_)
  (repeat' (first|(with_reducible refine AllP.go ?_;(first|exact trivial|exact fun i _ => ⟨_, rfl⟩|((try simp only [OS]);repeat' (first|omega|exact fun i _ => ⟨_, rfl⟩|refine And.intro ?_ ?_))))|(with_reducible first|exact PanicOk.body|exact rd.panic|refine PanicOk.then' ?_|refine PanicOk.block ?_|refine PanicOk.jump ?_)|(refine TL.done (by rfl) ?_)|(refine TL.auto tysOk rfl ?_ (by rfl) ?_ ?_)|(refine StepL.mem tysOk rfl rfl rfl rfl (by rfl) ?_ (by rfl) ?_)|(refine StepL.pure tysOk rfl rfl rfl rfl (by rfl) ?_ (by rfl) ?_)|(refine TL.one (by rfl) ?_)|(refine TL.two (by rfl) ?_ ?_)|(refine TL.three (by rfl) ?_ ?_ ?_)|(refine TL.four (by rfl) ?_ ?_ ?_ ?_)))
  refine StepL.callW (Clone_c x.nd.attrs.length (atC x.nd.attrs).cell hx) rfl rfl rfl rfl rfl (by rfl) (by (first|exact trivial|((with_reducible refine AllP.go ?_);dsimp only [AllP, appP];repeat' (first|with_reducible rfl|with_reducible exact LeD.refl|refine And.intro ?_ ?_|(refine congrArg (Value.int _) ?_;first|omega|rfl|(simp only [Int.toNat_natCast];omega))|rfl|(refine congrArg Value.bool ?_;assumption)|assumption|exact LeD.refl)))) (by rfl) (by rfl) ?_
  intro _ _
  (repeat' (first|(with_reducible refine AllP.go ?_;(first|exact trivial|exact fun i _ => ⟨_, rfl⟩|((try simp only [OS]);repeat' (first|omega|exact fun i _ => ⟨_, rfl⟩|refine And.intro ?_ ?_))))|(with_reducible first|exact PanicOk.body|exact rd.panic|refine PanicOk.then' ?_|refine PanicOk.block ?_|refine PanicOk.jump ?_)|(refine TL.done (by rfl) ?_)|(refine TL.auto tysOk rfl ?_ (by rfl) ?_ ?_)|(refine StepL.mem tysOk rfl rfl rfl rfl (by rfl) ?_ (by rfl) ?_)|(refine StepL.pure tysOk rfl rfl rfl rfl (by rfl) ?_ (by rfl) ?_)|(refine TL.one (by rfl) ?_)|(refine TL.two (by rfl) ?_ ?_)|(refine TL.three (by rfl) ?_ ?_ ?_)|(refine TL.four (by rfl) ?_ ?_ ?_ ?_)))
  (repeat' (first|(with_reducible refine AllP.go ?_;(first|exact trivial|exact fun i _ => ⟨_, rfl⟩|((try simp only [OS]);repeat' (first|omega|exact fun i _ => ⟨_, rfl⟩|refine And.intro ?_ ?_))))|(refine TE.rgo tysOk rfl (by rfl) ?_ ?_)|(with_reducible first|refine stp ?_|refine tD rfl ?_)|refine TE.cond_true (by rfl) ?_|refine TE.cond_false (by rfl) ?_|((first|refine TE.gsplit (by rfl) (by rfl) ?_ ?_|refine TL.gsplit (by rfl) (by rfl) ?_ ?_|refine TE.cond_split (by rfl) ?_ ?_)<;>intro h<;>(try simp only [NS] at h)<;>(try (exfalso;first|omega|exact h trivial|exact h|exact h rfl|contradiction))<;>(try refine TE.run tysOk rfl (by rfl) ?_ ?_))))
  (refine TE.freezeN 2 (by rfl) (by rfl) ?_)
  (refine TE.ret' (by first|exact .inl rfl|exact .inr rfl) rfl tysOk (()) ?_ rfl (by rfl) ?_;all_goals (try (first|exact trivial|((with_reducible refine AllP.go ?_);dsimp only [AllP, appP];repeat' (first|with_reducible rfl|with_reducible exact LeD.refl|refine And.intro ?_ ?_|(refine congrArg (Value.int _) ?_;first|omega|rfl|(simp only [Int.toNat_natCast];omega))|rfl|(refine congrArg Value.bool ?_;assumption)|exact LeD.refl)))))
theorem nd_row (x : Nd) : ∀ j, j < 8 → nthD [.c (.int .i64 x.depth), .c (.string x.name), .c (.int .i64 x.kind), .sl 2 x.attrs.length (atC x.attrs).cell, .c (.string x.data), .c (.int .i64 x.major), .c (.int .i64 x.minor), .c (.int .i64 x.cls)] j = ndR x j
  | 0, _ => rfl
  | 1, _ => rfl
  | 2, _ => rfl
  | 3, _ => rfl
  | 4, _ => rfl
  | 5, _ => rfl
  | 6, _ => rfl
  | 7, _ => rfl
  | _ + 8, h => absurd h (by omega)
theorem map_take {α β : Type} {f : α → β} {d : α} {l : List α} {q : Nat} (h : q < l.length) : (l.take (q + 1)).map f = (l.take q).map f ++ [f (l.getD q d)] := by
  rw [List.take_add_one, List.map_append, List.getD_eq_getElem?_getD, List.getElem?_eq_getElem h]
  rfl
set_option maxRecDepth 20000 in
theorem tree_c (l : List Bn) (hl : l.length ≤ 1000000) (hx : ∀ x ∈ l, lenN x.nd) : Con Try.prog 16 [.o (.ro 10 l.length (bnC l).cell)] [] 0 0 U (fun _ => .o (.ro 8 (l.map (·.nd)).length (ndC (l.map (·.nd))).cell)) G0 := by
  refine con_of Try.func16 rfl (by kernel_rfl) Try.ntmps16 rfl (by first | exact Nat.zero_le _ | decide) (fun _ => ⟨rfl, rfl⟩) fun w S ν => ?_
  (repeat' (first|(with_reducible refine AllP.go ?_;(first|exact trivial|exact fun i _ => ⟨_, rfl⟩|((try simp only [OS]);repeat' (first|omega|exact fun i _ => ⟨_, rfl⟩|refine And.intro ?_ ?_))))|(refine TE.rgo tysOk rfl (by rfl) ?_ ?_)|(with_reducible first|refine stp ?_|refine tD rfl ?_)|refine TE.cond_true (by rfl) ?_|refine TE.cond_false (by rfl) ?_|((first|refine TE.gsplit (by rfl) (by rfl) ?_ ?_|refine TL.gsplit (by rfl) (by rfl) ?_ ?_|refine TE.cond_split (by rfl) ?_ ?_)<;>intro h<;>(try simp only [NS] at h)<;>(try (exfalso;first|omega|exact h trivial|exact h|exact h rfl|contradiction))<;>(try refine TE.run tysOk rfl (by rfl) ?_ ?_))))
  (refine TE.only [11, 10, 9, 3, 0] (by rfl) ?_)
  refine TE.loopG (fun q : Nat => q ≤ l.length) (fun q => [(11, .o (.c (.int .i64 q))), (3, .o (.own 0))]) [0] (fun q => [.own 0 70 8 (ndC ((l.take q).map (·.nd)))]) (fun q => l.length - q) 0 (by rfl) (Nat.zero_le _) ?_ ?_
  · (refine Ent.of rfl rfl (by rfl) ?_;(try (first|exact trivial|((with_reducible refine AllP.go ?_);dsimp only [AllP, appP];repeat' (first|with_reducible rfl|with_reducible exact LeD.refl|refine And.intro ?_ ?_|(refine congrArg (Value.int _) ?_;first|omega|rfl|(simp only [Int.toNat_natCast];omega))|rfl|(refine congrArg Value.bool ?_;assumption)|exact LeD.refl)))))
    exact LeDC.nil rfl rfl
  intro q hq
  have hn : (ndC ((l.take q).map (·.nd))).n = q := by show ((l.take q).map (·.nd)).length = q; rw [List.length_map, List.length_take]; omega
  have hn2 : (l.take q).length = q := by rw [List.length_take]; omega
  by_cases hlt : q < l.length
  · have hxq := hx _ (getD_mem (l := l) (d := b0) hlt)
    (repeat' (first|(with_reducible refine AllP.go ?_;(first|exact trivial|exact fun i _ => ⟨_, rfl⟩|((try simp only [OS]);repeat' (first|omega|exact fun i _ => ⟨_, rfl⟩|refine And.intro ?_ ?_))))|(refine TE.rgo tysOk rfl (by rfl) ?_ ?_)|(with_reducible first|refine stp ?_|refine tD rfl ?_)|refine TE.cond_true (by rfl) ?_|refine TE.cond_false (by rfl) ?_|((first|refine TE.gsplit (by rfl) (by rfl) ?_ ?_|refine TL.gsplit (by rfl) (by rfl) ?_ ?_|refine TE.cond_split (by rfl) ?_ ?_)<;>intro h<;>(try simp only [NS] at h)<;>(try (exfalso;first|omega|exact h trivial|exact h|exact h rfl|contradiction))<;>(try refine TE.run tysOk rfl (by rfl) ?_ ?_))))
    refine TE.callW (plain_c (l.getD q b0) hxq) rfl (by rfl) (by rfl) rfl (by rfl) (by (first|exact trivial|((with_reducible refine AllP.go ?_);dsimp only [AllP, appP];repeat' (first|with_reducible rfl|with_reducible exact LeD.refl|refine And.intro ?_ ?_|(refine congrArg (Value.int _) ?_;first|omega|rfl|(simp only [Int.toNat_natCast];omega))|rfl|(refine congrArg Value.bool ?_;assumption)|assumption|exact LeD.refl)))) ?_
    intro _ _
    ((refine TE.run tysOk rfl (by rfl) ?_ ?_);(repeat' (first|(with_reducible refine AllP.go ?_;(first|exact trivial|exact fun i _ => ⟨_, rfl⟩|((try simp only [OS]);repeat' (first|omega|exact fun i _ => ⟨_, rfl⟩|refine And.intro ?_ ?_))))|(refine TE.rgo tysOk rfl (by rfl) ?_ ?_)|(with_reducible first|refine stp ?_|refine tD rfl ?_)|refine TE.cond_true (by rfl) ?_|refine TE.cond_false (by rfl) ?_|((first|refine TE.gsplit (by rfl) (by rfl) ?_ ?_|refine TL.gsplit (by rfl) (by rfl) ?_ ?_|refine TE.cond_split (by rfl) ?_ ?_)<;>intro h<;>(try simp only [NS] at h)<;>(try (exfalso;first|omega|exact h trivial|exact h|exact h rfl|contradiction))<;>(try refine TE.run tysOk rfl (by rfl) ?_ ?_)))))
    refine TE.again' (q + 1) (by omega) (by omega) ?_
    (refine Ent.of rfl rfl (by rfl) ?_;(try (first|exact trivial|((with_reducible refine AllP.go ?_);dsimp only [AllP, appP];repeat' (first|with_reducible rfl|with_reducible exact LeD.refl|refine And.intro ?_ ?_|(refine congrArg (Value.int _) ?_;first|omega|rfl|(simp only [Int.toNat_natCast];omega))|rfl|(refine congrArg Value.bool ?_;assumption)|exact LeD.refl)))))
    exact listC_snoc _ (map_take hlt) (nd_row _)
  · obtain rfl : q = l.length := by omega
    (repeat' (first|(with_reducible refine AllP.go ?_;(first|exact trivial|exact fun i _ => ⟨_, rfl⟩|((try simp only [OS]);repeat' (first|omega|exact fun i _ => ⟨_, rfl⟩|refine And.intro ?_ ?_))))|(refine TE.rgo tysOk rfl (by rfl) ?_ ?_)|(with_reducible first|refine stp ?_|refine tD rfl ?_)|refine TE.cond_true (by rfl) ?_|refine TE.cond_false (by rfl) ?_|((first|refine TE.gsplit (by rfl) (by rfl) ?_ ?_|refine TL.gsplit (by rfl) (by rfl) ?_ ?_|refine TE.cond_split (by rfl) ?_ ?_)<;>intro h<;>(try simp only [NS] at h)<;>(try (exfalso;first|omega|exact h trivial|exact h|exact h rfl|contradiction))<;>(try refine TE.run tysOk rfl (by rfl) ?_ ?_))))
    (refine TE.freezeN 0 (by rfl) (by rfl) ?_)
    (refine TE.ret' (by first|exact .inl rfl|exact .inr rfl) rfl tysOk (()) ?_ rfl (by rfl) ?_;all_goals (try (first|exact trivial|((with_reducible refine AllP.go ?_);dsimp only [AllP, appP];repeat' (first|with_reducible rfl|with_reducible exact LeD.refl|refine And.intro ?_ ?_|(refine congrArg (Value.int _) ?_;first|omega|rfl|(simp only [Int.toNat_natCast];omega))|rfl|(refine congrArg Value.bool ?_;assumption)|exact LeD.refl)))))
    rw [List.take_length]
    exact LeD.refl
end Go.Proofs.Ythhpofehcnjmmaa.Am
/- Branches: paths compared; the directory of a node and its path, the reference's. -/
set_option linter.unusedSimpArgs false
set_option linter.unusedVariables false
namespace Go.Proofs.Ythhpofehcnjmmaa.Am
open Go.RowKit Lw
open Br
theorem plist_eq_of {l m : List ByteArray} (hl : l.length = m.length) (h : ∀ k, k < l.length → l.getD k eS = m.getD k eS) : l = m := by
  refine List.ext_getElem hl fun k h1 h2 => ?_
  have := h k h1
  rwa [List.getD_eq_getElem?_getD, List.getD_eq_getElem?_getD, List.getElem?_eq_getElem h1, List.getElem?_eq_getElem h2] at this
set_option maxRecDepth 20000 in
theorem equalS_c (l m : List ByteArray) (hl : l.length ≤ 1000000) (hm : m.length ≤ 1000000) : Con Try.prog 45 [.o (.ro 1 l.length (paC l).cell), .o (.ro 1 m.length (paC m).cell)] [] 0 0 U (fun _ => .o (.sb (decide (l = m)))) G0 := by
  refine con_of Try.func45 rfl (by kernel_rfl) Try.ntmps45 rfl (by first | exact Nat.zero_le _ | decide) (fun _ => ⟨rfl, rfl⟩) fun w S ν => ?_
  by_cases hlm : l.length = m.length
  · (repeat' (first|(with_reducible refine AllP.go ?_;(first|exact trivial|exact fun i _ => ⟨_, rfl⟩|((try simp only [OS]);repeat' (first|omega|exact fun i _ => ⟨_, rfl⟩|refine And.intro ?_ ?_))))|(refine TE.rgo tysOk rfl (by rfl) ?_ ?_)|(with_reducible first|refine stp ?_|refine tD rfl ?_)|(with_reducible first|exact PanicOk.body|exact rd.panic|refine PanicOk.then' ?_|refine PanicOk.block ?_|refine PanicOk.jump ?_)|(refine TE.drawC (by rfl) (by rfl) (by rfl) (by rfl) ?_)|(refine TE.drawN (by rfl) (by rfl) (by rfl) ?_)|(refine TL.done (by rfl) ?_)|(refine TL.auto tysOk rfl ?_ (by rfl) ?_ ?_)|((refine TL.one (by rfl) ?_);first|(refine StepL.mem tysOk rfl rfl rfl rfl (by rfl) ?_ (by rfl) ?_)|(refine StepL.pure tysOk rfl rfl rfl rfl (by rfl) ?_ (by rfl) ?_))|(refine StepL.mem tysOk rfl rfl rfl rfl (by rfl) ?_ (by rfl) ?_)|refine TE.cond_true (by rfl) ?_|refine TE.cond_false (by rfl) ?_|((first|refine TE.gsplit (by rfl) (by rfl) ?_ ?_|refine TL.gsplit (by rfl) (by rfl) ?_ ?_|refine TE.cond_split (by rfl) ?_ ?_)<;>intro h<;>(try simp only [NS] at h)<;>(try (exfalso;first|omega|exact h trivial|exact h|exact h rfl|contradiction))<;>(try refine TE.run tysOk rfl (by rfl) ?_ ?_))))
    refine TE.loopG (fun q : Nat => q ≤ l.length ∧ ∀ j, j < q → l.getD j eS = m.getD j eS) (fun q => [(13, .o (.c (.int .i64 q)))]) [] (fun _ => []) (fun q => l.length - q) 0 (by rfl) ⟨Nat.zero_le _, fun j hj => absurd hj (Nat.not_lt_zero _)⟩ ?_ ?_
    · (refine Ent.of rfl rfl (by rfl) ?_;(try (first|exact trivial|((with_reducible refine AllP.go ?_);dsimp only [AllP, appP];repeat' (first|with_reducible rfl|with_reducible exact LeD.refl|refine And.intro ?_ ?_|(refine congrArg (Value.int _) ?_;first|omega|rfl|(simp only [Int.toNat_natCast];omega))|rfl|(refine congrArg Value.bool ?_;assumption)|exact LeD.refl)))))
    rintro q ⟨hq, hg⟩
    by_cases hlt : q < l.length
    · by_cases he : l.getD q eS = m.getD q eS
      · (repeat' (first|(with_reducible refine AllP.go ?_;(first|exact trivial|exact fun i _ => ⟨_, rfl⟩|((try simp only [OS]);repeat' (first|omega|exact fun i _ => ⟨_, rfl⟩|refine And.intro ?_ ?_))))|(refine TE.rgo tysOk rfl (by rfl) ?_ ?_)|(with_reducible first|refine stp ?_|refine tD rfl ?_)|(with_reducible first|exact PanicOk.body|exact rd.panic|refine PanicOk.then' ?_|refine PanicOk.block ?_|refine PanicOk.jump ?_)|(refine TE.drawC (by rfl) (by rfl) (by rfl) (by rfl) ?_)|(refine TE.drawN (by rfl) (by rfl) (by rfl) ?_)|(refine TL.done (by rfl) ?_)|(refine TL.auto tysOk rfl ?_ (by rfl) ?_ ?_)|((refine TL.one (by rfl) ?_);first|(refine StepL.mem tysOk rfl rfl rfl rfl (by rfl) ?_ (by rfl) ?_)|(refine StepL.pure tysOk rfl rfl rfl rfl (by rfl) ?_ (by rfl) ?_))|(refine StepL.mem tysOk rfl rfl rfl rfl (by rfl) ?_ (by rfl) ?_)|refine TE.cond_true (by rfl) ?_|refine TE.cond_false (by rfl) ?_|((first|refine TE.gsplit (by rfl) (by rfl) ?_ ?_|refine TL.gsplit (by rfl) (by rfl) ?_ ?_|refine TE.cond_split (by rfl) ?_ ?_)<;>intro h<;>(try simp only [NS] at h)<;>(try (exfalso;first|omega|exact h trivial|exact h|exact h rfl|contradiction))<;>(try refine TE.run tysOk rfl (by rfl) ?_ ?_))))
        refine TE.again' (q + 1) ⟨by omega, fun j hj => ?_⟩ (by omega) ?_
        · rcases Nat.lt_or_ge j q with h5 | h5
          · exact hg j h5
          · obtain rfl : j = q := by omega
            exact he
        · (refine Ent.of rfl rfl (by rfl) ?_;(try (first|exact trivial|((with_reducible refine AllP.go ?_);dsimp only [AllP, appP];repeat' (first|with_reducible rfl|with_reducible exact LeD.refl|refine And.intro ?_ ?_|(refine congrArg (Value.int _) ?_;first|omega|rfl|(simp only [Int.toNat_natCast];omega))|rfl|(refine congrArg Value.bool ?_;assumption)|exact LeD.refl)))))
      · have hne : l ≠ m := fun e => he (by rw [e])
        (repeat' (first|(with_reducible refine AllP.go ?_;(first|exact trivial|exact fun i _ => ⟨_, rfl⟩|((try simp only [OS]);repeat' (first|omega|exact fun i _ => ⟨_, rfl⟩|refine And.intro ?_ ?_))))|(refine TE.rgo tysOk rfl (by rfl) ?_ ?_)|(with_reducible first|refine stp ?_|refine tD rfl ?_)|(with_reducible first|exact PanicOk.body|exact rd.panic|refine PanicOk.then' ?_|refine PanicOk.block ?_|refine PanicOk.jump ?_)|(refine TE.drawC (by rfl) (by rfl) (by rfl) (by rfl) ?_)|(refine TE.drawN (by rfl) (by rfl) (by rfl) ?_)|(refine TL.done (by rfl) ?_)|(refine TL.auto tysOk rfl ?_ (by rfl) ?_ ?_)|((refine TL.one (by rfl) ?_);first|(refine StepL.mem tysOk rfl rfl rfl rfl (by rfl) ?_ (by rfl) ?_)|(refine StepL.pure tysOk rfl rfl rfl rfl (by rfl) ?_ (by rfl) ?_))|(refine StepL.mem tysOk rfl rfl rfl rfl (by rfl) ?_ (by rfl) ?_)|refine TE.cond_true (by rfl) ?_|refine TE.cond_false (by rfl) ?_|((first|refine TE.gsplit (by rfl) (by rfl) ?_ ?_|refine TL.gsplit (by rfl) (by rfl) ?_ ?_|refine TE.cond_split (by rfl) ?_ ?_)<;>intro h<;>(try simp only [NS] at h)<;>(try (exfalso;first|omega|exact h trivial|exact h|exact h rfl|contradiction))<;>(try refine TE.run tysOk rfl (by rfl) ?_ ?_))))
        (refine TE.ret' (by first|exact .inl rfl|exact .inr rfl) rfl tysOk (()) ?_ rfl (by rfl) ?_;all_goals (try (first|exact trivial|((with_reducible refine AllP.go ?_);dsimp only [AllP, appP];repeat' (first|with_reducible rfl|with_reducible exact LeD.refl|refine And.intro ?_ ?_|(refine congrArg (Value.int _) ?_;first|omega|rfl|(simp only [Int.toNat_natCast];omega))|rfl|(refine congrArg Value.bool ?_;assumption)|exact LeD.refl)))))
        exact congrArg Value.bool (decide_eq_false hne).symm
    · have heq : l = m := plist_eq_of hlm fun k hk => hg k (by omega)
      (repeat' (first|(with_reducible refine AllP.go ?_;(first|exact trivial|exact fun i _ => ⟨_, rfl⟩|((try simp only [OS]);repeat' (first|omega|exact fun i _ => ⟨_, rfl⟩|refine And.intro ?_ ?_))))|(refine TE.rgo tysOk rfl (by rfl) ?_ ?_)|(with_reducible first|refine stp ?_|refine tD rfl ?_)|(with_reducible first|exact PanicOk.body|exact rd.panic|refine PanicOk.then' ?_|refine PanicOk.block ?_|refine PanicOk.jump ?_)|(refine TE.drawC (by rfl) (by rfl) (by rfl) (by rfl) ?_)|(refine TE.drawN (by rfl) (by rfl) (by rfl) ?_)|(refine TL.done (by rfl) ?_)|(refine TL.auto tysOk rfl ?_ (by rfl) ?_ ?_)|((refine TL.one (by rfl) ?_);first|(refine StepL.mem tysOk rfl rfl rfl rfl (by rfl) ?_ (by rfl) ?_)|(refine StepL.pure tysOk rfl rfl rfl rfl (by rfl) ?_ (by rfl) ?_))|(refine StepL.mem tysOk rfl rfl rfl rfl (by rfl) ?_ (by rfl) ?_)|refine TE.cond_true (by rfl) ?_|refine TE.cond_false (by rfl) ?_|((first|refine TE.gsplit (by rfl) (by rfl) ?_ ?_|refine TL.gsplit (by rfl) (by rfl) ?_ ?_|refine TE.cond_split (by rfl) ?_ ?_)<;>intro h<;>(try simp only [NS] at h)<;>(try (exfalso;first|omega|exact h trivial|exact h|exact h rfl|contradiction))<;>(try refine TE.run tysOk rfl (by rfl) ?_ ?_))))
      (refine TE.ret' (by first|exact .inl rfl|exact .inr rfl) rfl tysOk (()) ?_ rfl (by rfl) ?_;all_goals (try (first|exact trivial|((with_reducible refine AllP.go ?_);dsimp only [AllP, appP];repeat' (first|with_reducible rfl|with_reducible exact LeD.refl|refine And.intro ?_ ?_|(refine congrArg (Value.int _) ?_;first|omega|rfl|(simp only [Int.toNat_natCast];omega))|rfl|(refine congrArg Value.bool ?_;assumption)|exact LeD.refl)))))
      exact congrArg Value.bool (decide_eq_true heq).symm
  · have hne : l ≠ m := fun e => hlm (by rw [e])
    (repeat' (first|(with_reducible refine AllP.go ?_;(first|exact trivial|exact fun i _ => ⟨_, rfl⟩|((try simp only [OS]);repeat' (first|omega|exact fun i _ => ⟨_, rfl⟩|refine And.intro ?_ ?_))))|(refine TE.rgo tysOk rfl (by rfl) ?_ ?_)|(with_reducible first|refine stp ?_|refine tD rfl ?_)|(with_reducible first|exact PanicOk.body|exact rd.panic|refine PanicOk.then' ?_|refine PanicOk.block ?_|refine PanicOk.jump ?_)|(refine TE.drawC (by rfl) (by rfl) (by rfl) (by rfl) ?_)|(refine TE.drawN (by rfl) (by rfl) (by rfl) ?_)|(refine TL.done (by rfl) ?_)|(refine TL.auto tysOk rfl ?_ (by rfl) ?_ ?_)|((refine TL.one (by rfl) ?_);first|(refine StepL.mem tysOk rfl rfl rfl rfl (by rfl) ?_ (by rfl) ?_)|(refine StepL.pure tysOk rfl rfl rfl rfl (by rfl) ?_ (by rfl) ?_))|(refine StepL.mem tysOk rfl rfl rfl rfl (by rfl) ?_ (by rfl) ?_)|refine TE.cond_true (by rfl) ?_|refine TE.cond_false (by rfl) ?_|((first|refine TE.gsplit (by rfl) (by rfl) ?_ ?_|refine TL.gsplit (by rfl) (by rfl) ?_ ?_|refine TE.cond_split (by rfl) ?_ ?_)<;>intro h<;>(try simp only [NS] at h)<;>(try (exfalso;first|omega|exact h trivial|exact h|exact h rfl|contradiction))<;>(try refine TE.run tysOk rfl (by rfl) ?_ ?_))))
    (refine TE.ret' (by first|exact .inl rfl|exact .inr rfl) rfl tysOk (()) ?_ rfl (by rfl) ?_;all_goals (try (first|exact trivial|((with_reducible refine AllP.go ?_);dsimp only [AllP, appP];repeat' (first|with_reducible rfl|with_reducible exact LeD.refl|refine And.intro ?_ ?_|(refine congrArg (Value.int _) ?_;first|omega|rfl|(simp only [Int.toNat_natCast];omega))|rfl|(refine congrArg Value.bool ?_;assumption)|exact LeD.refl)))))
    exact congrArg Value.bool (decide_eq_false hne).symm
end Go.Proofs.Ythhpofehcnjmmaa.Am
/- Branches: the path of a node, the reference's; the texts of paths. -/
set_option linter.unusedSimpArgs false
set_option linter.unusedVariables false
namespace Go.Proofs.Ythhpofehcnjmmaa.Am
open Go.RowKit Lw
open Br
end Go.Proofs.Ythhpofehcnjmmaa.Am
/- Branches: the check of a branch, the reference's. -/
set_option linter.unusedSimpArgs false
set_option linter.unusedVariables false
namespace Go.Proofs.Ythhpofehcnjmmaa.Am
open Go.RowKit Lw
open Br
/-- A node of a branch whose strings and lists are not beyond all measure. -/
def okB (x : Bn) : Prop := okR x.nd ∧ x.red.length ≤ 1000000 ∧ ∀ s ∈ x.red, s.size ≤ 1000000000
end Go.Proofs.Ythhpofehcnjmmaa.Am
/- Branches: the check of a branch, the reference's: all of it; a branch and a node. -/
set_option linter.unusedSimpArgs false
set_option linter.unusedVariables false
namespace Go.Proofs.Ythhpofehcnjmmaa.Am
open Go.RowKit Lw
open Br
theorem checkB_bad {l : List Bn} {q : Nat} (hT : (checkT (nds l)).2 = 0) (hq : q < l.length) (h : ∀ j, j < q → marksE l j = 0) (he : marksE l q ≠ 0) : checkB l = ((q : Int), marksE l q) := by
  unfold checkB
  rw [if_neg (fun k => k hT), firstM_at l.length 0 q (Nat.zero_le _) (by omega) (fun j _ hj => h j hj) he]
theorem checkB_good {l : List Bn} (hT : (checkT (nds l)).2 = 0) (h : ∀ j, j < l.length → marksE l j = 0) : checkB l = (0, 0) := by
  unfold checkB
  rw [if_neg (fun k => k hT), firstM_none l.length 0 fun j _ hj => h j (by omega)]
end Go.Proofs.Ythhpofehcnjmmaa.Am
/-
  DERIVED: THE SHELF's CONTRACTS AT THIS DUMP, IN PLAIN WORDS (tools/lay-plain.mjs out of 'TryShelf.lean', which tools/lay-shelf.mjs wrote): THE SAME DECLARATIONS UNDER THE SAME NAMES: 'import', 'namespace', 'open', 'def', 'theorem' AND NOTHING ELSE: no command of the shelf's: FOR A HAND-IN. Each laying: the table of numbers ('.._ren') and one theorem, a field a fact of the dump's own or the kernel's comparison; each contract: ONE APPLICATION.
-/
namespace Go.Proofs
open Go.Shelf
def Try.lays156_ren : Go.Shelf.Ren := ⟨fun | 156 => 78 | 165 => 101 | 166 => 102 | 169 => 103 | 240 => 112 | 241 => 113 | 276 => 117 | 277 => 118 | n => n, fun | 31 => 36 | 9 => 9 | 3 => 3 | 4 => 4 | 0 => 0 | 20 => 20 | 72 => 130 | 76 => 134 | 70 => 127 | 37 => 128 | 75 => 133 | 127 => 148 | 164 => 151 | 5 => 5 | 80 => 136 | n => n, fun | n => n⟩
theorem Try.lays156 : Go.Proofs.Lays.n156 Try.prog Try.lays156_ren := {
  mixed := by kernel_rfl
  f156 := Try.func78.trans (congrArg some (by kernel_rfl))
  f165 := Try.func101.trans (congrArg some (by kernel_rfl))
  f166 := Try.func102.trans (congrArg some (by kernel_rfl))
  f169 := Try.func103.trans (congrArg some (by kernel_rfl))
  f240 := Try.func112.trans (congrArg some (by kernel_rfl))
  f241 := Try.func113.trans (congrArg some (by kernel_rfl))
  f276 := Try.func117.trans (congrArg some (by kernel_rfl))
  f277 := Try.func118.trans (congrArg some (by kernel_rfl))
  t0 := Try.underlying0
  a0 := Try.isAgg0
  z0 := Try.sizeOf0
  v0 := Try.zeroValue0
  t3 := Try.underlying3
  a3 := Try.isAgg3
  z3 := Try.sizeOf3
  v3 := Try.zeroValue3
  t4 := Try.underlying4
  a4 := Try.isAgg4
  z4 := Try.sizeOf4
  v4 := Try.zeroValue4
  t9 := Try.underlying9
  a9 := Try.isAgg9
  z9 := Try.sizeOf9
  v9 := Try.zeroValue9
  t20 := Try.underlying20
  a20 := Try.isAgg20
  z20 := Try.sizeOf20
  v20 := Try.zeroValue20
  t31 := Try.underlying36
  a31 := Try.isAgg36
  z31 := Try.sizeOf36
  v31 := Try.zeroValue36
  t37 := Try.underlying128
  a37 := Try.isAgg128
  z37 := Try.sizeOf128
  v37 := Try.zeroValue128
  t70 := Try.underlying127
  a70 := Try.isAgg127
  z70 := Try.sizeOf127
  v70 := Try.zeroValue127
  t72 := Try.underlying130
  a72 := Try.isAgg130
  z72 := Try.sizeOf130
  v72 := Try.zeroValue130
  t75 := Try.underlying133
  a75 := Try.isAgg133
  z75 := Try.sizeOf133
  v75 := Try.zeroValue133
  t76 := Try.underlying134
  a76 := Try.isAgg134
  z76 := Try.sizeOf134
  v76 := Try.zeroValue134
  t127 := Try.underlying148
  a127 := Try.isAgg148
  z127 := Try.sizeOf148
  v127 := Try.zeroValue148
  t164 := Try.underlying151
  a164 := Try.isAgg151
  z164 := Try.sizeOf151
  v164 := Try.zeroValue151 }
theorem Try.Builder_Extra_156 : Builder.Extra Try.prog Try.lays156_ren := {
  sizeBuilder := by kernel_rfl
  liesBuilder := by kernel_rfl
  t5 := Try.underlying5
  a5 := Try.isAgg5
  z5 := Try.sizeOf5
  v5 := Try.zeroValue5
  infoByte := by kernel_rfl
  cellsByte := by kernel_rfl
  sizeByte := by kernel_rfl
  neB5 := by decide }
open Go.RowKit in
/-- No element: the empty string; the world is as it was. (Whatever the slice's address and capacity: a nil slice too.) (LAID: no walk: one application.) -/
theorem Try.strings_Join_none (a : Option Addr) (c : Nat) (sep : ByteArray) (w : World) :
    Calls Try.prog 78 #[.slice a 0 c, .string sep] w fun e w' => e = .returned (.string ⟨#[]⟩) ∧ w' = w := Any.strings_Join_none Try.lays156 Try.Builder_Extra_156 a c sep w
open Go.RowKit in
/-- strings.Join: "Join concatenates the elements of its first argument to create a single string. The separator string sep is placed between elements in the resulting string.": HOWEVER MANY ELEMENTS. Below the heap's end the world is as it was. (LAID: no walk: one application.) -/
theorem Try.strings_Join (bk o c : Nat) (xs : List ByteArray) (sep : ByteArray) (w : World) (hcells : ∀ (j : Nat) x, xs[j]? = some x → w.cell? ⟨bk, o + j, none⟩ = some (.string x)) (hbk : bk < w.heap.size) (hN : xs.length ≤ 140737488355328) (hcap : xs.length ≤ c) (hlen : (Lib.join (xs.map (·.data.toList)) sep.data.toList).length ≤ 140737488355328) :
    Calls Try.prog 78 #[.slice (some ⟨bk, o, none⟩) xs.length c, .string sep] w fun e w' => e = .returned (.string ⟨(Lib.join (xs.map (·.data.toList)) sep.data.toList).toArray⟩) ∧ Below w.heap.size w w' := Any.strings_Join Try.lays156 Try.Builder_Extra_156 bk o c xs sep w hcells hbk hN hcap hlen
end Go.Proofs
/- Branches: the texts of paths, and copies of paths. -/
set_option linter.unusedSimpArgs false
set_option linter.unusedVariables false
namespace Go.Proofs.Ythhpofehcnjmmaa.Am
open Go.RowKit Lw
open Br
set_option maxRecDepth 20000 in
theorem cloneS_c (p : List ByteArray) (hn : p.length ≤ 1000000) : Con Try.prog 66 [.o (.ro 1 p.length (paC p).cell)] [] 0 1 U (fun _ => .o (.own 0)) (fun _ => [.own 0 9 1 (paC p)]) := by
  refine con_of Try.func66 rfl (by kernel_rfl) Try.ntmps66 rfl (by first | exact Nat.zero_le _ | decide) (fun _ => ⟨rfl, rfl⟩) fun w S ν => ?_
  (repeat' (first|(with_reducible refine AllP.go ?_;(first|exact trivial|exact fun i _ => ⟨_, rfl⟩|((try simp only [OS]);repeat' (first|omega|exact fun i _ => ⟨_, rfl⟩|refine And.intro ?_ ?_))))|(refine TE.rgo tysOk rfl (by rfl) ?_ ?_)|(with_reducible first|refine stp ?_|refine tD rfl ?_)|refine TE.cond_true (by rfl) ?_|refine TE.cond_false (by rfl) ?_|((first|refine TE.gsplit (by rfl) (by rfl) ?_ ?_|refine TL.gsplit (by rfl) (by rfl) ?_ ?_|refine TE.cond_split (by rfl) ?_ ?_)<;>intro h<;>(try simp only [NS] at h)<;>(try (exfalso;first|omega|exact h trivial|exact h|exact h rfl|contradiction))<;>(try refine TE.run tysOk rfl (by rfl) ?_ ?_))))
  (refine TE.step rfl rfl rfl (fun _ h => nomatch h) (m_isnil tysOk rfl (by first | exact .inl rfl | exact .inr rfl) rfl rfl rfl) ?_; rintro _ ⟨b, hb, rfl⟩; cases b)
  · ((refine TE.run tysOk rfl (by rfl) ?_ ?_);(repeat' (first|(with_reducible refine AllP.go ?_;(first|exact trivial|exact fun i _ => ⟨_, rfl⟩|((try simp only [OS]);repeat' (first|omega|exact fun i _ => ⟨_, rfl⟩|refine And.intro ?_ ?_))))|(refine TE.rgo tysOk rfl (by rfl) ?_ ?_)|(with_reducible first|refine stp ?_|refine tD rfl ?_)|(with_reducible first|exact PanicOk.body|exact rd.panic|refine PanicOk.then' ?_|refine PanicOk.block ?_|refine PanicOk.jump ?_)|(refine TE.drawC (by rfl) (by rfl) (by rfl) (by rfl) ?_)|(refine TE.drawN (by rfl) (by rfl) (by rfl) ?_)|(refine TL.done (by rfl) ?_)|(refine TL.auto tysOk rfl ?_ (by rfl) ?_ ?_)|((refine TL.one (by rfl) ?_);first|(refine StepL.mem tysOk rfl rfl rfl rfl (by rfl) ?_ (by rfl) ?_)|(refine StepL.pure tysOk rfl rfl rfl rfl (by rfl) ?_ (by rfl) ?_))|(refine StepL.mem tysOk rfl rfl rfl rfl (by rfl) ?_ (by rfl) ?_)|refine TE.cond_true (by rfl) ?_|refine TE.cond_false (by rfl) ?_|((first|refine TE.gsplit (by rfl) (by rfl) ?_ ?_|refine TL.gsplit (by rfl) (by rfl) ?_ ?_|refine TE.cond_split (by rfl) ?_ ?_)<;>intro h<;>(try simp only [NS] at h)<;>(try (exfalso;first|omega|exact h trivial|exact h|exact h rfl|contradiction))<;>(try refine TE.run tysOk rfl (by rfl) ?_ ?_)))))
    (refine TE.ret' (by first|exact .inl rfl|exact .inr rfl) rfl tysOk (()) ?_ rfl (by rfl) ?_;all_goals (try (first|exact trivial|((with_reducible refine AllP.go ?_);dsimp only [AllP, appP];repeat' (first|with_reducible rfl|with_reducible exact LeD.refl|refine And.intro ?_ ?_|(refine congrArg (Value.int _) ?_;first|omega|rfl|(simp only [Int.toNat_natCast];omega))|rfl|(refine congrArg Value.bool ?_;assumption)|exact LeD.refl)))))
    exact litnil_app 1 _
  · have hb0 : p.length = 0 := hb rfl
    ((refine TE.run tysOk rfl (by rfl) ?_ ?_);(repeat' (first|(with_reducible refine AllP.go ?_;(first|exact trivial|exact fun i _ => ⟨_, rfl⟩|((try simp only [OS]);repeat' (first|omega|exact fun i _ => ⟨_, rfl⟩|refine And.intro ?_ ?_))))|(refine TE.rgo tysOk rfl (by rfl) ?_ ?_)|(with_reducible first|refine stp ?_|refine tD rfl ?_)|(with_reducible first|exact PanicOk.body|exact rd.panic|refine PanicOk.then' ?_|refine PanicOk.block ?_|refine PanicOk.jump ?_)|(refine TE.drawC (by rfl) (by rfl) (by rfl) (by rfl) ?_)|(refine TE.drawN (by rfl) (by rfl) (by rfl) ?_)|(refine TL.done (by rfl) ?_)|(refine TL.auto tysOk rfl ?_ (by rfl) ?_ ?_)|((refine TL.one (by rfl) ?_);first|(refine StepL.mem tysOk rfl rfl rfl rfl (by rfl) ?_ (by rfl) ?_)|(refine StepL.pure tysOk rfl rfl rfl rfl (by rfl) ?_ (by rfl) ?_))|(refine StepL.mem tysOk rfl rfl rfl rfl (by rfl) ?_ (by rfl) ?_)|refine TE.cond_true (by rfl) ?_|refine TE.cond_false (by rfl) ?_|((first|refine TE.gsplit (by rfl) (by rfl) ?_ ?_|refine TL.gsplit (by rfl) (by rfl) ?_ ?_|refine TE.cond_split (by rfl) ?_ ?_)<;>intro h<;>(try simp only [NS] at h)<;>(try (exfalso;first|omega|exact h trivial|exact h|exact h rfl|contradiction))<;>(try refine TE.run tysOk rfl (by rfl) ?_ ?_)))))
    refine TE.nilOwn 2 9 1 (by rfl) ?_
    (refine TE.ret' (by first|exact .inl rfl|exact .inr rfl) rfl tysOk (()) ?_ rfl (by rfl) ?_;all_goals (try (first|exact trivial|((with_reducible refine AllP.go ?_);dsimp only [AllP, appP];repeat' (first|with_reducible rfl|with_reducible exact LeD.refl|refine And.intro ?_ ?_|(refine congrArg (Value.int _) ?_;first|omega|rfl|(simp only [Int.toNat_natCast];omega))|rfl|(refine congrArg Value.bool ?_;assumption)|exact LeD.refl)))))
    exact LeD.zero rfl hb0
set_option maxRecDepth 20000 in
theorem cloneO_c (p : List ByteArray) (hn : p.length ≤ 1000000) : Con Try.prog 66 [.o (.own 0)] [.own 0 9 1 (paC p)] 1 2 U (fun _ => .o (.own 1)) (fun _ => [.own 0 9 1 (paC p), .own 1 9 1 (paC p)]) := by
  refine con_of Try.func66 rfl (by kernel_rfl) Try.ntmps66 rfl (by first | exact Nat.zero_le _ | decide) (fun _ => ⟨rfl, rfl⟩) fun w S ν => ?_
  have hpn : (paC p).n = p.length := rfl
  (repeat' (first|(with_reducible refine AllP.go ?_;(first|exact trivial|exact fun i _ => ⟨_, rfl⟩|((try simp only [OS]);repeat' (first|omega|exact fun i _ => ⟨_, rfl⟩|refine And.intro ?_ ?_))))|(refine TE.rgo tysOk rfl (by rfl) ?_ ?_)|(with_reducible first|refine stp ?_|refine tD rfl ?_)|refine TE.cond_true (by rfl) ?_|refine TE.cond_false (by rfl) ?_|((first|refine TE.gsplit (by rfl) (by rfl) ?_ ?_|refine TL.gsplit (by rfl) (by rfl) ?_ ?_|refine TE.cond_split (by rfl) ?_ ?_)<;>intro h<;>(try simp only [NS] at h)<;>(try (exfalso;first|omega|exact h trivial|exact h|exact h rfl|contradiction))<;>(try refine TE.run tysOk rfl (by rfl) ?_ ?_))))
  (refine TE.step rfl rfl rfl (fun _ h => nomatch h) (m_isnil tysOk rfl (by first | exact .inl rfl | exact .inr rfl) rfl rfl rfl) ?_; rintro _ ⟨b, hb, rfl⟩; cases b)
  · ((refine TE.run tysOk rfl (by rfl) ?_ ?_);(repeat' (first|(with_reducible refine AllP.go ?_;(first|exact trivial|exact fun i _ => ⟨_, rfl⟩|((try simp only [OS]);repeat' (first|omega|exact fun i _ => ⟨_, rfl⟩|refine And.intro ?_ ?_))))|(refine TE.rgo tysOk rfl (by rfl) ?_ ?_)|(with_reducible first|refine stp ?_|refine tD rfl ?_)|(with_reducible first|exact PanicOk.body|exact rd.panic|refine PanicOk.then' ?_|refine PanicOk.block ?_|refine PanicOk.jump ?_)|(refine TE.drawC (by rfl) (by rfl) (by rfl) (by rfl) ?_)|(refine TE.drawN (by rfl) (by rfl) (by rfl) ?_)|(refine TL.done (by rfl) ?_)|(refine TL.auto tysOk rfl ?_ (by rfl) ?_ ?_)|((refine TL.one (by rfl) ?_);first|(refine StepL.mem tysOk rfl rfl rfl rfl (by rfl) ?_ (by rfl) ?_)|(refine StepL.pure tysOk rfl rfl rfl rfl (by rfl) ?_ (by rfl) ?_))|(refine StepL.mem tysOk rfl rfl rfl rfl (by rfl) ?_ (by rfl) ?_)|refine TE.cond_true (by rfl) ?_|refine TE.cond_false (by rfl) ?_|((first|refine TE.gsplit (by rfl) (by rfl) ?_ ?_|refine TL.gsplit (by rfl) (by rfl) ?_ ?_|refine TE.cond_split (by rfl) ?_ ?_)<;>intro h<;>(try simp only [NS] at h)<;>(try (exfalso;first|omega|exact h trivial|exact h|exact h rfl|contradiction))<;>(try refine TE.run tysOk rfl (by rfl) ?_ ?_)))))
    (refine TE.ret' (by first|exact .inl rfl|exact .inr rfl) rfl tysOk (()) ?_ rfl (by rfl) ?_;all_goals (try (first|exact trivial|((with_reducible refine AllP.go ?_);dsimp only [AllP, appP];repeat' (first|with_reducible rfl|with_reducible exact LeD.refl|refine And.intro ?_ ?_|(refine congrArg (Value.int _) ?_;first|omega|rfl|(simp only [Int.toNat_natCast];omega))|rfl|(refine congrArg Value.bool ?_;assumption)|exact LeD.refl)))))
    exact litnil_app 1 _
  · have hb0 : p.length = 0 := hb rfl
    ((refine TE.run tysOk rfl (by rfl) ?_ ?_);(repeat' (first|(with_reducible refine AllP.go ?_;(first|exact trivial|exact fun i _ => ⟨_, rfl⟩|((try simp only [OS]);repeat' (first|omega|exact fun i _ => ⟨_, rfl⟩|refine And.intro ?_ ?_))))|(refine TE.rgo tysOk rfl (by rfl) ?_ ?_)|(with_reducible first|refine stp ?_|refine tD rfl ?_)|(with_reducible first|exact PanicOk.body|exact rd.panic|refine PanicOk.then' ?_|refine PanicOk.block ?_|refine PanicOk.jump ?_)|(refine TE.drawC (by rfl) (by rfl) (by rfl) (by rfl) ?_)|(refine TE.drawN (by rfl) (by rfl) (by rfl) ?_)|(refine TL.done (by rfl) ?_)|(refine TL.auto tysOk rfl ?_ (by rfl) ?_ ?_)|((refine TL.one (by rfl) ?_);first|(refine StepL.mem tysOk rfl rfl rfl rfl (by rfl) ?_ (by rfl) ?_)|(refine StepL.pure tysOk rfl rfl rfl rfl (by rfl) ?_ (by rfl) ?_))|(refine StepL.mem tysOk rfl rfl rfl rfl (by rfl) ?_ (by rfl) ?_)|refine TE.cond_true (by rfl) ?_|refine TE.cond_false (by rfl) ?_|((first|refine TE.gsplit (by rfl) (by rfl) ?_ ?_|refine TL.gsplit (by rfl) (by rfl) ?_ ?_|refine TE.cond_split (by rfl) ?_ ?_)<;>intro h<;>(try simp only [NS] at h)<;>(try (exfalso;first|omega|exact h trivial|exact h|exact h rfl|contradiction))<;>(try refine TE.run tysOk rfl (by rfl) ?_ ?_)))))
    refine TE.nilOwn 2 9 1 (by rfl) ?_
    (refine TE.ret' (by first|exact .inl rfl|exact .inr rfl) rfl tysOk (()) ?_ rfl (by rfl) ?_;all_goals (try (first|exact trivial|((with_reducible refine AllP.go ?_);dsimp only [AllP, appP];repeat' (first|with_reducible rfl|with_reducible exact LeD.refl|refine And.intro ?_ ?_|(refine congrArg (Value.int _) ?_;first|omega|rfl|(simp only [Int.toNat_natCast];omega))|rfl|(refine congrArg Value.bool ?_;assumption)|exact LeD.refl)))))
    exact LeD.zero rfl hb0
set_option maxRecDepth 20000 in
theorem joinP_c (p : List ByteArray) (hl : p.length ≤ 1000000) (hj : (Lib.join (p.map (·.data.toList)) [47]).length ≤ 1000000) : Con Try.prog 78 [.o (.ro 1 p.length (paC p).cell), .o (.c (.string ⟨#[47]⟩))] [] 0 0 U (fun _ => .o (.c (.string ⟨(Lib.join (p.map (·.data.toList)) [47]).toArray⟩))) G0 := by
  refine con_below (takes := []) (fn := Try.f78) Try.func78 (by kernel_rfl) (by kernel_rfl) rfl rfl (Nat.le_refl _) (fun _ => rfl) rfl fun w S ν vs hv _ => ?_
  match vs, hv with
  | [u, v], ⟨⟨A, c, hu, h1, h2, h3, h4⟩, ⟨hv, _⟩, _⟩ =>
    subst hu hv
    cases p with
    | nil =>
      refine Calls.mono (Try.strings_Join_none A c ⟨#[47]⟩ w) ?_
      rintro e w' ⟨rfl, rfl⟩
      exact ⟨(), _, rfl, trivial, fun _ _ _ => ⟨rfl, rfl⟩, Below.refl _ _⟩
    | cons x r =>
      obtain ⟨b, off, rfl, hs, hb, hc⟩ := h4 (by simp)
      have hcall := Try.strings_Join b off c (x :: r) ⟨#[47]⟩ w (fun j y hy => ?_) hb (by omega) (by omega) (by
        show (Lib.join ((x :: r).map (·.data.toList)) [47]).length ≤ _
        omega)
      · refine Calls.mono hcall ?_
        rintro e w' ⟨rfl, hbl⟩
        exact ⟨(), _, rfl, trivial, fun _ _ _ => ⟨rfl, rfl⟩, hbl⟩
      · have hjl : j < (x :: r).length := (List.getElem?_eq_some_iff.1 hy).1
        obtain ⟨u, u1, u2⟩ := hc j 0 hjl (by decide)
        rw [Nat.mul_one, Nat.add_zero] at u1
        rw [u1, u2.1]
        show some (Value.string ((x :: r).getD j eS)) = _
        rw [List.getD_eq_getElem?_getD, hy]
        rfl
theorem join_len : ∀ (xs : List (List UInt8)), (Lib.join xs [47]).length ≤ (xs.map (·.length)).sum + xs.length
  | [] => by simp [Lib.join]
  | [s] => by rw [join_one]; simp
  | s :: t :: r => by
    have := join_len (t :: r)
    rw [join_cons, List.length_append, List.length_cons]
    simp only [List.map_cons, List.sum_cons, List.length_cons] at this ⊢
    omega
theorem text_len {p : List ByteArray} (h : pcheckE p = 0) : (Lib.join (p.map (·.data.toList)) [47]).length ≤ 1000 := by
  obtain ⟨h1, h2⟩ := pcheck_iff.1 h
  have h3 := join_len (p.map (·.data.toList))
  have h4 : ∀ (q : List ByteArray), (∀ s ∈ q, pnameE s = 0) → ((q.map (·.data.toList)).map (·.length)).sum ≤ 24 * q.length := by
    intro q
    induction q with
    | nil => intro _; simp
    | cons s r ih =>
      intro hq
      have h5 := (name_size (hq s (List.mem_cons_self ..))).1
      have h6 : s.data.toList.length = s.size := rfl
      have h7 := ih fun x hx => hq x (List.mem_cons_of_mem _ hx)
      simp only [List.map_cons, List.sum_cons, List.length_cons]
      omega
  have h8 := h4 p h2
  rw [List.length_map] at h3
  omega
def printE (p : List ByteArray) : ByteArray × Int := if pcheckE p ≠ 0 then (eS, pcheckE p) else (textS p, 0)
set_option maxRecDepth 20000 in
theorem print_c (p : List ByteArray) (hp : ∀ s ∈ p, s.size ≤ 1000000000) (hl : p.length ≤ 1000000) : Con Try.prog 44 [.o (.ro 1 p.length (paC p).cell)] [] 0 0 U (fun _ => .t [.inl (.c (.string (printE p).1)), .inl (.c (.int .i64 (printE p).2))]) G0 := by
  refine con_of Try.func44 rfl (by kernel_rfl) Try.ntmps44 rfl (by first | exact Nat.zero_le _ | decide) (fun _ => ⟨rfl, rfl⟩) fun w S ν => ?_
  (repeat' (first|(with_reducible refine AllP.go ?_;(first|exact trivial|exact fun i _ => ⟨_, rfl⟩|((try simp only [OS]);repeat' (first|omega|exact fun i _ => ⟨_, rfl⟩|refine And.intro ?_ ?_))))|(refine TE.rgo tysOk rfl (by rfl) ?_ ?_)|(with_reducible first|refine stp ?_|refine tD rfl ?_)|refine TE.cond_true (by rfl) ?_|refine TE.cond_false (by rfl) ?_|((first|refine TE.gsplit (by rfl) (by rfl) ?_ ?_|refine TL.gsplit (by rfl) (by rfl) ?_ ?_|refine TE.cond_split (by rfl) ?_ ?_)<;>intro h<;>(try simp only [NS] at h)<;>(try (exfalso;first|omega|exact h trivial|exact h|exact h rfl|contradiction))<;>(try refine TE.run tysOk rfl (by rfl) ?_ ?_))))
  refine TE.callW (pCheck_c p hp hl) rfl (by rfl) (by rfl) rfl (by rfl) (by (first|exact trivial|((with_reducible refine AllP.go ?_);dsimp only [AllP, appP];repeat' (first|with_reducible rfl|with_reducible exact LeD.refl|refine And.intro ?_ ?_|(refine congrArg (Value.int _) ?_;first|omega|rfl|(simp only [Int.toNat_natCast];omega))|rfl|(refine congrArg Value.bool ?_;assumption)|assumption|exact LeD.refl)))) ?_
  intro _ _
  by_cases h : pcheckE p ≠ 0
  · have hP : printE p = (eS, pcheckE p) := if_pos h
    rw [hP]
    ((refine TE.run tysOk rfl (by rfl) ?_ ?_);(repeat' (first|(with_reducible refine AllP.go ?_;(first|exact trivial|exact fun i _ => ⟨_, rfl⟩|((try simp only [OS]);repeat' (first|omega|exact fun i _ => ⟨_, rfl⟩|refine And.intro ?_ ?_))))|(refine TE.rgo tysOk rfl (by rfl) ?_ ?_)|(with_reducible first|refine stp ?_|refine tD rfl ?_)|refine TE.cond_true (by rfl) ?_|refine TE.cond_false (by rfl) ?_|((first|refine TE.gsplit (by rfl) (by rfl) ?_ ?_|refine TL.gsplit (by rfl) (by rfl) ?_ ?_|refine TE.cond_split (by rfl) ?_ ?_)<;>intro h<;>(try simp only [NS] at h)<;>(try (exfalso;first|omega|exact h trivial|exact h|exact h rfl|contradiction))<;>(try refine TE.run tysOk rfl (by rfl) ?_ ?_)))))
    (refine TE.ret' (by first|exact .inl rfl|exact .inr rfl) rfl tysOk (()) ?_ rfl (by rfl) ?_;all_goals (try (first|exact trivial|((with_reducible refine AllP.go ?_);dsimp only [AllP, appP];repeat' (first|with_reducible rfl|with_reducible exact LeD.refl|refine And.intro ?_ ?_|(refine congrArg (Value.int _) ?_;first|omega|rfl|(simp only [Int.toNat_natCast];omega))|rfl|(refine congrArg Value.bool ?_;assumption)|exact LeD.refl)))))
  have h := Decidable.not_not.1 h
  have hP : printE p = (textS p, 0) := if_neg (fun k => k h)
  rw [hP]
  have hj := joinP_c p hl (by have := text_len h; omega)
  ((refine TE.run tysOk rfl (by rfl) ?_ ?_);(repeat' (first|(with_reducible refine AllP.go ?_;(first|exact trivial|exact fun i _ => ⟨_, rfl⟩|((try simp only [OS]);repeat' (first|omega|exact fun i _ => ⟨_, rfl⟩|refine And.intro ?_ ?_))))|(refine TE.rgo tysOk rfl (by rfl) ?_ ?_)|(with_reducible first|refine stp ?_|refine tD rfl ?_)|refine TE.cond_true (by rfl) ?_|refine TE.cond_false (by rfl) ?_|((first|refine TE.gsplit (by rfl) (by rfl) ?_ ?_|refine TL.gsplit (by rfl) (by rfl) ?_ ?_|refine TE.cond_split (by rfl) ?_ ?_)<;>intro h<;>(try simp only [NS] at h)<;>(try (exfalso;first|omega|exact h trivial|exact h|exact h rfl|contradiction))<;>(try refine TE.run tysOk rfl (by rfl) ?_ ?_)))))
  refine TE.callW (hj) rfl (by rfl) (by rfl) rfl (by rfl) (by (first|exact trivial|((with_reducible refine AllP.go ?_);dsimp only [AllP, appP];repeat' (first|with_reducible rfl|with_reducible exact LeD.refl|refine And.intro ?_ ?_|(refine congrArg (Value.int _) ?_;first|omega|rfl|(simp only [Int.toNat_natCast];omega))|rfl|(refine congrArg Value.bool ?_;assumption)|assumption|exact LeD.refl)))) ?_
  intro _ _
  have hjl := text_len h
  have hsz : (⟨(Lib.join (p.map (·.data.toList)) [47]).toArray⟩ : ByteArray).size = (Lib.join (p.map (·.data.toList)) [47]).length := by show Array.size _ = _; simp
  have hs1 : (⟨#[47]⟩ : ByteArray).size = 1 := rfl
  ((refine TE.run tysOk rfl (by rfl) ?_ ?_);(repeat' (first|(with_reducible refine AllP.go ?_;(first|exact trivial|exact fun i _ => ⟨_, rfl⟩|((try simp only [OS]);repeat' (first|omega|exact fun i _ => ⟨_, rfl⟩|refine And.intro ?_ ?_))))|(refine TE.rgo tysOk rfl (by rfl) ?_ ?_)|(with_reducible first|refine stp ?_|refine tD rfl ?_)|refine TE.cond_true (by rfl) ?_|refine TE.cond_false (by rfl) ?_|((first|refine TE.gsplit (by rfl) (by rfl) ?_ ?_|refine TL.gsplit (by rfl) (by rfl) ?_ ?_|refine TE.cond_split (by rfl) ?_ ?_)<;>intro h<;>(try simp only [NS] at h)<;>(try (exfalso;first|omega|exact h trivial|exact h|exact h rfl|contradiction))<;>(try refine TE.run tysOk rfl (by rfl) ?_ ?_)))))
  (refine TE.ret' (by first|exact .inl rfl|exact .inr rfl) rfl tysOk (()) ?_ rfl (by rfl) ?_;all_goals (try (first|exact trivial|((with_reducible refine AllP.go ?_);dsimp only [AllP, appP];repeat' (first|with_reducible rfl|with_reducible exact LeD.refl|refine And.intro ?_ ?_|(refine congrArg (Value.int _) ?_;first|omega|rfl|(simp only [Int.toNat_natCast];omega))|rfl|(refine congrArg Value.bool ?_;assumption)|exact LeD.refl)))))
end Go.Proofs.Ythhpofehcnjmmaa.Am
