/- The table of the types. -/
import Derived.Test.YtlbgepgpihklfaaProg
import Derived.Test.YtlbgepgpihklfaaAmN
namespace Go.Proofs.Ytlbgepgpihklfaa.Am
def tys : Tys := [
  ⟨1, .other, 1, 8, [.nilFunc], false⟩,
  ⟨2, .int .i64, 1, 8, [.int .i64 0], false⟩,
  ⟨3, .int .i64, 1, 8, [.int .i64 0], false⟩,
  ⟨4, .bool, 1, 1, [.bool false], false⟩,
  ⟨5, .int .u8, 1, 1, [.int .u8 0], false⟩,
  ⟨9, .str, 1, 16, [.string ⟨#[]⟩], false⟩,
  ⟨12, .int .u64, 1, 8, [.int .u64 0], false⟩,
  ⟨15, .other, 1, 8, [.pointer none], false⟩,
  ⟨16, .other, 1, 8, [.pointer none], false⟩,
  ⟨17, .other, 1, 8, [.pointer none], false⟩,
  ⟨20, .other, 1, 16, [.nilIface], false⟩,
  ⟨21, .int .i32, 1, 4, [.int .i32 0], false⟩,
  ⟨22, .slice 49, 1, 24, [.slice none 0 0], false⟩,
  ⟨23, .slice 5, 1, 24, [.slice none 0 0], false⟩,
  ⟨24, .struct [(22, 0, 1), (23, 1, 1)], 2, 48, [.slice none 0 0, .slice none 0 0], true⟩,
  ⟨25, .struct [(22, 0, 1), (23, 1, 1)], 2, 48, [.slice none 0 0, .slice none 0 0], true⟩,
  ⟨26, .int .u16, 1, 2, [.int .u16 0], false⟩,
  ⟨27, .other, 1, 8, [.nilFunc], false⟩,
  ⟨28, .other, 1, 8, [.nilFunc], false⟩,
  ⟨29, .int .i64, 1, 8, [.int .i64 0], false⟩,
  ⟨31, .other, 1, 8, [.nilFunc], false⟩,
  ⟨33, .other, 1, 8, [.nilFunc], false⟩,
  ⟨34, .other, 1, 8, [.nilFunc], false⟩,
  ⟨35, .other, 1, 8, [.nilFunc], false⟩,
  ⟨36, .other, 1, 8, [.nilFunc], false⟩,
  ⟨37, .other, 1, 8, [.nilFunc], false⟩,
  ⟨38, .struct [(22, 0, 1), (22, 1, 1)], 2, 48, [.slice none 0 0, .slice none 0 0], true⟩,
  ⟨39, .struct [(22, 0, 1), (22, 1, 1)], 2, 48, [.slice none 0 0, .slice none 0 0], true⟩,
  ⟨40, .other, 1, 8, [.nilFunc], false⟩,
  ⟨42, .other, 1, 8, [.nilFunc], false⟩,
  ⟨43, .other, 1, 8, [.nilFunc], false⟩,
  ⟨45, .other, 1, 8, [.nilFunc], false⟩,
  ⟨46, .int .u64, 1, 8, [.int .u64 0], false⟩,
  ⟨47, .slice 50, 1, 24, [.slice none 0 0], false⟩,
  ⟨48, .struct [(46, 0, 1), (9, 1, 1), (47, 2, 1)], 3, 48, [.int .u64 0, .string ⟨#[]⟩, .slice none 0 0], true⟩,
  ⟨49, .struct [(46, 0, 1), (9, 1, 1), (47, 2, 1)], 3, 48, [.int .u64 0, .string ⟨#[]⟩, .slice none 0 0], true⟩,
  ⟨50, .int .u32, 1, 4, [.int .u32 0], false⟩,
  ⟨51, .slice 60, 1, 24, [.slice none 0 0], false⟩,
  ⟨53, .other, 1, 8, [.nilFunc], false⟩,
  ⟨54, .other, 1, 8, [.pointer none], false⟩,
  ⟨55, .struct [(23, 0, 1)], 1, 24, [.slice none 0 0], true⟩,
  ⟨56, .struct [(23, 0, 1)], 1, 24, [.slice none 0 0], true⟩,
  ⟨57, .other, 1, 8, [.nilFunc], false⟩,
  ⟨58, .other, 1, 8, [.nilFunc], false⟩,
  ⟨59, .struct [(5, 0, 1), (3, 1, 1), (57, 2, 1), (58, 3, 1)], 4, 32, [.int .u8 0, .int .i64 0, .nilFunc, .nilFunc], true⟩,
  ⟨60, .struct [(5, 0, 1), (3, 1, 1), (57, 2, 1), (58, 3, 1)], 4, 32, [.int .u8 0, .int .i64 0, .nilFunc, .nilFunc], true⟩,
  ⟨61, .other, 1, 8, [.pointer none], false⟩,
  ⟨62, .struct [(23, 0, 1), (3, 1, 1), (29, 2, 1)], 3, 40, [.slice none 0 0, .int .i64 0, .int .i64 0], true⟩,
  ⟨63, .struct [(23, 0, 1), (3, 1, 1), (29, 2, 1)], 3, 40, [.slice none 0 0, .int .i64 0, .int .i64 0], true⟩,
  ⟨64, .other, 1, 8, [.nilFunc], false⟩,
  ⟨65, .other, 1, 8, [.nilFunc], false⟩,
  ⟨67, .other, 1, 8, [.nilFunc], false⟩,
  ⟨68, .other, 1, 8, [.nilFunc], false⟩,
  ⟨69, .other, 1, 8, [.nilFunc], false⟩,
  ⟨70, .other, 1, 8, [.nilFunc], false⟩,
  ⟨71, .other, 1, 8, [.nilFunc], false⟩,
  ⟨72, .other, 1, 8, [.nilFunc], false⟩,
  ⟨73, .other, 1, 8, [.nilFunc], false⟩,
  ⟨74, .other, 1, 8, [.nilFunc], false⟩,
  ⟨76, .other, 1, 8, [.nilFunc], false⟩,
  ⟨77, .other, 1, 8, [.nilFunc], false⟩,
  ⟨78, .other, 1, 8, [.nilFunc], false⟩,
  ⟨79, .other, 1, 8, [.nilFunc], false⟩,
  ⟨80, .other, 1, 8, [.nilFunc], false⟩,
  ⟨81, .other, 1, 8, [.nilFunc], false⟩,
  ⟨82, .other, 1, 8, [.nilFunc], false⟩,
  ⟨83, .other, 1, 8, [.nilFunc], false⟩,
  ⟨84, .other, 1, 8, [.nilFunc], false⟩,
  ⟨85, .other, 1, 8, [.nilFunc], false⟩,
  ⟨86, .other, 1, 8, [.nilFunc], false⟩,
  ⟨87, .int .u64, 1, 8, [.int .u64 0], false⟩,
  ⟨88, .other, 1, 8, [.nilFunc], false⟩,
  ⟨89, .other, 1, 8, [.nilFunc], false⟩,
  ⟨95, .other, 1, 8, [.nilFunc], false⟩,
  ⟨98, .other, 1, 8, [.nilFunc], false⟩,
  ⟨99, .other, 1, 8, [.pointer none], false⟩,
  ⟨102, .struct [(12, 0, 1), (12, 1, 1), (50, 2, 1), (96, 3, 1), (5, 4, 1), (5, 5, 1), (97, 6, 1), (98, 7, 1), (99, 8, 1), (100, 9, 1), (101, 10, 1)], 11, 48, [.int .u64 0, .int .u64 0, .int .u32 0, .int .u8 0, .int .u8 0, .int .u8 0, .int .u8 0, .nilFunc, .pointer none, .int .i32 0, .int .i32 0], true⟩]
set_option maxRecDepth 100000 in
set_option maxHeartbeats 4000000 in
theorem tysOk : tys.Ok Try.prog := by
  intro t ht
  unfold tys at ht
  simp only [List.mem_cons, List.not_mem_nil, or_false] at ht
  rcases ht with rfl | rfl | rfl | rfl | rfl | rfl | rfl | rfl | rfl | rfl | rfl | rfl | rfl | rfl | rfl | rfl | rfl | rfl | rfl | rfl | rfl | rfl | rfl | rfl | rfl | rfl | rfl | rfl | rfl | rfl | rfl | rfl | rfl | rfl | rfl | rfl | rfl | rfl | rfl | rfl | rfl | rfl | rfl | rfl | rfl | rfl | rfl | rfl | rfl | rfl | rfl | rfl | rfl | rfl | rfl | rfl | rfl | rfl | rfl | rfl | rfl | rfl | rfl | rfl | rfl | rfl | rfl | rfl | rfl | rfl | rfl | rfl | rfl | rfl | rfl | rfl | rfl
  · exact TI.mkOk (z := .nilFunc) (by kernel_rfl) Try.underlying1 trivial rfl rfl rfl rfl (.inl ⟨rfl, rfl, rfl⟩) (by decide)
  · exact TI.mkOk (z := .int .i64 0) (by kernel_rfl) Try.underlying2 rfl rfl rfl rfl rfl (.inl ⟨rfl, rfl, rfl⟩) (by decide)
  · exact TI.mkOk (z := .int .i64 0) (by kernel_rfl) Try.underlying3 rfl rfl rfl rfl rfl (.inl ⟨rfl, rfl, rfl⟩) (by decide)
  · exact TI.mkOk (z := .bool false) (by kernel_rfl) Try.underlying4 rfl rfl rfl rfl rfl (.inl ⟨rfl, rfl, rfl⟩) (by decide)
  · exact TI.mkOk (z := .int .u8 0) (by kernel_rfl) Try.underlying5 rfl rfl rfl rfl rfl (.inl ⟨rfl, rfl, rfl⟩) (by decide)
  · exact TI.mkOk (z := .string ⟨#[]⟩) (by kernel_rfl) Try.underlying9 rfl rfl rfl rfl rfl (.inl ⟨rfl, rfl, rfl⟩) (by decide)
  · exact TI.mkOk (z := .int .u64 0) (by kernel_rfl) Try.underlying12 rfl rfl rfl rfl rfl (.inl ⟨rfl, rfl, rfl⟩) (by decide)
  · exact TI.mkOk (z := .pointer none) (by kernel_rfl) Try.underlying15 trivial rfl rfl rfl rfl (.inl ⟨rfl, rfl, rfl⟩) (by decide)
  · exact TI.mkOk (z := .pointer none) (by kernel_rfl) Try.underlying16 trivial rfl rfl rfl rfl (.inl ⟨rfl, rfl, rfl⟩) (by decide)
  · exact TI.mkOk (z := .pointer none) (by kernel_rfl) Try.underlying17 trivial rfl rfl rfl rfl (.inl ⟨rfl, rfl, rfl⟩) (by decide)
  · exact TI.mkOk (z := .nilIface) (by kernel_rfl) Try.underlying20 trivial rfl rfl rfl rfl (.inl ⟨rfl, rfl, rfl⟩) (by decide)
  · exact TI.mkOk (z := .int .i32 0) (by kernel_rfl) Try.underlying21 rfl rfl rfl rfl rfl (.inl ⟨rfl, rfl, rfl⟩) (by decide)
  · exact TI.mkOk (z := .slice none 0 0) (by kernel_rfl) Try.underlying22 rfl rfl rfl rfl rfl (.inl ⟨rfl, rfl, rfl⟩) (by decide)
  · exact TI.mkOk (z := .slice none 0 0) (by kernel_rfl) Try.underlying23 rfl rfl rfl rfl rfl (.inl ⟨rfl, rfl, rfl⟩) (by decide)
  · exact TI.mkOk (z := .agg #[.slice none 0 0, .slice none 0 0]) (by kernel_rfl) Try.underlying24 ⟨_, rfl, by kernel_rfl, fieldsOk_of (by kernel_rfl)⟩ rfl rfl rfl rfl (.inr ⟨rfl, rfl⟩) (by decide)
  · exact TI.mkOk (z := .agg #[.slice none 0 0, .slice none 0 0]) (by kernel_rfl) Try.underlying25 ⟨_, rfl, by kernel_rfl, fieldsOk_of (by kernel_rfl)⟩ rfl rfl rfl rfl (.inr ⟨rfl, rfl⟩) (by decide)
  · exact TI.mkOk (z := .int .u16 0) (by kernel_rfl) Try.underlying26 rfl rfl rfl rfl rfl (.inl ⟨rfl, rfl, rfl⟩) (by decide)
  · exact TI.mkOk (z := .nilFunc) (by kernel_rfl) Try.underlying27 trivial rfl rfl rfl rfl (.inl ⟨rfl, rfl, rfl⟩) (by decide)
  · exact TI.mkOk (z := .nilFunc) (by kernel_rfl) Try.underlying28 trivial rfl rfl rfl rfl (.inl ⟨rfl, rfl, rfl⟩) (by decide)
  · exact TI.mkOk (z := .int .i64 0) (by kernel_rfl) Try.underlying29 rfl rfl rfl rfl rfl (.inl ⟨rfl, rfl, rfl⟩) (by decide)
  · exact TI.mkOk (z := .nilFunc) (by kernel_rfl) Try.underlying31 trivial rfl rfl rfl rfl (.inl ⟨rfl, rfl, rfl⟩) (by decide)
  · exact TI.mkOk (z := .nilFunc) (by kernel_rfl) Try.underlying33 trivial rfl rfl rfl rfl (.inl ⟨rfl, rfl, rfl⟩) (by decide)
  · exact TI.mkOk (z := .nilFunc) (by kernel_rfl) Try.underlying34 trivial rfl rfl rfl rfl (.inl ⟨rfl, rfl, rfl⟩) (by decide)
  · exact TI.mkOk (z := .nilFunc) (by kernel_rfl) Try.underlying35 trivial rfl rfl rfl rfl (.inl ⟨rfl, rfl, rfl⟩) (by decide)
  · exact TI.mkOk (z := .nilFunc) (by kernel_rfl) Try.underlying36 trivial rfl rfl rfl rfl (.inl ⟨rfl, rfl, rfl⟩) (by decide)
  · exact TI.mkOk (z := .nilFunc) (by kernel_rfl) Try.underlying37 trivial rfl rfl rfl rfl (.inl ⟨rfl, rfl, rfl⟩) (by decide)
  · exact TI.mkOk (z := .agg #[.slice none 0 0, .slice none 0 0]) (by kernel_rfl) Try.underlying38 ⟨_, rfl, by kernel_rfl, fieldsOk_of (by kernel_rfl)⟩ rfl rfl rfl rfl (.inr ⟨rfl, rfl⟩) (by decide)
  · exact TI.mkOk (z := .agg #[.slice none 0 0, .slice none 0 0]) (by kernel_rfl) Try.underlying39 ⟨_, rfl, by kernel_rfl, fieldsOk_of (by kernel_rfl)⟩ rfl rfl rfl rfl (.inr ⟨rfl, rfl⟩) (by decide)
  · exact TI.mkOk (z := .nilFunc) (by kernel_rfl) Try.underlying40 trivial rfl rfl rfl rfl (.inl ⟨rfl, rfl, rfl⟩) (by decide)
  · exact TI.mkOk (z := .nilFunc) (by kernel_rfl) Try.underlying42 trivial rfl rfl rfl rfl (.inl ⟨rfl, rfl, rfl⟩) (by decide)
  · exact TI.mkOk (z := .nilFunc) (by kernel_rfl) Try.underlying43 trivial rfl rfl rfl rfl (.inl ⟨rfl, rfl, rfl⟩) (by decide)
  · exact TI.mkOk (z := .nilFunc) (by kernel_rfl) Try.underlying45 trivial rfl rfl rfl rfl (.inl ⟨rfl, rfl, rfl⟩) (by decide)
  · exact TI.mkOk (z := .int .u64 0) (by kernel_rfl) Try.underlying46 rfl rfl rfl rfl rfl (.inl ⟨rfl, rfl, rfl⟩) (by decide)
  · exact TI.mkOk (z := .slice none 0 0) (by kernel_rfl) Try.underlying47 rfl rfl rfl rfl rfl (.inl ⟨rfl, rfl, rfl⟩) (by decide)
  · exact TI.mkOk (z := .agg #[.int .u64 0, .string ⟨#[]⟩, .slice none 0 0]) (by kernel_rfl) Try.underlying48 ⟨_, rfl, by kernel_rfl, fieldsOk_of (by kernel_rfl)⟩ rfl rfl rfl rfl (.inr ⟨rfl, rfl⟩) (by decide)
  · exact TI.mkOk (z := .agg #[.int .u64 0, .string ⟨#[]⟩, .slice none 0 0]) (by kernel_rfl) Try.underlying49 ⟨_, rfl, by kernel_rfl, fieldsOk_of (by kernel_rfl)⟩ rfl rfl rfl rfl (.inr ⟨rfl, rfl⟩) (by decide)
  · exact TI.mkOk (z := .int .u32 0) (by kernel_rfl) Try.underlying50 rfl rfl rfl rfl rfl (.inl ⟨rfl, rfl, rfl⟩) (by decide)
  · exact TI.mkOk (z := .slice none 0 0) (by kernel_rfl) Try.underlying51 rfl rfl rfl rfl rfl (.inl ⟨rfl, rfl, rfl⟩) (by decide)
  · exact TI.mkOk (z := .nilFunc) (by kernel_rfl) Try.underlying53 trivial rfl rfl rfl rfl (.inl ⟨rfl, rfl, rfl⟩) (by decide)
  · exact TI.mkOk (z := .pointer none) (by kernel_rfl) Try.underlying54 trivial rfl rfl rfl rfl (.inl ⟨rfl, rfl, rfl⟩) (by decide)
  · exact TI.mkOk (z := .agg #[.slice none 0 0]) (by kernel_rfl) Try.underlying55 ⟨_, rfl, by kernel_rfl, fieldsOk_of (by kernel_rfl)⟩ rfl rfl rfl rfl (.inr ⟨rfl, rfl⟩) (by decide)
  · exact TI.mkOk (z := .agg #[.slice none 0 0]) (by kernel_rfl) Try.underlying56 ⟨_, rfl, by kernel_rfl, fieldsOk_of (by kernel_rfl)⟩ rfl rfl rfl rfl (.inr ⟨rfl, rfl⟩) (by decide)
  · exact TI.mkOk (z := .nilFunc) (by kernel_rfl) Try.underlying57 trivial rfl rfl rfl rfl (.inl ⟨rfl, rfl, rfl⟩) (by decide)
  · exact TI.mkOk (z := .nilFunc) (by kernel_rfl) Try.underlying58 trivial rfl rfl rfl rfl (.inl ⟨rfl, rfl, rfl⟩) (by decide)
  · exact TI.mkOk (z := .agg #[.int .u8 0, .int .i64 0, .nilFunc, .nilFunc]) (by kernel_rfl) Try.underlying59 ⟨_, rfl, by kernel_rfl, fieldsOk_of (by kernel_rfl)⟩ rfl rfl rfl rfl (.inr ⟨rfl, rfl⟩) (by decide)
  · exact TI.mkOk (z := .agg #[.int .u8 0, .int .i64 0, .nilFunc, .nilFunc]) (by kernel_rfl) Try.underlying60 ⟨_, rfl, by kernel_rfl, fieldsOk_of (by kernel_rfl)⟩ rfl rfl rfl rfl (.inr ⟨rfl, rfl⟩) (by decide)
  · exact TI.mkOk (z := .pointer none) (by kernel_rfl) Try.underlying61 trivial rfl rfl rfl rfl (.inl ⟨rfl, rfl, rfl⟩) (by decide)
  · exact TI.mkOk (z := .agg #[.slice none 0 0, .int .i64 0, .int .i64 0]) (by kernel_rfl) Try.underlying62 ⟨_, rfl, by kernel_rfl, fieldsOk_of (by kernel_rfl)⟩ rfl rfl rfl rfl (.inr ⟨rfl, rfl⟩) (by decide)
  · exact TI.mkOk (z := .agg #[.slice none 0 0, .int .i64 0, .int .i64 0]) (by kernel_rfl) Try.underlying63 ⟨_, rfl, by kernel_rfl, fieldsOk_of (by kernel_rfl)⟩ rfl rfl rfl rfl (.inr ⟨rfl, rfl⟩) (by decide)
  · exact TI.mkOk (z := .nilFunc) (by kernel_rfl) Try.underlying64 trivial rfl rfl rfl rfl (.inl ⟨rfl, rfl, rfl⟩) (by decide)
  · exact TI.mkOk (z := .nilFunc) (by kernel_rfl) Try.underlying65 trivial rfl rfl rfl rfl (.inl ⟨rfl, rfl, rfl⟩) (by decide)
  · exact TI.mkOk (z := .nilFunc) (by kernel_rfl) Try.underlying67 trivial rfl rfl rfl rfl (.inl ⟨rfl, rfl, rfl⟩) (by decide)
  · exact TI.mkOk (z := .nilFunc) (by kernel_rfl) Try.underlying68 trivial rfl rfl rfl rfl (.inl ⟨rfl, rfl, rfl⟩) (by decide)
  · exact TI.mkOk (z := .nilFunc) (by kernel_rfl) Try.underlying69 trivial rfl rfl rfl rfl (.inl ⟨rfl, rfl, rfl⟩) (by decide)
  · exact TI.mkOk (z := .nilFunc) (by kernel_rfl) Try.underlying70 trivial rfl rfl rfl rfl (.inl ⟨rfl, rfl, rfl⟩) (by decide)
  · exact TI.mkOk (z := .nilFunc) (by kernel_rfl) Try.underlying71 trivial rfl rfl rfl rfl (.inl ⟨rfl, rfl, rfl⟩) (by decide)
  · exact TI.mkOk (z := .nilFunc) (by kernel_rfl) Try.underlying72 trivial rfl rfl rfl rfl (.inl ⟨rfl, rfl, rfl⟩) (by decide)
  · exact TI.mkOk (z := .nilFunc) (by kernel_rfl) Try.underlying73 trivial rfl rfl rfl rfl (.inl ⟨rfl, rfl, rfl⟩) (by decide)
  · exact TI.mkOk (z := .nilFunc) (by kernel_rfl) Try.underlying74 trivial rfl rfl rfl rfl (.inl ⟨rfl, rfl, rfl⟩) (by decide)
  · exact TI.mkOk (z := .nilFunc) (by kernel_rfl) Try.underlying76 trivial rfl rfl rfl rfl (.inl ⟨rfl, rfl, rfl⟩) (by decide)
  · exact TI.mkOk (z := .nilFunc) (by kernel_rfl) Try.underlying77 trivial rfl rfl rfl rfl (.inl ⟨rfl, rfl, rfl⟩) (by decide)
  · exact TI.mkOk (z := .nilFunc) (by kernel_rfl) Try.underlying78 trivial rfl rfl rfl rfl (.inl ⟨rfl, rfl, rfl⟩) (by decide)
  · exact TI.mkOk (z := .nilFunc) (by kernel_rfl) Try.underlying79 trivial rfl rfl rfl rfl (.inl ⟨rfl, rfl, rfl⟩) (by decide)
  · exact TI.mkOk (z := .nilFunc) (by kernel_rfl) Try.underlying80 trivial rfl rfl rfl rfl (.inl ⟨rfl, rfl, rfl⟩) (by decide)
  · exact TI.mkOk (z := .nilFunc) (by kernel_rfl) Try.underlying81 trivial rfl rfl rfl rfl (.inl ⟨rfl, rfl, rfl⟩) (by decide)
  · exact TI.mkOk (z := .nilFunc) (by kernel_rfl) Try.underlying82 trivial rfl rfl rfl rfl (.inl ⟨rfl, rfl, rfl⟩) (by decide)
  · exact TI.mkOk (z := .nilFunc) (by kernel_rfl) Try.underlying83 trivial rfl rfl rfl rfl (.inl ⟨rfl, rfl, rfl⟩) (by decide)
  · exact TI.mkOk (z := .nilFunc) (by kernel_rfl) Try.underlying84 trivial rfl rfl rfl rfl (.inl ⟨rfl, rfl, rfl⟩) (by decide)
  · exact TI.mkOk (z := .nilFunc) (by kernel_rfl) Try.underlying85 trivial rfl rfl rfl rfl (.inl ⟨rfl, rfl, rfl⟩) (by decide)
  · exact TI.mkOk (z := .nilFunc) (by kernel_rfl) Try.underlying86 trivial rfl rfl rfl rfl (.inl ⟨rfl, rfl, rfl⟩) (by decide)
  · exact TI.mkOk (z := .int .u64 0) (by kernel_rfl) Try.underlying87 rfl rfl rfl rfl rfl (.inl ⟨rfl, rfl, rfl⟩) (by decide)
  · exact TI.mkOk (z := .nilFunc) (by kernel_rfl) Try.underlying88 trivial rfl rfl rfl rfl (.inl ⟨rfl, rfl, rfl⟩) (by decide)
  · exact TI.mkOk (z := .nilFunc) (by kernel_rfl) Try.underlying89 trivial rfl rfl rfl rfl (.inl ⟨rfl, rfl, rfl⟩) (by decide)
  · exact TI.mkOk (z := .nilFunc) (by kernel_rfl) Try.underlying95 trivial rfl rfl rfl rfl (.inl ⟨rfl, rfl, rfl⟩) (by decide)
  · exact TI.mkOk (z := .nilFunc) (by kernel_rfl) Try.underlying98 trivial rfl rfl rfl rfl (.inl ⟨rfl, rfl, rfl⟩) (by decide)
  · exact TI.mkOk (z := .pointer none) (by kernel_rfl) Try.underlying99 trivial rfl rfl rfl rfl (.inl ⟨rfl, rfl, rfl⟩) (by decide)
  · exact TI.mkOk (z := .agg #[.int .u64 0, .int .u64 0, .int .u32 0, .int .u8 0, .int .u8 0, .int .u8 0, .int .u8 0, .nilFunc, .pointer none, .int .i32 0, .int .i32 0]) (by kernel_rfl) Try.underlying102 ⟨_, rfl, by kernel_rfl, fieldsOk_of (by kernel_rfl)⟩ rfl rfl rfl rfl (.inr ⟨rfl, rfl⟩) (by decide)
end Go.Proofs.Ytlbgepgpihklfaa.Am
