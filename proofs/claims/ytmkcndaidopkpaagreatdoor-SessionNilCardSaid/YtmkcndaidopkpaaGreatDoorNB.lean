import Derived.Test.YtmkcndaidopkpaaGreatDoorVA
import Derived.Test.YtmkcndaidopkpaaGreatDoorDZ
import Derived.Great.Walk
namespace Go.Proofs.YtmkcndaidopkpaaGreatDoor
open Go Go.ChangeShapes Go.WideShapes Go.ChangeAt Go.RowKit
set_option maxRecDepth 100000
set_option maxHeartbeats 4000000
theorem begin_nil (w : World) : Calls Tryz.prog 16 #[.pointer none] w fun e w' => e = .returned (.agg #[.int .u8 0, .string ⟨#[]⟩, .string ⟨#[]⟩, .int .u32 0, .int .u16 0, .int .u32 0, .int .i64 0, .int .u32 0, .int .u32 0, .int .u32 0, .int .u32 0, .string ⟨#[]⟩, .int .i64 0, .bool false, .int .u8 0, .int .u8 0, .string ⟨#[]⟩, .string ⟨#[]⟩, .slice none 0 0, .int .u32 0, .int .i64 0, .int .u32 0, .bool false, .bool false, .int .i64 0, .int .u32 0, .string ⟨#[]⟩, .bool false, .bool false, .bool false, .bool false, .int .u8 0, .int .u64 0, .int .u64 0, .string ⟨#[]⟩, .slice none 0 0, .bool false, .string ⟨#[]⟩]) ∧ Below w.heap.size w w' := by
  go_enter Tryz.func16, Tryz.ntmps16
  go_upto_region 2 with (fail)
  iterate 1 go_step
  refine Great.wpList_readTo rfl (some 7) rfl (.agg #[.int .u8 0, .string ⟨#[]⟩, .string ⟨#[]⟩, .int .u32 0, .int .u16 0, .int .u32 0, .int .i64 0, .int .u32 0, .int .u32 0, .int .u32 0, .int .u32 0, .string ⟨#[]⟩, .int .i64 0, .bool false, .int .u8 0, .int .u8 0, .string ⟨#[]⟩, .string ⟨#[]⟩, .slice none 0 0, .int .u32 0, .int .i64 0, .int .u32 0, .bool false, .bool false, .int .i64 0, .int .u32 0, .string ⟨#[]⟩, .bool false, .bool false, .bool false, .bool false, .int .u8 0, .int .u64 0, .int .u64 0, .string ⟨#[]⟩, .slice none 0 0, .bool false, .string ⟨#[]⟩]) (by kernel_rfl) ?_
  refine wpList_store_row rfl 39 (.tmp 2) (.tmp 7) rfl w.heap.size #[.int .u8 0, .string ⟨#[]⟩, .string ⟨#[]⟩, .int .u32 0, .int .u16 0, .int .u32 0, .int .i64 0, .int .u32 0, .int .u32 0, .int .u32 0, .int .u32 0, .string ⟨#[]⟩, .int .i64 0, .bool false, .int .u8 0, .int .u8 0, .string ⟨#[]⟩, .string ⟨#[]⟩, .slice none 0 0, .int .u32 0, .int .i64 0, .int .u32 0, .bool false, .bool false, .int .i64 0, .int .u32 0, .string ⟨#[]⟩, .bool false, .bool false, .bool false, .bool false, .int .u8 0, .int .u64 0, .int .u64 0, .string ⟨#[]⟩, .slice none 0 0, .bool false, .string ⟨#[]⟩] rfl rfl 39 _ (heap1 _ _) size39 rfl (by simp [Value.oneCell']) ?_
  simp only [World.setRow_alloc_new]
  go_wp2
  exact bodyPost_ret (results_cell_row Tryz.results16 _ _ w.heap.size 39 _ (0, 0) _ rfl (heap1 _ _) Tryz.underlying39 rfl size39) rfl ⟨rfl, by go_grown⟩
end Go.Proofs.YtmkcndaidopkpaaGreatDoor
