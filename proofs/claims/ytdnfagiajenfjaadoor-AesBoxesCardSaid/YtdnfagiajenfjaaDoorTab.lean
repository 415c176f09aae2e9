import Derived.Test.YtdnfagiajenfjaaDoorRows
import Derived.Test.YtdnfagiajenfjaaDoorAv19
namespace Go.Proofs.YtdnfagiajenfjaaDoor.Av
open Go
def Γ : Tab := [
  (1, ⟨.fn, .cell, .nilfn, 8, false⟩),
  (2, ⟨.int .i64, .cell, .i64 0, 8, false⟩),
  (3, ⟨.int .i64, .cell, .i64 0, 8, false⟩),
  (4, ⟨.bool, .cell, .bool false, 1, false⟩),
  (5, ⟨.int .u8, .cell, .u8 0, 1, false⟩),
  (9, ⟨.str, .cell, .str [], 16, false⟩),
  (12, ⟨.int .u64, .cell, .u64 0, 8, false⟩),
  (22, ⟨.arr 32 5, .arr 32 (.cell), .u8s (List.replicate 32 0), 32, true⟩),
  (23, ⟨.arr 32 5, .arr 32 (.cell), .u8s (List.replicate 32 0), 32, true⟩),
  (24, ⟨.arr 16 5, .arr 16 (.cell), .u8s (List.replicate 16 0), 16, true⟩),
  (25, ⟨.arr 15 24, .arr 15 (.arr 16 (.cell)), .node (List.replicate 15 (.u8s (List.replicate 16 0))), 240, true⟩),
  (26, ⟨.fn, .cell, .nilfn, 8, false⟩),
  (27, ⟨.fn, .cell, .nilfn, 8, false⟩),
  (28, ⟨.fn, .cell, .nilfn, 8, false⟩),
  (29, ⟨.ptr 45, .cell, .nilptr, 8, false⟩),
  (30, ⟨.fn, .cell, .nilfn, 8, false⟩),
  (31, ⟨.fn, .cell, .nilfn, 8, false⟩),
  (32, ⟨.fn, .cell, .nilfn, 8, false⟩),
  (33, ⟨.fn, .cell, .nilfn, 8, false⟩),
  (34, ⟨.fn, .cell, .nilfn, 8, false⟩),
  (35, ⟨.arr 256 5, .arr 256 (.cell), .u8s (List.replicate 256 0), 256, true⟩),
  (36, ⟨.fn, .cell, .nilfn, 8, false⟩),
  (37, ⟨.arr 240 5, .arr 240 (.cell), .u8s (List.replicate 240 0), 240, true⟩),
  (38, ⟨.slice 5, .cell, .nilslice, 24, false⟩),
  (39, ⟨.arr 4 5, .arr 4 (.cell), .u8s (List.replicate 4 0), 4, true⟩),
  (40, ⟨.fn, .cell, .nilfn, 8, false⟩),
  (41, ⟨.fn, .cell, .nilfn, 8, false⟩),
  (42, ⟨.arr 60 39, .arr 60 (.arr 4 (.cell)), .node (List.replicate 60 (.u8s (List.replicate 4 0))), 240, true⟩),
  (43, ⟨.fn, .cell, .nilfn, 8, false⟩),
  (44, ⟨.st [25], .st [.arr 15 (.arr 16 (.cell))], .node [.node (List.replicate 15 (.u8s (List.replicate 16 0)))], 240, true⟩),
  (45, ⟨.st [25], .st [.arr 15 (.arr 16 (.cell))], .node [.node (List.replicate 15 (.u8s (List.replicate 16 0)))], 240, true⟩),
  (46, ⟨.arr 16 5, .arr 16 (.cell), .u8s (List.replicate 16 0), 16, true⟩),
  (47, ⟨.fn, .cell, .nilfn, 8, false⟩),
  (48, ⟨.fn, .cell, .nilfn, 8, false⟩),
  (49, ⟨.fn, .cell, .nilfn, 8, false⟩),
  (50, ⟨.int .u64, .cell, .u64 0, 8, false⟩),
  (51, ⟨.fn, .cell, .nilfn, 8, false⟩),
  (52, ⟨.fn, .cell, .nilfn, 8, false⟩),
  (58, ⟨.fn, .cell, .nilfn, 8, false⟩),
  (59, ⟨.int .u32, .cell, .u32 0, 4, false⟩),
  (62, ⟨.fn, .cell, .nilfn, 8, false⟩),
  (63, ⟨.ptr 5, .cell, .nilptr, 8, false⟩)]
set_option maxRecDepth 100000 in
theorem tab : TabOk Tryd.prog Γ := tab_ok (by kernel_rfl)
theorem mix : Tryd.prog.follows .mixedOrders = true := by kernel_rfl
end Go.Proofs.YtdnfagiajenfjaaDoor.Av
