import Derived.Test.YtljkjdhkofbgmaaDoorRows
import Derived.Test.YtljkjdhkofbgmaaDoorAv19
namespace Go.Proofs.YtljkjdhkofbgmaaDoor.Av
open Go
def Γ : Tab := (.n (.n (.n (.n (.n (.n (.n .z 1 ⟨.fn, .cell, .nilfn, 8, false⟩
 .z) 2 ⟨.int .i64, .cell, .i64 0, 8, false⟩
 (.n .z 3 ⟨.int .i64, .cell, .i64 0, 8, false⟩
 .z)) 4 ⟨.bool, .cell, .bool false, 1, false⟩
 (.n (.n .z 5 ⟨.int .u8, .cell, .u8 0, 1, false⟩
 .z) 9 ⟨.str, .cell, .str [], 16, false⟩
 (.n .z 12 ⟨.int .u64, .cell, .u64 0, 8, false⟩
 .z))) 22 ⟨.arr 32 5, .arr 32 (.cell), .u8s (List.replicate 32 0), 32, true⟩
 (.n (.n (.n .z 23 ⟨.arr 32 5, .arr 32 (.cell), .u8s (List.replicate 32 0), 32, true⟩
 .z) 24 ⟨.arr 2 23, .arr 2 (.arr 32 (.cell)), .node (List.replicate 2 (.u8s (List.replicate 32 0))), 64, true⟩
 (.n .z 25 ⟨.int .u64, .cell, .u64 0, 8, false⟩
 .z)) 26 ⟨.slice 5, .cell, .nilslice, 24, false⟩
 (.n (.n .z 27 ⟨.fn, .cell, .nilfn, 8, false⟩
 .z) 28 ⟨.fn, .cell, .nilfn, 8, false⟩
 .z))) 29 ⟨.ptr 58, .cell, .nilptr, 8, false⟩
 (.n (.n (.n (.n .z 30 ⟨.fn, .cell, .nilfn, 8, false⟩
 .z) 31 ⟨.int .i64, .cell, .i64 0, 8, false⟩
 (.n .z 33 ⟨.fn, .cell, .nilfn, 8, false⟩
 .z)) 35 ⟨.arr 16 5, .arr 16 (.cell), .u8s (List.replicate 16 0), 16, true⟩
 (.n (.n .z 36 ⟨.arr 15 35, .arr 15 (.arr 16 (.cell)), .node (List.replicate 15 (.u8s (List.replicate 16 0))), 240, true⟩
 .z) 37 ⟨.st [36, 36], .st [.arr 15 (.arr 16 (.cell)), .arr 15 (.arr 16 (.cell))], .node [.node (List.replicate 15 (.u8s (List.replicate 16 0))), .node (List.replicate 15 (.u8s (List.replicate 16 0)))], 480, true⟩
 (.n .z 38 ⟨.st [36, 36], .st [.arr 15 (.arr 16 (.cell)), .arr 15 (.arr 16 (.cell))], .node [.node (List.replicate 15 (.u8s (List.replicate 16 0))), .node (List.replicate 15 (.u8s (List.replicate 16 0)))], 480, true⟩
 .z))) 39 ⟨.fn, .cell, .nilfn, 8, false⟩
 (.n (.n (.n .z 40 ⟨.fn, .cell, .nilfn, 8, false⟩
 .z) 41 ⟨.fn, .cell, .nilfn, 8, false⟩
 (.n .z 42 ⟨.arr 32 5, .arr 32 (.cell), .u8s (List.replicate 32 0), 32, true⟩
 .z)) 44 ⟨.fn, .cell, .nilfn, 8, false⟩
 (.n (.n .z 45 ⟨.fn, .cell, .nilfn, 8, false⟩
 .z) 46 ⟨.fn, .cell, .nilfn, 8, false⟩
 .z)))) 48 ⟨.fn, .cell, .nilfn, 8, false⟩
 (.n (.n (.n (.n (.n .z 50 ⟨.fn, .cell, .nilfn, 8, false⟩
 .z) 51 ⟨.fn, .cell, .nilfn, 8, false⟩
 (.n .z 52 ⟨.fn, .cell, .nilfn, 8, false⟩
 .z)) 53 ⟨.arr 3 23, .arr 3 (.arr 32 (.cell)), .node (List.replicate 3 (.u8s (List.replicate 32 0))), 96, true⟩
 (.n (.n .z 54 ⟨.fn, .cell, .nilfn, 8, false⟩
 .z) 55 ⟨.ptr 69, .cell, .nilptr, 8, false⟩
 (.n .z 56 ⟨.fn, .cell, .nilfn, 8, false⟩
 .z))) 57 ⟨.st [55, 55], .st [.cell, .cell], .node [.nilptr, .nilptr], 16, false⟩
 (.n (.n (.n .z 58 ⟨.st [55, 55], .st [.cell, .cell], .node [.nilptr, .nilptr], 16, false⟩
 .z) 59 ⟨.fn, .cell, .nilfn, 8, false⟩
 (.n .z 60 ⟨.fn, .cell, .nilfn, 8, false⟩
 .z)) 61 ⟨.fn, .cell, .nilfn, 8, false⟩
 (.n (.n .z 62 ⟨.fn, .cell, .nilfn, 8, false⟩
 .z) 63 ⟨.fn, .cell, .nilfn, 8, false⟩
 .z))) 64 ⟨.fn, .cell, .nilfn, 8, false⟩
 (.n (.n (.n (.n .z 65 ⟨.fn, .cell, .nilfn, 8, false⟩
 .z) 66 ⟨.fn, .cell, .nilfn, 8, false⟩
 (.n .z 67 ⟨.fn, .cell, .nilfn, 8, false⟩
 .z)) 68 ⟨.st [36], .st [.arr 15 (.arr 16 (.cell))], .node [.node (List.replicate 15 (.u8s (List.replicate 16 0)))], 240, true⟩
 (.n (.n .z 69 ⟨.st [36], .st [.arr 15 (.arr 16 (.cell))], .node [.node (List.replicate 15 (.u8s (List.replicate 16 0)))], 240, true⟩
 .z) 70 ⟨.fn, .cell, .nilfn, 8, false⟩
 .z)) 71 ⟨.fn, .cell, .nilfn, 8, false⟩
 (.n (.n (.n .z 72 ⟨.arr 16 5, .arr 16 (.cell), .u8s (List.replicate 16 0), 16, true⟩
 .z) 73 ⟨.fn, .cell, .nilfn, 8, false⟩
 (.n .z 74 ⟨.arr 256 5, .arr 256 (.cell), .u8s (List.replicate 256 0), 256, true⟩
 .z)) 75 ⟨.fn, .cell, .nilfn, 8, false⟩
 (.n (.n .z 76 ⟨.fn, .cell, .nilfn, 8, false⟩
 .z) 77 ⟨.arr 4 5, .arr 4 (.cell), .u8s (List.replicate 4 0), 4, true⟩
 .z))))) 78 ⟨.arr 60 77, .arr 60 (.arr 4 (.cell)), .node (List.replicate 60 (.u8s (List.replicate 4 0))), 240, true⟩
 (.n (.n (.n (.n (.n (.n .z 79 ⟨.fn, .cell, .nilfn, 8, false⟩
 .z) 80 ⟨.fn, .cell, .nilfn, 8, false⟩
 (.n .z 81 ⟨.fn, .cell, .nilfn, 8, false⟩
 .z)) 82 ⟨.fn, .cell, .nilfn, 8, false⟩
 (.n (.n .z 83 ⟨.slice 26, .cell, .nilslice, 24, false⟩
 .z) 84 ⟨.ptr 103, .cell, .nilptr, 8, false⟩
 (.n .z 85 ⟨.fn, .cell, .nilfn, 8, false⟩
 .z))) 86 ⟨.fn, .cell, .nilfn, 8, false⟩
 (.n (.n (.n .z 87 ⟨.fn, .cell, .nilfn, 8, false⟩
 .z) 88 ⟨.fn, .cell, .nilfn, 8, false⟩
 (.n .z 89 ⟨.fn, .cell, .nilfn, 8, false⟩
 .z)) 90 ⟨.arr 240 5, .arr 240 (.cell), .u8s (List.replicate 240 0), 240, true⟩
 (.n (.n .z 91 ⟨.fn, .cell, .nilfn, 8, false⟩
 .z) 92 ⟨.int .u64, .cell, .u64 0, 8, false⟩
 .z))) 93 ⟨.fn, .cell, .nilfn, 8, false⟩
 (.n (.n (.n (.n .z 94 ⟨.arr 32 35, .arr 32 (.arr 16 (.cell)), .node (List.replicate 32 (.u8s (List.replicate 16 0))), 512, true⟩
 .z) 95 ⟨.fn, .cell, .nilfn, 8, false⟩
 (.n .z 96 ⟨.slice 35, .cell, .nilslice, 24, false⟩
 .z)) 97 ⟨.fn, .cell, .nilfn, 8, false⟩
 (.n (.n .z 98 ⟨.fn, .cell, .nilfn, 8, false⟩
 .z) 99 ⟨.arr 64 5, .arr 64 (.cell), .u8s (List.replicate 64 0), 64, true⟩
 (.n .z 100 ⟨.ptr 112, .cell, .nilptr, 8, false⟩
 .z))) 101 ⟨.fn, .cell, .nilfn, 8, false⟩
 (.n (.n (.n .z 102 ⟨.st [100, 99], .st [.cell, .arr 64 (.cell)], .node [.nilptr, .u8s (List.replicate 64 0)], 72, false⟩
 .z) 103 ⟨.st [100, 99], .st [.cell, .arr 64 (.cell)], .node [.nilptr, .u8s (List.replicate 64 0)], 72, false⟩
 (.n .z 104 ⟨.fn, .cell, .nilfn, 8, false⟩
 .z)) 105 ⟨.int .u32, .cell, .u32 0, 4, false⟩
 (.n (.n .z 106 ⟨.arr 8 105, .arr 8 (.cell), .u32s (List.replicate 8 0), 32, true⟩
 .z) 107 ⟨.fn, .cell, .nilfn, 8, false⟩
 .z)))) 108 ⟨.fn, .cell, .nilfn, 8, false⟩
 (.n (.n (.n (.n (.n .z 109 ⟨.arr 8 105, .arr 8 (.cell), .u32s (List.replicate 8 0), 32, true⟩
 .z) 110 ⟨.fn, .cell, .nilfn, 8, false⟩
 (.n .z 111 ⟨.st [109, 26, 3], .st [.arr 8 (.cell), .cell, .cell], .node [.u32s (List.replicate 8 0), .nilslice, .i64 0], 64, false⟩
 .z)) 112 ⟨.st [109, 26, 3], .st [.arr 8 (.cell), .cell, .cell], .node [.u32s (List.replicate 8 0), .nilslice, .i64 0], 64, false⟩
 (.n (.n .z 113 ⟨.fn, .cell, .nilfn, 8, false⟩
 .z) 114 ⟨.fn, .cell, .nilfn, 8, false⟩
 (.n .z 115 ⟨.fn, .cell, .nilfn, 8, false⟩
 .z))) 116 ⟨.fn, .cell, .nilfn, 8, false⟩
 (.n (.n (.n .z 117 ⟨.fn, .cell, .nilfn, 8, false⟩
 .z) 118 ⟨.arr 64 105, .arr 64 (.cell), .u32s (List.replicate 64 0), 256, true⟩
 (.n .z 119 ⟨.fn, .cell, .nilfn, 8, false⟩
 .z)) 120 ⟨.fn, .cell, .nilfn, 8, false⟩
 (.n (.n .z 121 ⟨.ptr 109, .cell, .nilptr, 8, false⟩
 .z) 122 ⟨.ptr 128, .cell, .nilptr, 8, false⟩
 .z))) 123 ⟨.fn, .cell, .nilfn, 8, false⟩
 (.n (.n (.n (.n .z 124 ⟨.fn, .cell, .nilfn, 8, false⟩
 .z) 125 ⟨.fn, .cell, .nilfn, 8, false⟩
 (.n .z 126 ⟨.slice 105, .cell, .nilslice, 24, false⟩
 .z)) 127 ⟨.st [26, 31], .st [.cell, .cell], .node [.nilslice, .i64 0], 32, false⟩
 (.n (.n .z 128 ⟨.st [26, 31], .st [.cell, .cell], .node [.nilslice, .i64 0], 32, false⟩
 .z) 129 ⟨.fn, .cell, .nilfn, 8, false⟩
 .z)) 130 ⟨.fn, .cell, .nilfn, 8, false⟩
 (.n (.n (.n .z 131 ⟨.fn, .cell, .nilfn, 8, false⟩
 .z) 132 ⟨.fn, .cell, .nilfn, 8, false⟩
 (.n .z 133 ⟨.fn, .cell, .nilfn, 8, false⟩
 .z)) 139 ⟨.fn, .cell, .nilfn, 8, false⟩
 (.n (.n .z 142 ⟨.fn, .cell, .nilfn, 8, false⟩
 .z) 143 ⟨.ptr 5, .cell, .nilptr, 8, false⟩
 .z))))))
set_option maxRecDepth 100000 in
theorem tab : TabOk Tryd.prog Γ := tab_ok (by kernel_rfl)
theorem mix : Tryd.prog.follows .mixedOrders = true := by kernel_rfl
end Go.Proofs.YtljkjdhkofbgmaaDoor.Av
