import Derived.Test.YtodkhgofmgaafaaGreatDoorRows
import Derived.Test.YtodkhgofmgaafaaGreatDoorM3
import Derived.RangeFuncBox
import Derived.RangeFuncLeaves
import Derived.Shelf.Abstract
import Derived.WalkKit
import Derived.OwnWalkIn
import Derived.TacticsInMore
import Derived.LoopNIn
import Derived.LoopIn
namespace Go.Proofs.YtodkhgofmgaafaaGreatDoor.Av
open Go
set_option linter.all false
def Γ : Tab := (.n (.n (.n (.n (.n (.n (.n (.n .z 1 ⟨.fn, .cell, .nilfn, 8, false⟩
 .z) 2 ⟨.int .i64, .cell, .i64 0, 8, false⟩
 (.n .z 3 ⟨.int .i64, .cell, .i64 0, 8, false⟩
 .z)) 4 ⟨.bool, .cell, .bool false, 1, false⟩
 (.n (.n .z 5 ⟨.int .u8, .cell, .u8 0, 1, false⟩
 .z) 9 ⟨.str, .cell, .str [], 16, false⟩
 .z)) 12 ⟨.int .u64, .cell, .u64 0, 8, false⟩
 (.n (.n (.n .z 22 ⟨.arr 32 5, .arr 32 (.cell), .u8s (List.replicate 32 0), 32, true⟩
 .z) 23 ⟨.arr 32 5, .arr 32 (.cell), .u8s (List.replicate 32 0), 32, true⟩
 .z) 24 ⟨.slice 53, .cell, .nilslice, 24, false⟩
 (.n (.n .z 25 ⟨.fn, .cell, .nilfn, 8, false⟩
 .z) 26 ⟨.fn, .cell, .nilfn, 8, false⟩
 .z))) 27 ⟨.ptr 86, .cell, .nilptr, 8, false⟩
 (.n (.n (.n (.n .z 28 ⟨.ptr 92, .cell, .nilptr, 8, false⟩
 .z) 29 ⟨.slice 189, .cell, .nilslice, 24, false⟩
 .z) 30 ⟨.st [3, 9, 9, 29, 3, 4, 4, 3, 4], .st [.cell, .cell, .cell, .cell, .cell, .cell, .cell, .cell, .cell], .node [.i64 0, .str [], .str [], .nilslice, .i64 0, .bool false, .bool false, .i64 0, .bool false], 96, false⟩
 (.n (.n .z 31 ⟨.st [3, 9, 9, 29, 3, 4, 4, 3, 4], .st [.cell, .cell, .cell, .cell, .cell, .cell, .cell, .cell, .cell], .node [.i64 0, .str [], .str [], .nilslice, .i64 0, .bool false, .bool false, .i64 0, .bool false], 96, false⟩
 .z) 32 ⟨.st [3, 3], .st [.cell, .cell], .node [.i64 0, .i64 0], 16, true⟩
 .z)) 33 ⟨.st [3, 3], .st [.cell, .cell], .node [.i64 0, .i64 0], 16, true⟩
 (.n (.n (.n .z 34 ⟨.arr 16 5, .arr 16 (.cell), .u8s (List.replicate 16 0), 16, true⟩
 .z) 35 ⟨.arr 15 34, .arr 15 (.arr 16 (.cell)), .node (List.replicate 15 (.u8s (List.replicate 16 0))), 240, true⟩
 .z) 36 ⟨.st [35, 35], .st [.arr 15 (.arr 16 (.cell)), .arr 15 (.arr 16 (.cell))], .node [.node (List.replicate 15 (.u8s (List.replicate 16 0))), .node (List.replicate 15 (.u8s (List.replicate 16 0)))], 480, true⟩
 (.n (.n .z 37 ⟨.st [35, 35], .st [.arr 15 (.arr 16 (.cell)), .arr 15 (.arr 16 (.cell))], .node [.node (List.replicate 15 (.u8s (List.replicate 16 0))), .node (List.replicate 15 (.u8s (List.replicate 16 0)))], 480, true⟩
 .z) 38 ⟨.st [33, 37, 23], .st [.st [.cell, .cell], .st [.arr 15 (.arr 16 (.cell)), .arr 15 (.arr 16 (.cell))], .arr 32 (.cell)], .node [.node [.i64 0, .i64 0], .node [.node (List.replicate 15 (.u8s (List.replicate 16 0))), .node (List.replicate 15 (.u8s (List.replicate 16 0)))], .u8s (List.replicate 32 0)], 528, true⟩
 .z)))) 39 ⟨.st [33, 37, 23], .st [.st [.cell, .cell], .st [.arr 15 (.arr 16 (.cell)), .arr 15 (.arr 16 (.cell))], .arr 32 (.cell)], .node [.node [.i64 0, .i64 0], .node [.node (List.replicate 15 (.u8s (List.replicate 16 0))), .node (List.replicate 15 (.u8s (List.replicate 16 0)))], .u8s (List.replicate 32 0)], 528, true⟩
 (.n (.n (.n (.n (.n .z 40 ⟨.slice 49, .cell, .nilslice, 24, false⟩
 .z) 41 ⟨.st [27, 28, 31, 39, 40], .st [.cell, .cell, .st [.cell, .cell, .cell, .cell, .cell, .cell, .cell, .cell, .cell], .st [.st [.cell, .cell], .st [.arr 15 (.arr 16 (.cell)), .arr 15 (.arr 16 (.cell))], .arr 32 (.cell)], .cell], .node [.nilptr, .nilptr, .node [.i64 0, .str [], .str [], .nilslice, .i64 0, .bool false, .bool false, .i64 0, .bool false], .node [.node [.i64 0, .i64 0], .node [.node (List.replicate 15 (.u8s (List.replicate 16 0))), .node (List.replicate 15 (.u8s (List.replicate 16 0)))], .u8s (List.replicate 32 0)], .nilslice], 664, false⟩
 .z) 42 ⟨.st [27, 28, 31, 39, 40], .st [.cell, .cell, .st [.cell, .cell, .cell, .cell, .cell, .cell, .cell, .cell, .cell], .st [.st [.cell, .cell], .st [.arr 15 (.arr 16 (.cell)), .arr 15 (.arr 16 (.cell))], .arr 32 (.cell)], .cell], .node [.nilptr, .nilptr, .node [.i64 0, .str [], .str [], .nilslice, .i64 0, .bool false, .bool false, .i64 0, .bool false], .node [.node [.i64 0, .i64 0], .node [.node (List.replicate 15 (.u8s (List.replicate 16 0))), .node (List.replicate 15 (.u8s (List.replicate 16 0)))], .u8s (List.replicate 32 0)], .nilslice], 664, false⟩
 (.n (.n .z 43 ⟨.fn, .cell, .nilfn, 8, false⟩
 .z) 44 ⟨.fn, .cell, .nilfn, 8, false⟩
 .z)) 45 ⟨.int .u32, .cell, .u32 0, 4, false⟩
 (.n (.n (.n .z 46 ⟨.slice 5, .cell, .nilslice, 24, false⟩
 .z) 47 ⟨.arr 32 5, .arr 32 (.cell), .u8s (List.replicate 32 0), 32, true⟩
 .z) 48 ⟨.st [45, 47], .st [.cell, .arr 32 (.cell)], .node [.u32 0, .u8s (List.replicate 32 0)], 36, true⟩
 (.n (.n .z 49 ⟨.st [45, 47], .st [.cell, .arr 32 (.cell)], .node [.u32 0, .u8s (List.replicate 32 0)], 36, true⟩
 .z) 50 ⟨.arr 8 49, .arr 8 (.st [.cell, .arr 32 (.cell)]), .node (List.replicate 8 (.node [.u32 0, .u8s (List.replicate 32 0)])), 288, true⟩
 .z))) 51 ⟨.arr 8 49, .arr 8 (.st [.cell, .arr 32 (.cell)]), .node (List.replicate 8 (.node [.u32 0, .u8s (List.replicate 32 0)])), 288, true⟩
 (.n (.n (.n (.n .z 52 ⟨.st [5, 45, 46, 51, 5, 49], .st [.cell, .cell, .cell, .arr 8 (.st [.cell, .arr 32 (.cell)]), .cell, .st [.cell, .arr 32 (.cell)]], .node [.u8 0, .u32 0, .nilslice, .node (List.replicate 8 (.node [.u32 0, .u8s (List.replicate 32 0)])), .u8 0, .node [.u32 0, .u8s (List.replicate 32 0)]], 360, false⟩
 .z) 53 ⟨.st [5, 45, 46, 51, 5, 49], .st [.cell, .cell, .cell, .arr 8 (.st [.cell, .arr 32 (.cell)]), .cell, .st [.cell, .arr 32 (.cell)]], .node [.u8 0, .u32 0, .nilslice, .node (List.replicate 8 (.node [.u32 0, .u8s (List.replicate 32 0)])), .u8 0, .node [.u32 0, .u8s (List.replicate 32 0)]], 360, false⟩
 .z) 54 ⟨.fn, .cell, .nilfn, 8, false⟩
 (.n (.n .z 55 ⟨.fn, .cell, .nilfn, 8, false⟩
 .z) 56 ⟨.fn, .cell, .nilfn, 8, false⟩
 .z)) 57 ⟨.fn, .cell, .nilfn, 8, false⟩
 (.n (.n (.n .z 58 ⟨.int .i64, .cell, .i64 0, 8, false⟩
 .z) 60 ⟨.fn, .cell, .nilfn, 8, false⟩
 .z) 62 ⟨.fn, .cell, .nilfn, 8, false⟩
 (.n (.n .z 63 ⟨.fn, .cell, .nilfn, 8, false⟩
 .z) 64 ⟨.fn, .cell, .nilfn, 8, false⟩
 .z))))) 65 ⟨.fn, .cell, .nilfn, 8, false⟩
 (.n (.n (.n (.n (.n (.n .z 66 ⟨.ptr 42, .cell, .nilptr, 8, false⟩
 .z) 68 ⟨.fn, .cell, .nilfn, 8, false⟩
 (.n .z 70 ⟨.fn, .cell, .nilfn, 8, false⟩
 .z)) 72 ⟨.fn, .cell, .nilfn, 8, false⟩
 (.n (.n .z 73 ⟨.fn, .cell, .nilfn, 8, false⟩
 .z) 74 ⟨.fn, .cell, .nilfn, 8, false⟩
 .z)) 75 ⟨.fn, .cell, .nilfn, 8, false⟩
 (.n (.n (.n .z 77 ⟨.fn, .cell, .nilfn, 8, false⟩
 .z) 79 ⟨.fn, .cell, .nilfn, 8, false⟩
 .z) 80 ⟨.fn, .cell, .nilfn, 8, false⟩
 (.n (.n .z 81 ⟨.fn, .cell, .nilfn, 8, false⟩
 .z) 82 ⟨.fn, .cell, .nilfn, 8, false⟩
 .z))) 83 ⟨.slice 175, .cell, .nilslice, 24, false⟩
 (.n (.n (.n (.n .z 84 ⟨.ptr 150, .cell, .nilptr, 8, false⟩
 .z) 85 ⟨.st [3, 46, 46, 83, 3, 4, 84], .st [.cell, .cell, .cell, .cell, .cell, .cell, .cell], .node [.i64 0, .nilslice, .nilslice, .nilslice, .i64 0, .bool false, .nilptr], 104, false⟩
 .z) 86 ⟨.st [3, 46, 46, 83, 3, 4, 84], .st [.cell, .cell, .cell, .cell, .cell, .cell, .cell], .node [.i64 0, .nilslice, .nilslice, .nilslice, .i64 0, .bool false, .nilptr], 104, false⟩
 (.n (.n .z 87 ⟨.fn, .cell, .nilfn, 8, false⟩
 .z) 88 ⟨.ptr 122, .cell, .nilptr, 8, false⟩
 .z)) 89 ⟨.fn, .cell, .nilfn, 8, false⟩
 (.n (.n (.n .z 90 ⟨.fn, .cell, .nilfn, 8, false⟩
 .z) 91 ⟨.st [27, 33, 88, 23], .st [.cell, .st [.cell, .cell], .cell, .arr 32 (.cell)], .node [.nilptr, .node [.i64 0, .i64 0], .nilptr, .u8s (List.replicate 32 0)], 64, false⟩
 .z) 92 ⟨.st [27, 33, 88, 23], .st [.cell, .st [.cell, .cell], .cell, .arr 32 (.cell)], .node [.nilptr, .node [.i64 0, .i64 0], .nilptr, .u8s (List.replicate 32 0)], 64, false⟩
 (.n (.n .z 93 ⟨.fn, .cell, .nilfn, 8, false⟩
 .z) 94 ⟨.fn, .cell, .nilfn, 8, false⟩
 .z)))) 95 ⟨.fn, .cell, .nilfn, 8, false⟩
 (.n (.n (.n (.n (.n .z 96 ⟨.fn, .cell, .nilfn, 8, false⟩
 .z) 97 ⟨.int .u64, .cell, .u64 0, 8, false⟩
 .z) 98 ⟨.fn, .cell, .nilfn, 8, false⟩
 (.n (.n .z 99 ⟨.fn, .cell, .nilfn, 8, false⟩
 .z) 100 ⟨.fn, .cell, .nilfn, 8, false⟩
 .z)) 101 ⟨.fn, .cell, .nilfn, 8, false⟩
 (.n (.n (.n .z 102 ⟨.fn, .cell, .nilfn, 8, false⟩
 .z) 103 ⟨.fn, .cell, .nilfn, 8, false⟩
 .z) 104 ⟨.fn, .cell, .nilfn, 8, false⟩
 (.n (.n .z 105 ⟨.fn, .cell, .nilfn, 8, false⟩
 .z) 106 ⟨.fn, .cell, .nilfn, 8, false⟩
 .z))) 107 ⟨.fn, .cell, .nilfn, 8, false⟩
 (.n (.n (.n (.n .z 108 ⟨.fn, .cell, .nilfn, 8, false⟩
 .z) 109 ⟨.fn, .cell, .nilfn, 8, false⟩
 .z) 110 ⟨.fn, .cell, .nilfn, 8, false⟩
 (.n (.n .z 111 ⟨.fn, .cell, .nilfn, 8, false⟩
 .z) 112 ⟨.fn, .cell, .nilfn, 8, false⟩
 .z)) 113 ⟨.fn, .cell, .nilfn, 8, false⟩
 (.n (.n (.n .z 114 ⟨.fn, .cell, .nilfn, 8, false⟩
 .z) 115 ⟨.fn, .cell, .nilfn, 8, false⟩
 .z) 116 ⟨.fn, .cell, .nilfn, 8, false⟩
 (.n (.n .z 117 ⟨.fn, .cell, .nilfn, 8, false⟩
 .z) 118 ⟨.fn, .cell, .nilfn, 8, false⟩
 .z)))))) 119 ⟨.ptr 161, .cell, .nilptr, 8, false⟩
 (.n (.n (.n (.n (.n (.n (.n .z 120 ⟨.fn, .cell, .nilfn, 8, false⟩
 .z) 121 ⟨.st [119, 119], .st [.cell, .cell], .node [.nilptr, .nilptr], 16, false⟩
 (.n .z 122 ⟨.st [119, 119], .st [.cell, .cell], .node [.nilptr, .nilptr], 16, false⟩
 .z)) 123 ⟨.fn, .cell, .nilfn, 8, false⟩
 (.n (.n .z 124 ⟨.fn, .cell, .nilfn, 8, false⟩
 .z) 125 ⟨.fn, .cell, .nilfn, 8, false⟩
 .z)) 126 ⟨.fn, .cell, .nilfn, 8, false⟩
 (.n (.n (.n .z 127 ⟨.fn, .cell, .nilfn, 8, false⟩
 .z) 128 ⟨.fn, .cell, .nilfn, 8, false⟩
 .z) 129 ⟨.fn, .cell, .nilfn, 8, false⟩
 (.n (.n .z 130 ⟨.fn, .cell, .nilfn, 8, false⟩
 .z) 131 ⟨.fn, .cell, .nilfn, 8, false⟩
 .z))) 132 ⟨.fn, .cell, .nilfn, 8, false⟩
 (.n (.n (.n (.n .z 133 ⟨.fn, .cell, .nilfn, 8, false⟩
 .z) 135 ⟨.fn, .cell, .nilfn, 8, false⟩
 .z) 136 ⟨.fn, .cell, .nilfn, 8, false⟩
 (.n (.n .z 137 ⟨.fn, .cell, .nilfn, 8, false⟩
 .z) 138 ⟨.fn, .cell, .nilfn, 8, false⟩
 .z)) 139 ⟨.fn, .cell, .nilfn, 8, false⟩
 (.n (.n (.n .z 140 ⟨.fn, .cell, .nilfn, 8, false⟩
 .z) 141 ⟨.ptr 183, .cell, .nilptr, 8, false⟩
 .z) 142 ⟨.fn, .cell, .nilfn, 8, false⟩
 (.n (.n .z 143 ⟨.ptr 49, .cell, .nilptr, 8, false⟩
 .z) 144 ⟨.fn, .cell, .nilfn, 8, false⟩
 .z)))) 145 ⟨.fn, .cell, .nilfn, 8, false⟩
 (.n (.n (.n (.n (.n .z 146 ⟨.fn, .cell, .nilfn, 8, false⟩
 .z) 147 ⟨.fn, .cell, .nilfn, 8, false⟩
 .z) 148 ⟨.int .u64, .cell, .u64 0, 8, false⟩
 (.n (.n .z 149 ⟨.st [3, 4], .st [.cell, .cell], .node [.i64 0, .bool false], 16, true⟩
 .z) 150 ⟨.st [3, 4], .st [.cell, .cell], .node [.i64 0, .bool false], 16, true⟩
 .z)) 151 ⟨.fn, .cell, .nilfn, 8, false⟩
 (.n (.n (.n .z 152 ⟨.fn, .cell, .nilfn, 8, false⟩
 .z) 153 ⟨.fn, .cell, .nilfn, 8, false⟩
 .z) 154 ⟨.int .u16, .cell, .u16 0, 2, false⟩
 (.n (.n .z 155 ⟨.slice 46, .cell, .nilslice, 24, false⟩
 .z) 156 ⟨.ptr 193, .cell, .nilptr, 8, false⟩
 .z))) 157 ⟨.fn, .cell, .nilfn, 8, false⟩
 (.n (.n (.n (.n .z 158 ⟨.fn, .cell, .nilfn, 8, false⟩
 .z) 159 ⟨.fn, .cell, .nilfn, 8, false⟩
 .z) 160 ⟨.st [35], .st [.arr 15 (.arr 16 (.cell))], .node [.node (List.replicate 15 (.u8s (List.replicate 16 0)))], 240, true⟩
 (.n (.n .z 161 ⟨.st [35], .st [.arr 15 (.arr 16 (.cell))], .node [.node (List.replicate 15 (.u8s (List.replicate 16 0)))], 240, true⟩
 .z) 162 ⟨.ptr 199, .cell, .nilptr, 8, false⟩
 .z)) 163 ⟨.fn, .cell, .nilfn, 8, false⟩
 (.n (.n (.n .z 164 ⟨.fn, .cell, .nilfn, 8, false⟩
 .z) 165 ⟨.fn, .cell, .nilfn, 8, false⟩
 .z) 166 ⟨.arr 16 5, .arr 16 (.cell), .u8s (List.replicate 16 0), 16, true⟩
 (.n (.n .z 167 ⟨.fn, .cell, .nilfn, 8, false⟩
 .z) 168 ⟨.arr 256 5, .arr 256 (.cell), .u8s (List.replicate 256 0), 256, true⟩
 .z))))) 169 ⟨.fn, .cell, .nilfn, 8, false⟩
 (.n (.n (.n (.n (.n (.n .z 170 ⟨.fn, .cell, .nilfn, 8, false⟩
 .z) 171 ⟨.fn, .cell, .nilfn, 8, false⟩
 (.n .z 172 ⟨.fn, .cell, .nilfn, 8, false⟩
 .z)) 173 ⟨.arr 512 5, .arr 512 (.cell), .u8s (List.replicate 512 0), 512, true⟩
 (.n (.n .z 174 ⟨.st [3, 3, 173], .st [.cell, .cell, .arr 512 (.cell)], .node [.i64 0, .i64 0, .u8s (List.replicate 512 0)], 528, true⟩
 .z) 175 ⟨.st [3, 3, 173], .st [.cell, .cell, .arr 512 (.cell)], .node [.i64 0, .i64 0, .u8s (List.replicate 512 0)], 528, true⟩
 .z)) 176 ⟨.arr 4 5, .arr 4 (.cell), .u8s (List.replicate 4 0), 4, true⟩
 (.n (.n (.n .z 177 ⟨.arr 60 176, .arr 60 (.arr 4 (.cell)), .node (List.replicate 60 (.u8s (List.replicate 4 0))), 240, true⟩
 .z) 178 ⟨.fn, .cell, .nilfn, 8, false⟩
 .z) 179 ⟨.fn, .cell, .nilfn, 8, false⟩
 (.n (.n .z 180 ⟨.fn, .cell, .nilfn, 8, false⟩
 .z) 181 ⟨.fn, .cell, .nilfn, 8, false⟩
 .z))) 182 ⟨.st [46, 58], .st [.cell, .cell], .node [.nilslice, .i64 0], 32, false⟩
 (.n (.n (.n (.n .z 183 ⟨.st [46, 58], .st [.cell, .cell], .node [.nilslice, .i64 0], 32, false⟩
 .z) 184 ⟨.fn, .cell, .nilfn, 8, false⟩
 .z) 185 ⟨.fn, .cell, .nilfn, 8, false⟩
 (.n (.n .z 186 ⟨.arr 8 45, .arr 8 (.cell), .u32s (List.replicate 8 0), 32, true⟩
 .z) 187 ⟨.fn, .cell, .nilfn, 8, false⟩
 .z)) 188 ⟨.st [3, 9, 3], .st [.cell, .cell, .cell], .node [.i64 0, .str [], .i64 0], 32, true⟩
 (.n (.n (.n .z 189 ⟨.st [3, 9, 3], .st [.cell, .cell, .cell], .node [.i64 0, .str [], .i64 0], 32, true⟩
 .z) 190 ⟨.arr 8 45, .arr 8 (.cell), .u32s (List.replicate 8 0), 32, true⟩
 .z) 191 ⟨.fn, .cell, .nilfn, 8, false⟩
 (.n (.n .z 192 ⟨.st [190, 46, 3], .st [.arr 8 (.cell), .cell, .cell], .node [.u32s (List.replicate 8 0), .nilslice, .i64 0], 64, false⟩
 .z) 193 ⟨.st [190, 46, 3], .st [.arr 8 (.cell), .cell, .cell], .node [.u32s (List.replicate 8 0), .nilslice, .i64 0], 64, false⟩
 .z)))) 194 ⟨.fn, .cell, .nilfn, 8, false⟩
 (.n (.n (.n (.n (.n .z 195 ⟨.arr 240 5, .arr 240 (.cell), .u8s (List.replicate 240 0), 240, true⟩
 .z) 196 ⟨.fn, .cell, .nilfn, 8, false⟩
 .z) 197 ⟨.arr 64 5, .arr 64 (.cell), .u8s (List.replicate 64 0), 64, true⟩
 (.n (.n .z 198 ⟨.st [156, 197], .st [.cell, .arr 64 (.cell)], .node [.nilptr, .u8s (List.replicate 64 0)], 72, false⟩
 .z) 199 ⟨.st [156, 197], .st [.cell, .arr 64 (.cell)], .node [.nilptr, .u8s (List.replicate 64 0)], 72, false⟩
 .z)) 200 ⟨.fn, .cell, .nilfn, 8, false⟩
 (.n (.n (.n .z 201 ⟨.fn, .cell, .nilfn, 8, false⟩
 .z) 202 ⟨.arr 32 34, .arr 32 (.arr 16 (.cell)), .node (List.replicate 32 (.u8s (List.replicate 16 0))), 512, true⟩
 .z) 203 ⟨.fn, .cell, .nilfn, 8, false⟩
 (.n (.n .z 204 ⟨.slice 34, .cell, .nilslice, 24, false⟩
 .z) 205 ⟨.fn, .cell, .nilfn, 8, false⟩
 .z))) 206 ⟨.fn, .cell, .nilfn, 8, false⟩
 (.n (.n (.n (.n .z 207 ⟨.fn, .cell, .nilfn, 8, false⟩
 .z) 208 ⟨.arr 64 45, .arr 64 (.cell), .u32s (List.replicate 64 0), 256, true⟩
 .z) 209 ⟨.fn, .cell, .nilfn, 8, false⟩
 (.n (.n .z 210 ⟨.ptr 190, .cell, .nilptr, 8, false⟩
 .z) 211 ⟨.fn, .cell, .nilfn, 8, false⟩
 .z)) 212 ⟨.slice 45, .cell, .nilslice, 24, false⟩
 (.n (.n (.n .z 213 ⟨.fn, .cell, .nilfn, 8, false⟩
 .z) 214 ⟨.fn, .cell, .nilfn, 8, false⟩
 .z) 215 ⟨.fn, .cell, .nilfn, 8, false⟩
 (.n (.n .z 223 ⟨.fn, .cell, .nilfn, 8, false⟩
 .z) 224 ⟨.ptr 5, .cell, .nilptr, 8, false⟩
 .z)))))))
set_option maxRecDepth 100000 in
theorem tab : eL Tryz.prog Γ := tab_ok (by kernel_rfl)
theorem mix : Tryz.prog.follows .mixedOrders = true := by kernel_rfl
set_option maxRecDepth 3000
def aHW (x : BitVec 32) (k : Int) : BitVec 32 := x <<< (BitVec.ofInt 64 k &&& 31#64).toNat ||| x >>> (32#64 - (BitVec.ofInt 64 k &&& 31#64)).toNat
theorem aAE (x : BitVec 32) (k : Int) : AC Tryz.prog 153 [.u32 x, .i64 k] 0 [] ⟨.u32 (aHW x k), [], []⟩ := by
 refine acA tab mix Tryz.func153 {} ?_
 refine go ?_
 refine aI []
def rsF (x : BitVec 32) (a b c : Int) : BitVec 32 := aHW x (-a) ^^^ aHW x (-b) ^^^ aHW x (-c)
def aEX (x : BitVec 32) (a b c : Int) : BitVec 32 := aHW x (-a) ^^^ aHW x (-b) ^^^ x >>> c.toNat
section
variable (x : BitVec 32) (a b c : Int) (ha : 0 ≤ a ∧ a < 64) (hb : 0 ≤ b ∧ b < 64) (hc : 0 ≤ c ∧ c < 64)
include x a b c ha hb hc
theorem aCu : AC Tryz.prog 146 [.u32 x, .i64 a, .i64 b, .i64 c] 0 [] ⟨.u32 (rsF x a b c), [], []⟩ := by
 refine acA tab mix Tryz.func146 {} ?_
 refine go ?_
 refine bG (aAE x (-a)) [] ?_
 refine bG (aAE x (-b)) [] ?_
 refine bG (aAE x (-c)) [] ?_
 refine aI []
theorem aIf : AC Tryz.prog 145 [.u32 x, .i64 a, .i64 b, .i64 c] 0 [] ⟨.u32 (aEX x a b c), [], []⟩ := by
 refine acA tab mix Tryz.func145 {} ?_
 refine go ?_
 refine bG (aAE x (-a)) [] ?_
 refine bG (aAE x (-b)) [] ?_
 refine aI []
end
abbrev tRd : Ty := .st [.cell, .cell]
theorem aJZ (off len : Nat) (cap : Option Nat) : AC Tryz.prog 94 [.slice 0 [] off len cap] 1 [] ⟨.ptr 1 [], [], [(tRd, .node [.slice 0 [] off len cap, .i64 0])]⟩ := by
 refine acA tab mix Tryz.func94 {} ?_
 refine go ?_
 refine aI [0, 1]
theorem aJa (bs : B8) (o l k : Nat) (cap : Option Nat) (h : k ≤ l) (hl : l < 9223372036854775808) (ho : o + l ≤ bs.length) :
  AC Tryz.prog 129 [.ptr 0 [], .i64 k] 2 [(0, some ⟨tRd, .node [.slice 1 [] o l cap, .i64 0], true⟩), (1, some ⟨.row .cell, .u8s bs, false⟩)]
   ⟨.slice 1 [] o k (some k), [(0, some (.node [.slice 1 [] (o + k) (l - k) (cap.map (· - k)), .i64 0]))], []⟩ := by
 refine acA tab mix Tryz.func129 {} ?_
 refine gob ?_
 refine aI [0, 1]
def rdI (bs : B8) (o : Nat) : Nat → BitVec 64
 |0 => 0
 |i + 1 => rdI bs o i <<< 8 ||| (bs.getD (o + i) 0).setWidth 64
theorem aGF (bs : B8) (o l k : Nat) (cap : Option Nat) (h : k ≤ l) (hl : l < 9223372036854775808) (ho : o + l ≤ bs.length) :
  AC Tryz.prog 128 [.ptr 0 [], .i64 k] 2 [(0, some ⟨tRd, .node [.slice 1 [] o l cap, .i64 0], true⟩), (1, some ⟨.row .cell, .u8s bs, false⟩)]
   ⟨.u64 (rdI bs o k), [(0, some (.node [.slice 1 [] (o + k) (l - k) (cap.map (· - k)), .i64 0]))], []⟩ := by
 refine acA tab mix Tryz.func128 {} ?_
 refine go ?_
 refine bG (aJa bs o l k cap h hl ho) [0, 1] ?_
 refine aX Nat (fun i => [(0, .ptr 0 []), (6, .u64 (rdI bs o i)), (13, .slice 1 [] o k (some k)), (14, .i64 k), (15, .i64 i)])
  (fun _ => [(0, some ⟨tRd, .node [.slice 1 [] (o + k) (l - k) (cap.map (· - k)), .i64 0], true⟩), (1, some ⟨.row .cell, .u8s bs, false⟩)]) 2 (fun i => i ≤ k) (fun i => k - i) 0 [0, 1] (Nat.zero_le _) aK ?_
 intro i hi
 refine go ?_
 refine Br.split (fun h => ?_) (fun h => ?_)
 ·have hi : i < k := by have := of_decide_eq_true h; omega
  refine go ?_
  refine bB (i + 1) [0, 1] aK
 ·obtain rfl : i = k := by have := of_decide_eq_false h; omega
  refine go ?_
  refine aI [0, 1]
theorem u32_ac (bs : B8) (o l : Nat) (cap : Option Nat) (h : 4 ≤ l) (hl : l < 9223372036854775808) (ho : o + l ≤ bs.length) :
  AC Tryz.prog 95 [.ptr 0 []] 2 [(0, some ⟨tRd, .node [.slice 1 [] o l cap, .i64 0], true⟩), (1, some ⟨.row .cell, .u8s bs, false⟩)]
   ⟨.u32 ((rdI bs o 4).setWidth 32), [(0, some (.node [.slice 1 [] (o + 4) (l - 4) (cap.map (· - 4)), .i64 0]))], []⟩ := by
 refine acA tab mix Tryz.func95 {} ?_
 refine go ?_
 refine bG (aGF bs o l 4 cap h hl ho) [0, 1] ?_
 refine aI [0, 1]
def K256 : List (BitVec 32) := [0x428a2f98, 0x71374491, 0xb5c0fbcf, 0xe9b5dba5, 0x3956c25b, 0x59f111f1, 0x923f82a4, 0xab1c5ed5, 0xd807aa98, 0x12835b01, 0x243185be, 0x550c7dc3, 0x72be5d74, 0x80deb1fe, 0x9bdc06a7, 0xc19bf174, 0xe49b69c1, 0xefbe4786, 0x0fc19dc6, 0x240ca1cc, 0x2de92c6f, 0x4a7484aa, 0x5cb0a9dc, 0x76f988da, 0x983e5152, 0xa831c66d, 0xb00327c8, 0xbf597fc7, 0xc6e00bf3, 0xd5a79147, 0x06ca6351, 0x14292967, 0x27b70a85, 0x2e1b2138, 0x4d2c6dfc, 0x53380d13, 0x650a7354, 0x766a0abb, 0x81c2c92e, 0x92722c85, 0xa2bfe8a1, 0xa81a664b, 0xc24b8b70, 0xc76c51a3, 0xd192e819, 0xd6990624, 0xf40e3585, 0x106aa070, 0x19a4c116, 0x1e376c08, 0x2748774c, 0x34b0bcb5, 0x391c0cb3, 0x4ed8aa4a, 0x5b9cca4f, 0x682e6ff3, 0x748f82ee, 0x78a5636f, 0x84c87814, 0x8cc70208, 0x90befffa, 0xa4506ceb, 0xbef9a3f7, 0xc67178f2]
theorem gT : K256.length = 64 := rfl
abbrev gR : Nat × Option Ent := (gid 2, some ⟨.arr 64 .cell, .u32s K256, false⟩)
def wI (bs : B8) (o : Nat) : Nat → List (BitVec 32)
 |0 => List.replicate 64 0
 |t + 1 => (wI bs o t).set t (if t < 16 then (rdI bs (o + 4 * t) 4).setWidth 32 else
   aEX ((wI bs o t).getD ((t : Int) - 2).toNat 0) 17 19 10 + (wI bs o t).getD ((t : Int) - 7).toNat 0 + aEX ((wI bs o t).getD ((t : Int) - 15).toNat 0) 7 18 3 + (wI bs o t).getD ((t : Int) - 16).toNat 0)
theorem fD (bs : B8) (o : Nat) : ∀ t, (wI bs o t).length = 64
 |0 => rfl
 |t + 1 => by rw [wI, List.length_set, fD bs o t]
def oneF (v : List (BitVec 32)) (k w : BitVec 32) : BitVec 32 := v.getD 7 0 + rsF (v.getD 4 0) 6 11 25 + (v.getD 4 0 &&& v.getD 5 0 ||| ~~~(v.getD 4 0) &&& v.getD 6 0) + k + w
def twoF (v : List (BitVec 32)) : BitVec 32 := rsF (v.getD 0 0) 2 13 22 + (v.getD 0 0 &&& v.getD 1 0 ||| v.getD 2 0 &&& (v.getD 0 0 ||| v.getD 1 0))
def vS (v : List (BitVec 32)) (k w : BitVec 32) : List (BitVec 32) :=
 [oneF v k w + twoF v, v.getD 0 0, v.getD 1 0, v.getD 2 0, v.getD 3 0 + oneF v k w, v.getD 4 0, v.getD 5 0, v.getD 6 0]
def vI (w s : List (BitVec 32)) : Nat → List (BitVec 32)
 |0 => s
 |t + 1 => vS (vI w s t) (K256.getD t 0) (w.getD t 0)
theorem rG (w s : List (BitVec 32)) (hs : s.length = 8) : ∀ t, (vI w s t).length = 8
 |0 => hs
 |t + 1 => rfl
def aGq (s v : List (BitVec 32)) : Nat → List (BitVec 32)
 |0 => s
 |i + 1 => (aGq s v i).set i ((aGq s v i).getD i 0 + v.getD i 0)
theorem i1 (s v : List (BitVec 32)) : ∀ i, (aGq s v i).length = s.length
 |0 => rfl
 |i + 1 => by rw [aGq, List.length_set, i1 s v i]
def sbF (s : List (BitVec 32)) (bs : B8) (o : Nat) : List (BitVec 32) := aGq s (vI (wI bs o 64) s 64) 8
theorem vN (s : List (BitVec 32)) (bs : B8) (o : Nat) : (sbF s bs o).length = s.length := i1 _ _ _
theorem aJh {α : Type} {l : List α} (h : l.length = 8) : ∃ a b c d e f g i, l = [a, b, c, d, e, f, g, i] := by
 match l, h with
 |[a, b, c, d, e, f, g, i], _ => exact ⟨a, b, c, d, e, f, g, i, rfl⟩
abbrev t8 : Ty := .arr 8 .cell
abbrev tH : Ty := .st [t8, .cell, .cell]
abbrev AddC (s : List (BitVec 32)) (bs : B8) (o : Nat) (T : Ty) (p : dH) (wr : D → D) : Prop :=
 AC Tryz.prog 133 [.ptr 0 p, .slice 1 [] o 64 (some 64)] 3 [(0, some ⟨T, wr (.u32s s), true⟩), (1, some ⟨.row .cell, .u8s bs, false⟩), gR] ⟨.tup [], [(0, some (wr (.u32s (aGq s (vI (wI bs o 64) s 64) 8))))], []⟩
set_option maxHeartbeats 2000000 in
theorem aCb (s : List (BitVec 32)) (bs : B8) (o : Nat) (hs : s.length = 8) (ho : o + 64 ≤ bs.length) (hl : bs.length < 9223372036854775808) (n : Int) (ro rl : Nat) (rc : Option Nat) :
  (let T := t8; let p : dH := []; let wr : D → D := fun x => x; AddC s bs o T p wr) ∧
  (let T := tH; let p : dH := [.fld 0]; let wr : D → D := fun x => .node [x, .nilslice, .i64 n]; AddC s bs o T p wr) ∧
  (let T := tH; let p : dH := [.fld 0]; let wr : D → D := fun x => .node [x, .slice 2 [] ro rl rc, .i64 n]; AddC s bs o T p wr) := by
 have hK := gT
 refine ⟨?_, ?_, ?_⟩
 all_goals
  intro T p wr
  refine acA tab mix Tryz.func133 {} ?_
  refine go ?_
  refine bG (aJZ o 64 (some 64)) [1] ?_
  refine aX Nat (fun t => [(0, .ptr 0 p), (4, .ptr 3 []), (5, .ptr 4 []), (15, .i64 t)]) (fun t => [(0, some ⟨T, wr (.u32s s), true⟩), (1, some ⟨.row .cell, .u8s bs, false⟩), (3, some ⟨.arr 64 .cell, .u32s (wI bs o t), true⟩),
   (4, some ⟨tRd, .node [.slice 1 [] (o + 4 * min t 16) (64 - 4 * min t 16) (some (64 - 4 * min t 16)), .i64 0], true⟩), gR]) 5 (fun t => t ≤ 64) (fun t => 64 - t) 0 [0, 1, 2, 3, 4] (Nat.zero_le _) aK ?_
  intro t ht
  have hw := fD bs o t
  refine go ?_
  refine Br.split (fun h => ?_) (fun h => ?_)
  ·have ht : t < 64 := by have := of_decide_eq_true h; omega
   have hm := fD bs o (t + 1)
   refine go ?_
   refine Br.split (fun h => ?_) (fun h => ?_)
   ·have ht : t < 16 := by have := of_decide_eq_true h; omega
    have e : wI bs o (t + 1) = (wI bs o t).set t ((rdI bs (o + 4 * t) 4).setWidth 32) := by rw [wI, if_pos ht]
    have e1 : min t 16 = t := by omega
    have e2 : min (t + 1) 16 = t + 1 := by omega
    rw [e1]
    refine go ?_
    refine bG (u32_ac bs (o + 4 * t) (64 - 4 * t) (some (64 - 4 * t)) (by omega) (by omega) (by omega)) [4, 1] ?_
    refine bB (t + 1) [0, 1, 2, 3, 4] (aK (h3 := ?_))
    rw [e, e2, show o + 4 * (t + 1) = o + 4 * t + 4 by omega, show 64 - 4 * (t + 1) = 64 - 4 * t - 4 by omega]
    exact ⟨⟨_, rfl, rfl, rfl, id⟩, ⟨_, rfl, rfl, rfl, id⟩, ⟨_, rfl, rfl, rfl, id⟩, ⟨_, rfl, rfl, rfl, id⟩, ⟨_, rfl, rfl, rfl, id⟩, trivial⟩
   ·have ht : ¬ t < 16 := by have := of_decide_eq_false h; omega
    have e : wI bs o (t + 1) = (wI bs o t).set t (aEX ((wI bs o t).getD ((t : Int) - 2).toNat 0) 17 19 10 + (wI bs o t).getD ((t : Int) - 7).toNat 0 + aEX ((wI bs o t).getD ((t : Int) - 15).toNat 0) 7 18 3 + (wI bs o t).getD ((t : Int) - 16).toNat 0) := by
     rw [wI, if_neg ht]
    have e1 : min t 16 = 16 := by omega
    have e2 : min (t + 1) 16 = 16 := by omega
    rw [e1]
    refine go ?_
    refine bG (aIf _ 17 19 10 (by decide) (by decide) (by decide)) [] ?_
    refine bG (aIf _ 7 18 3 (by decide) (by decide) (by decide)) [] ?_
    refine bB (t + 1) [0, 1, 2, 3, 4] (aK (h3 := ?_))
    rw [e, e2]
    exact ⟨⟨_, rfl, rfl, rfl, id⟩, ⟨_, rfl, rfl, rfl, id⟩, ⟨_, rfl, rfl, rfl, id⟩, ⟨_, rfl, rfl, rfl, id⟩, ⟨_, rfl, rfl, rfl, id⟩, trivial⟩
  ·obtain rfl : t = 64 := by have := of_decide_eq_false h; omega
   generalize wI bs o 64 = w at hw ⊢
   refine go ?_
   refine aX Nat (fun t => [(0, .ptr 0 p), (4, .ptr 3 []), (7, .ptr 4 []), (51, .i64 t)]) (fun t => [(0, some ⟨T, wr (.u32s s), true⟩), (1, some ⟨.row .cell, .u8s bs, false⟩), (3, some ⟨.arr 64 .cell, .u32s w, true⟩),
    (4, some ⟨t8, .u32s (vI w s t), true⟩), gR]) 5 (fun t => t ≤ 64) (fun t => 64 - t) 0 [0, 1, 2, 3, 5] (Nat.zero_le _) aK ?_
   intro t ht
   have hv := rG w s hs t
   refine go ?_
   refine Br.split (fun h => ?_) (fun h => ?_)
   ·have ht : t < 64 := by have := of_decide_eq_true h; omega
    have e : vI w s (t + 1) = vS (vI w s t) (K256.getD t 0) (w.getD t 0) := rfl
    generalize vI w s t = v at hv e ⊢
    obtain ⟨v0, v1, v2, v3, v4, v5, v6, v7, rfl⟩ := aJh hv
    refine go ?_
    refine bG (aCu _ 6 11 25 (by decide) (by decide) (by decide)) [] ?_
    refine bG (aCu _ 2 13 22 (by decide) (by decide) (by decide)) [] ?_
    refine bB (t + 1) [0, 1, 2, 3, 4] (aK (h3 := ?_))
    rw [e]
    exact ⟨⟨_, rfl, rfl, rfl, id⟩, ⟨_, rfl, rfl, rfl, id⟩, ⟨_, rfl, rfl, rfl, id⟩, ⟨_, rfl, rfl, rfl, id⟩, ⟨_, rfl, rfl, rfl, id⟩, trivial⟩
   ·obtain rfl : t = 64 := by have := of_decide_eq_false h; omega
    generalize vI w s 64 = v at hv ⊢
    refine go ?_
    refine aX Nat (fun i => [(0, .ptr 0 p), (112, .u32s v), (113, .i64 i)]) (fun i => [(0, some ⟨T, wr (.u32s (aGq s v i)), true⟩), (1, some ⟨.row .cell, .u8s bs, false⟩), gR]) 3 (fun i => i ≤ 8) (fun i => 8 - i) 0 [0, 1, 2] (Nat.zero_le _) aK ?_
    intro i hi
    have hs2 := i1 s v i
    refine go ?_
    refine Br.split (fun h => ?_) (fun h => ?_)
    ·have hi : i < 8 := by have := of_decide_eq_true h; omega
     refine go ?_
     refine bB (i + 1) [0, 1, 2] aK
    ·obtain rfl : i = 8 := by have := of_decide_eq_false h; omega
     refine go ?_
     refine aI [0, 1, 2]
set_option maxRecDepth 3000
def nbI (n : BitVec 64) (k : Nat) : Nat → B8 × BitVec 64
 |0 => (List.replicate k 0, n)
 |i + 1 => ((nbI n k i).1.set ((k : Int) - 1 - (i : Int)).toNat ((nbI n k i).2.setWidth 8), (nbI n k i).2 >>> 8)
theorem oR (n : BitVec 64) (k : Nat) : ∀ i, (nbI n k i).1.length = k
 |0 => List.length_replicate
 |i + 1 => by rw [nbI, List.length_set, oR n k i]
def nbF (n : BitVec 64) (k : Nat) : B8 := (nbI n k k).1
theorem aZ (n : BitVec 64) (k : Nat) : (nbF n k).length = k := oR n k k
theorem aFt (n : BitVec 64) (k : Nat) (hk : k ≤ 1000) : AC Tryz.prog 127 [.u64 n, .i64 k] 0 [] ⟨.slice 0 [] 0 k none, [], [(.row .cell, .u8s (nbF n k))]⟩ := by
 refine acA tab mix Tryz.func127 {} ?_
 refine go ?_
 refine aX Nat (fun i => [(0, .u64 (nbI n k i).2), (1, .i64 k), (5, .slice 0 [] 0 k none), (10, .i64 k), (11, .i64 i)]) (fun i => [(0, some ⟨.row .cell, .u8s (nbI n k i).1, true⟩)]) 1 (fun i => i ≤ k) (fun i => k - i) 0 [0] (Nat.zero_le _) aK ?_
 intro i hi
 have hl := oR n k i
 refine go ?_
 refine Br.split (fun h => ?_) (fun h => ?_)
 ·have hi : i < k := by have := of_decide_eq_true h; omega
  refine go ?_
  refine bB (i + 1) [0] aK
 ·obtain rfl : i = k := by have := of_decide_eq_false h; omega
  refine go ?_
  refine aI [0]
theorem fA (n : BitVec 32) : AC Tryz.prog 93 [.u32 n] 0 [] ⟨.slice 0 [] 0 4 none, [], [(.row .cell, .u8s (nbF (n.setWidth 64) 4))]⟩ := by
 refine acA tab mix Tryz.func93 {} ?_
 refine go ?_
 refine bG (aFt (n.setWidth 64) 4 (by decide)) [] ?_
 refine aI [0]
theorem aH8 (n : BitVec 64) : AC Tryz.prog 134 [.u64 n] 0 [] ⟨.slice 0 [] 0 8 none, [], [(.row .cell, .u8s (nbF n 8))]⟩ := by
 refine acA tab mix Tryz.func134 {} ?_
 refine go ?_
 refine bG (aFt n 8 (by decide)) [] ?_
 refine aI [0]
theorem lF (bs : B8) (o k : Nat) (cap : Option Nat) (h : o + k ≤ bs.length) (hk : k ≤ 70368744177664) :
  AC Tryz.prog 30 [.slice 0 [] o k cap] 1 [(0, some ⟨.row .cell, .u8s bs, false⟩)] ⟨.slice 1 [] 0 k none, [], [(.row .cell, .u8s ((bs.drop o).take k))]⟩ := by
 refine acA tab mix Tryz.func30 {} ?_
 refine gob ?_
 refine ⟨0, ?_⟩
 refine go ?_
 refine aI [0, 2]
theorem tD (k : Int) (h0 : 0 < k) (hk : k ≤ 140737488355328) : AC Tryz.prog 126 [.nilslice, .i64 k] 0 [] ⟨.slice 0 [] 0 0 none, [], [(.row .cell, .u8s (List.replicate (k - (0 - 0)).toNat 0))]⟩ := by
 refine acA tab mix Tryz.func126 {} ?_
 refine gob ?_
 refine ⟨0, ?_⟩
 refine go ?_
 refine aI [0]
theorem yN (bs : B8) (o k : Nat) (cap : Option Nat) (h : o + k ≤ bs.length) (h0 : 0 < k) (hk : k ≤ 70368744177664) :
  AC Tryz.prog 92 [.slice 0 [] 0 2 (some 2)] 2 [(0, some ⟨.row .cell, .node [.nilslice, .slice 1 [] o k cap], true⟩), (1, some ⟨.row .cell, .u8s bs, false⟩)] ⟨.slice 2 [] 0 k none, [], [(.row .cell, .u8s ((bs.drop o).take k))]⟩ := by
 refine acA tab mix Tryz.func92 ⟨[], [3, 11]⟩ ?_
 refine go ?_
 refine oI 3 ?_
 refine gob ?_
 refine bG (tD (0 + 0 + (k : Int)) (by omega) (by omega)) [] ?_
 refine oI 3 ?_
 refine gob ?_
 refine ⟨0, ?_⟩
 refine gob ?_
 refine ⟨0, ?_⟩
 refine gob ?_
 refine aI [0, 1, 4]
theorem aGj (ss bs : B8) (r a o k : Nat) (rc cap : Option Nat) (ha : r + a ≤ ss.length) (h : o + k ≤ bs.length) (h0 : 0 < k) (hk : a + k ≤ 70368744177664) :
  AC Tryz.prog 92 [.slice 0 [] 0 2 (some 2)] 3 [(0, some ⟨.row .cell, .node [.slice 2 [] r a rc, .slice 1 [] o k cap], true⟩), (1, some ⟨.row .cell, .u8s bs, false⟩), (2, some ⟨.row .cell, .u8s ss, false⟩)]
   ⟨.slice 3 [] 0 (a + k) none, [], [(.row .cell, .u8s ((ss.drop r).take a ++ (bs.drop o).take k))]⟩ := by
 have hl : ((ss.drop r).take a).length = a := by rw [List.length_take, List.length_drop]; omega
 have ht : (List.take a ((ss.drop r).take a)) = (ss.drop r).take a := List.take_of_length_le (by omega)
 refine acA tab mix Tryz.func92 ⟨[], [3, 11]⟩ ?_
 refine go ?_
 refine oI 3 ?_
 refine gob ?_
 refine bG (tD (0 + a + (k : Int)) (by omega) (by omega)) [] ?_
 refine oI 3 ?_
 refine gob ?_
 refine ⟨0, ?_⟩
 refine gob ?_
 refine ⟨0, ?_⟩
 refine gob ?_
 refine aI [0, 1, 2, 5] (h3 := ?_)
 refine ⟨⟨_, rfl, rfl, congrArg D.u8s ?_, id⟩, ⟨_, rfl, rfl, rfl, id⟩, ⟨_, rfl, rfl, rfl, id⟩, ⟨_, rfl, rfl, rfl, id⟩, trivial⟩
 exact congrArg (· ++ (bs.drop o).take k) ((congrArg (fun n => List.take n ((ss.drop r).take a)) (Nat.zero_add a)).trans ht)
set_option maxRecDepth 3000
def fW (s : List (BitVec 32)) (c : B8) : Nat → List (BitVec 32)
 |0 => s
 |j + 1 => sbF (fW s c j) c (64 * j)
theorem dA (s : List (BitVec 32)) (c : B8) : ∀ j, (fW s c j).length = s.length
 |0 => rfl
 |j + 1 => by rw [fW, vN, dA s c j]
def H0 : List (BitVec 32) := [0x6a09e667, 0xbb67ae85, 0x3c6ef372, 0xa54ff53a, 0x510e527f, 0x9b05688c, 0x1f83d9ab, 0x5be0cd19]
theorem aAv : AC Tryz.prog 132 [] 0 [] ⟨.u32s H0, [], []⟩ := by
 refine acA tab mix Tryz.func132 {} ?_
 refine go ?_
 refine aI []
theorem rY : AC Tryz.prog 105 [] 0 [] ⟨.ptr 0 [], [], [(tH, .node [.u32s H0, .nilslice, .i64 0])]⟩ := by
 refine acA tab mix Tryz.func105 {} ?_
 refine go ?_
 refine bK aAv [] ?_
 have h : H0.length = 8 := rfl
 generalize H0 = s at h ⊢
 refine go ?_
 refine aI [0]
theorem y8 (s : List (BitVec 32)) (n : Int) (bs : B8) (o k : Nat) (cap : Option Nat) (hs : s.length = 8) (hn : 0 ≤ n ∧ n < 4611686018427387904) (h : o + k ≤ bs.length) (h0 : 0 < k) (hk : k ≤ 70368744177664) :
  AC Tryz.prog 106 [.ptr 0 [], .slice 1 [] o k cap] 2 [(0, some ⟨tH, .node [.u32s s, .nilslice, .i64 n], true⟩), (1, some ⟨.row .cell, .u8s bs, false⟩), gR]
   ⟨.i64 0, [(0, some (.node [.u32s (fW s ((bs.drop o).take k) (k / 64)), .slice 2 [] (64 * (k / 64)) (k - 64 * (k / 64)) none, .i64 (n + k)]))], [(.row .cell, .u8s ((bs.drop o).take k))]⟩ := by
 have hl : ((bs.drop o).take k).length = k := by rw [List.length_take, List.length_drop]; omega
 refine acA tab mix Tryz.func106 {} ?_
 refine gob ?_
 refine bK (yN bs o k cap h h0 hk) [2, 1] ?_
 generalize (bs.drop o).take k = c at hl ⊢
 refine go ?_
 refine aX Nat (fun j => [(0, .ptr 0 []), (1, .slice 2 [] (64 * j) (k - 64 * j) none)]) (fun j => [(0, some ⟨tH, .node [.u32s (fW s c j), .nilslice, .i64 (n + k)], true⟩), (1, some ⟨.row .cell, .u8s bs, false⟩), (2, some ⟨.row .cell, .u8s c, true⟩), gR]) 3
  (fun j => j ≤ k / 64) (fun j => k / 64 - j) 0 [0, 1, 3] (Nat.zero_le _) aK ?_
 intro j hj
 have hsl := dA s c j
 rw [hs] at hsl
 refine go ?_
 refine Br.split (fun h => ?_) (fun h => ?_)
 ·have hj : 64 * j + 64 ≤ k := by have := of_decide_eq_true h; omega
  have e : fW s c (j + 1) = sbF (fW s c j) c (64 * j) := rfl
  have ha := (aCb (fW s c j) c (64 * j) hsl (by omega) (by omega) (n + k) 0 0 none).2.1
  generalize fW s c j = x at hsl e ha ⊢
  refine go ?_
  refine bG ha [0, 2] ?_
  refine bB (j + 1) [0, 1, 2] (aK (h2 := ?_) (h3 := ?_))
  ·rw [show 64 * (j + 1) = 64 * j + 64 by omega, show k - (64 * j + 64) = k - 64 * j - 64 by omega]
   exact ⟨rfl, rfl, trivial⟩
  ·rw [e]
   exact ⟨⟨_, rfl, rfl, rfl, id⟩, ⟨_, rfl, rfl, rfl, id⟩, ⟨_, rfl, rfl, rfl, id⟩, ⟨_, rfl, rfl, rfl, id⟩, trivial⟩
 ·obtain rfl : j = k / 64 := by have := of_decide_eq_false h; omega
  refine go ?_
  refine aI [0, 1, 2]
theorem aGx (s : List (BitVec 32)) (n : Int) (ss bs : B8) (r a o k : Nat) (rc cap : Option Nat) (hs : s.length = 8) (hn : 0 ≤ n ∧ n < 4611686018427387904) (ha : r + a ≤ ss.length) (h : o + k ≤ bs.length) (h0 : 0 < k) (hk : a + k ≤ 70368744177664) :
  AC Tryz.prog 106 [.ptr 0 [], .slice 1 [] o k cap] 3 [(0, some ⟨tH, .node [.u32s s, .slice 2 [] r a rc, .i64 n], true⟩), (1, some ⟨.row .cell, .u8s bs, false⟩), (2, some ⟨.row .cell, .u8s ss, true⟩), gR]
   ⟨.i64 0, [(0, some (.node [.u32s (fW s ((ss.drop r).take a ++ (bs.drop o).take k) ((a + k) / 64)), .slice 3 [] (64 * ((a + k) / 64)) (a + k - 64 * ((a + k) / 64)) none, .i64 (n + k)]))],
    [(.row .cell, .u8s ((ss.drop r).take a ++ (bs.drop o).take k))]⟩ := by
 have hl : ((ss.drop r).take a ++ (bs.drop o).take k).length = a + k := by rw [List.length_append, List.length_take, List.length_drop, List.length_take, List.length_drop]; omega
 refine acA tab mix Tryz.func106 {} ?_
 refine gob ?_
 refine bK (aGj ss bs r a o k rc cap ha h h0 hk) [3, 1, 2] ?_
 generalize (ss.drop r).take a ++ (bs.drop o).take k = c at hl ⊢
 refine go ?_
 refine aX Nat (fun j => [(0, .ptr 0 []), (1, .slice 3 [] (64 * j) (a + k - 64 * j) none)]) (fun j => [(0, some ⟨tH, .node [.u32s (fW s c j), .slice 2 [] r a rc, .i64 (n + k)], true⟩), (1, some ⟨.row .cell, .u8s bs, false⟩),
  (2, some ⟨.row .cell, .u8s ss, true⟩), (3, some ⟨.row .cell, .u8s c, true⟩), gR]) 4
  (fun j => j ≤ (a + k) / 64) (fun j => (a + k) / 64 - j) 0 [0, 1, 2, 4] (Nat.zero_le _) aK ?_
 intro j hj
 have hsl := dA s c j
 rw [hs] at hsl
 refine go ?_
 refine Br.split (fun h => ?_) (fun h => ?_)
 ·have hj : 64 * j + 64 ≤ a + k := by have := of_decide_eq_true h; omega
  have e : fW s c (j + 1) = sbF (fW s c j) c (64 * j) := rfl
  have ha := (aCb (fW s c j) c (64 * j) hsl (by omega) (by omega) (n + k) r a rc).2.2
  generalize fW s c j = x at hsl e ha ⊢
  refine go ?_
  refine bG ha [0, 3, 2] ?_
  refine bB (j + 1) [0, 1, 2, 3] (aK (h2 := ?_) (h3 := ?_))
  ·rw [show 64 * (j + 1) = 64 * j + 64 by omega, show a + k - (64 * j + 64) = a + k - 64 * j - 64 by omega]
   exact ⟨rfl, rfl, trivial⟩
  ·rw [e]
   exact ⟨⟨_, rfl, rfl, rfl, id⟩, ⟨_, rfl, rfl, rfl, id⟩, ⟨_, rfl, rfl, rfl, id⟩, ⟨_, rfl, rfl, rfl, id⟩, ⟨_, rfl, rfl, rfl, id⟩, trivial⟩
 ·obtain rfl : j = (a + k) / 64 := by have := of_decide_eq_false h; omega
  refine go ?_
  refine aI [0, 1, 2, 3]
def aB6 (s : List (BitVec 32)) : Nat → B8
 |0 => List.replicate 32 0
 |i + 1 => (aB6 s i).take (4 * i) ++ nbF ((s.getD i 0).setWidth 64) 4 ++ (aB6 s i).drop (4 * i + 4)
theorem mB (s : List (BitVec 32)) : ∀ i, i ≤ 8 → (aB6 s i).length = 32
 |0, _ => rfl
 |i + 1, h => by rw [aB6, List.length_append, List.length_append, List.length_take, List.length_drop, mB s i (by omega), aZ]; omega
def zN (a : Nat) : Nat := (119 - a % 64) % 64
def aB5 (c : B8) (j : Nat) : B8 := c ++ 128 :: List.replicate j 0
def qR (c : B8) (n : Int) : B8 := aB5 c (zN c.length) ++ nbF (BitVec.ofInt 64 n * 8) 8
theorem aEt (a : Nat) : (a + 1 + zN a) % 64 = 56 := by unfold zN; omega
theorem l9 (c : B8) (j : Nat) : (aB5 c j).length = c.length + 1 + j := by
 simp only [aB5, List.length_append, List.length_cons, List.length_replicate]; omega
theorem aA4 (c : B8) (j : Nat) : aB5 c (j + 1) = aB5 c j ++ [0] := by
 simp only [aB5, List.replicate_succ', List.cons_append, List.append_assoc]
theorem mA (c : B8) (n : Int) : (qR c n).length = c.length + 9 + zN c.length := by
 rw [qR, List.length_append, l9, aZ]; omega
def sumF (s : List (BitVec 32)) (c : B8) (n : Int) : B8 := aB6 (fW s (qR c n) ((qR c n).length / 64)) 8
theorem sum_ac (s : List (BitVec 32)) (n : Int) (ss : B8) (r a : Nat) (rc : Option Nat) (hs : s.length = 8) (hn : 0 ≤ n ∧ n < 4611686018427387904) (ha : r + a ≤ ss.length) (hk : a ≤ 35184372088832) :
  AC Tryz.prog 107 [.ptr 0 []] 2 [(0, some ⟨tH, .node [.u32s s, .slice 1 [] r a rc, .i64 n], true⟩), (1, some ⟨.row .cell, .u8s ss, true⟩), gR] ⟨.u8s (sumF s ((ss.drop r).take a) n), [], []⟩ := by
 have hl : ((ss.drop r).take a).length = a := by rw [List.length_take, List.length_drop]; omega
 have hS : sumF s ((ss.drop r).take a) n = aB6 (fW s (qR ((ss.drop r).take a) n) ((qR ((ss.drop r).take a) n).length / 64)) 8 := rfl
 have hP : qR ((ss.drop r).take a) n = aB5 ((ss.drop r).take a) (zN a) ++ nbF (BitVec.ofInt 64 n * 8) 8 := by rw [qR, hl]
 have hPl := mA ((ss.drop r).take a) n
 rw [hl] at hPl
 have hz := aEt a
 have hz2 : zN a < 64 := Nat.mod_lt _ (by decide)
 refine acA tab mix Tryz.func107 {} ?_
 refine gob ?_
 refine bK (lF ss r a rc ha (by omega)) [1] ?_
 generalize (ss.drop r).take a = c at *
 have ht : List.take a c = c := List.take_of_length_le (by omega)
 refine go ?_
 refine ⟨0, ?_⟩
 refine go ?_
 refine aX Nat (fun j => [(0, .ptr 0 []), (2, .ptr 2 []), (3, .ptr 3 []), (4, .slice 4 [] 0 (a + 1 + j) none)]) (fun j => [(0, some ⟨tH, .node [.u32s s, .slice 1 [] r a rc, .i64 n], true⟩), (1, some ⟨.row .cell, .u8s ss, true⟩),
  (2, some ⟨.arr 32 .cell, .u8s (List.replicate 32 0), true⟩), (3, some ⟨.arr 32 .cell, .u8s (List.replicate 32 0), true⟩), (4, some ⟨.row .cell, .u8s (aB5 c j), true⟩), gR]) 5
  (fun j => j ≤ zN a) (fun j => zN a - j) 0 [0, 1, 2, 3, 6] (Nat.zero_le _) (aK (h3 := ?_)) ?_
 ·exact ⟨⟨_, rfl, rfl, rfl, id⟩, ⟨_, rfl, rfl, rfl, id⟩, ⟨_, rfl, rfl, rfl, id⟩, ⟨_, rfl, rfl, rfl, id⟩, ⟨_, rfl, rfl, congrArg (fun x => D.u8s (x ++ [128])) ht, id⟩, ⟨_, rfl, rfl, rfl, id⟩, trivial⟩
 intro j hj
 have hpl := l9 c j
 rw [hl] at hpl
 have q : Int.tmod ((a + 1 + j : Nat) : Int) 64 = (((a + 1 + j) % 64 : Nat) : Int) := (Int.ofNat_tmod (a + 1 + j) 64).symm
 repeat first | rw [q] | refine go1 ?_
 refine Br.split (fun h => ?_) (fun h => ?_)
 ·have hj : j < zN a := by
   have h1 : ¬ (((a + 1 + j) % 64 : Nat) : Int) = 56 := by simpa only [Bool.not_eq_true', decide_eq_false_iff_not] using h
   rcases Nat.lt_or_ge j (zN a) with h | h
   ·exact h
   ·exfalso; obtain rfl : j = zN a := by omega
    omega
  have e := aA4 c j
  generalize aB5 c j = x at hpl e ⊢
  refine go ?_
  refine ⟨0, ?_⟩
  refine go ?_
  refine bB (j + 1) [0, 1, 2, 3, 6] (aK (h3 := ?_))
  rw [e]
  exact ⟨⟨_, rfl, rfl, rfl, id⟩, ⟨_, rfl, rfl, rfl, id⟩, ⟨_, rfl, rfl, rfl, id⟩, ⟨_, rfl, rfl, rfl, id⟩, ⟨_, rfl, rfl, congrArg (fun x => D.u8s (x ++ [0])) (show List.take (a + 1 + j) x = x from List.take_of_length_le (by omega)), id⟩, ⟨_, rfl, rfl, rfl, id⟩, trivial⟩
 ·obtain rfl : j = zN a := by
   have h1 : (((a + 1 + j) % 64 : Nat) : Int) = 56 := by simpa only [Bool.not_eq_false', decide_eq_true_eq] using h
   unfold zN at hj hz ⊢; omega
  refine go ?_
  refine bK (aH8 (BitVec.ofInt 64 n * 8)) [] ?_
  have hpp := aZ (BitVec.ofInt 64 n * 8) 8
  refine go ?_
  refine ⟨0, ?_⟩
  refine go ?_
  have hC : List.take (a + 1 + zN a) (aB5 c (zN a)) ++ List.take 8 (nbF (BitVec.ofInt 64 n * 8) 8) = qR c n := by rw [hP, List.take_of_length_le (by omega), List.take_of_length_le (by omega)]
  have hz3 : (a + 1 + zN a + 8) % 64 = 0 := by omega
  generalize qR c n = P at hC hPl hS
  rw [show a + 9 + zN a = a + 1 + zN a + 8 by omega] at hPl
  refine aX Nat (fun j => [(2, .ptr 2 []), (3, .ptr 3 []), (4, .slice 4 [] (64 * j) (a + 1 + zN a + 8 - 64 * j) none), (5, .ptr 5 [])]) (fun j => [(0, some ⟨tH, .node [.u32s s, .slice 1 [] r a rc, .i64 n], true⟩), (1, some ⟨.row .cell, .u8s ss, true⟩),
   (2, some ⟨.arr 32 .cell, .u8s (List.replicate 32 0), true⟩), (3, some ⟨.arr 32 .cell, .u8s (List.replicate 32 0), true⟩), (4, some ⟨.row .cell, .u8s P, true⟩), (5, some ⟨t8, .u32s (fW s P j), true⟩), gR]) 6
   (fun j => j ≤ P.length / 64) (fun j => P.length / 64 - j) 0 [0, 1, 2, 3, 6, 7] (Nat.zero_le _) (aK (h3 := ?_)) ?_
  ·exact ⟨⟨_, rfl, rfl, rfl, id⟩, ⟨_, rfl, rfl, rfl, id⟩, ⟨_, rfl, rfl, rfl, id⟩, ⟨_, rfl, rfl, rfl, id⟩, ⟨_, rfl, rfl, congrArg D.u8s hC, id⟩, ⟨_, rfl, rfl, rfl, id⟩, ⟨_, rfl, rfl, rfl, id⟩, trivial⟩
  have hL : a + 1 + zN a + 8 < 70368744177664 := by omega
  generalize a + 1 + zN a + 8 = L at hPl hz3 hL ⊢
  intro j hj
  have hsl := dA s P j
  rw [hs] at hsl
  refine go ?_
  refine Br.split (fun h => ?_) (fun h => ?_)
  ·have hj : 64 * j + 64 ≤ L := by have := of_decide_eq_true h; omega
   have e : fW s P (j + 1) = sbF (fW s P j) P (64 * j) := rfl
   have ha := (aCb (fW s P j) P (64 * j) hsl (by omega) (by omega) 0 0 0 none).1
   generalize fW s P j = x at hsl e ha ⊢
   refine go ?_
   refine bG ha [5, 4] ?_
   refine bB (j + 1) [0, 1, 2, 3, 4, 5] (aK (h2 := ?_) (h3 := ?_))
   ·rw [show 64 * (j + 1) = 64 * j + 64 by omega, show L - (64 * j + 64) = L - 64 * j - 64 by omega]
    exact ⟨rfl, rfl, rfl, rfl, trivial⟩
   ·rw [e]
    exact ⟨⟨_, rfl, rfl, rfl, id⟩, ⟨_, rfl, rfl, rfl, id⟩, ⟨_, rfl, rfl, rfl, id⟩, ⟨_, rfl, rfl, rfl, id⟩, ⟨_, rfl, rfl, rfl, id⟩, ⟨_, rfl, rfl, rfl, id⟩, ⟨_, rfl, rfl, rfl, id⟩, trivial⟩
  ·obtain rfl : j = P.length / 64 := by have := of_decide_eq_false h; omega
   generalize fW s P (P.length / 64) = x at hsl hS ⊢
   refine go ?_
   refine aX Nat (fun i => [(2, .ptr 2 []), (3, .ptr 3 []), (46, .u32s x), (47, .i64 i)]) (fun i => [(0, some ⟨tH, .node [.u32s s, .slice 1 [] r a rc, .i64 n], true⟩), (1, some ⟨.row .cell, .u8s ss, true⟩),
    (2, some ⟨.arr 32 .cell, .u8s (List.replicate 32 0), true⟩), (3, some ⟨.arr 32 .cell, .u8s (aB6 x i), true⟩), gR]) 4 (fun i => i ≤ 8) (fun i => 8 - i) 0 [0, 1, 2, 3] (Nat.zero_le _) aK ?_
   intro i hi
   have hol := mB x i hi
   refine go ?_
   refine Br.split (fun h => ?_) (fun h => ?_)
   ·have hi : i < 8 := by have := of_decide_eq_true h; omega
    have e : aB6 x (i + 1) = (aB6 x i).take (4 * i) ++ nbF ((x.getD i 0).setWidth 64) 4 ++ (aB6 x i).drop (4 * i + 4) := rfl
    have hpp := aZ ((x.getD i 0).setWidth 64) 4
    refine go ?_
    refine bK (fA (x.getD i 0)) [] ?_
    have q1 : Nat.min 4 ((Option.getD none ((32 : Nat) : Int)).toNat - ((some (4 * (i : Int))).getD 0).toNat) = 4 := by rw [j7]; simp only [Option.getD]; omega
    have q2 : ((some (4 * (i : Int))).getD 0).toNat = 4 * i := by simp only [Option.getD]; omega
    generalize nbF ((x.getD i 0).setWidth 64) 4 = y at e hpp ⊢
    generalize aB6 x i = z at e hol ⊢
    repeat first | rw [q1, q2] | refine go1 ?_
    refine bB (i + 1) [0, 1, 2, 3] (aK (h3 := ?_))
    rw [e]
    exact ⟨⟨_, rfl, rfl, rfl, id⟩, ⟨_, rfl, rfl, rfl, id⟩, ⟨_, rfl, rfl, rfl, id⟩, ⟨_, rfl, rfl, congrArg (fun l => D.u8s (z.take (4 * i) ++ l ++ z.drop (4 * i + 4))) (show List.take 4 y = y from List.take_of_length_le (by omega)), id⟩, ⟨_, rfl, rfl, rfl, id⟩, trivial⟩
   ·obtain rfl : i = 8 := by have := of_decide_eq_false h; omega
    refine go ?_
    refine aI [0, 1] (h1 := congrArg D.u8s hS.symm)
set_option maxRecDepth 3000
theorem aAY {bs cs : B8} {o p : Nat} : ∀ {k : Nat}, (∀ i, i < k → bs.getD (o + i) 0 = cs.getD (p + i) 0) → rdI bs o k = rdI cs p k
 |0, _ => rfl
 |k + 1, h => by rw [rdI, rdI, aAY (k := k) (fun i hi => h i (by omega)), h k (by omega)]
theorem aCe {bs cs : B8} {o p : Nat} (h : ∀ i, i < 64 → bs.getD (o + i) 0 = cs.getD (p + i) 0) : ∀ t, wI bs o t = wI cs p t
 |0 => rfl
 |t + 1 => by
  rw [wI, wI, aCe h t]
  split
  ·rw [aAY (bs := bs) (cs := cs) (o := o + 4 * t) (p := p + 4 * t) (fun i hi => by rw [Nat.add_assoc, Nat.add_assoc]; exact h (4 * t + i) (by omega))]
  ·rfl
theorem zU {bs cs : B8} {o p : Nat} (s : List (BitVec 32)) (h : ∀ i, i < 64 → bs.getD (o + i) 0 = cs.getD (p + i) 0) : sbF s bs o = sbF s cs p := by
 unfold sbF; rw [aCe h]
theorem aCm (s : List (BitVec 32)) (c d : B8) : ∀ j, 64 * j ≤ c.length → fW s (c ++ d) j = fW s c j
 |0, _ => rfl
 |j + 1, h => by
  rw [fW, fW, aCm s c d j (by omega)]
  exact zU _ fun i hi => fN (by omega)
theorem zP (s : List (BitVec 32)) (c : B8) (q : Nat) : ∀ j, fW (fW s c q) (c.drop (64 * q)) j = fW s c (q + j)
 |0 => rfl
 |j + 1 => by
  rw [fW, zP s c q j, ← Nat.add_assoc, fW]
  exact zU _ fun i _ => by rw [kF, Nat.mul_add, Nat.add_assoc]
def stF (m : B8) : List (BitVec 32) := fW H0 m (m.length / 64)
def reF (m : B8) : B8 := m.drop (64 * (m.length / 64))
theorem vJ (m : B8) : (stF m).length = 8 := dA _ _ _
theorem iM (m : B8) : (reF m).length = m.length - 64 * (m.length / 64) := List.length_drop
theorem xE (m b : B8) : reF m ++ b = (m ++ b).drop (64 * (m.length / 64)) := by
 rw [List.drop_append_of_le_length (by omega)]; rfl
section
variable (m b : B8) {q : Nat} (hq : q = (reF m ++ b).length / 64)
include m b q hq
theorem aFF : fW (stF m) (reF m ++ b) q = stF (m ++ b) := by
 rw [xE, stF, ← aCm H0 m b (m.length / 64) (by omega), zP, stF]
 congr 1
 rw [hq, xE, List.length_drop, List.length_append]; omega
theorem aH3 : (reF m ++ b).drop (64 * q) = reF (m ++ b) := by
 rw [xE, List.drop_drop, reF]
 congr 1
 rw [hq, xE, List.length_drop, List.length_append]; omega
end
def dI (m : B8) : B8 := aB6 (fW H0 (qR m m.length) ((qR m m.length).length / 64)) 8
theorem bI (m : B8) : (dI m).length = 32 := mB _ 8 (Nat.le_refl _)
theorem aIv (m : B8) : sumF (stF m) (reF m) m.length = dI m := by
 have hz : zN (reF m).length = zN m.length := by rw [iM]; unfold zN; omega
 have hp : qR (reF m) m.length = reF m ++ (128 :: List.replicate (zN m.length) 0 ++ nbF (BitVec.ofInt 64 m.length * 8) 8) := by
  rw [qR, aB5, hz]; simp only [List.append_assoc]
 have hp2 : qR m m.length = m ++ (128 :: List.replicate (zN m.length) 0 ++ nbF (BitVec.ofInt 64 m.length * 8) 8) := by
  rw [qR, aB5]; simp only [List.append_assoc]
 have hm := aEt m.length
 rw [sumF, dI, hp, hp2]
 generalize hb : (128 :: List.replicate (zN m.length) 0 ++ nbF (BitVec.ofInt 64 m.length * 8) 8 : B8) = b
 rw [aFF m b rfl]
 rfl
set_option maxRecDepth 3000
theorem y9 (m X bs : B8) (x o k : Nat) (cap : Option Nat) (hX : (X.drop x).take (m.length % 64) = reF m) (hx : x + m.length % 64 ≤ X.length) (h : o + k ≤ bs.length) (h0 : 0 < k) (hk : k ≤ 35184372088832) (hm : m.length < 4611686018427387904) :
  AC Tryz.prog 106 [.ptr 0 [], .slice 1 [] o k cap] 3 [(0, some ⟨tH, .node [.u32s (stF m), .slice 2 [] x (m.length % 64) none, .i64 m.length], true⟩), (1, some ⟨.row .cell, .u8s bs, false⟩), (2, some ⟨.row .cell, .u8s X, true⟩), gR]
   ⟨.i64 0, [(0, some (.node [.u32s (stF (m ++ (bs.drop o).take k)), .slice 3 [] (64 * ((m.length % 64 + k) / 64)) ((m.length + k) % 64) none, .i64 (m.length + k : Nat)]))], [(.row .cell, .u8s (reF m ++ (bs.drop o).take k))]⟩ := by
 have hl : ((bs.drop o).take k).length = k := by rw [List.length_take, List.length_drop]; omega
 have h1 := aGx (stF m) m.length X bs x (m.length % 64) o k none cap (vJ m) ⟨by omega, by omega⟩ hx h h0 (by omega)
 have hr := iM m
 rw [hX, aFF m _ (by rw [List.length_append, hl, hr]; congr 1; omega), show m.length % 64 + k - 64 * ((m.length % 64 + k) / 64) = (m.length + k) % 64 by omega, show (m.length : Int) + k = ((m.length + k : Nat) : Int) by omega] at h1
 exact h1
section
variable (m b : B8) {k : Nat} (hb : b.length = k)
include m b k hb
theorem eT : ((reF m ++ b).drop (64 * ((m.length % 64 + k) / 64))).take ((m.length + k) % 64) = reF (m ++ b) := by
 have hr := iM m
 rw [aH3 m b (by rw [List.length_append, hb, hr]; congr 1; omega), List.take_of_length_le]
 rw [iM, List.length_append, hb]; omega
theorem eS : 64 * ((m.length % 64 + k) / 64) + (m.length + k) % 64 ≤ (reF m ++ b).length := by
 rw [List.length_append, iM, hb]; omega
end
theorem aBc (m X : B8) (x : Nat) (hX : (X.drop x).take (m.length % 64) = reF m) (hx : x + m.length % 64 ≤ X.length) (hm : m.length < 4611686018427387904) :
  AC Tryz.prog 107 [.ptr 0 []] 2 [(0, some ⟨tH, .node [.u32s (stF m), .slice 1 [] x (m.length % 64) none, .i64 m.length], true⟩), (1, some ⟨.row .cell, .u8s X, true⟩), gR] ⟨.u8s (dI m), [], []⟩ := by
 have h1 := sum_ac (stF m) m.length X x (m.length % 64) none (vJ m) ⟨by omega, by omega⟩ hx (by omega)
 rw [hX, aIv] at h1
 exact h1
theorem rC (bs : B8) (o k : Nat) (cap : Option Nat) (h : o + k ≤ bs.length) (h0 : 0 < k) (hk : k ≤ 70368744177664) :
  AC Tryz.prog 106 [.ptr 0 [], .slice 1 [] o k cap] 2 [(0, some ⟨tH, .node [.u32s H0, .nilslice, .i64 0], true⟩), (1, some ⟨.row .cell, .u8s bs, false⟩), gR]
   ⟨.i64 0, [(0, some (.node [.u32s (stF ((bs.drop o).take k)), .slice 2 [] (64 * (k / 64)) (k % 64) none, .i64 (k : Nat)]))], [(.row .cell, .u8s ((bs.drop o).take k))]⟩ := by
 have hl : ((bs.drop o).take k).length = k := by rw [List.length_take, List.length_drop]; omega
 have h1 := y8 H0 0 bs o k cap rfl (by decide) h h0 hk
 have e : fW H0 ((bs.drop o).take k) (k / 64) = stF ((bs.drop o).take k) := by rw [stF, hl]
 rw [e, show k - 64 * (k / 64) = k % 64 by omega, Int.zero_add] at h1
 exact h1
theorem aI7 (m : B8) : (m.drop (64 * (m.length / 64))).take (m.length % 64) = reF m := List.take_of_length_le (by rw [List.length_drop]; omega)
theorem aGE (ss bs : B8) (p k q l : Nat) (c d : Option Nat) (ha : p + k ≤ ss.length) (hb : q + l ≤ bs.length) (hk0 : 0 < k) (hl0 : 0 < l) (hk : k ≤ 35184372088832) (hl : l ≤ 35184372088832) :
  AC Tryz.prog 71 [.slice 0 [] 0 2 (some 2)] 4 [(0, some ⟨.row .cell, .node [.slice 1 [] p k c, .slice 2 [] q l d], true⟩), (1, some ⟨.row .cell, .u8s ss, false⟩), (2, some ⟨.row .cell, .u8s bs, false⟩), gR]
   ⟨.u8s (dI ((ss.drop p).take k ++ (bs.drop q).take l)), [], []⟩ := by
 have hal : ((ss.drop p).take k).length = k := by rw [List.length_take, List.length_drop]; omega
 have hbl : ((bs.drop q).take l).length = l := by rw [List.length_take, List.length_drop]; omega
 refine acA tab mix Tryz.func71 ⟨[], [3]⟩ ?_
 refine go ?_
 refine bK rY [] ?_
 have hH : H0.length = 8 := rfl
 have hw := rC ss p k c ha hk0 (by omega)
 generalize H0 = h0 at hw hH
 refine go ?_
 refine oI 3 ?_
 refine gob ?_
 refine aA hw [5, 1] ?_
 have hr := aI7 ((ss.drop p).take k)
 generalize (ss.drop p).take k = M at hal hr ⊢
 have hw2 := y9 M M bs (64 * (M.length / 64)) q l d hr (by omega) hb hl0 hl (by omega)
 have hr2 := eT M ((bs.drop q).take l) hbl
 have hm2 := eS M ((bs.drop q).take l) hbl
 have hMl : (M ++ (bs.drop q).take l).length = k + l := by rw [List.length_append, hal, hbl]
 generalize (bs.drop q).take l = N at hw2 hr2 hm2 hMl ⊢
 have hs2 := aBc (M ++ N) (reF M ++ N) (64 * ((M.length % 64 + l) / 64)) (by rw [hMl, ← hal]; exact hr2) (by rw [hMl, ← hal]; exact hm2) (by omega)
 rw [hMl] at hs2
 rw [hal] at hw2 hs2
 have hsl := bI (M ++ N)
 generalize dI (M ++ N) = y at hs2 hsl ⊢
 refine aA hw2 [5, 2, 6] ?_
 refine aA hs2 [5, 7] ?_
 refine aI [0, 1, 2, 3]
abbrev tM : Ty := .st [.cell, .arr 64 .cell]
def aEZ (key : B8) : B8 := key ++ List.replicate (64 - key.length) 0
def xsI (base key : B8) (c : BitVec 8) : Nat → B8
 |0 => base
 |i + 1 => (xsI base key c i).set i (key.getD i 0 ^^^ c)
theorem fU (base key : B8) (c : BitVec 8) : ∀ i, (xsI base key c i).length = base.length
 |0 => rfl
 |i + 1 => by rw [xsI, List.length_set, fU base key c i]
def ipF (key : B8) : B8 := xsI (aEZ key) (aEZ key) 0x36 64
def opF (key : B8) : B8 := xsI (List.replicate 64 0) (aEZ key) 0x5c 64
theorem mJ {key : B8} (h : key.length ≤ 64) : (aEZ key).length = 64 := by rw [aEZ, List.length_append, List.length_replicate]; omega
theorem kZ {key : B8} (h : key.length ≤ 64) : (ipF key).length = 64 := by rw [ipF, fU, mJ h]
theorem kW (key : B8) : (opF key).length = 64 := by rw [opF, fU]; rfl
theorem aG0 (bs : B8) (o k : Nat) (cap : Option Nat) (h : o + k ≤ bs.length) (hk : k ≤ 64) :
  AC Tryz.prog 109 [.slice 0 [] o k cap] 1 [(0, some ⟨.row .cell, .u8s bs, false⟩), gR]
   ⟨.ptr 1 [], [], [(tM, .node [.ptr 2 [], .u8s (opF ((bs.drop o).take k))]), (tH, .node [.u32s (stF (ipF ((bs.drop o).take k))), .slice 3 [] 64 0 none, .i64 64]), (.row .cell, .u8s (ipF ((bs.drop o).take k)))]⟩ := by
 have hl : ((bs.drop o).take k).length = k := by rw [List.length_take, List.length_drop]; omega
 refine acA tab mix Tryz.func109 {} ?_
 refine gob ?_
 refine bK rY [] ?_
 have hH : H0.length = 8 := rfl
 have hw := fun bs h => rC bs 0 64 (some 64) h (by decide) (by decide)
 generalize H0 = h0 at hw hH
 have q1 : Nat.min k ((Option.getD none ((64 : Nat) : Int)).toNat - (Option.getD none (0 : Int)).toNat) = k := by rw [j7]; simp only [Option.getD]; omega
 repeat first | rw [q1] | refine go1 ?_
 have hKP : List.take (Option.getD none (0 : Int)).toNat (List.replicate 64 (0 : BitVec 8)) ++ List.take k (List.drop o bs) ++ List.drop ((Option.getD none (0 : Int)).toNat + k) (List.replicate 64 0) = aEZ ((bs.drop o).take k) := by
  rw [aEZ, hl, List.drop_replicate]
  show List.take 0 _ ++ _ ++ List.replicate (64 - (0 + k)) _ = _
  rw [Nat.zero_add]; rfl
 have hkl := mJ (key := (bs.drop o).take k) (by omega)
 have hip : ipF ((bs.drop o).take k) = xsI (aEZ ((bs.drop o).take k)) (aEZ ((bs.drop o).take k)) 0x36 64 := rfl
 have hop : opF ((bs.drop o).take k) = xsI (List.replicate 64 0) (aEZ ((bs.drop o).take k)) 0x5c 64 := rfl
 generalize opF ((bs.drop o).take k) = O at hop ⊢
 generalize ipF ((bs.drop o).take k) = N at hip ⊢
 generalize aEZ ((bs.drop o).take k) = K at hKP hkl hip hop
 refine aX Nat (fun i => [(4, .ptr 1 []), (5, .ptr 3 []), (21, .u8s K), (22, .i64 i)]) (fun i => [(0, some ⟨.row .cell, .u8s bs, false⟩), (1, some ⟨.arr 64 .cell, .u8s (xsI K K 0x36 i), true⟩), (2, some ⟨tH, .node [.u32s h0, .nilslice, .i64 0], true⟩),
  (3, some ⟨tM, .node [.ptr 2 [], .u8s (xsI (List.replicate 64 0) K 0x5c i)], true⟩), gR]) 4 (fun i => i ≤ 64) (fun i => 64 - i) 0 [0, 1, 2, 3] (Nat.zero_le _) (aK (h2 := ?_) (h3 := ?_)) ?_
 ·exact ⟨rfl, rfl, congrArg (fun x => some (D.u8s x)) hKP, rfl, trivial⟩
 ·exact ⟨⟨_, rfl, rfl, rfl, id⟩, ⟨_, rfl, rfl, congrArg D.u8s hKP, id⟩, ⟨_, rfl, rfl, rfl, id⟩, ⟨_, rfl, rfl, rfl, id⟩, ⟨_, rfl, rfl, rfl, id⟩, trivial⟩
 intro i hi
 have h1 := fU K K 0x36 i
 have h2 := fU (List.replicate 64 0) K 0x5c i
 rw [List.length_replicate] at h2
 refine go ?_
 refine Br.split (fun h => ?_) (fun h => ?_)
 ·have hi : i < 64 := by have := of_decide_eq_true h; omega
  refine go ?_
  refine bB (i + 1) [0, 1, 2, 3] aK
 ·obtain rfl : i = 64 := by have := of_decide_eq_false h; omega
  rw [← hip, ← hop]
  rw [← hip] at h1
  rw [← hop] at h2
  have hw := hw N (by omega)
  rw [List.drop_zero, List.take_of_length_le (by omega)] at hw
  refine go ?_
  refine bG (hw.arr 1 64) [2, 1] ?_
  refine aI [0, 3, 2, 4]
theorem gI (O m X bs : B8) (x o k : Nat) (cap : Option Nat) (hX : (X.drop x).take (m.length % 64) = reF m) (hx : x + m.length % 64 ≤ X.length) (h : o + k ≤ bs.length) (h0 : 0 < k) (hk : k ≤ 35184372088832) (hm : m.length < 4611686018427387904) :
  AC Tryz.prog 110 [.ptr 0 [], .slice 2 [] o k cap] 4 [(0, some ⟨tM, .node [.ptr 1 [], .u8s O], true⟩), (1, some ⟨tH, .node [.u32s (stF m), .slice 3 [] x (m.length % 64) none, .i64 m.length], true⟩), (2, some ⟨.row .cell, .u8s bs, false⟩), (3, some ⟨.row .cell, .u8s X, true⟩), gR]
   ⟨.i64 0, [(1, some (.node [.u32s (stF (m ++ (bs.drop o).take k)), .slice 4 [] (64 * ((m.length % 64 + k) / 64)) ((m.length + k) % 64) none, .i64 (m.length + k : Nat)]))], [(.row .cell, .u8s (reF m ++ (bs.drop o).take k))]⟩ := by
 have hw := y9 m X bs x o k cap hX hx h h0 hk hm
 generalize (bs.drop o).take k = b at hw ⊢
 refine acA tab mix Tryz.func110 {} ?_
 refine gob ?_
 refine bG hw [1, 2, 3] ?_
 refine aI [0, 1, 2, 3, 4]
theorem aAd (O m X : B8) (x : Nat) (hX : (X.drop x).take (m.length % 64) = reF m) (hx : x + m.length % 64 ≤ X.length) (hm : m.length < 4611686018427387904) (hO : O.length = 64) :
  AC Tryz.prog 111 [.ptr 0 []] 3 [(0, some ⟨tM, .node [.ptr 1 [], .u8s O], true⟩), (1, some ⟨tH, .node [.u32s (stF m), .slice 2 [] x (m.length % 64) none, .i64 m.length], true⟩), (2, some ⟨.row .cell, .u8s X, true⟩), gR]
   ⟨.u8s (dI (O ++ dI m)), [], []⟩ := by
 have hs := aBc m X x hX hx hm
 have hl := bI m
 generalize dI m = y at hs hl ⊢
 have ho := (aGE O y 0 64 0 32 (some 64) (some 32) (by omega) (by omega) (by decide) (by decide) (by decide) (by decide))
 have hl2 := bI (O ++ y)
 rw [List.drop_zero, List.take_of_length_le (by omega), List.drop_zero, List.take_of_length_le (by omega)] at ho
 generalize dI (O ++ y) = z at ho hl2 ⊢
 refine acA tab mix Tryz.func111 {} ?_
 refine gob ?_
 refine bG hs [1, 2] ?_
 refine bG ((ho.arrAt 1 64 [.fld 1] tM (.node [.ptr 3 [], .u8s O])).arr 2 32) [5, 0, 4, 1] ?_
 refine aI [0, 1, 2]
set_option maxRecDepth 3000
theorem of1_ac (ss : B8) (p k : Nat) (c : Option Nat) (ha : p + k ≤ ss.length) (hk0 : 0 < k) (hk : k ≤ 35184372088832) :
  AC Tryz.prog 71 [.slice 0 [] 0 1 (some 1)] 2 [(0, some ⟨.row .cell, .node [.slice 1 [] p k c], true⟩), (1, some ⟨.row .cell, .u8s ss, false⟩), gR] ⟨.u8s (dI ((ss.drop p).take k)), [], []⟩ := by
 have hal : ((ss.drop p).take k).length = k := by rw [List.length_take, List.length_drop]; omega
 refine acA tab mix Tryz.func71 ⟨[], [3]⟩ ?_
 refine go ?_
 refine bK rY [] ?_
 have hH : H0.length = 8 := rfl
 have hw := rC ss p k c ha hk0 (by omega)
 generalize H0 = h0 at hw hH
 refine go ?_
 refine oI 2 ?_
 refine gob ?_
 refine aA hw [3, 1] ?_
 have hr := aI7 ((ss.drop p).take k)
 generalize (ss.drop p).take k = M at hal hr ⊢
 have hs2 := aBc M M (64 * (M.length / 64)) hr (by omega) (by omega)
 rw [hal] at hs2
 have hsl := bI M
 generalize dI M = y at hs2 hsl ⊢
 refine aA hs2 [3, 4] ?_
 refine aI [0, 1]
set_option maxRecDepth 3000
def aF (a : BitVec 8) : BitVec 8 := if a &&& 128 = 0 then a <<< 1 else (a <<< 1) ^^^ 27
theorem aCl (a : BitVec 8) : AC Tryz.prog 147 [.u8 a] 0 [] ⟨.u8 (aF a), [], []⟩ := by
 refine cN tab mix Tryz.func147 rfl (by kernel_rfl) (by kernel_rfl) (by kernel_rfl) {} ?_
 repeat first | refine EffG.mk (And.intro trivial ?_) | refine And.intro trivial ?_ | refine lG (by kernel_rfl) ?_ | refine Br.yes rfl ?_ | refine Br.no rfl ?_
 refine Br.split (fun h => ?_) (fun h => ?_)
 ·repeat first | refine EffG.mk (And.intro trivial ?_) | refine And.intro trivial ?_ | refine lG (by kernel_rfl) ?_ | refine Br.yes rfl ?_ | refine Br.no rfl ?_
  refine gC [] ?_ rfl trivial rfl
  refine congrArg D.u8 ?_
  have h : ¬ (a &&& 128 = 0) := by simpa using h
  exact (if_neg h).symm
 ·repeat first | refine EffG.mk (And.intro trivial ?_) | refine And.intro trivial ?_ | refine lG (by kernel_rfl) ?_ | refine Br.yes rfl ?_ | refine Br.no rfl ?_
  refine gC [] ?_ rfl trivial rfl
  refine congrArg D.u8 ?_
  have h : (a &&& 128 = 0) := by simpa using h
  exact (if_pos h).symm
theorem iX (a : BitVec 8) : AC Tryz.prog 136 [.u8 a] 0 [] ⟨.u8 (aF a), [], []⟩ := by
 refine cN tab mix Tryz.func136 rfl (by kernel_rfl) (by kernel_rfl) (by kernel_rfl) {} ?_
 repeat first | refine EffG.mk (And.intro trivial ?_) | refine And.intro trivial ?_ | refine lG (by kernel_rfl) ?_ | refine Br.yes rfl ?_ | refine Br.no rfl ?_
 refine Br.split (fun h => ?_) (fun h => ?_)
 ·repeat first | refine EffG.mk (And.intro trivial ?_) | refine And.intro trivial ?_ | refine lG (by kernel_rfl) ?_ | refine Br.yes rfl ?_ | refine Br.no rfl ?_
  refine gC [] ?_ rfl trivial rfl
  refine congrArg D.u8 ?_
  have h : ¬ (a &&& 128 = 0) := by simpa using h
  exact (if_neg h).symm
 ·repeat first | refine EffG.mk (And.intro trivial ?_) | refine And.intro trivial ?_ | refine lG (by kernel_rfl) ?_ | refine Br.yes rfl ?_ | refine Br.no rfl ?_
  refine gC [] ?_ rfl trivial rfl
  refine congrArg D.u8 ?_
  have h : (a &&& 128 = 0) := by simpa using h
  exact (if_pos h).symm
def mulS (x : BitVec 8 × BitVec 8 × BitVec 8) : BitVec 8 × BitVec 8 × BitVec 8 := (aF x.1, x.2.1 >>> 1, if x.2.1 &&& 1 = 0 then x.2.2 else x.2.2 ^^^ x.1)
def aJb (a b : BitVec 8) : Nat → BitVec 8 × BitVec 8 × BitVec 8
 |0 => (a, b, 0)
 |n + 1 => mulS (aJb a b n)
def mulF (a b : BitVec 8) : BitVec 8 := (aJb a b 8).2.2
theorem mul_ac (a b : BitVec 8) : AC Tryz.prog 135 [.u8 a, .u8 b] 0 [] ⟨.u8 (mulF a b), [], []⟩ := by
 refine cN tab mix Tryz.func135 rfl (by kernel_rfl) (by kernel_rfl) (by kernel_rfl) {} ?_
 repeat first | refine EffG.mk (And.intro trivial ?_) | refine And.intro trivial ?_ | refine lG (by kernel_rfl) ?_ | refine Br.yes rfl ?_ | refine Br.no rfl ?_
 refine aX Nat (fun k => [(0, .u8 (aJb a b k).1), (1, .u8 (aJb a b k).2.1), (5, .u8 (aJb a b k).2.2), (6, .i64 k)]) (fun _ => []) 0 (fun k => k ≤ 8) (fun k => 8 - k) 0 [] (Nat.zero_le _) ?_ ?_
 ·exact aN rfl ⟨rfl, rfl, rfl, rfl, trivial⟩ trivial rfl
 intro k hk
 repeat first | refine EffG.mk (And.intro trivial ?_) | refine And.intro trivial ?_ | refine lG (by kernel_rfl) ?_ | refine Br.yes rfl ?_ | refine Br.no rfl ?_
 refine Br.split (fun h => ?_) (fun h => ?_)
 ·have hk : k < 8 := by have := of_decide_eq_true h; omega
  repeat first | refine EffG.mk (And.intro trivial ?_) | refine And.intro trivial ?_ | refine lG (by kernel_rfl) ?_ | refine Br.yes rfl ?_ | refine Br.no rfl ?_
  refine Br.split (fun h => ?_) (fun h => ?_)
  ·repeat first | refine EffG.mk (And.intro trivial ?_) | refine And.intro trivial ?_ | refine lG (by kernel_rfl) ?_ | refine Br.yes rfl ?_ | refine Br.no rfl ?_
   refine bF (aCl _) [] rfl rfl trivial rfl rfl ?_
   repeat first | refine EffG.mk (And.intro trivial ?_) | refine And.intro trivial ?_ | refine lG (by kernel_rfl) ?_ | refine Br.yes rfl ?_ | refine Br.no rfl ?_
   refine EffG.mk (And.intro (by omega) ?_)
   refine EffG.mk (And.intro trivial ?_)
   refine bQ (k + 1) [] (by omega) (by omega) (aN rfl ⟨rfl, rfl, ?_, rfl, trivial⟩ trivial rfl)
   have h : ¬ ((aJb a b k).2.1 &&& 1 = 0) := by simpa using h
   refine congrArg some (congrArg D.u8 ?_)
   exact (if_neg h).symm
  ·repeat first | refine EffG.mk (And.intro trivial ?_) | refine And.intro trivial ?_ | refine lG (by kernel_rfl) ?_ | refine Br.yes rfl ?_ | refine Br.no rfl ?_
   refine bF (aCl _) [] rfl rfl trivial rfl rfl ?_
   repeat first | refine EffG.mk (And.intro trivial ?_) | refine And.intro trivial ?_ | refine lG (by kernel_rfl) ?_ | refine Br.yes rfl ?_ | refine Br.no rfl ?_
   refine EffG.mk (And.intro (by omega) ?_)
   refine EffG.mk (And.intro trivial ?_)
   refine bQ (k + 1) [] (by omega) (by omega) (aN rfl ⟨rfl, rfl, ?_, rfl, trivial⟩ trivial rfl)
   have h : ((aJb a b k).2.1 &&& 1 = 0) := by simpa using h
   refine congrArg some (congrArg D.u8 ?_)
   exact (if_pos h).symm
 ·have hk : k = 8 := by have := of_decide_eq_false h; omega
  subst hk
  repeat first | refine EffG.mk (And.intro trivial ?_) | refine And.intro trivial ?_ | refine lG (by kernel_rfl) ?_ | refine Br.yes rfl ?_ | refine Br.no rfl ?_
  refine gC [] rfl rfl trivial rfl
set_option maxRecDepth 3000
def boxL : B8 := [0x63, 0x7c, 0x77, 0x7b, 0xf2, 0x6b, 0x6f, 0xc5, 0x30, 0x01, 0x67, 0x2b, 0xfe, 0xd7, 0xab, 0x76, 0xca, 0x82, 0xc9, 0x7d, 0xfa, 0x59, 0x47, 0xf0, 0xad, 0xd4, 0xa2, 0xaf, 0x9c, 0xa4, 0x72, 0xc0, 0xb7, 0xfd, 0x93, 0x26, 0x36, 0x3f, 0xf7, 0xcc, 0x34, 0xa5, 0xe5, 0xf1, 0x71, 0xd8, 0x31, 0x15, 0x04, 0xc7, 0x23, 0xc3, 0x18, 0x96, 0x05, 0x9a, 0x07, 0x12, 0x80, 0xe2, 0xeb, 0x27, 0xb2, 0x75, 0x09, 0x83, 0x2c, 0x1a, 0x1b, 0x6e, 0x5a, 0xa0, 0x52, 0x3b, 0xd6, 0xb3, 0x29, 0xe3, 0x2f, 0x84, 0x53, 0xd1, 0x00, 0xed, 0x20, 0xfc, 0xb1, 0x5b, 0x6a, 0xcb, 0xbe, 0x39, 0x4a, 0x4c, 0x58, 0xcf, 0xd0, 0xef, 0xaa, 0xfb, 0x43, 0x4d, 0x33, 0x85, 0x45, 0xf9, 0x02, 0x7f, 0x50, 0x3c, 0x9f, 0xa8, 0x51, 0xa3, 0x40, 0x8f, 0x92, 0x9d, 0x38, 0xf5, 0xbc, 0xb6, 0xda, 0x21, 0x10, 0xff, 0xf3, 0xd2, 0xcd, 0x0c, 0x13, 0xec, 0x5f, 0x97, 0x44, 0x17, 0xc4, 0xa7, 0x7e, 0x3d, 0x64, 0x5d, 0x19, 0x73, 0x60, 0x81, 0x4f, 0xdc, 0x22, 0x2a, 0x90, 0x88, 0x46, 0xee, 0xb8, 0x14, 0xde, 0x5e, 0x0b, 0xdb, 0xe0, 0x32, 0x3a, 0x0a, 0x49, 0x06, 0x24, 0x5c, 0xc2, 0xd3, 0xac, 0x62, 0x91, 0x95, 0xe4, 0x79, 0xe7, 0xc8, 0x37, 0x6d, 0x8d, 0xd5, 0x4e, 0xa9, 0x6c, 0x56, 0xf4, 0xea, 0x65, 0x7a, 0xae, 0x08, 0xba, 0x78, 0x25, 0x2e, 0x1c, 0xa6, 0xb4, 0xc6, 0xe8, 0xdd, 0x74, 0x1f, 0x4b, 0xbd, 0x8b, 0x8a, 0x70, 0x3e, 0xb5, 0x66, 0x48, 0x03, 0xf6, 0x0e, 0x61, 0x35, 0x57, 0xb9, 0x86, 0xc1, 0x1d, 0x9e, 0xe1, 0xf8, 0x98, 0x11, 0x69, 0xd9, 0x8e, 0x94, 0x9b, 0x1e, 0x87, 0xe9, 0xce, 0x55, 0x28, 0xdf, 0x8c, 0xa1, 0x89, 0x0d, 0xbf, 0xe6, 0x42, 0x68, 0x41, 0x99, 0x2d, 0x0f, 0xb0, 0x54, 0xbb, 0x16]
def unboxL : B8 := [0x52, 0x09, 0x6a, 0xd5, 0x30, 0x36, 0xa5, 0x38, 0xbf, 0x40, 0xa3, 0x9e, 0x81, 0xf3, 0xd7, 0xfb, 0x7c, 0xe3, 0x39, 0x82, 0x9b, 0x2f, 0xff, 0x87, 0x34, 0x8e, 0x43, 0x44, 0xc4, 0xde, 0xe9, 0xcb, 0x54, 0x7b, 0x94, 0x32, 0xa6, 0xc2, 0x23, 0x3d, 0xee, 0x4c, 0x95, 0x0b, 0x42, 0xfa, 0xc3, 0x4e, 0x08, 0x2e, 0xa1, 0x66, 0x28, 0xd9, 0x24, 0xb2, 0x76, 0x5b, 0xa2, 0x49, 0x6d, 0x8b, 0xd1, 0x25, 0x72, 0xf8, 0xf6, 0x64, 0x86, 0x68, 0x98, 0x16, 0xd4, 0xa4, 0x5c, 0xcc, 0x5d, 0x65, 0xb6, 0x92, 0x6c, 0x70, 0x48, 0x50, 0xfd, 0xed, 0xb9, 0xda, 0x5e, 0x15, 0x46, 0x57, 0xa7, 0x8d, 0x9d, 0x84, 0x90, 0xd8, 0xab, 0x00, 0x8c, 0xbc, 0xd3, 0x0a, 0xf7, 0xe4, 0x58, 0x05, 0xb8, 0xb3, 0x45, 0x06, 0xd0, 0x2c, 0x1e, 0x8f, 0xca, 0x3f, 0x0f, 0x02, 0xc1, 0xaf, 0xbd, 0x03, 0x01, 0x13, 0x8a, 0x6b, 0x3a, 0x91, 0x11, 0x41, 0x4f, 0x67, 0xdc, 0xea, 0x97, 0xf2, 0xcf, 0xce, 0xf0, 0xb4, 0xe6, 0x73, 0x96, 0xac, 0x74, 0x22, 0xe7, 0xad, 0x35, 0x85, 0xe2, 0xf9, 0x37, 0xe8, 0x1c, 0x75, 0xdf, 0x6e, 0x47, 0xf1, 0x1a, 0x71, 0x1d, 0x29, 0xc5, 0x89, 0x6f, 0xb7, 0x62, 0x0e, 0xaa, 0x18, 0xbe, 0x1b, 0xfc, 0x56, 0x3e, 0x4b, 0xc6, 0xd2, 0x79, 0x20, 0x9a, 0xdb, 0xc0, 0xfe, 0x78, 0xcd, 0x5a, 0xf4, 0x1f, 0xdd, 0xa8, 0x33, 0x88, 0x07, 0xc7, 0x31, 0xb1, 0x12, 0x10, 0x59, 0x27, 0x80, 0xec, 0x5f, 0x60, 0x51, 0x7f, 0xa9, 0x19, 0xb5, 0x4a, 0x0d, 0x2d, 0xe5, 0x7a, 0x9f, 0x93, 0xc9, 0x9c, 0xef, 0xa0, 0xe0, 0x3b, 0x4d, 0xae, 0x2a, 0xf5, 0xb0, 0xc8, 0xeb, 0xbb, 0x3c, 0x83, 0x53, 0x99, 0x61, 0x17, 0x2b, 0x04, 0x7e, 0xba, 0x77, 0xd6, 0x26, 0xe1, 0x69, 0x14, 0x63, 0x55, 0x21, 0x0c, 0x7d]
set_option maxRecDepth 100000 in
theorem aGl : AC Tryz.prog 116 [] 0 [] ⟨.u8s boxL, [], []⟩ := by
 refine cN tab mix Tryz.func116 rfl (by kernel_rfl) (by kernel_rfl) (by kernel_rfl) {} ?_
 repeat first | refine EffG.mk (And.intro trivial ?_) | refine And.intro trivial ?_ | refine lG (by kernel_rfl) ?_ | refine Br.yes rfl ?_ | refine Br.no rfl ?_
 refine EffG.mk (And.intro ?_ ?_)
 ·repeat' first | exact trivial | exact rfl | exact Nat.le_of_ble_eq_true rfl | refine And.intro ?_ ?_
 repeat first | refine EffG.mk (And.intro trivial ?_) | refine And.intro trivial ?_ | refine lG (by kernel_rfl) ?_ | refine Br.yes rfl ?_ | refine Br.no rfl ?_
 refine EffG.mk (And.intro ?_ ?_)
 ·repeat' first | exact trivial | exact gN (by kernel_rfl) | refine And.intro ?_ ?_
 repeat first | refine EffG.mk (And.intro trivial ?_) | refine And.intro trivial ?_ | refine lG (by kernel_rfl) ?_ | refine Br.yes rfl ?_ | refine Br.no rfl ?_
 refine gC [] ?_ rfl trivial rfl
 refine congrArg D.u8s ?_
 kernel_rfl
set_option maxRecDepth 100000 in
theorem aGy : AC Tryz.prog 121 [] 0 [] ⟨.u8s unboxL, [], []⟩ := by
 refine cN tab mix Tryz.func121 rfl (by kernel_rfl) (by kernel_rfl) (by kernel_rfl) {} ?_
 repeat first | refine EffG.mk (And.intro trivial ?_) | refine And.intro trivial ?_ | refine lG (by kernel_rfl) ?_ | refine Br.yes rfl ?_ | refine Br.no rfl ?_
 refine EffG.mk (And.intro ?_ ?_)
 ·repeat' first | exact trivial | exact rfl | exact Nat.le_of_ble_eq_true rfl | refine And.intro ?_ ?_
 repeat first | refine EffG.mk (And.intro trivial ?_) | refine And.intro trivial ?_ | refine lG (by kernel_rfl) ?_ | refine Br.yes rfl ?_ | refine Br.no rfl ?_
 refine EffG.mk (And.intro ?_ ?_)
 ·repeat' first | exact trivial | exact gN (by kernel_rfl) | refine And.intro ?_ ?_
 repeat first | refine EffG.mk (And.intro trivial ?_) | refine And.intro trivial ?_ | refine lG (by kernel_rfl) ?_ | refine Br.yes rfl ?_ | refine Br.no rfl ?_
 refine gC [] ?_ rfl trivial rfl
 refine congrArg D.u8s ?_
 kernel_rfl
theorem eZ : boxL.length = 256 := by kernel_rfl
theorem iZ : unboxL.length = 256 := by kernel_rfl
def f9 (b : BitVec 8) : BitVec 8 := boxL.getD b.toNat 0
def rH (b : BitVec 8) : BitVec 8 := unboxL.getD b.toNat 0
theorem yP (b : BitVec 8) (l : B8) (h : l.length = 256) : ((0 ≤ (b.toNat : Int) ∧ (b.toNat : Int) < 256) ∧ (b.toNat < l.length ∧ True)) ∧ l.length = 256 := by
 have := b.isLt
 exact ⟨⟨⟨by omega, by omega⟩, by rw [h]; omega, trivial⟩, h⟩
set_option maxRecDepth 3000
def aEq (s k : B8) : Nat → B8
 |0 => s
 |n + 1 => (aEq s k n).set n ((aEq s k n).getD n 0 ^^^ k.getD n 0)
def eM (s k : B8) : B8 := aEq s k 16
theorem dX (s k : B8) : ∀ n, (aEq s k n).length = s.length
 |0 => rfl
 |n + 1 => by rw [aEq, List.length_set, dX s k n]
abbrev t16 : Ty := .arr 16 .cell
theorem aCc (s k : B8) (hs : s.length = 16) (hk : k.length = 16) : AC Tryz.prog 115 [.u8s s, .u8s k] 0 [] ⟨.u8s (eM s k), [], []⟩ := by
 refine cN tab mix Tryz.func115 rfl (by kernel_rfl) (by kernel_rfl) (by kernel_rfl) {} ?_
 refine EffG.mk (And.intro hs ?_)
 refine EffG.mk (And.intro hk ?_)
 repeat first | refine EffG.mk (And.intro trivial ?_) | refine And.intro trivial ?_ | refine lG (by kernel_rfl) ?_ | refine Br.yes rfl ?_ | refine Br.no rfl ?_
 refine aX Nat (fun n => [(2, .ptr 0 []), (4, .ptr 2 []), (7, .u8s k), (8, .i64 n)]) (fun n => [(0, some ⟨t16, .u8s (aEq s k n), true⟩), (2, some ⟨t16, .u8s (List.replicate 16 0), true⟩)]) 3
  (fun n => n ≤ 16) (fun n => 16 - n) 0 [0, 1, 2] (Nat.zero_le _) ?_ ?_
 ·exact aN rfl ⟨rfl, rfl, rfl, rfl, trivial⟩ ⟨⟨_, rfl, rfl, rfl, id⟩, ⟨_, rfl, rfl, rfl, id⟩, trivial⟩ rfl
 intro n hn
 have hl := dX s k n
 rw [hs] at hl
 repeat first | refine EffG.mk (And.intro trivial ?_) | refine And.intro trivial ?_ | refine lG (by kernel_rfl) ?_ | refine Br.yes rfl ?_ | refine Br.no rfl ?_
 refine Br.split (fun h => ?_) (fun h => ?_)
 ·have hn : n < 16 := by have := of_decide_eq_true h; omega
  refine stS ?_
  refine bQ (n + 1) [0, 1, 2] ?_ ?_ ?_
  ·omega
  ·omega
  ·exact aN rfl ⟨rfl, rfl, rfl, rfl, trivial⟩ ⟨⟨_, rfl, rfl, rfl, id⟩, ⟨_, rfl, rfl, rfl, id⟩, trivial⟩ rfl
 ·have hn : n = 16 := by have := of_decide_eq_false h; omega
  refine stS ?_
  refine gC [] ?_ rfl trivial rfl
  refine congrArg D.u8s ?_
  rw [hn]; rfl
set_option maxRecDepth 3000
def aGv (s : B8) (all : BitVec 8) (c : Nat) : Nat → B8
 |0 => s
 |r + 1 => (aGv s all c r).set (c + r) ((aGv s all c r).getD (c + r) 0 ^^^ (all ^^^ aF ((aGv s all c r).getD (c + r) 0 ^^^ (aGv s all c r).getD (c + r + 1) 0)))
def aKP (s : B8) (c : Nat) : BitVec 8 := s.getD c 0 ^^^ s.getD (c + 1) 0 ^^^ s.getD (c + 2) 0 ^^^ s.getD (c + 3) 0
def colF (s : B8) (c : Nat) : B8 :=
 (aGv s (aKP s c) c 3).set (c + 3) ((aGv s (aKP s c) c 3).getD (c + 3) 0 ^^^ (aKP s c ^^^ aF ((aGv s (aKP s c) c 3).getD (c + 3) 0 ^^^ s.getD c 0)))
def aGM (s : B8) : Nat → B8
 |0 => s
 |j + 1 => colF (aGM s j) (4 * j)
def aGN (s : B8) : B8 := aGM s 4
theorem mX (s : B8) (a : BitVec 8) (c : Nat) : ∀ r, (aGv s a c r).length = s.length
 |0 => rfl
 |r + 1 => by rw [aGv, List.length_set, mX s a c r]
theorem aC8 (s : B8) (c : Nat) : (colF s c).length = s.length := by rw [colF, List.length_set, mX]
theorem mE (s : B8) : ∀ j, (aGM s j).length = s.length
 |0 => rfl
 |j + 1 => by rw [aGM, aC8, mE s j]
set_option maxHeartbeats 4000000 in
theorem aDX (s : B8) (hs : s.length = 16) : AC Tryz.prog 117 [.u8s s] 0 [] ⟨.u8s (aGN s), [], []⟩ := by
 refine cN tab mix Tryz.func117 rfl (by kernel_rfl) (by kernel_rfl) (by kernel_rfl) {} ?_
 refine stS ?_
 refine aX Nat (fun j => [(1, .ptr 0 []), (2, .ptr 1 []), (3, .i64 (4 * j : Nat))]) (fun j => [(0, some ⟨t16, .u8s (aGM s j), true⟩), (1, some ⟨t16, .u8s (List.replicate 16 0), true⟩)]) 2
  (fun j => j ≤ 4) (fun j => 4 - j) 0 [0, 1] (Nat.zero_le _) ?_ ?_
 ·exact aN rfl ⟨rfl, rfl, rfl, trivial⟩ ⟨⟨_, rfl, rfl, rfl, id⟩, ⟨_, rfl, rfl, rfl, id⟩, trivial⟩ rfl
 intro j hj
 have hl := mE s j
 rw [hs] at hl
 refine stS ?_
 refine Br.split (fun h => ?_) (fun h => ?_)
 ·have hj : j < 4 := by have := of_decide_eq_true h; omega
  refine stS ?_
  refine aX Nat (fun r => [(1, .ptr 0 []), (2, .ptr 1 []), (3, .i64 (4 * j : Nat)), (4, .u8 (aKP (aGM s j) (4 * j))), (5, .u8 ((aGM s j).getD (4 * j) 0)), (32, .i64 r)])
   (fun r => [(0, some ⟨t16, .u8s (aGv (aGM s j) (aKP (aGM s j) (4 * j)) (4 * j) r), true⟩), (1, some ⟨t16, .u8s (List.replicate 16 0), true⟩)]) 2
   (fun r => r ≤ 3) (fun r => 3 - r) 0 [0, 1] (Nat.zero_le _) ?_ ?_
  ·exact aN rfl ⟨rfl, rfl, rfl, rfl, rfl, rfl, trivial⟩ ⟨⟨_, rfl, rfl, rfl, id⟩, ⟨_, rfl, rfl, rfl, id⟩, trivial⟩ rfl
  intro r hr
  have hc := mX (aGM s j) (aKP (aGM s j) (4 * j)) (4 * j) r
  rw [hl] at hc
  refine stS ?_
  refine Br.split (fun h => ?_) (fun h => ?_)
  ·have hr : r < 3 := by have := of_decide_eq_true h; omega
   refine stS ?_
   refine bF (iX _) [] rfl rfl trivial rfl rfl ?_
   refine stS ?_
   refine bQ (r + 1) [0, 1] ?_ ?_ ?_
   ·omega
   ·omega
   ·exact aN rfl ⟨rfl, rfl, rfl, rfl, rfl, rfl, trivial⟩ ⟨⟨_, rfl, rfl, rfl, id⟩, ⟨_, rfl, rfl, rfl, id⟩, trivial⟩ rfl
  ·have hr : r = 3 := by have := of_decide_eq_false h; omega
   subst hr
   refine stS ?_
   refine bF (iX _) [] rfl rfl trivial rfl rfl ?_
   refine stS ?_
   refine bQ (j + 1) [0, 1] ?_ ?_ ?_
   ·omega
   ·omega
   ·exact aN rfl ⟨rfl, rfl, rfl, trivial⟩ ⟨⟨_, rfl, rfl, rfl, id⟩, ⟨_, rfl, rfl, rfl, id⟩, trivial⟩ rfl
 ·have hj : j = 4 := by have := of_decide_eq_false h; omega
  refine stS ?_
  refine gC [] ?_ rfl trivial rfl
  refine congrArg D.u8s ?_
  rw [hj]; rfl
set_option maxRecDepth 3000
abbrev t240 : Ty := .arr 240 .cell
abbrev t32 : Ty := .arr 32 .cell
abbrev t4 : Ty := .arr 4 .cell
abbrev t15 : Ty := .arr 15 (.arr 16 .cell)
def p9 (flat : B8) (round : BitVec 8) (n : Nat) : B8 :=
 let w := (flat.drop (28 + 4 * n)).take 4
 if n % 8 = 0 then [f9 (w.getD 1 0) ^^^ round, f9 (w.getD 2 0), f9 (w.getD 3 0), f9 (w.getD 0 0)]
 else if n % 8 = 4 then [f9 (w.getD 0 0), f9 (w.getD 1 0), f9 (w.getD 2 0), f9 (w.getD 3 0)] else w
def aFu (flat : B8) (w : B8) (n : Nat) : Nat → B8
 |0 => flat
 |k + 1 => (aFu flat w n k).set (32 + 4 * n + k) ((aFu flat w n k).getD (4 * n + k) 0 ^^^ w.getD k 0)
def bJ (key : B8) : Nat → B8 × BitVec 8
 |0 => (List.take 0 (List.replicate 240 0) ++ List.take 32 (List.drop 0 key) ++ List.drop (0 + 32) (List.replicate 240 0), 1)
 |n + 1 => (aFu (bJ key n).1 (p9 (bJ key n).1 (bJ key n).2 n) n 4, if n % 8 = 0 then mulF (bJ key n).2 2 else (bJ key n).2)
theorem gD (f w : B8) (n : Nat) : ∀ k, (aFu f w n k).length = f.length
 |0 => rfl
 |k + 1 => by rw [aFu, List.length_set, gD f w n k]
theorem eE (key : B8) (hk : key.length = 32) : ∀ n, (bJ key n).1.length = 240
 |0 => by simp only [bJ, List.length_append, List.length_take, List.length_drop, List.length_replicate, hk]; omega
 |n + 1 => by rw [bJ, gD, eE key hk n]
theorem zG (f : B8) (r : BitVec 8) (n : Nat) (h : 32 + 4 * n ≤ f.length) : (p9 f r n).length = 4 := by
 unfold p9
 simp only []
 split
 ·rfl
 ·split
  ·rfl
  ·rw [List.length_take, List.length_drop]; omega
def aGA (flat : B8) : Nat → List B8
 |0 => List.replicate 15 (List.replicate 16 0)
 |j + 1 => (aGA flat j).set j ((flat.drop (16 * j)).take 16)
theorem gF (flat : B8) : ∀ j, (aGA flat j).length = 15
 |0 => rfl
 |j + 1 => by rw [aGA, List.length_set, gF flat j]
theorem sW (flat : B8) (hf : flat.length = 240) : ∀ j, j ≤ 15 → ∀ k ∈ aGA flat j, k.length = 16
 |0, _, k, h => by
  rw [aGA, List.mem_replicate] at h
  rw [h.2, List.length_replicate]
 |j + 1, hj, k, h => by
  rw [aGA] at h
  rcases List.mem_or_eq_of_mem_set h with h | h
  ·exact sW flat hf j (by omega) k h
  ·rw [h, List.length_take, List.length_drop]; omega
theorem aGV {n : Nat} {ks : List B8} (h : ks.length = n) (h2 : ∀ k ∈ ks, k.length = 16) : aH (.arr n t16) (.node (ks.map .u8s)) := by
 refine ⟨by rw [List.length_map, h], aY.2 fun d hd => ?_⟩
 obtain ⟨k, hk, rfl⟩ := List.mem_map.1 hd
 exact h2 k hk
def bO (key : B8) : List B8 := aGA (bJ key 52).1 15
theorem aCA (key : B8) (hk : key.length = 32) : AC Tryz.prog 108 [.u8s key] 0 [] ⟨.node ((bO key).map .u8s), [], []⟩ := by
 refine cN tab mix Tryz.func108 rfl (by kernel_rfl) (by kernel_rfl) (by kernel_rfl) ⟨[14], []⟩ ?_
 refine stS ?_
 refine EffG.mk (And.intro ?_ ?_)
 ·refine ⟨⟨by decide, ?_⟩, ?_, ?_⟩
  ·show 0 + 32 ≤ key.length ∧ True
   exact ⟨by omega, trivial⟩
  ·show 0 + 32 ≤ (List.replicate 240 0).length ∧ True
   exact ⟨by rw [List.length_replicate]; decide, trivial⟩
  ·show (List.take 32 (List.drop 0 key)).length = 32
   rw [List.length_take, List.length_drop, hk]; rfl
 refine stS ?_
 refine aX Nat (fun n => [(2, .ptr 1 []), (3, .ptr 2 []), (4, .u8 (bJ key n).2), (5, .i64 (32 + 4 * n : Nat))]) (fun n => [(1, some ⟨t15, .node (List.replicate 15 (.u8s (List.replicate 16 0))), true⟩), (2, some ⟨t240, .u8s (bJ key n).1, true⟩)]) 3
  (fun n => n ≤ 52) (fun n => 52 - n) 0 [0, 1, 2] (Nat.zero_le _) ?_ ?_
 ·exact aN rfl ⟨rfl, rfl, rfl, rfl, trivial⟩ ⟨⟨_, rfl, rfl, rfl, id⟩, ⟨_, rfl, rfl, rfl, id⟩, trivial⟩ rfl
 intro n hn
 have hl := eE key hk n
 refine stN ?_
 refine Br.split (fun h => ?_) (fun h => ?_)
 ·have hn : n < 52 := by have := of_decide_eq_true h; omega
  refine stN ?_
  refine u2 Unit (fun _ => [(2, .ptr 1 []), (3, .ptr 2 []), (4, .u8 (bJ key (n + 1)).2), (5, .i64 (32 + 4 * n : Nat)), (6, .ptr 3 [])])
   (fun _ => [(1, some ⟨t15, .node (List.replicate 15 (.u8s (List.replicate 16 0))), true⟩), (2, some ⟨t240, .u8s (bJ key n).1, true⟩), (3, some ⟨t4, .u8s (p9 (bJ key n).1 (bJ key n).2 n), true⟩)]) 4 (fun _ => True) ?_ ?_
  ·refine stN ?_
   have hd : ((((32 + 4 * n : Nat) : Int) - 4)).toNat = 28 + 4 * n := by omega
   refine Br.split (fun h0 => ?_) (fun h0 => ?_)
   ·have h0 : n % 8 = 0 := by have := of_decide_eq_true h0; rw [Int.tmod_eq_emod_of_nonneg (by omega)] at this; omega
    repeat first | refine EffG.mk (And.intro (yP _ boxL eZ) ?_) | refine bF aGl [] rfl rfl trivial rfl rfl ?_ | refine st1 ?_
    refine bF (mul_ac _ _) [] rfl rfl trivial rfl rfl ?_
    refine stN ?_
    refine iR () [0, 1, 2, 3] trivial (aN rfl ⟨rfl, rfl, congrArg (fun x => some (D.u8 x)) (if_pos h0).symm, rfl, rfl, trivial⟩ ⟨⟨_, rfl, rfl, rfl, id⟩, ⟨_, rfl, rfl, rfl, id⟩, ⟨_, rfl, rfl, congrArg D.u8s ?_, id⟩, trivial⟩ rfl)
    rw [p9, if_pos h0]
    simp only [Option.getD_some, hd]
    rfl
   ·have h0 : ¬ n % 8 = 0 := by have := of_decide_eq_false h0; rw [Int.tmod_eq_emod_of_nonneg (by omega)] at this; omega
    refine stN ?_
    refine Br.split (fun h4 => ?_) (fun h4 => ?_)
    ·have h4 : n % 8 = 4 := by have := of_decide_eq_true h4; rw [Int.tmod_eq_emod_of_nonneg (by omega)] at this; omega
     repeat first | refine EffG.mk (And.intro (yP _ boxL eZ) ?_) | refine bF aGl [] rfl rfl trivial rfl rfl ?_ | refine st1 ?_
     refine iR () [0, 1, 2, 3] trivial (aN rfl ⟨rfl, rfl, congrArg (fun x => some (D.u8 x)) (if_neg h0).symm, rfl, rfl, trivial⟩ ⟨⟨_, rfl, rfl, rfl, id⟩, ⟨_, rfl, rfl, rfl, id⟩, ⟨_, rfl, rfl, congrArg D.u8s ?_, id⟩, trivial⟩ rfl)
     rw [p9, if_neg h0, if_pos h4]
     simp only [Option.getD_some, hd]
     rfl
    ·have h4 : ¬ n % 8 = 4 := by have := of_decide_eq_false h4; rw [Int.tmod_eq_emod_of_nonneg (by omega)] at this; omega
     refine iR () [0, 1, 2, 3] trivial (aN rfl ⟨rfl, rfl, congrArg (fun x => some (D.u8 x)) (if_neg h0).symm, rfl, rfl, trivial⟩ ⟨⟨_, rfl, rfl, rfl, id⟩, ⟨_, rfl, rfl, rfl, id⟩, ⟨_, rfl, rfl, congrArg D.u8s ?_, id⟩, trivial⟩ rfl)
     rw [p9, if_neg h0, if_neg h4]
     simp only [Option.getD_some, hd]
  ·intro _ _
   have hw := zG (bJ key n).1 (bJ key n).2 n (by rw [hl]; omega)
   refine stN ?_
   refine aX Nat (fun k => [(2, .ptr 1 []), (3, .ptr 2 []), (4, .u8 (bJ key (n + 1)).2), (5, .i64 (32 + 4 * n : Nat)), (68, .u8s (p9 (bJ key n).1 (bJ key n).2 n)), (69, .i64 k)])
    (fun k => [(1, some ⟨t15, .node (List.replicate 15 (.u8s (List.replicate 16 0))), true⟩), (2, some ⟨t240, .u8s (aFu (bJ key n).1 (p9 (bJ key n).1 (bJ key n).2 n) n k), true⟩)]) 4 (fun k => k ≤ 4) (fun k => 4 - k) 0 [0, 1, 2] (Nat.zero_le _) ?_ ?_
   ·exact aN rfl ⟨rfl, rfl, rfl, rfl, rfl, rfl, trivial⟩ ⟨⟨_, rfl, rfl, rfl, id⟩, ⟨_, rfl, rfl, rfl, id⟩, trivial⟩ rfl
   intro k hk4
   have hp := gD (bJ key n).1 (p9 (bJ key n).1 (bJ key n).2 n) n k
   rw [hl] at hp
   refine stN ?_
   refine Br.split (fun h => ?_) (fun h => ?_)
   ·have hk4 : k < 4 := by have := of_decide_eq_true h; omega
    refine stN ?_
    refine bQ (k + 1) [0, 1, 2] ?_ ?_ ?_
    ·omega
    ·omega
    ·refine aN rfl ⟨rfl, rfl, rfl, rfl, rfl, rfl, trivial⟩ ⟨⟨_, rfl, rfl, rfl, id⟩, ⟨_, rfl, rfl, congrArg D.u8s ?_, id⟩, trivial⟩ rfl
     have e1 : (((32 + 4 * n : Nat) : Int) + (k : Int)).toNat = 32 + 4 * n + k := by omega
     have e2 : (((32 + 4 * n : Nat) : Int) + (k : Int) - 32).toNat = 4 * n + k := by omega
     rw [aFu, ← e1, ← e2]; rfl
   ·have hk4 : k = 4 := by have := of_decide_eq_false h; omega
    refine stN ?_
    refine bQ (n + 1) [0, 1, 2] ?_ ?_ ?_
    ·omega
    ·omega
    ·refine aN rfl ⟨rfl, rfl, rfl, congrArg (fun x => some (D.i64 x)) (by omega), trivial⟩ ⟨⟨_, rfl, rfl, rfl, id⟩, ⟨_, rfl, rfl, congrArg D.u8s ?_, id⟩, trivial⟩ rfl
     rw [hk4]; rfl
 ·have hn : n = 52 := by have := of_decide_eq_false h; omega
  subst hn
  refine stN ?_
  refine aX Nat (fun j => [(2, .ptr 1 []), (3, .ptr 2 []), (9, .ptr 3 []), (86, .i64 j)])
   (fun j => [(1, some ⟨t15, .node (List.replicate 15 (.u8s (List.replicate 16 0))), true⟩), (2, some ⟨t240, .u8s (bJ key 52).1, true⟩), (3, some ⟨t15, .node ((aGA (bJ key 52).1 j).map .u8s), true⟩)]) 4 (fun j => j ≤ 15) (fun j => 15 - j) 0 [0, 1, 2, 3] (Nat.zero_le _) ?_ ?_
  ·exact aN rfl ⟨rfl, rfl, rfl, rfl, trivial⟩ ⟨⟨_, rfl, rfl, rfl, id⟩, ⟨_, rfl, rfl, rfl, id⟩, ⟨_, rfl, rfl, rfl, id⟩, trivial⟩ rfl
  intro j hj
  have ho := gF (bJ key 52).1 j
  refine stN ?_
  refine Br.split (fun h => ?_) (fun h => ?_)
  ·have hj : j < 15 := by have := of_decide_eq_true h; omega
   refine stN ?_
   refine bQ (j + 1) [0, 1, 2, 3] ?_ ?_ ?_
   ·omega
   ·omega
   ·refine aN rfl ⟨rfl, rfl, rfl, rfl, trivial⟩ ⟨⟨_, rfl, rfl, rfl, id⟩, ⟨_, rfl, rfl, rfl, id⟩, ⟨_, rfl, rfl, congrArg D.node ?_, id⟩, trivial⟩ rfl
    rw [aC, aGA, List.map_set]
    have e1 : ((16 * (j : Int))).toNat = 16 * j := by omega
    simp only [Option.getD_some, e1, Int.toNat_natCast]
  ·have hj : j = 15 := by have := of_decide_eq_false h; omega
   refine stN ?_
   refine EffG.mk (And.intro ?_ ?_)
   ·exact ⟨trivial, aGV (gF _ _) (sW _ hl j (by omega))⟩
   refine stN ?_
   refine gC [] ?_ rfl trivial rfl
   refine congrArg D.node ?_
   rw [aC, hj]; rfl
set_option maxRecDepth 3000
abbrev cH (ks : List B8) : D := .node [.node (ks.map .u8s)]
abbrev tC : Ty := .st [t15]
theorem aG (s : Nat → Nat) (ks : List B8) : (cH ks).ren s = cH ks := congrArg (fun l => D.node [D.node l]) (aC s ks)
theorem aFm (s : Nat → Nat) (ks : List B8) : (D.node (ks.map .u8s)).ren s = .node (ks.map .u8s) := congrArg D.node (aC s ks)
theorem i3 (key : B8) : (bO key).length = 15 := gF _ _
theorem lR (key : B8) (hk : key.length = 32) : ∀ k ∈ bO key, k.length = 16 := sW _ (eE key hk 52) 15 (Nat.le_refl _)
theorem aId (key : B8) (hk : key.length = 32) : AC Tryz.prog 72 [.u8s key] 0 [] ⟨.ptr 0 [], [], [(tC, cH (bO key))]⟩ := by
 have hs := aCA key hk
 have h1 := i3 key
 have h2 := lR key hk
 generalize bO key = ks at hs h1 h2 ⊢
 refine cN tab mix Tryz.func72 rfl (by kernel_rfl) (by kernel_rfl) (by kernel_rfl) {} ?_
 refine stN ?_
 refine aBW hs [] (.node (ks.map .u8s)) [] rfl rfl trivial rfl rfl (aFm _ ks) rfl ?_
 refine stN ?_
 refine EffG.mk (And.intro ⟨⟨?_, aGV h1 h2⟩, trivial⟩ ?_)
 ·exact trivial
 refine stN ?_
 refine EffG.mk (And.intro ⟨aGV h1 h2, trivial⟩ ?_)
 refine stN ?_
 refine gC [1] rfl rfl ⟨⟨_, rfl, rfl, (aG _ ks).symm, id⟩, trivial⟩ rfl
def wX (s : B8) : Nat → B8
 |0 => List.replicate 16 0
 |i + 1 => (wX s i).set i (f9 (s.getD ((i + 4 * (i % 4)) % 16) 0))
theorem cO (s : B8) : ∀ i, (wX s i).length = 16
 |0 => rfl
 |i + 1 => by rw [wX, List.length_set, cO s i]
def fS (ks : List B8) (b : B8) : Nat → B8
 |0 => eM b (ks.getD 0 [])
 |n + 1 => eM (if n + 1 < 14 then aGN (wX (fS ks b n) 16) else wX (fS ks b n) 16) (ks.getD (n + 1) [])
theorem aJ (s k : B8) : (eM s k).length = s.length := dX s k 16
theorem gH (s : B8) : (aGN s).length = s.length := mE s 4
section
variable (ks : List B8) (b : B8) (hb : b.length = 16)
include ks b hb
theorem bN : ∀ n, (fS ks b n).length = 16
 |0 => by rw [fS, aJ, hb]
 |n + 1 => by
  rw [fS, aJ]
  split
  ·rw [gH, cO]
  ·rw [cO]
theorem wM (h1 : ks.length = 15) (h2 : ∀ k ∈ ks, k.length = 16) :
  AC Tryz.prog 75 [.ptr 0 [], .u8s b] 1 [(0, some ⟨tC, cH ks, true⟩)] ⟨.u8s (fS ks b 14), [], []⟩ := by
 have hm : (ks.map D.u8s).length = 15 := by rw [List.length_map, h1]
 have hk : ∀ i, i < 15 → (ks.getD i []).length = 16 := fun i hi => h2 _ (oA (by omega))
 refine cN tab mix Tryz.func75 rfl (by kernel_rfl) (by kernel_rfl) (by kernel_rfl) ⟨[15], []⟩ ?_
 have hx := aJ b (ks.getD 0 [])
 rw [hb] at hx
 refine stN ?_
 refine Br.no rfl ?_
 repeat first | (rw [bL (l := ks)]; rotate_left; omega) | refine st1 ?_
 refine bF (aCc b (ks.getD 0 []) hb (hk 0 (by omega))) [] rfl rfl trivial rfl rfl ?_
 refine stN ?_
 refine aX Nat (fun k => [(0, .ptr 0 []), (4, .ptr 2 []), (5, .ptr 3 []), (6, .i64 (k + 1 : Nat))])
  (fun k => [(0, some ⟨tC, cH ks, true⟩), (2, some ⟨t16, .u8s (List.replicate 16 0), true⟩), (3, some ⟨t16, .u8s (fS ks b k), true⟩)]) 4 (fun k => k ≤ 14) (fun k => 14 - k) 0 [0, 1, 2, 3] (Nat.zero_le _) ?_ ?_
 ·exact aN rfl ⟨rfl, rfl, rfl, rfl, trivial⟩ ⟨⟨_, rfl, rfl, (aG _ ks).symm, id⟩, ⟨_, rfl, rfl, rfl, id⟩, ⟨_, rfl, rfl, rfl, id⟩, trivial⟩ rfl
 intro k hk14
 have hl := bN ks b hb k
 refine stN ?_
 refine Br.split (fun h => ?_) (fun h => ?_)
 ·have hk14 : k < 14 := by have := of_decide_eq_true h; omega
  refine stN ?_
  refine aX Nat (fun i => [(0, .ptr 0 []), (4, .ptr 2 []), (5, .ptr 3 []), (6, .i64 (k + 1 : Nat)), (7, .ptr 4 []), (23, .i64 i)])
   (fun i => [(0, some ⟨tC, cH ks, true⟩), (2, some ⟨t16, .u8s (List.replicate 16 0), true⟩), (3, some ⟨t16, .u8s (fS ks b k), true⟩), (4, some ⟨t16, .u8s (wX (fS ks b k) i), true⟩)]) 5 (fun i => i ≤ 16) (fun i => 16 - i) 0 [0, 1, 2, 3, 4] (Nat.zero_le _) ?_ ?_
  ·exact aN rfl ⟨rfl, rfl, rfl, rfl, rfl, rfl, trivial⟩ ⟨⟨_, rfl, rfl, (aG _ ks).symm, id⟩, ⟨_, rfl, rfl, rfl, id⟩, ⟨_, rfl, rfl, rfl, id⟩, ⟨_, rfl, rfl, rfl, id⟩, trivial⟩ rfl
  intro i hi
  have hs := cO (fS ks b k) i
  refine stN ?_
  refine Br.split (fun h => ?_) (fun h => ?_)
  ·have hi : i < 16 := by have := of_decide_eq_true h; omega
   refine stN ?_
   refine bF aGl [] rfl rfl trivial rfl rfl ?_
   have e1 : Int.tmod (i : Int) 4 = ((i % 4 : Nat) : Int) := (Int.ofNat_tmod i 4).symm
   have e2 : Int.tmod ((i : Int) + 4 * ((i % 4 : Nat) : Int)) 16 = (((i + 4 * (i % 4)) % 16 : Nat) : Int) := Int.ofNat_tmod (i + 4 * (i % 4)) 16
   repeat first | rw [e1] | rw [e2] | refine EffG.mk (And.intro (yP _ boxL eZ) ?_) | refine st1 ?_
   refine bQ (i + 1) [0, 1, 2, 3, 4] ?_ ?_ ?_
   ·omega
   ·omega
   ·exact aN rfl ⟨rfl, rfl, rfl, rfl, rfl, rfl, trivial⟩ ⟨⟨_, rfl, rfl, (aG _ ks).symm, id⟩, ⟨_, rfl, rfl, rfl, id⟩, ⟨_, rfl, rfl, rfl, id⟩, ⟨_, rfl, rfl, rfl, id⟩, trivial⟩ rfl
  ·have hi : i = 16 := by have := of_decide_eq_false h; omega
   subst hi
   refine stN ?_
   have hmx := gH (wX (fS ks b k) 16)
   rw [hs] at hmx
   refine u2 Unit (fun _ => [(0, .ptr 0 []), (4, .ptr 2 []), (5, .ptr 3 []), (6, .i64 (k + 1 : Nat)), (7, .ptr 4 [])])
    (fun _ => [(0, some ⟨tC, cH ks, true⟩), (2, some ⟨t16, .u8s (List.replicate 16 0), true⟩), (3, some ⟨t16, .u8s (fS ks b k), true⟩), (4, some ⟨t16, .u8s (if k + 1 < 14 then aGN (wX (fS ks b k) 16) else wX (fS ks b k) 16), true⟩)]) 5 (fun _ => True) ?_ ?_
   ·refine stN ?_
    refine Br.split (fun h => ?_) (fun h => ?_)
    ·have h : k + 1 < 14 := by have := of_decide_eq_true h; omega
     refine stN ?_
     refine bF (aDX _ hs) [] rfl rfl trivial rfl rfl ?_
     refine stN ?_
     refine iR () [0, 1, 2, 3, 4] trivial ?_
     exact aN rfl ⟨rfl, rfl, rfl, rfl, rfl, trivial⟩ ⟨⟨_, rfl, rfl, (aG _ ks).symm, id⟩, ⟨_, rfl, rfl, rfl, id⟩, ⟨_, rfl, rfl, rfl, id⟩, ⟨_, rfl, rfl, congrArg D.u8s (if_pos h).symm, id⟩, trivial⟩ rfl
    ·have h : ¬ k + 1 < 14 := by have := of_decide_eq_false h; omega
     refine iR () [0, 1, 2, 3, 4] trivial ?_
     exact aN rfl ⟨rfl, rfl, rfl, rfl, rfl, trivial⟩ ⟨⟨_, rfl, rfl, (aG _ ks).symm, id⟩, ⟨_, rfl, rfl, rfl, id⟩, ⟨_, rfl, rfl, rfl, id⟩, ⟨_, rfl, rfl, congrArg D.u8s (if_neg h).symm, id⟩, trivial⟩ rfl
   intro _ _
   have ht : (if k + 1 < 14 then aGN (wX (fS ks b k) 16) else wX (fS ks b k) 16).length = 16 := by
    split
    ·exact hmx
    ·exact hs
   have hx2 := aJ (if k + 1 < 14 then aGN (wX (fS ks b k) 16) else wX (fS ks b k) 16) (ks.getD (k + 1) [])
   rw [ht] at hx2
   repeat first | (rw [bL (l := ks)]; rotate_left; omega) | rw [Int.toNat_natCast (k + 1)] | refine st1 ?_
   refine bF (aCc _ (ks.getD (k + 1) []) ht (hk (k + 1) (by omega))) [] rfl rfl trivial rfl rfl ?_
   refine stN ?_
   refine bQ (k + 1) [0, 1, 2, 3] ?_ ?_ ?_
   ·omega
   ·omega
   ·exact aN rfl ⟨rfl, rfl, rfl, rfl, trivial⟩ ⟨⟨_, rfl, rfl, (aG _ ks).symm, id⟩, ⟨_, rfl, rfl, rfl, id⟩, ⟨_, rfl, rfl, rfl, id⟩, trivial⟩ rfl
 ·have hk14 : k = 14 := by have := of_decide_eq_false h; omega
  refine stN ?_
  refine gC [0] ?_ rfl ⟨⟨_, rfl, rfl, (aG _ ks).symm, id⟩, trivial⟩ rfl
  refine congrArg D.u8s ?_
  rw [hk14]
end
set_option maxRecDepth 3000
def hmF (key m : B8) : B8 := dI (opF key ++ dI (ipF key ++ m))
theorem wA (key m : B8) : (hmF key m).length = 32 := bI _
theorem ip0 {N : B8} (h : N.length = 64) : (N.drop 64).take (N.length % 64) = reF N := by rw [reF, h, List.drop_of_length_le (by omega)]; rfl
theorem aJm (ks ss us : B8) (p k q l r n : Nat) (c d f : Option Nat) (ha : p + k ≤ ks.length) (hb : q + l ≤ ss.length) (hc : r + n ≤ us.length) (hk : k ≤ 64) (hl0 : 0 < l) (hl : l ≤ 35184372088832) (hn0 : 0 < n) (hn : n ≤ 35184372088832) :
  AC Tryz.prog 73 [.slice 0 [] p k c, .slice 1 [] 0 2 (some 2)] 4 [(0, some ⟨.row .cell, .u8s ks, false⟩), (1, some ⟨.row .cell, .node [.slice 2 [] q l d, .slice 3 [] r n f], true⟩), (2, some ⟨.row .cell, .u8s ss, false⟩), (3, some ⟨.row .cell, .u8s us, false⟩), gR]
   ⟨.u8s (hmF ((ks.drop p).take k) ((ss.drop q).take l ++ (us.drop r).take n)), [], []⟩ := by
 have hkl : ((ks.drop p).take k).length = k := by rw [List.length_take, List.length_drop]; omega
 have hbl : ((ss.drop q).take l).length = l := by rw [List.length_take, List.length_drop]; omega
 have hul : ((us.drop r).take n).length = n := by rw [List.length_take, List.length_drop]; omega
 have hn := aG0 ks p k c ha hk
 have e : hmF ((ks.drop p).take k) ((ss.drop q).take l ++ (us.drop r).take n) = dI (opF ((ks.drop p).take k) ++ dI (ipF ((ks.drop p).take k) ++ ((ss.drop q).take l ++ (us.drop r).take n))) := rfl
 rw [← List.append_assoc] at e
 have hO := kW ((ks.drop p).take k)
 have hN := kZ (key := (ks.drop p).take k) (by omega)
 generalize hmF ((ks.drop p).take k) ((ss.drop q).take l ++ (us.drop r).take n) = y at e ⊢
 generalize opF ((ks.drop p).take k) = O at hn e hO
 generalize ipF ((ks.drop p).take k) = N at hn e hN
 have hw := gI O N N ss 64 q l d (ip0 hN) (by rw [hN]; decide) hb hl0 hl (by omega)
 have hr := eT N ((ss.drop q).take l) hbl
 have hm := eS N ((ss.drop q).take l) hbl
 rw [hN] at hr hm
 generalize (ss.drop q).take l = b at hw hr hm e hbl
 have hNl : (N ++ b).length = 64 + l := by rw [List.length_append, hN, hbl]
 have hw2 := gI O (N ++ b) (reF N ++ b) us (64 * ((64 % 64 + l) / 64)) r n f (by rw [hNl]; exact hr) (by rw [hNl]; exact hm) hc hn0 (by omega) (by omega)
 have hr2 := eT (N ++ b) ((us.drop r).take n) hul
 have hm2 := eS (N ++ b) ((us.drop r).take n) hul
 rw [hNl] at hr2 hm2
 generalize (us.drop r).take n = u at hw2 hr2 hm2 e hul
 have hNl2 : (N ++ b ++ u).length = 64 + l + n := by rw [List.length_append, hNl, hul]
 have hs := aAd O (N ++ b ++ u) (reF (N ++ b) ++ u) (64 * (((64 + l) % 64 + n) / 64)) (by rw [hNl2]; exact hr2) (by rw [hNl2]; exact hm2) (by omega) hO
 rw [← e, hNl2] at hs
 rw [hNl] at hw2
 rw [hN] at hw
 have hy : y.length = 32 := by rw [e]; exact bI _
 refine acA tab mix Tryz.func73 ⟨[], [3]⟩ ?_
 refine go ?_
 refine bG hn [0] ?_
 refine oI 3 ?_
 refine gob ?_
 refine aA hw [5, 6, 2, 7] ?_
 refine aA hw2 [5, 6, 3, 8] ?_
 refine bG hs [5, 6, 9] ?_
 refine aI [0, 1, 2, 3]
def apI (a b : B8) : Nat → BitVec 8
 |0 => 0
 |i + 1 => apI a b i ||| (a.getD i 0 ^^^ b.getD i 0)
theorem or_zero {x y : BitVec 8} : x ||| y = 0 ↔ x = 0 ∧ y = 0 := by
 refine ⟨fun h => ⟨?_, ?_⟩, fun ⟨h, h'⟩ => by rw [h, h']; rfl⟩
 ·refine BitVec.eq_of_getLsbD_eq fun i _ => ?_
  have := congrArg (fun z => BitVec.getLsbD z i) h
  simp only [BitVec.getLsbD_or] at this
  revert this; cases x.getLsbD i <;> simp
 ·refine BitVec.eq_of_getLsbD_eq fun i _ => ?_
  have := congrArg (fun z => BitVec.getLsbD z i) h
  simp only [BitVec.getLsbD_or] at this
  revert this; cases y.getLsbD i <;> simp
theorem xor_zero {x y : BitVec 8} : x ^^^ y = 0 ↔ x = y := by
 refine ⟨fun h => ?_, fun h => by rw [h, BitVec.xor_self]; rfl⟩
 refine BitVec.eq_of_getLsbD_eq fun i _ => ?_
 have := congrArg (fun z => BitVec.getLsbD z i) h
 simp only [BitVec.getLsbD_xor] at this
 revert this; cases x.getLsbD i <;> cases y.getLsbD i <;> simp
theorem yT (a b : B8) : ∀ n, apI a b n = 0 ↔ ∀ i, i < n → a.getD i 0 = b.getD i 0
 |0 => ⟨fun _ i h => absurd h (Nat.not_lt_zero i), fun _ => rfl⟩
 |n + 1 => by
  rw [apI, or_zero, yT a b n, xor_zero]
  refine ⟨fun ⟨h1, h2⟩ i hi => ?_, fun h => ⟨fun i hi => h i (by omega), h n (by omega)⟩⟩
  rcases Nat.lt_or_ge i n with h | h
  ·exact h1 i h
  ·obtain rfl : i = n := by omega
   exact h2
theorem yG {a b : B8} (hl : a.length = b.length) (h : ∀ i, i < a.length → a.getD i 0 = b.getD i 0) : a = b := by
 refine List.ext_getElem hl fun i h1 h2 => ?_
 have := h i h1
 simpa [List.getD_eq_getElem?_getD, List.getElem?_eq_getElem h1, List.getElem?_eq_getElem h2] using this
theorem lC (ss us : B8) (n : Nat) (c d : Option Nat) (hs : ss.length = n) (hu : us.length = n) (hn : n ≤ 1000000) :
  AC Tryz.prog 83 [.slice 0 [] 0 n c, .slice 1 [] 0 n d] 2 [(0, some ⟨.row .cell, .u8s ss, false⟩), (1, some ⟨.row .cell, .u8s us, false⟩)] ⟨.bool (decide (ss = us)), [], []⟩ := by
 have hE : decide (ss = us) = decide (apI ss us n = 0) := by
  refine decide_eq_decide.2 ⟨fun h => (yT ss us n).2 fun i _ => by rw [h], fun h => yG (by omega) fun i hi => (yT ss us n).1 h i (by omega)⟩
 rw [hE]
 refine acA tab mix Tryz.func83 {} ?_
 refine go ?_
 refine Br.no (by simp) ?_
 refine go ?_
 refine aX Nat (fun i => [(0, .slice 0 [] 0 n c), (1, .slice 1 [] 0 n d), (5, .u8 (apI ss us i)), (13, .i64 n), (14, .i64 i)]) (fun i => [(0, some ⟨.row .cell, .u8s ss, false⟩), (1, some ⟨.row .cell, .u8s us, false⟩)]) 2 (fun i => i ≤ n) (fun i => n - i) 0 [0, 1] (Nat.zero_le _) aK ?_
 intro i hi
 refine go ?_
 refine Br.split (fun h => ?_) (fun h => ?_)
 ·have hi : i < n := by have := of_decide_eq_true h; omega
  refine go ?_
  refine bB (i + 1) [0, 1] aK
 ·obtain rfl : i = n := by have := of_decide_eq_false h; omega
  refine go ?_
  refine aI [0, 1]
def aA5 : B8 := [114, 101, 108, 105, 113, 117, 97, 114, 121, 32]
def fH (key l : B8) : B8 := hmF key (aA5 ++ l)
theorem aW (key l : B8) : (fH key l).length = 32 := wA _ _
theorem kY (key l : B8) (hk : key.length = 32) (h0 : 0 < l.length) (hl : l.length ≤ 100) : AC Tryz.prog 33 [.u8s key, .str l] 0 [gR] ⟨.u8s (fH key l), [], []⟩ := by
 have ho := aJm key aA5 l 0 32 0 10 0 l.length (some 32) (some 10) none (by omega) (by decide) (by omega) (by decide) (by decide) (by decide) h0 (by omega)
 have e : fH key l = hmF key (aA5 ++ l) := rfl
 rw [List.drop_zero, List.drop_zero, List.drop_zero, List.take_of_length_le (by omega), List.take_of_length_le (by decide), List.take_of_length_le (Nat.le_refl _), ← e] at ho
 have hy := aW key l
 generalize fH key l = y at ho hy ⊢
 refine acA tab mix Tryz.func33 {} ?_
 refine go ?_
 refine bG (ho.arr 0 32) [0, 4, 2, 3] ?_
 refine aI []
set_option maxRecDepth 3000
set_option maxRecDepth 3000
set_option maxRecDepth 3000
instance (ks : List B8) : Pure (cH ks) := ⟨fun s => aG s ks⟩
set_option maxRecDepth 3000
structure Slot where
 used : Bool
 turns : BitVec 16
 salt : B8
 sealed : B8
 check : B8
abbrev aBw (s : Slot) : D := .node [.bool s.used, .u16 s.turns, .u8s s.salt, .u8s s.sealed, .u8s s.check]
abbrev aIu : Ty := .st [.cell, .cell, .arr 16 .cell, .arr 32 .cell, .arr 32 .cell]
abbrev tTab : Ty := .arr 8 aIu
structure Slot.ok (s : Slot) : Prop where
 salt : s.salt.length = 16
 sealed : s.sealed.length = 32
 check : s.check.length = 32
def slot0 : Slot := ⟨false, 0, List.replicate 16 0, List.replicate 32 0, List.replicate 32 0⟩
structure TabS (l : List Slot) : Prop where
 len : l.length = 8
 ok : ∀ s ∈ l, s.ok
theorem TabS.at {l : List Slot} (h : TabS l) {i : Nat} (hi : i < 8) : (l.getD i slot0).ok := h.ok _ (oA (by rw [h.len]; exact hi))
theorem aIz {s : Slot} (h : s.ok) : aH aIu (aBw s) := ⟨rfl, rfl, h.salt, h.sealed, h.check, trivial⟩
abbrev tabD (l : List Slot) : D := .node (l.map aBw)
theorem aCi : ∀ {l : List Slot}, (∀ s ∈ l, s.ok) → gV (aH aIu) (l.map aBw)
 |[], _ => trivial
 |s :: l, h => ⟨aIz (h s (by simp)), aCi fun x hx => h x (by simp [hx])⟩
theorem TabS.ty {l : List Slot} (h : TabS l) : aH tTab (tabD l) := ⟨by rw [List.length_map, h.len], aCi h.ok⟩
theorem aAM (s : Nat → Nat) : ∀ l : List Slot, D.rens s (l.map aBw) = l.map aBw
 |[] => rfl
 |a :: l => congrArg (aBw a :: ·) (aAM s l)
instance (l : List Slot) : Pure (tabD l) := ⟨fun s => congrArg D.node (aAM s l)⟩
instance (s : Slot) : Pure (aBw s) := ⟨fun _ => rfl⟩
set_option maxRecDepth 3000
set_option maxRecDepth 3000
set_option maxRecDepth 3000
theorem TabS.set {l : List Slot} (h : TabS l) {i : Nat} {s : Slot} (hs : s.ok) : TabS (l.set i s) := ⟨by rw [List.length_set, h.len], fun x hx => by
 rcases List.mem_or_eq_of_mem_set hx with h1 | h1
 ·exact h.ok x h1
 ·rw [h1]; exact hs⟩
set_option maxRecDepth 3000
section
variable (x : BitVec 32) (n : Nat) (h1 : (BitVec.ofInt 64 (-(n : Int)) &&& 31#64).toNat = 32 - n) (h2 : (32#64 - (BitVec.ofInt 64 (-(n : Int)) &&& 31#64)).toNat = n)
include x n h1 h2
theorem rs_eq : x >>> n ||| x <<< (32 - n) = aHW x (-(n : Int)) := by
 rw [aHW, h1, h2, BitVec.or_comm]
theorem uS (h3 : (BitVec.ofNat 64 n).toNat = n) (h4 : (32#64 - BitVec.ofNat 64 n).toNat = 32 - n) :
  AC Tryz.prog 144 [.u32 x, .u64 (BitVec.ofNat 64 n)] 0 [] ⟨.u32 (aHW x (-(n : Int))), [], []⟩ := by
 rw [← rs_eq x n h1 h2]
 have e : x >>> n ||| x <<< (32 - n) = x >>> (BitVec.ofNat 64 n).toNat ||| x <<< (32#64 - BitVec.ofNat 64 n).toNat := by rw [h3, h4]
 rw [e]
 refine acA tab mix Tryz.func144 {} ?_
 refine go ?_
 refine aI []
end
theorem ch_eq (e f g : BitVec 32) : e &&& f ^^^ ~~~e &&& g = e &&& f ||| ~~~e &&& g := by
 refine BitVec.eq_of_getLsbD_eq fun i hi => ?_
 simp only [BitVec.getLsbD_xor, BitVec.getLsbD_and, BitVec.getLsbD_or, BitVec.getLsbD_not, hi, decide_true, Bool.true_and]
 cases e.getLsbD i <;> cases f.getLsbD i <;> cases g.getLsbD i <;> rfl
theorem maj_eq (a b c : BitVec 32) : a &&& b ^^^ a &&& c ^^^ b &&& c = a &&& b ||| c &&& (a ||| b) := by
 refine BitVec.eq_of_getLsbD_eq fun i hi => ?_
 simp only [BitVec.getLsbD_xor, BitVec.getLsbD_and, BitVec.getLsbD_or]
 cases a.getLsbD i <;> cases b.getLsbD i <;> cases c.getLsbD i <;> rfl
theorem aI8 (bs : B8) (o : Nat) : (rdI bs o 4).setWidth 32 = (bs.getD o 0).setWidth 32 <<< 24 ||| (bs.getD (o + 1) 0).setWidth 32 <<< 16 ||| (bs.getD (o + 2) 0).setWidth 32 <<< 8 ||| (bs.getD (o + 3) 0).setWidth 32 := by
 simp only [rdI, Nat.add_zero]
 generalize bs.getD o 0 = a
 generalize bs.getD (o + 1) 0 = b
 generalize bs.getD (o + 2) 0 = c
 generalize bs.getD (o + 3) 0 = d
 refine BitVec.eq_of_getLsbD_eq fun i hi => ?_
 simp only [BitVec.getLsbD_setWidth, BitVec.getLsbD_or, BitVec.getLsbD_shiftLeft, hi, decide_true, Bool.true_and, BitVec.getLsbD_zero, Bool.and_false, Bool.false_or]
 have key : ∀ (x : BitVec 8) (k : Nat), 8 ≤ k → x.getLsbD k = false := fun x k hk => BitVec.getLsbD_of_ge _ _ hk
 rcases Nat.lt_or_ge i 8 with h | h
 ·simp [h, show i < 16 by omega, show i < 24 by omega, show i < 64 by omega]
 rcases Nat.lt_or_ge i 16 with h2 | h2
 ·simp [show ¬ i < 8 by omega, h2, show i < 24 by omega, show i < 64 by omega, key d i h, show i - 8 < 8 by omega, show i - 8 < 64 by omega, show i - 8 < 32 by omega]
 rcases Nat.lt_or_ge i 24 with h3 | h3
 ·simp [show ¬ i < 8 by omega, show ¬ i < 16 by omega, h3, show i < 64 by omega, key d i h, key c (i - 8) (by omega), show ¬ i - 8 < 8 by omega, show i - 8 < 64 by omega, show i - 8 - 8 = i - 16 by omega, show i - 16 < 8 by omega, show i - 16 < 64 by omega, show i - 16 < 32 by omega]
 ·simp [show ¬ i < 8 by omega, show ¬ i < 16 by omega, show ¬ i < 24 by omega, show i < 64 by omega, key d i h, key c (i - 8) (by omega), key b (i - 16) (by omega), show ¬ i - 8 < 8 by omega, show i - 8 < 64 by omega, show i - 8 - 8 = i - 16 by omega, show i - 16 - 8 = i - 24 by omega, show ¬ i - 16 < 8 by omega, show i - 16 < 64 by omega, show i - 24 < 64 by omega, show i - 24 < 32 by omega]
abbrev gK : Nat × Option Ent := (gid 1, some ⟨.arr 64 .cell, .u32s K256, false⟩)
set_option maxHeartbeats 2000000 in
theorem aFs (s : List (BitVec 32)) (bs : B8) (o : Nat) (cap : Option Nat) (hs : s.length = 8) (ho : o + 64 ≤ bs.length) (hl : bs.length < 9223372036854775808) :
  AC Tryz.prog 131 [.u32s s, .slice 0 [] o 64 cap] 1 [(0, some ⟨.row .cell, .u8s bs, false⟩), gK] ⟨.u32s (sbF s bs o), [], []⟩ := by
 have hK := gT
 have e0 : sbF s bs o = aGq s (vI (wI bs o 64) s 64) 8 := rfl
 rw [e0]
 refine acA tab mix Tryz.func131 {} ?_
 refine go ?_
 refine aX Nat (fun t => [(1, .slice 0 [] o 64 cap), (2, .ptr 1 []), (4, .ptr 2 []), (5, .ptr 3 []), (6, .i64 t)]) (fun t => [(0, some ⟨.row .cell, .u8s bs, false⟩), (1, some ⟨t8, .u32s s, true⟩), (2, some ⟨t8, .u32s (List.replicate 8 0), true⟩), (3, some ⟨.arr 64 .cell, .u32s (wI bs o t), true⟩), gK]) 4
  (fun t => t ≤ 16) (fun t => 16 - t) 0 [0, 1, 2, 3] (Nat.zero_le _) aK ?_
 intro t ht
 have hw := fD bs o t
 refine go ?_
 refine Br.split (fun h => ?_) (fun h => ?_)
 ·have ht : t < 16 := by have := of_decide_eq_true h; omega
  have e : wI bs o (t + 1) = (wI bs o t).set t ((rdI bs (o + 4 * t) 4).setWidth 32) := by rw [wI, if_pos ht]
  refine go ?_
  refine bB (t + 1) [0, 1, 2, 3] (aK (h3 := ?_))
  rw [e, aI8]
  refine ⟨⟨_, rfl, rfl, rfl, id⟩, ⟨_, rfl, rfl, rfl, id⟩, ⟨_, rfl, rfl, rfl, id⟩, ⟨_, rfl, rfl, ?_, id⟩, ⟨_, rfl, rfl, rfl, id⟩, trivial⟩
  rw [Nat.add_assoc o (4 * t) 1, Nat.add_assoc o (4 * t) 2, Nat.add_assoc o (4 * t) 3, show 4 * t = (4 * (t : Int)).toNat by omega, show (4 * (t : Int)).toNat + 1 = (4 * (t : Int) + 1).toNat by omega, show (4 * (t : Int)).toNat + 2 = (4 * (t : Int) + 2).toNat by omega, show (4 * (t : Int)).toNat + 3 = (4 * (t : Int) + 3).toNat by omega]
  rfl
 ·obtain rfl : t = 16 := by have := of_decide_eq_false h; omega
  refine go ?_
  refine aX Nat (fun t => [(2, .ptr 1 []), (4, .ptr 2 []), (5, .ptr 3 []), (7, .i64 t)]) (fun t => [(0, some ⟨.row .cell, .u8s bs, false⟩), (1, some ⟨t8, .u32s s, true⟩), (2, some ⟨t8, .u32s (List.replicate 8 0), true⟩), (3, some ⟨.arr 64 .cell, .u32s (wI bs o t), true⟩), gK]) 4
   (fun t => 16 ≤ t ∧ t ≤ 64) (fun t => 64 - t) 16 [0, 1, 2, 3] (by decide) aK ?_
  intro t ht
  have hw := fD bs o t
  refine go ?_
  refine Br.split (fun h => ?_) (fun h => ?_)
  ·have ht2 : t < 64 := by have := of_decide_eq_true h; omega
   have e : wI bs o (t + 1) = (wI bs o t).set t (aEX ((wI bs o t).getD ((t : Int) - 2).toNat 0) 17 19 10 + (wI bs o t).getD ((t : Int) - 7).toNat 0 + aEX ((wI bs o t).getD ((t : Int) - 15).toNat 0) 7 18 3 + (wI bs o t).getD ((t : Int) - 16).toNat 0) := by
    rw [wI, if_neg (by omega)]
   generalize wI bs o t = w at hw e ⊢
   refine go ?_
   refine bG (uS _ 17 (by decide) (by decide) (by decide) (by decide)) [] ?_
   refine bG (uS _ 19 (by decide) (by decide) (by decide) (by decide)) [] ?_
   refine bG (uS _ 7 (by decide) (by decide) (by decide) (by decide)) [] ?_
   refine bG (uS _ 18 (by decide) (by decide) (by decide) (by decide)) [] ?_
   refine bB (t + 1) [0, 1, 2, 3] (aK (h3 := ?_))
   rw [e]
   exact ⟨⟨_, rfl, rfl, rfl, id⟩, ⟨_, rfl, rfl, rfl, id⟩, ⟨_, rfl, rfl, rfl, id⟩, ⟨_, rfl, rfl, rfl, id⟩, ⟨_, rfl, rfl, rfl, id⟩, trivial⟩
  ·obtain rfl : t = 64 := by have := of_decide_eq_false h; omega
   generalize wI bs o 64 = w at hw ⊢
   refine go ?_
   refine aX Nat (fun t => [(2, .ptr 1 []), (4, .ptr 2 []), (5, .ptr 3 []), (10, .ptr 4 []), (11, .i64 t)]) (fun t => [(0, some ⟨.row .cell, .u8s bs, false⟩), (1, some ⟨t8, .u32s s, true⟩), (2, some ⟨t8, .u32s (List.replicate 8 0), true⟩), (3, some ⟨.arr 64 .cell, .u32s w, true⟩),
    (4, some ⟨t8, .u32s (vI w s t), true⟩), gK]) 5 (fun t => t ≤ 64) (fun t => 64 - t) 0 [0, 1, 2, 3, 4] (Nat.zero_le _) aK ?_
   intro t ht
   have hv := rG w s hs t
   refine go ?_
   refine Br.split (fun h => ?_) (fun h => ?_)
   ·have ht : t < 64 := by have := of_decide_eq_true h; omega
    have e : vI w s (t + 1) = vS (vI w s t) (K256.getD t 0) (w.getD t 0) := rfl
    generalize vI w s t = v at hv e ⊢
    obtain ⟨v0, v1, v2, v3, v4, v5, v6, v7, rfl⟩ := aJh hv
    refine go ?_
    refine bG (uS _ 6 (by decide) (by decide) (by decide) (by decide)) [] ?_
    refine bG (uS _ 11 (by decide) (by decide) (by decide) (by decide)) [] ?_
    refine bG (uS _ 25 (by decide) (by decide) (by decide) (by decide)) [] ?_
    refine bG (uS _ 2 (by decide) (by decide) (by decide) (by decide)) [] ?_
    refine bG (uS _ 13 (by decide) (by decide) (by decide) (by decide)) [] ?_
    refine bG (uS _ 22 (by decide) (by decide) (by decide) (by decide)) [] ?_
    refine bB (t + 1) [0, 1, 2, 3, 4] (aK (h3 := ?_))
    rw [e]
    refine ⟨⟨_, rfl, rfl, rfl, id⟩, ⟨_, rfl, rfl, rfl, id⟩, ⟨_, rfl, rfl, rfl, id⟩, ⟨_, rfl, rfl, rfl, id⟩, ⟨_, rfl, rfl, ?_, id⟩, ⟨_, rfl, rfl, rfl, id⟩, trivial⟩
    rw [ch_eq, maj_eq]
    rfl
   ·obtain rfl : t = 64 := by have := of_decide_eq_false h; omega
    generalize vI w s 64 = v at hv ⊢
    refine go ?_
    refine aX Nat (fun i => [(2, .ptr 1 []), (4, .ptr 2 []), (10, .ptr 3 []), (20, .i64 i)]) (fun i => [(0, some ⟨.row .cell, .u8s bs, false⟩), (1, some ⟨t8, .u32s (aGq s v i), true⟩), (2, some ⟨t8, .u32s (List.replicate 8 0), true⟩), (3, some ⟨t8, .u32s v, true⟩), gK]) 4 (fun i => i ≤ 8) (fun i => 8 - i) 0 [0, 1, 2, 4] (Nat.zero_le _) aK ?_
    intro i hi
    have hs2 := i1 s v i
    refine go ?_
    refine Br.split (fun h => ?_) (fun h => ?_)
    ·have hi : i < 8 := by have := of_decide_eq_true h; omega
     refine go ?_
     refine bB (i + 1) [0, 1, 2, 3] aK
    ·obtain rfl : i = 8 := by have := of_decide_eq_false h; omega
     refine go ?_
     refine aI [0]
set_option maxRecDepth 3000
def be8 (n : BitVec 64) : B8 := [(n >>> 56).setWidth 8, (n >>> 48).setWidth 8, (n >>> 40).setWidth 8, (n >>> 32).setWidth 8, (n >>> 24).setWidth 8, (n >>> 16).setWidth 8, (n >>> 8).setWidth 8, (n >>> 0).setWidth 8]
def be4 (n : BitVec 64) : B8 := [(n >>> 24).setWidth 8, (n >>> 16).setWidth 8, (n >>> 8).setWidth 8, (n >>> 0).setWidth 8]
section
variable (n : BitVec 64)
include n
theorem be8_eq : be8 n = nbF n 8 := by
 have h : nbF n 8 = [(n >>> 8 >>> 8 >>> 8 >>> 8 >>> 8 >>> 8 >>> 8).setWidth 8, (n >>> 8 >>> 8 >>> 8 >>> 8 >>> 8 >>> 8).setWidth 8, (n >>> 8 >>> 8 >>> 8 >>> 8 >>> 8).setWidth 8, (n >>> 8 >>> 8 >>> 8 >>> 8).setWidth 8, (n >>> 8 >>> 8 >>> 8).setWidth 8, (n >>> 8 >>> 8).setWidth 8, (n >>> 8).setWidth 8, n.setWidth 8] := rfl
 rw [h, be8]
 simp only [← BitVec.shiftRight_add, BitVec.ushiftRight_zero]
theorem aIp : be4 n = nbF n 4 := by
 have h : nbF n 4 = [(n >>> 8 >>> 8 >>> 8).setWidth 8, (n >>> 8 >>> 8).setWidth 8, (n >>> 8).setWidth 8, n.setWidth 8] := rfl
 rw [h, be4]
 simp only [← BitVec.shiftRight_add, BitVec.ushiftRight_zero]
theorem aHT : AC Tryz.prog 90 [.u64 n, .i64 8] 0 [] ⟨.slice 0 [] 0 8 none, [], [(.row .cell, .u8s (nbF n 8))]⟩ := by
 rw [← be8_eq]
 refine acA tab mix Tryz.func90 ⟨[], [3]⟩ ?_
 refine go ?_
 refine oI 9 ?_
 refine gob ?_
 refine ⟨1, ?_⟩
 refine gob ?_
 refine ⟨0, ?_⟩
 refine gob ?_
 refine ⟨0, ?_⟩
 refine gob ?_
 refine ⟨0, ?_⟩
 refine gob ?_
 refine ⟨0, ?_⟩
 refine gob ?_
 refine ⟨0, ?_⟩
 refine gob ?_
 refine ⟨0, ?_⟩
 refine gob ?_
 refine ⟨0, ?_⟩
 refine gob ?_
 refine aI [15]
theorem fQ : AC Tryz.prog 90 [.u64 n, .i64 4] 0 [] ⟨.slice 0 [] 0 4 none, [], [(.row .cell, .u8s (nbF n 4))]⟩ := by
 rw [← aIp]
 refine acA tab mix Tryz.func90 ⟨[], [3]⟩ ?_
 refine go ?_
 refine oI 5 ?_
 refine gob ?_
 refine ⟨1, ?_⟩
 refine gob ?_
 refine ⟨0, ?_⟩
 refine gob ?_
 refine ⟨0, ?_⟩
 refine gob ?_
 refine ⟨0, ?_⟩
 refine gob ?_
 refine aI [7]
end
def wbI (s : List (BitVec 32)) : Nat → B8
 |0 => List.replicate 32 0
 |i + 1 => (wbI s i).set i ((s.getD (i / 4) 0 >>> (24 - 8 * (i % 4))).setWidth 8)
theorem vB (s : List (BitVec 32)) : ∀ i, (wbI s i).length = 32
 |0 => rfl
 |i + 1 => by rw [wbI, List.length_set, vB s i]
theorem nb4w (x : BitVec 32) : nbF (x.setWidth 64) 4 = [(x >>> 24).setWidth 8, (x >>> 16).setWidth 8, (x >>> 8).setWidth 8, (x >>> 0).setWidth 8] := by
 have key : ∀ k : Nat, (x.setWidth 64 >>> k).setWidth 8 = (x >>> k).setWidth 8 := fun k => by
  refine BitVec.eq_of_getLsbD_eq fun i hi => ?_
  simp only [BitVec.getLsbD_setWidth, BitVec.getLsbD_ushiftRight, hi, decide_true, Bool.true_and]
  rcases Nat.lt_or_ge (k + i) 64 with h | h
  ·simp [h]
  ·rw [BitVec.getLsbD_of_ge x (k + i) (by omega)]; simp
 rw [← aIp, be4, key, key, key, key]
theorem aEz (s : List (BitVec 32)) (hs : s.length = 8) : wbI s 32 = aB6 s 8 := by
 obtain ⟨a, b, c, d, e, f, g, i, rfl⟩ := aJh hs
 simp only [aB6, nb4w]
 kernel_rfl
theorem sl_eq {b a a' l l' : Nat} {c c' : Option Nat} (h1 : a = a') (h2 : l = l') (h3 : c = c') : [D.slice b [] a l c] = [D.slice b [] a' l' c'] := by rw [h1, h2, h3]
theorem aCv (bs : B8) (o k : Nat) (cap : Option Nat) (h : o + k ≤ bs.length) (hk : k ≤ 35184372088832) :
  AC Tryz.prog 101 [.slice 0 [] o k cap] 1 [(0, some ⟨.row .cell, .u8s bs, false⟩), gK] ⟨.u8s (dI ((bs.drop o).take k)), [], []⟩ := by
 have hl : ((bs.drop o).take k).length = k := by rw [List.length_take, List.length_drop]; omega
 have hS : dI ((bs.drop o).take k) = aB6 (fW H0 (qR ((bs.drop o).take k) k) ((qR ((bs.drop o).take k) k).length / 64)) 8 := by unfold dI; rw [hl]
 have hP : qR ((bs.drop o).take k) k = aB5 ((bs.drop o).take k) (zN k) ++ nbF (BitVec.ofInt 64 k * 8) 8 := by rw [qR, hl]
 have hPl := mA ((bs.drop o).take k) k
 rw [hl] at hPl
 have hz := aEt k
 have hz2 : zN k < 64 := Nat.mod_lt _ (by decide)
 refine acA tab mix Tryz.func101 {} ?_
 generalize hc : (bs.drop o).take k = c at *
 have ht : List.take k c = c := List.take_of_length_le (by omega)
 refine go ?_
 refine ⟨0, ?_⟩
 refine go ?_
 refine ⟨0, ?_⟩
 refine go ?_
 refine aX Nat (fun j => [(0, .slice 0 [] o k cap), (2, .ptr 1 []), (3, .slice 2 [] 0 (k + 1 + j) none)]) (fun j => [(0, some ⟨.row .cell, .u8s bs, false⟩), (1, some ⟨.arr 32 .cell, .u8s (List.replicate 32 0), true⟩), (2, some ⟨.row .cell, .u8s (aB5 c j), true⟩), gK]) 3
  (fun j => j ≤ zN k) (fun j => zN k - j) 0 [0, 1, 5] (Nat.zero_le _) (aK (h3 := ?_)) ?_
 ·exact ⟨⟨_, rfl, rfl, rfl, id⟩, ⟨_, rfl, rfl, rfl, id⟩, ⟨_, rfl, rfl, congrArg (fun x => D.u8s (x ++ [128])) (show List.take (0 + k) (List.take k (List.drop o bs)) = c by rw [hc, Nat.zero_add]; exact ht), id⟩, ⟨_, rfl, rfl, rfl, id⟩, trivial⟩
 intro j hj
 have hpl := l9 c j
 rw [hl] at hpl
 have q : Int.tmod ((k + 1 + j : Nat) : Int) 64 = (((k + 1 + j) % 64 : Nat) : Int) := (Int.ofNat_tmod (k + 1 + j) 64).symm
 repeat first | rw [q] | refine go1 ?_
 refine Br.split (fun h => ?_) (fun h => ?_)
 ·have hj : j < zN k := by
   have h1 : ¬ (((k + 1 + j) % 64 : Nat) : Int) = 56 := by simpa only [Bool.not_eq_true', decide_eq_false_iff_not] using h
   rcases Nat.lt_or_ge j (zN k) with h | h
   ·exact h
   ·exfalso; obtain rfl : j = zN k := by omega
    omega
  have e := aA4 c j
  generalize aB5 c j = x at hpl e ⊢
  refine go ?_
  refine ⟨0, ?_⟩
  refine go ?_
  refine bB (j + 1) [0, 1, 4] (aK (h3 := ?_))
  rw [e]
  exact ⟨⟨_, rfl, rfl, rfl, id⟩, ⟨_, rfl, rfl, rfl, id⟩, ⟨_, rfl, rfl, congrArg (fun x => D.u8s (x ++ [0])) (show List.take (k + 1 + j) x = x from List.take_of_length_le (by omega)), id⟩, ⟨_, rfl, rfl, rfl, id⟩, trivial⟩
 ·obtain rfl : j = zN k := by
   have h1 : (((k + 1 + j) % 64 : Nat) : Int) = 56 := by simpa only [Bool.not_eq_false', decide_eq_true_eq] using h
   unfold zN at hj hz ⊢; omega
  refine go ?_
  have hpu := aHT (BitVec.ofInt 64 k * 8)
  rw [BitVec.mul_comm] at hpu
  refine bK hpu [] ?_
  have hpp := aZ (BitVec.ofInt 64 k * 8) 8
  rw [BitVec.mul_comm] at hpp
  refine go ?_
  refine ⟨0, ?_⟩
  refine go ?_
  have hC : List.take (k + 1 + zN k) (aB5 c (zN k)) ++ List.take 8 (nbF (8 * BitVec.ofInt 64 k) 8) = qR c k := by rw [hP, List.take_of_length_le (by omega), List.take_of_length_le (by omega), BitVec.mul_comm]
  have hz3 : (k + 1 + zN k + 8) % 64 = 0 := by omega
  have hL : k + 1 + zN k + 8 < 70368744177664 := by omega
  generalize qR c k = P at hC hPl hS
  rw [show k + 9 + zN k = k + 1 + zN k + 8 by omega] at hPl
  refine aX Nat (fun j => [(2, .ptr 1 []), (3, .slice 2 [] 0 (k + 1 + zN k + 8) none), (4, .ptr 3 []), (5, .i64 (64 * j : Nat))]) (fun j => [(0, some ⟨.row .cell, .u8s bs, false⟩),
   (1, some ⟨.arr 32 .cell, .u8s (List.replicate 32 0), true⟩), (2, some ⟨.row .cell, .u8s P, true⟩), (3, some ⟨t8, .u32s (fW H0 P j), true⟩), gK]) 4
   (fun j => j ≤ P.length / 64) (fun j => P.length / 64 - j) 0 [0, 1, 4, 5] (Nat.zero_le _) (aK (h3 := ?_)) ?_
  ·exact ⟨⟨_, rfl, rfl, rfl, id⟩, ⟨_, rfl, rfl, rfl, id⟩, ⟨_, rfl, rfl, congrArg D.u8s hC, id⟩, ⟨_, rfl, rfl, rfl, id⟩, ⟨_, rfl, rfl, rfl, id⟩, trivial⟩
  generalize k + 1 + zN k + 8 = L at hPl hz3 hL ⊢
  intro j hj
  have hsl := dA H0 P j
  rw [show H0.length = 8 from rfl] at hsl
  refine go ?_
  refine Br.split (fun h => ?_) (fun h => ?_)
  ·have hj : 64 * j + 64 ≤ L := by have := of_decide_eq_true h; omega
   have e : fW H0 P (j + 1) = sbF (fW H0 P j) P (64 * j) := rfl
   have ha := aFs (fW H0 P j) P (64 * j) none hsl (by omega) (by omega)
   have hsb := vN (fW H0 P j) P (64 * j)
   rw [hsl] at hsb
   generalize sbF (fW H0 P j) P (64 * j) = y at e ha hsb
   generalize fW H0 P j = x at hsl ha ⊢
   refine go ?_
   refine bK ha [2] ?_ (hargs := ?_)
   rotate_left
   ·exact congrArg (fun d => D.u32s x :: d) (sl_eq (Nat.zero_add _) (show (((64 * j : Nat) : Int) + 64).toNat - ((64 * j : Nat) : Int).toNat = 64 by omega) rfl)
   refine go ?_
   refine bB (j + 1) [0, 1, 2, 3] (aK (h2 := ?_) (h3 := ?_))
   ·rw [show ((64 * (j + 1) : Nat) : Int) = ((64 * j : Nat) : Int) + 64 by omega]
    exact ⟨rfl, rfl, rfl, rfl, trivial⟩
   ·rw [e]
    exact ⟨⟨_, rfl, rfl, rfl, id⟩, ⟨_, rfl, rfl, rfl, id⟩, ⟨_, rfl, rfl, rfl, id⟩, ⟨_, rfl, rfl, rfl, id⟩, ⟨_, rfl, rfl, rfl, id⟩, trivial⟩
  ·obtain rfl : j = P.length / 64 := by have := of_decide_eq_false h; omega
   rw [hS, ← aEz _ hsl]
   generalize fW H0 P (P.length / 64) = x at hsl ⊢
   refine go ?_
   refine aX Nat (fun i => [(2, .ptr 1 []), (4, .ptr 2 []), (6, .ptr 3 []), (7, .i64 i)]) (fun i => [(0, some ⟨.row .cell, .u8s bs, false⟩), (1, some ⟨.arr 32 .cell, .u8s (List.replicate 32 0), true⟩), (2, some ⟨t8, .u32s x, true⟩),
    (3, some ⟨.arr 32 .cell, .u8s (wbI x i), true⟩), gK]) 4 (fun i => i ≤ 32) (fun i => 32 - i) 0 [0, 1, 3, 4] (Nat.zero_le _) aK ?_
   intro i hi
   have hol := vB x i
   refine go ?_
   refine Br.split (fun h => ?_) (fun h => ?_)
   ·have hi : i < 32 := by have := of_decide_eq_true h; omega
    have e : wbI x (i + 1) = (wbI x i).set i ((x.getD (i / 4) 0 >>> (24 - 8 * (i % 4))).setWidth 8) := rfl
    have q1 : Int.tdiv (i : Int) 4 = ((i / 4 : Nat) : Int) := (Int.ofNat_tdiv i 4).symm
    have q2 : Int.tmod (i : Int) 4 = ((i % 4 : Nat) : Int) := (Int.ofNat_tmod i 4).symm
    have q3 : (BitVec.ofInt 64 (24 - 8 * ((i % 4 : Nat) : Int))).toNat = 24 - 8 * (i % 4) := by
     rw [show 24 - 8 * ((i % 4 : Nat) : Int) = ((24 - 8 * (i % 4) : Nat) : Int) by omega, BitVec.ofInt_natCast, BitVec.toNat_ofNat]; omega
    repeat first | rw [q1] | rw [q2] | rw [q3] | refine go1 ?_
    refine bB (i + 1) [0, 1, 2, 3] aK
   ·obtain rfl : i = 32 := by have := of_decide_eq_false h; omega
    refine go ?_
    refine aI [0]
set_option maxRecDepth 3000
def goR : List (BitVec 32) → (x0 x1 x2 x3 x4 x5 x6 x7 x8 x9 x10 x11 x12 x13 x14 x15 a b c d e f g h : BitVec 32) → List (BitVec 32)
 |[], _, _, _, _, _, _, _, _, _, _, _, _, _, _, _, _, a, b, c, d, e, f, g, h => [a, b, c, d, e, f, g, h]
 |k :: ks, x0, x1, x2, x3, x4, x5, x6, x7, x8, x9, x10, x11, x12, x13, x14, x15, a, b, c, d, e, f, g, h =>
  goR ks x1 x2 x3 x4 x5 x6 x7 x8 x9 x10 x11 x12 x13 x14 x15 (aEX x14 17 19 10 + x9 + aEX x1 7 18 3 + x0)
   (h + rsF e 6 11 25 + (e &&& f ||| ~~~e &&& g) + k + x0 + (rsF a 2 13 22 + (a &&& b ||| c &&& (a ||| b)))) a b c (d + (h + rsF e 6 11 25 + (e &&& f ||| ~~~e &&& g) + k + x0)) e f g
theorem rE (bs : B8) (o t : Nat) : ∀ n, t < n → n ≤ 64 → (wI bs o n).getD t 0 = (wI bs o (t + 1)).getD t 0
 |0, h, _ => absurd h (Nat.not_lt_zero t)
 |n + 1, h, hn => by
  by_cases e : t = n
  ·rw [e]
  ·have hl := fD bs o n
   rw [wI, bW (by omega), if_neg e]
   exact rE bs o t n (by omega) (by omega)
theorem wI_lo (bs : B8) (o t : Nat) (h : t < 16) : (wI bs o 64).getD t 0 = (rdI bs (o + 4 * t) 4).setWidth 32 := by
 have hl := fD bs o t
 rw [rE bs o t 64 (by omega) (Nat.le_refl _), wI, bW (by omega), if_pos rfl, if_pos h]
theorem wI_hi (bs : B8) (o t : Nat) (h : 16 ≤ t) (h2 : t < 64) : (wI bs o 64).getD t 0 =
  aEX ((wI bs o 64).getD (t - 2) 0) 17 19 10 + (wI bs o 64).getD (t - 7) 0 + aEX ((wI bs o 64).getD (t - 15) 0) 7 18 3 + (wI bs o 64).getD (t - 16) 0 := by
 have hl := fD bs o t
 have key : ∀ j, j < t → (wI bs o t).getD j 0 = (wI bs o 64).getD j 0 := fun j hj => by rw [rE bs o j t hj (by omega), rE bs o j 64 (by omega) (Nat.le_refl _)]
 rw [rE bs o t 64 h2 (Nat.le_refl _), wI, bW (by omega), if_pos rfl, if_neg (by omega), show ((t : Int) - 2).toNat = t - 2 by omega, show ((t : Int) - 7).toNat = t - 7 by omega, show ((t : Int) - 15).toNat = t - 15 by omega, show ((t : Int) - 16).toNat = t - 16 by omega,
  key _ (by omega), key _ (by omega), key _ (by omega), key _ (by omega)]
theorem aIj (bs : B8) (o : Nat) (s : List (BitVec 32)) (hs : s.length = 8) : ∀ (n t : Nat) (x0 x1 x2 x3 x4 x5 x6 x7 x8 x9 x10 x11 x12 x13 x14 x15 a b c d e f g h : BitVec 32), t + n = 64 →
  (∀ j, j < 16 → t + j < 64 → [x0, x1, x2, x3, x4, x5, x6, x7, x8, x9, x10, x11, x12, x13, x14, x15].getD j 0 = (wI bs o 64).getD (t + j) 0) → vI (wI bs o 64) s t = [a, b, c, d, e, f, g, h] →
  goR (K256.drop t) x0 x1 x2 x3 x4 x5 x6 x7 x8 x9 x10 x11 x12 x13 x14 x15 a b c d e f g h = vI (wI bs o 64) s 64
 |0, t, x0, x1, x2, x3, x4, x5, x6, x7, x8, x9, x10, x11, x12, x13, x14, x15, a, b, c, d, e, f, g, h, ht, hx, hv => by
  obtain rfl : t = 64 := by omega
  rw [hv]; rfl
 |n + 1, t, x0, x1, x2, x3, x4, x5, x6, x7, x8, x9, x10, x11, x12, x13, x14, x15, a, b, c, d, e, f, g, h, ht, hx, hv => by
  have hk : K256.drop t = K256.getD t 0 :: K256.drop (t + 1) := by
   have hl : t < K256.length := by rw [gT]; omega
   rw [List.getD_eq_getElem?_getD, List.getElem?_eq_getElem hl, Option.getD_some, List.getElem_cons_drop]
  have h0 : x0 = (wI bs o 64).getD t 0 := hx 0 (by decide) (by omega)
  rw [hk, goR]
  refine aIj bs o s hs n (t + 1) _ _ _ _ _ _ _ _ _ _ _ _ _ _ _ _ _ _ _ _ _ _ _ _ (by omega) (fun j hj hj2 => ?_) ?_
  ·by_cases e : j = 15
   ·subst e
    have h1 : x1 = (wI bs o 64).getD (t + 1) 0 := hx 1 (by decide) (by omega)
    have h9 : x9 = (wI bs o 64).getD (t + 9) 0 := hx 9 (by decide) (by omega)
    have h14 : x14 = (wI bs o 64).getD (t + 14) 0 := hx 14 (by decide) (by omega)
    show aEX x14 17 19 10 + x9 + aEX x1 7 18 3 + x0 = _
    rw [wI_hi bs o (t + 1 + 15) (by omega) (by omega), h0, h1, h9, h14]
    rw [show t + 1 + 15 - 2 = t + 14 by omega, show t + 1 + 15 - 7 = t + 9 by omega, show t + 1 + 15 - 15 = t + 1 by omega, show t + 1 + 15 - 16 = t by omega]
   ·have := hx (j + 1) (by omega) (by omega)
    rw [show t + 1 + j = t + (j + 1) by omega, ← this]
    have h15 : j < 15 := by omega
    clear this hx e hj hj2
    match j, h15 with
    |0, _ | 1, _ | 2, _ | 3, _ | 4, _ | 5, _ | 6, _ | 7, _ | 8, _ | 9, _ | 10, _ | 11, _ | 12, _ | 13, _ | 14, _ => rfl
  ·show vS (vI (wI bs o 64) s t) (K256.getD t 0) ((wI bs o 64).getD t 0) = _
   rw [hv, ← h0]; rfl
def addE : List (BitVec 32) → List (BitVec 32) → List (BitVec 32)
 |[a, b, c, d, e, f, g, h], [a', b', c', d', e', f', g', h'] => [a + a', b + b', c + c', d + d', e + e', f + f', g + g', h + h']
 |_, _ => []
def blkE : List (BitVec 32) → List (BitVec 32) → List (BitVec 32)
 |[a, b, c, d, e, f, g, h], [x0, x1, x2, x3, x4, x5, x6, x7, x8, x9, x10, x11, x12, x13, x14, x15] => addE [a, b, c, d, e, f, g, h] (goR K256 x0 x1 x2 x3 x4 x5 x6 x7 x8 x9 x10 x11 x12 x13 x14 x15 a b c d e f g h)
 |_, _ => []
theorem aKQ {s v : List (BitVec 32)} (hs : s.length = 8) (hv : v.length = 8) : aGq s v 8 = addE s v := by
 obtain ⟨a, b, c, d, e, f, g, h, rfl⟩ := aJh hs
 obtain ⟨a', b', c', d', e', f', g', h', rfl⟩ := aJh hv
 rfl
def jO (bs : B8) (p : Nat) : BitVec 32 := (bs.getD p 0).setWidth 32 <<< 24 ||| (bs.getD (p + 1) 0).setWidth 32 <<< 16 ||| (bs.getD (p + 2) 0).setWidth 32 <<< 8 ||| (bs.getD (p + 3) 0).setWidth 32
theorem aHO (s : List (BitVec 32)) (bs : B8) (o : Nat) (hs : s.length = 8) : sbF s bs o = blkE s [jO bs (o + 4 * 0), jO bs (o + 4 * 1), jO bs (o + 4 * 2), jO bs (o + 4 * 3), jO bs (o + 4 * 4), jO bs (o + 4 * 5), jO bs (o + 4 * 6), jO bs (o + 4 * 7), jO bs (o + 4 * 8), jO bs (o + 4 * 9),
  jO bs (o + 4 * 10), jO bs (o + 4 * 11), jO bs (o + 4 * 12), jO bs (o + 4 * 13), jO bs (o + 4 * 14), jO bs (o + 4 * 15)] := by
 have hv := rG (wI bs o 64) s hs 64
 rw [sbF, aKQ hs hv]
 obtain ⟨a, b, c, d, e, f, g, h, rfl⟩ := aJh hs
 rw [blkE, ← aIj bs o _ rfl 64 0 _ _ _ _ _ _ _ _ _ _ _ _ _ _ _ _ a b c d e f g h rfl (fun j hj _ => ?_) rfl, List.drop_zero]
 rw [Nat.zero_add, wI_lo bs o j hj, aI8]
 match j, hj with
 |0, _ | 1, _ | 2, _ | 3, _ | 4, _ | 5, _ | 6, _ | 7, _ | 8, _ | 9, _ | 10, _ | 11, _ | 12, _ | 13, _ | 14, _ | 15, _ => rfl
 |j + 16, h => exact absurd h (by omega)
def m8 : Nat → B8 → List (BitVec 32)
 |n + 1, a :: b :: c :: d :: r => (a.setWidth 32 <<< 24 ||| b.setWidth 32 <<< 16 ||| c.setWidth 32 <<< 8 ||| d.setWidth 32) :: m8 n r
 |_, _ => []
def msgE : Nat → List (BitVec 32) → B8 → List (BitVec 32)
 |0, s, _ => s
 |n + 1, s, m => msgE n (blkE s (m8 16 m)) (m.drop 64)
theorem zF : ∀ (n : Nat) (m : B8) (o : Nat), o + 4 * n ≤ m.length → ∀ j, j < n → (m8 n (m.drop o)).getD j 0 = jO m (o + 4 * j)
 |0, m, o, h, j, hj => absurd hj (Nat.not_lt_zero j)
 |n + 1, m, o, h, j, hj => by
  have key : ∀ p, p < m.length → m.drop p = m.getD p 0 :: m.drop (p + 1) := fun p hp => by
   rw [List.getD_eq_getElem?_getD, List.getElem?_eq_getElem hp, Option.getD_some, List.getElem_cons_drop]
  rw [key o (by omega), key (o + 1) (by omega), key (o + 1 + 1) (by omega), key (o + 1 + 1 + 1) (by omega), m8]
  match j, hj with
  |0, _ => rfl
  |j + 1, hj =>
   show (m8 n (m.drop (o + 1 + 1 + 1 + 1))).getD j 0 = _
   rw [show o + 1 + 1 + 1 + 1 = o + 4 by omega, zF n m (o + 4) (by omega) j (by omega), show o + 4 + 4 * j = o + 4 * (j + 1) by omega]
theorem m7 : ∀ (n : Nat) (m : B8), 4 * n ≤ m.length → (m8 n m).length = n
 |0, m, _ => by cases m <;> rfl
 |n + 1, a :: b :: c :: d :: r, h => by
  rw [m8, List.length_cons, m7 n r (by simp only [List.length_cons] at h; omega)]
 |n + 1, [], h => by simp at h
 |n + 1, [_], h => by simp at h; omega
 |n + 1, [_, _], h => by simp at h; omega
 |n + 1, [_, _, _], h => by simp at h; omega
theorem len16 {α : Type} {l : List α} (h : l.length = 16) : ∃ a b c d e f g i a' b' c' d' e' f' g' i', l = [a, b, c, d, e, f, g, i, a', b', c', d', e', f', g', i'] := by
 match l, h with
 |[a, b, c, d, e, f, g, i, a', b', c', d', e', f', g', i'], _ => exact ⟨a, b, c, d, e, f, g, i, a', b', c', d', e', f', g', i', rfl⟩
theorem aHN (s : List (BitVec 32)) (m : B8) (o : Nat) (hs : s.length = 8) (h : o + 64 ≤ m.length) : sbF s m o = blkE s (m8 16 (m.drop o)) := by
 rw [aHO s m o hs]
 have hl := m7 16 (m.drop o) (by rw [List.length_drop]; omega)
 have hw := zF 16 m o (by omega)
 generalize m8 16 (m.drop o) = w at hl hw
 obtain ⟨a, b, c, d, e, f, g, i, a', b', c', d', e', f', g', i', rfl⟩ := len16 hl
 rw [← hw 0 (by decide), ← hw 1 (by decide), ← hw 2 (by decide), ← hw 3 (by decide), ← hw 4 (by decide), ← hw 5 (by decide), ← hw 6 (by decide), ← hw 7 (by decide), ← hw 8 (by decide), ← hw 9 (by decide), ← hw 10 (by decide), ← hw 11 (by decide), ← hw 12 (by decide), ← hw 13 (by decide), ← hw 14 (by decide), ← hw 15 (by decide)]
 rfl
theorem aGL (s : List (BitVec 32)) (hs : s.length = 8) (m : B8) : ∀ (n j : Nat), 64 * (j + n) ≤ m.length → msgE n (fW s m j) (m.drop (64 * j)) = fW s m (j + n)
 |0, j, _ => rfl
 |n + 1, j, h => by
  rw [msgE, ← aHN _ m (64 * j) (by rw [dA, hs]) (by omega), List.drop_drop]
  have := aGL s hs m n (j + 1) (by omega)
  rw [show 64 * (j + 1) = 64 * j + 64 by omega, fW] at this
  rw [this, show j + 1 + n = j + (n + 1) by omega]
def aJ7 : List (BitVec 32) → B8
 |x :: r => x.setWidth 8 |> fun l => (x >>> 24).setWidth 8 :: (x >>> 16).setWidth 8 :: (x >>> 8).setWidth 8 :: l :: aJ7 r
 |[] => []
theorem aJ6 {s : List (BitVec 32)} (hs : s.length = 8) : aB6 s 8 = aJ7 s := by
 obtain ⟨a, b, c, d, e, f, g, i, rfl⟩ := aJh hs
 rw [← aEz _ rfl]
 have h : ∀ x : BitVec 32, x >>> 0 = x := fun x => BitVec.ushiftRight_zero x
 simp only [aJ7]
 have key : wbI [a, b, c, d, e, f, g, i] 32 = aJ7 [a >>> 0, b >>> 0, c >>> 0, d >>> 0, e >>> 0, f >>> 0, g >>> 0, i >>> 0] := by
  simp only [aJ7, h]
  kernel_rfl
 rw [key]
 simp only [aJ7, h]
def aI2 (m : B8) (n : Nat) : B8 := aJ7 (msgE n H0 (qR m m.length))
theorem w5 (m : B8) (n : Nat) (h : (m.length + 9 + zN m.length) / 64 = n) : dI m = aI2 m n := by
 have hp := mA m m.length
 have := aGL H0 rfl (qR m m.length) n 0 (by rw [hp]; omega)
 rw [Nat.zero_add] at this
 rw [dI, aJ6 (by rw [dA]; rfl), hp, h, ← this]
 rfl
set_option maxRecDepth 3000
set_option maxRecDepth 3000
def uF (s : B8) (c : Nat) : BitVec 8 := aF (aF (s.getD c 0 ^^^ s.getD (c + 2) 0))
def vF (s : B8) (c : Nat) : BitVec 8 := aF (aF (s.getD (c + 1) 0 ^^^ s.getD (c + 3) 0))
def addF (s : B8) (c : Nat) (u : BitVec 8) : B8 := s.set c (s.getD c 0 ^^^ u)
def preF (s : B8) (c : Nat) : B8 := addF (addF (addF (addF s c (uF s c)) (c + 1) (vF s c)) (c + 2) (uF s c)) (c + 3) (vF s c)
def aJ3 (s : B8) : Nat → B8
 |0 => s
 |j + 1 => preF (aJ3 s j) (4 * j)
def pF (s : B8) : B8 := aGN (aJ3 s 4)
theorem jF (s : B8) (c : Nat) (u : BitVec 8) : (addF s c u).length = s.length := List.length_set
theorem aCN (s : B8) (c : Nat) : (preF s c).length = s.length := by rw [preF, jF, jF, jF, jF]
theorem lZ (s : B8) : ∀ j, (aJ3 s j).length = s.length
 |0 => rfl
 |j + 1 => by rw [aJ3, aCN, lZ s j]
theorem m9 (s : B8) : (pF s).length = s.length := by rw [pF, gH, lZ]
theorem aDp (s : B8) (hs : s.length = 16) : AC Tryz.prog 120 [.u8s s] 0 [] ⟨.u8s (pF s), [], []⟩ := by
 refine cN tab mix Tryz.func120 rfl (by kernel_rfl) (by kernel_rfl) (by kernel_rfl) {} ?_
 refine stN ?_
 refine aX Nat (fun j => [(1, .ptr 0 []), (2, .ptr 1 []), (3, .i64 (4 * j : Nat))]) (fun j => [(0, some ⟨t16, .u8s (aJ3 s j), true⟩), (1, some ⟨t16, .u8s (List.replicate 16 0), true⟩)]) 2
  (fun j => j ≤ 4) (fun j => 4 - j) 0 [0, 1] (Nat.zero_le _) ?_ ?_
 ·exact aN rfl ⟨rfl, rfl, rfl, trivial⟩ ⟨⟨_, rfl, rfl, rfl, id⟩, ⟨_, rfl, rfl, rfl, id⟩, trivial⟩ rfl
 intro j hj
 have hl := lZ s j
 rw [hs] at hl
 refine stN ?_
 refine Br.split (fun h => ?_) (fun h => ?_)
 ·have hj : j < 4 := by have := of_decide_eq_true h; omega
  refine stN ?_
  refine bF (iX _) [] rfl rfl trivial rfl rfl ?_
  refine stN ?_
  refine bF (iX _) [] rfl rfl trivial rfl rfl ?_
  refine stN ?_
  refine bF (iX _) [] rfl rfl trivial rfl rfl ?_
  refine stN ?_
  refine bF (iX _) [] rfl rfl trivial rfl rfl ?_
  refine stN ?_
  refine bQ (j + 1) [0, 1] ?_ ?_ ?_
  ·omega
  ·omega
  ·exact aN rfl ⟨rfl, rfl, rfl, trivial⟩ ⟨⟨_, rfl, rfl, rfl, id⟩, ⟨_, rfl, rfl, rfl, id⟩, trivial⟩ rfl
 ·have hj : j = 4 := by have := of_decide_eq_false h; omega
  have hm := gH (aJ3 s j)
  rw [hl] at hm
  refine stN ?_
  refine bF (aDX _ hl) [] rfl rfl trivial rfl rfl ?_
  refine stN ?_
  refine gC [] ?_ rfl trivial rfl
  refine congrArg D.u8s ?_
  rw [hj]; rfl
def uB (s : B8) : Nat → B8
 |0 => List.replicate 16 0
 |i + 1 => (uB s i).set ((i + 4 * (i % 4)) % 16) (rH (s.getD i 0))
theorem d7 (s : B8) : ∀ i, (uB s i).length = 16
 |0 => rfl
 |i + 1 => by rw [uB, List.length_set, d7 s i]
def aIP (ks : List B8) (k : Nat) (s : B8) : B8 := if 14 - k < 14 then pF (eM s (ks.getD (14 - k) [])) else eM s (ks.getD (14 - k) [])
def wN (ks : List B8) (b : B8) : Nat → B8
 |0 => b
 |k + 1 => uB (aIP ks k (wN ks b k)) 16
def iH (ks : List B8) (b : B8) : B8 := eM (wN ks b 14) (ks.getD 0 [])
theorem tS (ks : List B8) (k : Nat) (s : B8) : (aIP ks k s).length = s.length := by
 unfold aIP
 split
 ·rw [m9, aJ]
 ·rw [aJ]
section
variable (ks : List B8) (b : B8) (hb : b.length = 16)
include ks b hb
theorem dC : ∀ k, (wN ks b k).length = 16
 |0 => hb
 |k + 1 => by rw [wN, d7]
theorem aEd (h1 : ks.length = 15) (h2 : ∀ k ∈ ks, k.length = 16) :
  AC Tryz.prog 84 [.ptr 0 [], .u8s b] 1 [(0, some ⟨tC, cH ks, true⟩)] ⟨.u8s (iH ks b), [], []⟩ := by
 have hm : (ks.map D.u8s).length = 15 := by rw [List.length_map, h1]
 have hk : ∀ i, i < 15 → (ks.getD i []).length = 16 := fun i hi => h2 _ (oA (by omega))
 refine cN tab mix Tryz.func84 rfl (by kernel_rfl) (by kernel_rfl) (by kernel_rfl) ⟨[10], []⟩ ?_
 refine stN ?_
 refine Br.no rfl ?_
 refine stN ?_
 refine aX Nat (fun k => [(0, .ptr 0 []), (4, .ptr 2 []), (5, .ptr 3 []), (6, .i64 (14 - k : Nat))])
  (fun k => [(0, some ⟨tC, cH ks, true⟩), (2, some ⟨t16, .u8s (List.replicate 16 0), true⟩), (3, some ⟨t16, .u8s (wN ks b k), true⟩)]) 4 (fun k => k ≤ 14) (fun k => 14 - k) 0 [0, 1, 2, 3] (Nat.zero_le _) ?_ ?_
 ·exact aN rfl ⟨rfl, rfl, rfl, rfl, trivial⟩ ⟨⟨_, rfl, rfl, (aG _ ks).symm, id⟩, ⟨_, rfl, rfl, rfl, id⟩, ⟨_, rfl, rfl, rfl, id⟩, trivial⟩ rfl
 intro k hk14
 have hl := dC ks b hb k
 refine stN ?_
 refine Br.split (fun h => ?_) (fun h => ?_)
 ·have hk14 : k < 14 := by have := of_decide_eq_true h; omega
  have hx := aJ (wN ks b k) (ks.getD (14 - k) [])
  rw [hl] at hx
  repeat first | (rw [bL (l := ks)]; rotate_left; omega) | rw [Int.toNat_natCast (14 - k)] | refine st1 ?_
  refine bF (aCc _ (ks.getD (14 - k) []) hl (hk (14 - k) (by omega))) [] rfl rfl trivial rfl rfl ?_
  refine stN ?_
  refine u2 Unit (fun _ => [(0, .ptr 0 []), (4, .ptr 2 []), (5, .ptr 3 []), (6, .i64 (14 - k : Nat))])
   (fun _ => [(0, some ⟨tC, cH ks, true⟩), (2, some ⟨t16, .u8s (List.replicate 16 0), true⟩), (3, some ⟨t16, .u8s (aIP ks k (wN ks b k)), true⟩)]) 4 (fun _ => True) ?_ ?_
  ·refine stN ?_
   refine Br.split (fun h => ?_) (fun h => ?_)
   ·have h : 14 - k < 14 := by have := of_decide_eq_true h; omega
    have hu := m9 (eM (wN ks b k) (ks.getD (14 - k) []))
    rw [hx] at hu
    refine stN ?_
    refine bF (aDp _ hx) [] rfl rfl trivial rfl rfl ?_
    refine stN ?_
    refine iR () [0, 1, 2, 3] trivial ?_
    exact aN rfl ⟨rfl, rfl, rfl, rfl, trivial⟩ ⟨⟨_, rfl, rfl, (aG _ ks).symm, id⟩, ⟨_, rfl, rfl, rfl, id⟩, ⟨_, rfl, rfl, congrArg D.u8s (if_pos h).symm, id⟩, trivial⟩ rfl
   ·have h : ¬ 14 - k < 14 := by have := of_decide_eq_false h; omega
    refine iR () [0, 1, 2, 3] trivial ?_
    exact aN rfl ⟨rfl, rfl, rfl, rfl, trivial⟩ ⟨⟨_, rfl, rfl, (aG _ ks).symm, id⟩, ⟨_, rfl, rfl, rfl, id⟩, ⟨_, rfl, rfl, congrArg D.u8s (if_neg h).symm, id⟩, trivial⟩ rfl
  intro _ _
  have ht := tS ks k (wN ks b k)
  rw [hl] at ht
  have hc : wN ks b (k + 1) = uB (aIP ks k (wN ks b k)) 16 := rfl
  generalize aIP ks k (wN ks b k) = t at ht hc ⊢
  refine stN ?_
  refine aX Nat (fun i => [(0, .ptr 0 []), (4, .ptr 2 []), (5, .ptr 3 []), (6, .i64 (14 - k : Nat)), (7, .ptr 4 []), (29, .i64 i)])
   (fun i => [(0, some ⟨tC, cH ks, true⟩), (2, some ⟨t16, .u8s (List.replicate 16 0), true⟩), (3, some ⟨t16, .u8s t, true⟩), (4, some ⟨t16, .u8s (uB t i), true⟩)]) 5 (fun i => i ≤ 16) (fun i => 16 - i) 0 [0, 1, 2, 3, 4] (Nat.zero_le _) ?_ ?_
  ·exact aN rfl ⟨rfl, rfl, rfl, rfl, rfl, rfl, trivial⟩ ⟨⟨_, rfl, rfl, (aG _ ks).symm, id⟩, ⟨_, rfl, rfl, rfl, id⟩, ⟨_, rfl, rfl, rfl, id⟩, ⟨_, rfl, rfl, rfl, id⟩, trivial⟩ rfl
  intro i hi
  have hs := d7 t i
  refine stN ?_
  refine Br.split (fun h => ?_) (fun h => ?_)
  ·have hi : i < 16 := by have := of_decide_eq_true h; omega
   have e1 : Int.tmod (i : Int) 4 = ((i % 4 : Nat) : Int) := (Int.ofNat_tmod i 4).symm
   have e2 : Int.tmod ((i : Int) + 4 * ((i % 4 : Nat) : Int)) 16 = (((i + 4 * (i % 4)) % 16 : Nat) : Int) := Int.ofNat_tmod (i + 4 * (i % 4)) 16
   repeat first | rw [e1] | rw [e2] | refine st1 ?_
   refine bF aGy [] rfl rfl trivial rfl rfl ?_
   repeat first | rw [e1] | rw [e2] | refine EffG.mk (And.intro (yP _ unboxL iZ) ?_) | refine st1 ?_
   refine bQ (i + 1) [0, 1, 2, 3, 4] ?_ ?_ ?_
   ·omega
   ·omega
   ·exact aN rfl ⟨rfl, rfl, rfl, rfl, rfl, rfl, trivial⟩ ⟨⟨_, rfl, rfl, (aG _ ks).symm, id⟩, ⟨_, rfl, rfl, rfl, id⟩, ⟨_, rfl, rfl, rfl, id⟩, ⟨_, rfl, rfl, rfl, id⟩, trivial⟩ rfl
  ·have hi : i = 16 := by have := of_decide_eq_false h; omega
   subst hi
   refine stN ?_
   refine bQ (k + 1) [0, 1, 2, 3] ?_ ?_ ?_
   ·omega
   ·omega
   ·exact aN rfl ⟨rfl, rfl, rfl, congrArg (fun x => some (D.i64 x)) (by omega), trivial⟩ ⟨⟨_, rfl, rfl, (aG _ ks).symm, id⟩, ⟨_, rfl, rfl, rfl, id⟩, ⟨_, rfl, rfl, congrArg D.u8s hc.symm, id⟩, trivial⟩ rfl
 ·have hk14 : k = 14 := by have := of_decide_eq_false h; omega
  subst hk14
  have hx := aJ (wN ks b 14) (ks.getD 0 [])
  rw [hl] at hx
  repeat first | (rw [bL (l := ks)]; rotate_left; omega) | refine st1 ?_
  refine bF (aCc _ (ks.getD 0 []) hl (hk 0 (by omega))) [] rfl rfl trivial rfl rfl ?_
  refine stN ?_
  refine gC [0] rfl rfl ⟨⟨_, rfl, rfl, (aG _ ks).symm, id⟩, trivial⟩ rfl
end
set_option maxRecDepth 3000
theorem aIU (b : BitVec 8) : rH (f9 b) = b ∧ f9 (rH b) = b :=
 oE (p := fun b => rH (f9 b) = b ∧ f9 (rH b) = b) (by decide +kernel) b
theorem aD6 (a : BitVec 8) : a &&& 128 = 0 ∨ a &&& 128 = 128 := oE (p := fun a => a &&& 128 = 0 ∨ a &&& 128 = 128) (by decide +kernel) a
theorem cE (a b c : BitVec 8) : a ^^^ (b ^^^ c) = b ^^^ (a ^^^ c) := by rw [← BitVec.xor_assoc, BitVec.xor_comm a b, BitVec.xor_assoc]
theorem cI (a b : BitVec 8) : a ^^^ (a ^^^ b) = b := by rw [← BitVec.xor_assoc, BitVec.xor_self, BitVec.zero_xor]
theorem aKO (a b c : BitVec 8) : (a ^^^ b) &&& c = (a &&& c) ^^^ (b &&& c) := by
 apply BitVec.eq_of_getLsbD_eq
 intro i hi
 simp only [BitVec.getLsbD_and, BitVec.getLsbD_xor]
 cases a.getLsbD i <;> cases b.getLsbD i <;> cases c.getLsbD i <;> rfl
theorem cJ (a b : BitVec 8) : aF (a ^^^ b) = aF a ^^^ aF b := by
 unfold aF
 have e : (a ^^^ b) &&& 128 = (a &&& 128) ^^^ (b &&& 128) := aKO a b 128
 rw [e, BitVec.shiftLeft_xor_distrib]
 rcases aD6 a with ha | ha <;> rcases aD6 b with hb | hb <;> rw [ha, hb]
 ·simp
 ·simp [BitVec.xor_assoc]
 ·simp only [BitVec.xor_assoc, BitVec.xor_comm, cE, if_true]; simp [BitVec.xor_assoc, BitVec.xor_comm, cE]
 ·simp [BitVec.xor_assoc, BitVec.xor_comm, cE, cI]
theorem aD1 {α : Type} (l : List α) (h : l.length = 16) : ∃ a0 a1 a2 a3 a4 a5 a6 a7 a8 a9 a10 a11 a12 a13 a14 a15, l = [a0, a1, a2, a3, a4, a5, a6, a7, a8, a9, a10, a11, a12, a13, a14, a15] := by
 match l, h with
 |[a0, a1, a2, a3, a4, a5, a6, a7, a8, a9, a10, a11, a12, a13, a14, a15], _ => exact ⟨a0, a1, a2, a3, a4, a5, a6, a7, a8, a9, a10, a11, a12, a13, a14, a15, rfl⟩
def mcF (f : BitVec 8 → BitVec 8) (a b c d : BitVec 8) : B8 :=
 [a ^^^ (a ^^^ b ^^^ c ^^^ d ^^^ f (a ^^^ b)), b ^^^ (a ^^^ b ^^^ c ^^^ d ^^^ f (b ^^^ c)), c ^^^ (a ^^^ b ^^^ c ^^^ d ^^^ f (c ^^^ d)), d ^^^ (a ^^^ b ^^^ c ^^^ d ^^^ f (d ^^^ a))]
def pcF (f : BitVec 8 → BitVec 8) (a b c d : BitVec 8) : B8 :=
 [a ^^^ f (f (a ^^^ c)), b ^^^ f (f (b ^^^ d)), c ^^^ f (f (a ^^^ c)), d ^^^ f (f (b ^^^ d))]
theorem nR (a0 a1 a2 a3 a4 a5 a6 a7 a8 a9 a10 a11 a12 a13 a14 a15 : BitVec 8) : aGN [a0, a1, a2, a3, a4, a5, a6, a7, a8, a9, a10, a11, a12, a13, a14, a15] =
  mcF aF a0 a1 a2 a3 ++ mcF aF a4 a5 a6 a7 ++ mcF aF a8 a9 a10 a11 ++ mcF aF a12 a13 a14 a15 := by
 kernel_rfl
theorem aA2 (a0 a1 a2 a3 a4 a5 a6 a7 a8 a9 a10 a11 a12 a13 a14 a15 : BitVec 8) : aJ3 [a0, a1, a2, a3, a4, a5, a6, a7, a8, a9, a10, a11, a12, a13, a14, a15] 4 =
  pcF aF a0 a1 a2 a3 ++ pcF aF a4 a5 a6 a7 ++ pcF aF a8 a9 a10 a11 ++ pcF aF a12 a13 a14 a15 := by
 kernel_rfl
def ap4 (g : BitVec 8 → BitVec 8 → BitVec 8 → BitVec 8 → B8) : B8 → B8
 |[a, b, c, d] => g a b c d
 |_ => []
theorem aJg {a b c d a' b' c' d' : BitVec 8} (h0 : a = a') (h1 : b = b') (h2 : c = c') (h3 : d = d') : [a, b, c, d] = [a', b', c', d'] := by rw [h0, h1, h2, h3]
section
variable (f : BitVec 8 → BitVec 8) (hf : ∀ x y, f (x ^^^ y) = f x ^^^ f y) (a b c d : BitVec 8)
include f hf a b c d
theorem xS (m0 m1 m2 m3 : BitVec 8) (h0 : m0 = b ^^^ (c ^^^ (d ^^^ (f a ^^^ f b)))) (h1 : m1 = a ^^^ (c ^^^ (d ^^^ (f b ^^^ f c)))) (h2 : m2 = a ^^^ (b ^^^ (d ^^^ (f c ^^^ f d)))) (h3 : m3 = a ^^^ (b ^^^ (c ^^^ (f d ^^^ f a)))) : m0 ^^^ (m0 ^^^ m1 ^^^ m2 ^^^ m3 ^^^ f (m0 ^^^ m1)) = a ^^^ f (f (a ^^^ c)) := by
 have e1 : m0 ^^^ m1 = a ^^^ (b ^^^ (f a ^^^ f c)) := by
  rw [h0, h1]
  simp only [BitVec.xor_assoc, BitVec.xor_comm, cE, cI]
 have e2 : m0 ^^^ (m0 ^^^ m1 ^^^ m2 ^^^ m3 ^^^ f (m0 ^^^ m1)) = m1 ^^^ (m2 ^^^ (m3 ^^^ f (m0 ^^^ m1))) := by
  simp only [BitVec.xor_assoc, cI]
 rw [e2, e1, hf a, hf b, hf (f a), hf a c, hf (f a), h1, h2, h3]
 simp only [BitVec.xor_assoc, BitVec.xor_comm, cE, cI, BitVec.xor_self, BitVec.xor_zero]
theorem aJf : ap4 (mcF f) (mcF f a b c d) = pcF f a b c d := by
 have l0 : a ^^^ (a ^^^ b ^^^ c ^^^ d ^^^ f (a ^^^ b)) = b ^^^ (c ^^^ (d ^^^ (f a ^^^ f b))) := by
  rw [hf]; simp only [BitVec.xor_assoc, BitVec.xor_comm, cE, cI]
 have l1 : b ^^^ (a ^^^ b ^^^ c ^^^ d ^^^ f (b ^^^ c)) = a ^^^ (c ^^^ (d ^^^ (f b ^^^ f c))) := by
  rw [hf]; simp only [BitVec.xor_assoc, BitVec.xor_comm, cE, cI]
 have l2 : c ^^^ (a ^^^ b ^^^ c ^^^ d ^^^ f (c ^^^ d)) = a ^^^ (b ^^^ (d ^^^ (f c ^^^ f d))) := by
  rw [hf]; simp only [BitVec.xor_assoc, BitVec.xor_comm, cE, cI]
 have l3 : d ^^^ (a ^^^ b ^^^ c ^^^ d ^^^ f (d ^^^ a)) = a ^^^ (b ^^^ (c ^^^ (f d ^^^ f a))) := by
  rw [hf]; simp only [BitVec.xor_assoc, BitVec.xor_comm, cE, cI]
 show mcF f _ _ _ _ = _
 revert l0 l1 l2 l3
 generalize a ^^^ (a ^^^ b ^^^ c ^^^ d ^^^ f (a ^^^ b)) = m0
 generalize b ^^^ (a ^^^ b ^^^ c ^^^ d ^^^ f (b ^^^ c)) = m1
 generalize c ^^^ (a ^^^ b ^^^ c ^^^ d ^^^ f (c ^^^ d)) = m2
 generalize d ^^^ (a ^^^ b ^^^ c ^^^ d ^^^ f (d ^^^ a)) = m3
 intro l0 l1 l2 l3
 have ac : ∀ x y z w : BitVec 8, x ^^^ (y ^^^ (z ^^^ w)) = y ^^^ (z ^^^ (x ^^^ w)) := fun x y z w => by simp only [BitVec.xor_comm, cE]
 have r1 : m0 ^^^ m1 ^^^ m2 ^^^ m3 = m1 ^^^ m2 ^^^ m3 ^^^ m0 := by simp only [BitVec.xor_assoc, BitVec.xor_comm, cE]
 have r2 : m0 ^^^ m1 ^^^ m2 ^^^ m3 = m2 ^^^ m3 ^^^ m0 ^^^ m1 := by simp only [BitVec.xor_assoc, BitVec.xor_comm, cE]
 have r3 : m0 ^^^ m1 ^^^ m2 ^^^ m3 = m3 ^^^ m0 ^^^ m1 ^^^ m2 := by simp only [BitVec.xor_assoc, BitVec.xor_comm, cE]
 refine aJg ?_ ?_ ?_ ?_
 ·exact xS f hf a b c d m0 m1 m2 m3 l0 l1 l2 l3
 ·rw [r1]
  exact xS f hf b c d a m1 m2 m3 m0 (by rw [l1]; simp only [BitVec.xor_comm, cE]) (by rw [l2]; simp only [BitVec.xor_comm, cE]) (by rw [l3]; simp only [BitVec.xor_comm, cE]) (by rw [l0])
 ·rw [r2, BitVec.xor_comm a c]
  exact xS f hf c d a b m2 m3 m0 m1 (by rw [l2]; simp only [BitVec.xor_comm, cE]) (by rw [l3]; simp only [BitVec.xor_comm, cE]) (by rw [l0]; simp only [BitVec.xor_comm, cE]) (by rw [l1]; simp only [BitVec.xor_comm, cE])
 ·rw [r3, BitVec.xor_comm b d]
  exact xS f hf d a b c m3 m0 m1 m2 (by rw [l3]) (by rw [l0]; simp only [BitVec.xor_comm, cE]) (by rw [l1]; simp only [BitVec.xor_comm, cE]) (by rw [l2]; simp only [BitVec.xor_comm, cE])
theorem pc_pc : ap4 (pcF f) (pcF f a b c d) = [a, b, c, d] := by
 have e : ∀ x y z : BitVec 8, (x ^^^ z) ^^^ (y ^^^ z) = x ^^^ y := fun x y z => by simp only [BitVec.xor_assoc, BitVec.xor_comm, cE, BitVec.xor_self, BitVec.xor_zero]
 have r : ∀ x y : BitVec 8, (x ^^^ y) ^^^ y = x := fun x y => by simp only [BitVec.xor_assoc, BitVec.xor_self, BitVec.xor_zero]
 show pcF f _ _ _ _ = _
 unfold pcF
 rw [e, e, r, r, r, r]
end
theorem aIX {g h : BitVec 8 → BitVec 8 → BitVec 8 → BitVec 8 → B8} {l : B8} (hl : l.length = 4) (e : ∀ a b c d, g a b c d = h a b c d) : ap4 g l = ap4 h l := by
 match l, hl with
 |[a, b, c, d], _ => exact e a b c d
theorem rA (f : BitVec 8 → BitVec 8) (hf : ∀ x y, f (x ^^^ y) = f x ^^^ f y) (a b c d : BitVec 8) : ap4 (mcF f) (ap4 (pcF f) (mcF f a b c d)) = [a, b, c, d] := by
 have h1 : ap4 (pcF f) (mcF f a b c d) = ap4 (fun a b c d => ap4 (mcF f) (mcF f a b c d)) (mcF f a b c d) := aIX rfl (fun a b c d => (aJf f hf a b c d).symm)
 have h2 : ap4 (fun a b c d => ap4 (mcF f) (mcF f a b c d)) (mcF f a b c d) = ap4 (mcF f) (pcF f a b c d) := congrArg (ap4 (mcF f)) (aJf f hf a b c d)
 rw [h1, h2]
 have h3 : ap4 (mcF f) (ap4 (mcF f) (pcF f a b c d)) = ap4 (pcF f) (pcF f a b c d) := aJf f hf _ _ _ _
 rw [h3, pc_pc f hf]
theorem four {l0 l1 l2 l3 r0 r1 r2 r3 : B8} (h0 : l0 = r0) (h1 : l1 = r1) (h2 : l2 = r2) (h3 : l3 = r3) : l0 ++ l1 ++ l2 ++ l3 = r0 ++ r1 ++ r2 ++ r3 := by rw [h0, h1, h2, h3]
theorem aFB (s : B8) (hs : s.length = 16) : pF (aGN s) = s := by
 obtain ⟨a0, a1, a2, a3, a4, a5, a6, a7, a8, a9, a10, a11, a12, a13, a14, a15, rfl⟩ := aD1 s hs
 rw [nR]
 simp only [mcF, List.cons_append, List.nil_append]
 unfold pF
 rw [aA2]
 simp only [pcF, List.cons_append, List.nil_append]
 rw [nR]
 exact four (rA aF cJ a0 a1 a2 a3) (rA aF cJ a4 a5 a6 a7) (rA aF cJ a8 a9 a10 a11) (rA aF cJ a12 a13 a14 a15)
theorem aII {l r : B8} (h1 : l.length = 16) (h2 : r.length = 16) (hi : ∀ i, i < 16 → l.getD i 0 = r.getD i 0) : l = r := by
 refine List.ext_getElem (h1.trans h2.symm) fun i q1 q2 => ?_
 have := hi i (by omega)
 rwa [List.getD_eq_getElem?_getD, List.getD_eq_getElem?_getD, List.getElem?_eq_getElem q1, List.getElem?_eq_getElem q2] at this
theorem aB9 (s k : B8) (hs : s.length = 16) : ∀ n, n ≤ 16 → ∀ i, (aEq s k n).getD i 0 = if i < n then s.getD i 0 ^^^ k.getD i 0 else s.getD i 0
 |0, _, i => by simp [aEq]
 |n + 1, hn, i => by
  rw [aEq, bW (by rw [dX, hs]; omega)]
  by_cases h : i = n
  ·subst h
   rw [if_pos rfl, aB9 s k hs i (by omega) i, if_neg (Nat.lt_irrefl _), if_pos (Nat.lt_succ_self _)]
  ·rw [if_neg h, aB9 s k hs n (by omega) i]
   by_cases h2 : i < n
   ·rw [if_pos h2, if_pos (by omega)]
   ·rw [if_neg h2, if_neg (by omega)]
theorem aEv (s k : B8) (hs : s.length = 16) (i : Nat) (hi : i < 16) : (eM s k).getD i 0 = s.getD i 0 ^^^ k.getD i 0 := by
 rw [eM, aB9 s k hs 16 (Nat.le_refl _) i, if_pos hi]
theorem rB (s k : B8) (hs : s.length = 16) : eM (eM s k) k = s := by
 have h1 : (eM s k).length = 16 := by rw [aJ, hs]
 refine aII (by rw [aJ, h1]) hs fun i hi => ?_
 rw [aEv _ k h1 i hi, aEv s k hs i hi, BitVec.xor_assoc, BitVec.xor_self, BitVec.xor_zero]
def sg (i : Nat) : Nat := (i + 4 * (i % 4)) % 16
theorem aI3 : ∀ i, i < 16 → ∀ j, j < 16 → sg i = sg j → i = j := by decide
theorem aFT : ∀ i, i < 16 → ∃ j, j < 16 ∧ sg j = i := by decide
theorem sg_lt (i : Nat) : sg i < 16 := Nat.mod_lt _ (by decide)
theorem aBd (s : B8) : ∀ n, n ≤ 16 → ∀ i, i < n → (wX s n).getD i 0 = f9 (s.getD (sg i) 0)
 |0, _, i, hi => by omega
 |n + 1, hn, i, hi => by
  rw [wX, bW (by rw [cO]; omega)]
  by_cases h : i = n
  ·subst h; rw [if_pos rfl]; rfl
  ·rw [if_neg h]
   exact aBd s n (by omega) i (by omega)
theorem wV (s : B8) : ∀ n, n ≤ 16 → ∀ i, i < n → (uB s n).getD (sg i) 0 = rH (s.getD i 0)
 |0, _, i, hi => by omega
 |n + 1, hn, i, hi => by
  rw [uB, show (n + 4 * (n % 4)) % 16 = sg n from rfl, bW (by rw [d7]; exact sg_lt n)]
  by_cases h : i = n
  ·subst h; rw [if_pos rfl]
  ·rw [if_neg (fun e => h (aI3 i (by omega) n (by omega) e))]
   exact wV s n (by omega) i (by omega)
theorem aCf (s : B8) (hs : s.length = 16) : uB (wX s 16) 16 = s := by
 refine aII (d7 _ _) hs fun i hi => ?_
 obtain ⟨j, hj, rfl⟩ := aFT i hi
 rw [wV _ 16 (Nat.le_refl _) j hj, aBd _ 16 (Nat.le_refl _) j hj, (aIU _).1]
theorem aJz (ks : List B8) (a : B8) (ha : a.length = 16) : iH ks (fS ks a 14) = a := by
 have key : ∀ k, k ≤ 14 → wN ks (fS ks a 14) k = fS ks a (14 - k) := by
  intro k
  induction k with
  |zero => intro _; rfl
  |succ k ih =>
   intro hk
   have hl := bN ks a ha (14 - (k + 1))
   rw [wN, ih (by omega)]
   have e : 14 - k = 14 - (k + 1) + 1 := by omega
   have e2 : fS ks a (14 - k) = eM (if 14 - k < 14 then aGN (wX (fS ks a (14 - (k + 1))) 16) else wX (fS ks a (14 - (k + 1))) 16) (ks.getD (14 - k) []) := by
    rw [e]; rfl
   unfold aIP
   rw [e2]
   by_cases h : 14 - k < 14
   ·simp only [if_pos h]
    rw [rB _ _ (by rw [gH, cO]), aFB _ (cO _ _), aCf _ hl]
   ·simp only [if_neg h]
    rw [rB _ _ (cO _ _), aCf _ hl]
 rw [iH, key 14 (Nat.le_refl _)]
 exact rB a _ ha
set_option maxRecDepth 3000
set_option maxRecDepth 3000
end Go.Proofs.YtodkhgofmgaafaaGreatDoor.Av
namespace Go.Proofs.YtodkhgofmgaafaaGreatDoor.Av
open Go Go.RowKit Go.Shelf
set_option linter.all false
set_option maxRecDepth 3000
attribute [local go_sem] Oper.semAt_some
set_option maxRecDepth 100000 in
set_option maxHeartbeats 1000000 in
theorem aBz (F : Fence) (n : Nat) (hF : F.fn 137) (hn : F.depth.isSome = true → 1 ≤ n) (hro : F.round = none) (l b1 o1 b2 o2 : Nat) (at_ k q c K : Nat) (hq : 512 * q ≤ at_) (hq2 : at_ < 512 * q + 512) (hc : c = if k = 0 then 0 else (at_ + k + 511) / 512 - q) (hK : q + c ≤ K) (hb : at_ + k + 512 < 9223372036854775808) {Kp : World → World → Prop} {A1 A2 : World → Prop} (r1 : ∀ A, A1 A → A.cell? ⟨b1, o1, none⟩ = some (.int .i64 at_)) (r2 : ∀ A, A2 A → A.cell? ⟨b2, o2, none⟩ = some (.int .i64 k)) (h1 : ∀ A B, Kp A B → A1 A → A1 B) (h2 : ∀ A B, Kp A B → A2 A → A2 B) (J Jx : List (Fin K) → World → Prop) (hY : ∀ pre (x : Fin K) W, J pre W → pre.length < c → YieldAt F (n - 1) Tryz.prog l #[.int .i64 ((512 * x.val : Nat) : Int)] W fun e W' =>
   (e = .returned (.bool true) ∧ J (pre ++ [x]) W' ∧ Kp W W') ∨ (e = .returned (.bool false) ∧ Jx (pre ++ [x]) W')) (W : World) (ha1 : A1 W) (ha2 : A2 W) (h0 : J [] W) :
  CallsIn F n Tryz.prog 137 #[.func (.yield l) #[] #[], .pointer (some ⟨b1, o1, none⟩), .pointer (some ⟨b2, o2, none⟩)] W fun e W' => (∃ v, e = .returned v) ∧
   ((∃ ys, ys.map (·.val) = List.range' q c ∧ J ys W') ∨ (∃ pre, True ∧ Jx pre W')) := by
 have hc1 := r1 _ ha1
 have hc2 := r2 _ ha2
 refine callsIn_of_wp Tryz.func137 rfl hF ?_ hro
 simp only [Tryz.ntmps137, List.size_toArray, List.length_cons, List.length_nil, Nat.reduceAdd, Nat.reduceSub, Array.replicate_succ, Array.replicate_zero, List.push_toArray, List.append_toArray, List.nil_append, List.cons_append]
 gi_wp2
 have hi : ∀ i : Nat, ((512 * (q + i) : Nat) : Int) + 512 = ((512 * (q + (i + 1)) : Nat) : Int) := fun i => by omega
 gi_loopw [4] (fun s wr => ∃ (pre : List (Fin K)), s = .int .i64 ((512 * (q + pre.length) : Nat) : Int) ∧ pre.map (·.val) = List.range' q pre.length ∧ pre.length ≤ c ∧ J pre wr ∧ A1 wr ∧ A2 wr)
  (fun s _ => match s with | .int _ s => (512 * (q + c) - s).toNat | _ => 0)
 case atStart =>
  refine ⟨[], ?_, rfl, by simp, h0, ha1, ha2⟩
  simp only [List.length_nil, Nat.add_zero]
  congr 1
  omega
 case round =>
  obtain ⟨pre, rfl, hp, hle, hJ, hA1, hA2⟩ := hrel
  have hd1 := r1 _ hA1
  have hd2 := r2 _ hA2
  by_cases hlt : pre.length < c
  ·have hk0 : 0 < k := Nat.pos_of_ne_zero (fun h => by rw [if_pos h] at hc; omega)
   have hcc : c = (at_ + k + 511) / 512 - q := by rw [hc, if_neg (by omega)]
   obtain ⟨fn, tmps, assign, body, hy, hR⟩ := hY pre ⟨q + pre.length, by omega⟩ wr hJ hlt
   push_cast at hy
   gi_wp2
   refine ⟨hn, hR.mono ?_⟩
   rintro e W3 (⟨rfl, hJ3, hk3⟩ | ⟨rfl, hJx3⟩)
   ·have hA13 := h1 _ _ hk3 hA1
    have hA23 := h2 _ _ hk3 hA2
    have hd13 := r1 _ hA13
    have hd23 := r2 _ hA23
    gi_wp2
    go_roundw
    case rel =>
     refine ⟨pre ++ [⟨q + pre.length, by omega⟩], ?_, ?_, by simp; omega, hJ3, hA13, hA23⟩
     ·congr 1; simp; omega
     ·simp only [List.map_append, hp, List.length_append, List.length_cons, List.length_nil, Nat.zero_add]
      rw [List.range'_1_concat]; rfl
    case measure => simp; omega
   ·gi_wp2
    refine bodyPost_ret (results_none rfl _ _ _) rfl ?_
    exact ⟨⟨_, rfl⟩, .inr ⟨pre ++ [⟨q + pre.length, by omega⟩], trivial, hJx3⟩⟩
  ·have he : pre.length = c := by omega
   have hp' : pre.map (·.val) = List.range' q c := he ▸ hp
   by_cases hk0 : k = 0
   ·have hz : pre = [] := List.length_eq_zero_iff.1 (by rw [he, hc, if_pos hk0])
    rw [hz] at hJ
    subst hk0
    gi_wp2
    go_end0
    exact ⟨⟨_, rfl⟩, .inl hJ⟩
   ·have hcc : c = (at_ + k + 511) / 512 - q := by rw [hc, if_neg (by omega)]
    have hkp : 0 < k := by omega
    gi_wp2
    go_end0
    exact ⟨⟨_, rfl⟩, .inl ⟨_, hp', hJ⟩⟩
theorem nE {ρ : Env} {rw : Bool} {n : Int} {L : Loc} {w : World} (h : aIq ρ ⟨.cell, .i64 n, rw⟩ L w) : L.ty = .cell ∧ L.blk < w.heap.size ∧ w.cell? ⟨L.blk, L.base, none⟩ = some (.int .i64 n) := by
 obtain ⟨ρ', hle, hs⟩ := h
 obtain ⟨_, vs, hv, hr⟩ := hs.read (p := []) (T := .cell) (x := .i64 n) rfl trivial rfl
 match vs, hv with
 |[v], ⟨hv, _⟩ =>
  have e := hr 0 v rfl
  obtain ⟨rfl, _⟩ : v = .int .i64 n ∧ _ := hv
  have ho : aQ L.ty [] = 0 := rfl
  exact ⟨hs.ty, hs.lt, by rw [ho] at e; exact e⟩
theorem vO {ρ : Env} {e : Ent} {L : Loc} {w W : World} (h : aIq ρ e L w) (hb : Below w.heap.size w W) : aIq ρ e L W := by
 obtain ⟨ρ', hle, hs⟩ := h
 exact ⟨ρ', hle, hs.same (hb.block _ hs.lt)⟩
theorem cC (b1 b2 at_ k q c K : Nat) {rw1 rw2 : Bool} (hq : 512 * q ≤ at_) (hq2 : at_ < 512 * q + 512) (hc : c = if k = 0 then 0 else (at_ + k + 511) / 512 - q) (hK : q + c ≤ K) (hb : at_ + k + 512 < 9223372036854775808) (hK2 : 512 * K < 9223372036854775808) :
  GenC Tryz.prog 137 [.ptr b1 [], .ptr b2 []] [(b1, ⟨.cell, .i64 at_, rw1⟩), (b2, ⟨.cell, .i64 k, rw2⟩)] (fun x : Fin K => .i64 (512 * x.val : Nat)) (fun ys => ys.map (·.val) = List.range' q c) c := by
 refine ⟨⟨_, Tryz.func137, rfl, rfl⟩, fun ρ lb w n hl hE => ?_⟩
 obtain ⟨L1, e1, s1⟩ := hE _ (.head _)
 obtain ⟨L2, e2, s2⟩ := hE _ (.tail _ (.head _))
 match lb, hl with
 |[v1, v2], ⟨h1, h2, _⟩ =>
  obtain ⟨L1', g1, rfl⟩ := h1
  obtain ⟨L2', g2, rfl⟩ := h2
  cases e1.symm.trans g1
  cases e2.symm.trans g2
  refine ⟨fun x => .int .i64 (512 * x.val : Nat), fun x => ⟨rfl, by omega, by have := x.isLt; omega⟩, fun l J Jx W hW _ _ hY h0 => ?_⟩
  have k1 := nE s1
  have k2 := nE s2
  exact aBz (FW none) n trivial (fun h => by cases h) rfl l L1.blk L1.base L2.blk L2.base at_ k q c K hq hq2 hc hK hb (Kp := KpE ρ _) (A1 := aIq ρ ⟨.cell, .i64 at_, rw1⟩ L1) (A2 := aIq ρ ⟨.cell, .i64 k, rw2⟩ L2)
   (fun A hA => (nE hA).2.2) (fun A hA => (nE hA).2.2) (fun A B hk hA => hk _ (.head _) L1 e1 hA) (fun A B hk hA => hk _ (.tail _ (.head _)) L2 e2 hA) J Jx
   hY W (vO s1 hW) (vO s2 hW) h0
set_option maxRecDepth 3000
abbrev tDv : Ty := .st [.cell, .cell, .cell, .cell, .cell, .cell, .cell]
abbrev tLo : Ty := .st [.cell, .cell, .arr 512 .cell]
def jN (S B : B8) (p : Nat) : B8 := S.take p ++ B ++ S.drop (p + B.length)
theorem gL {S B : B8} {p : Nat} (h : p + B.length ≤ S.length) : (jN S B p).length = S.length := by
 simp [jN]; omega
theorem aJx (k : Int) : AC Tryz.prog 34 [.i64 k] 0 [] ⟨.ptr 0 [], [], [(tDv, .node [.i64 (max 0 (min k 16777216)), .nilslice, .nilslice, .nilslice, .i64 0, .bool false, .nilptr])]⟩ := by
 refine acA tab mix Tryz.func34 {} ?_
 refine gob ?_
 refine aI [0]
theorem s9 (S B : B8) (p o k N : Nat) (cap cap2 : Option Nat) (hN : S.length = N) (h : p + k ≤ N) (hB : o + k ≤ B.length) (h0 : 0 < k) (hS : N < 4611686018427387904) :
  AC Tryz.prog 58 [.slice 0 [] 0 N cap, .i64 p, .slice 1 [] o k cap2] 2 [(0, some ⟨.row .cell, .u8s S, true⟩), (1, some ⟨.row .cell, .u8s B, false⟩)] ⟨.slice 0 [] 0 N cap, [(0, some (.u8s (jN S ((B.drop o).take k) p)))], []⟩ := by
 have hk : ((B.drop o).take k).length = k := by rw [List.length_take, List.length_drop]; omega
 have e : jN S ((B.drop o).take k) p = List.take (0 + p) S ++ List.take (k.min (N - p)) (List.drop o B) ++ List.drop (0 + p + k.min (N - p)) S := by
  have : k.min (N - p) = k := Nat.min_eq_left (by omega)
  rw [jN, hk, this, Nat.zero_add]
 rw [e]
 refine acA tab mix Tryz.func58 {} ?_
 refine gob ?_
 refine aI [0, 1]
structure Lo where
 at' : Nat
 n : Nat
 bytes : B8
def loD (l : Lo) : D := .node [.i64 l.at', .i64 l.n, .u8s l.bytes]
abbrev cQ (l : List Lo) : D := .node (l.map loD)
theorem aFl (s : Nat → Nat) : ∀ l : List Lo, D.rens s (l.map loD) = l.map loD
 |[] => rfl
 |a :: l => congrArg (loD a :: ·) (aFl s l)
instance (l : List Lo) : Pure (cQ l) := ⟨fun s => congrArg D.node (aFl s l)⟩
def dU (b : Nat) : List Lo → D
 |[] => .nilslice
 |a :: l => .slice b [] 0 (l.length + 1) none
abbrev cX (b : Nat) : List Lo → Mem
 |[] => []
 |a :: l => [(b, some ⟨.row tLo, cQ (a :: l), true⟩)]
theorem aIh : ∀ {l : List Lo}, (∀ x ∈ l, x.bytes.length = 512) → gV (aH tLo) (l.map loD)
 |[], _ => trivial
 |s :: l, h => ⟨⟨rfl, rfl, h s (by simp), trivial⟩, aIh fun x hx => h x (by simp [hx])⟩
abbrev dvD (most N : Nat) (cap : Option Nat) (N2 : Nat) (cap2 : Option Nat) (lo : D) (st : Nat) : D := .node [.i64 most, .slice 1 [] 0 N cap, .slice 2 [] 0 N2 cap2, lo, .i64 st, .bool false, .nilptr]
theorem uC (most N : Nat) (cap : Option Nat) (N2 : Nat) (cap2 : Option Nat) (ls : List Lo) (st : Nat) :
  AC Tryz.prog 60 [.ptr 0 []] 4 [(0, some ⟨tDv, dvD most N cap N2 cap2 (dU 3 ls) st, false⟩)] ⟨.i64 0, [], []⟩ := by
 refine acA tab mix Tryz.func60 {} ?_
 cases ls
 all_goals
  refine gob ?_
  refine aI [0, 1, 2, 3]
theorem iI (p k : Nat) (hp : p < 9223372036854775808) (hk : k < 9223372036854775808) : AC Tryz.prog 119 [.i64 p, .i64 k] 0 [] ⟨.fn 137 [] [.ptr 0 [], .ptr 1 []], [], [(.cell, .i64 p), (.cell, .i64 k)]⟩ := by
 refine acA tab mix Tryz.func119 {} ?_
 refine gob ?_
 refine aI [0, 1]
abbrev loF (S : B8) (q : Nat) : Lo := ⟨512 * q, 512, (S.drop (512 * q)).take 512⟩
theorem lM (S : B8) (N x : Nat) (h : 512 * x + 512 ≤ N) :
  List.take 0 (List.replicate 512 0) ++ List.take ((N - 512 * x).min (512 - 0)) (List.drop (0 + 512 * x) S) ++ List.drop (0 + (N - 512 * x).min (512 - 0)) (List.replicate 512 0) = (loF S x).bytes := by
 have e : (N - 512 * x).min (512 - 0) = 512 := Nat.min_eq_right (by omega)
 rw [e]; simp
theorem bR (S : B8) (x : Nat) (h : 512 * x + 512 ≤ S.length) : (loF S x).bytes.length = 512 := by
 simp; omega
theorem mH {S : B8} {x a : Nat} {b : B8} (h1 : a = 512) (h2 : b = (loF S x).bytes) : D.node [.i64 (512 * x : Nat), .i64 (a : Nat), .u8s b] = loD (loF S x) := by subst h1; subst h2; rfl
theorem yU {P : D → Prop} : ∀ {a b : List D}, gV P a → gV P b → gV P (a ++ b)
 |[], _, _, h => h
 |_ :: _, _, ⟨h1, h2⟩, h => ⟨h1, yU h2 h⟩
theorem aD0 {ls : List Lo} (h : ∀ x ∈ ls, x.bytes.length = 512) {S : B8} {x a : Nat} {b : B8} (h1 : a = 512) (h2 : b = (loF S x).bytes) (h3 : (loF S x).bytes.length = 512) :
  gV (aH tLo) ((ls.map loD).take ls.length ++ [D.node [.i64 (512 * x : Nat), .i64 (a : Nat), .u8s b]]) := by
 rw [mH h1 h2, List.take_of_length_le (by simp)]
 exact yU (aIh h) ⟨⟨rfl, rfl, h3, trivial⟩, trivial⟩
theorem aDZ {l0 : Lo} {ls : List Lo} {S : B8} {x a : Nat} {b : B8} (h1 : a = 512) (h2 : b = (loF S x).bytes) :
  D.node (((l0 :: ls).map loD).take (ls.length + 1) ++ [D.node [.i64 (512 * x : Nat), .i64 (a : Nat), .u8s b]]) = cQ ((l0 :: ls) ++ [loF S x]) := by
 rw [mH h1 h2, List.take_of_length_le (by simp)]
 simp [cQ]
theorem aEy (most N : Nat) (cap : Option Nat) (N2 : Nat) (cap2 : Option Nat) (ls : List Lo) (hls : ∀ x ∈ ls, x.bytes.length = 512) (st q o : Nat) (cap3 : Option Nat) (S B : B8) (hS : S.length = N) (hq : 512 * q + 512 ≤ N) (hB : o + 512 ≤ B.length) (hN : N < 4611686018427387904) (hl : ls.length < 1000) :
  AC Tryz.prog 118 [.ptr 4 [], .ptr 5 [], .ptr 6 []] 8
   (cX 3 ls ++ [(0, some ⟨tDv, dvD most N cap N2 cap2 (dU 3 ls) st, true⟩), (1, some ⟨.row .cell, .u8s S, true⟩), (4, some ⟨.cell, .ptr 0 [], true⟩), (5, some ⟨.cell, .i64 (512 * q : Nat), true⟩), (6, some ⟨.cell, .slice 7 [] o 512 cap3, true⟩), (7, some ⟨.row .cell, .u8s B, false⟩)])
   ⟨.tup [], (cX 3 ls).map (fun p => (p.1, none)) ++ [(0, some (dvD most N cap N2 cap2 (.slice 8 [] 0 (ls.length + 1) none) st)), (1, some (.u8s (jN S ((B.drop o).take 512) (512 * q))))],
    [(.row tLo, cQ (ls ++ [loF (jN S ((B.drop o).take 512) (512 * q)) q]))]⟩ := by
 have hlay := s9 S B (512 * q) o 512 N cap cap3 hS hq hB (by decide) hN
 have hsec := iI (512 * q) 512 (by omega) (by decide)
 have hL : (jN S ((B.drop o).take 512) (512 * q)).length = N := by rw [gL]; exact hS; rw [List.length_take, List.length_drop]; omega
 generalize jN S ((B.drop o).take 512) (512 * q) = S' at hlay hL ⊢
 refine acA tab mix Tryz.func118 {} ?_
 cases ls
 ·refine gob ?_
  refine aA hlay [1, 7] ?_
  refine aA hsec [] ?_
  have hg := cC 8 9 (512 * q) 512 q 1 (N / 512) (rw1 := true) (rw2 := true) (by omega) (by omega) (by rw [if_neg (by decide)]; omega) (by omega) (by omega) (by omega)
  refine RangeG.mk ⟨137, [.ptr 8 [], .ptr 9 []], [(8, ⟨.cell, .i64 (512 * q : Nat), true⟩), (9, ⟨.cell, .i64 (512 : Nat), true⟩)], Fin (N / 512), fun x => .i64 (512 * x.val : Nat), fun ys => ys.map (·.val) = List.range' q 1, 1, 19, 3, 2, _,
   fun pre => match pre with
    |[] => [(0, some ⟨tDv, dvD most N cap N2 cap2 .nilslice st, true⟩), (1, some ⟨.row .cell, .u8s S', true⟩), (4, some ⟨.cell, .ptr 0 [], true⟩), (5, some ⟨.cell, .i64 (512 * q : Nat), true⟩), (6, some ⟨.cell, .slice 7 [] o 512 cap3, true⟩), (7, some ⟨.row .cell, .u8s B, false⟩), (8, some ⟨.cell, .i64 (512 * q : Nat), true⟩), (9, some ⟨.cell, .i64 (512 : Nat), true⟩)]
    |x :: _ => [(0, some ⟨tDv, dvD most N cap N2 cap2 (.slice 10 [] 0 1 none) st, true⟩), (1, some ⟨.row .cell, .u8s S', true⟩), (4, some ⟨.cell, .ptr 0 [], true⟩), (5, some ⟨.cell, .i64 (512 * q : Nat), true⟩), (6, some ⟨.cell, .slice 7 [] o 512 cap3, true⟩), (7, some ⟨.row .cell, .u8s B, false⟩), (8, some ⟨.cell, .i64 (512 * q : Nat), true⟩), (9, some ⟨.cell, .i64 (512 : Nat), true⟩), (10, some ⟨.row tLo, cQ [loF S' x.val], true⟩)],
   11, [0, 1, 2, 3, 4, 5, 6, 7, 8, 9], rfl, hg, ⟨rfl, rfl, rfl, rfl, rfl, by decide, by decide⟩, ?_, ?_, ?_, ?_⟩
  ·intro p hp
   rcases List.mem_cons.1 hp with rfl | hp
   ·exact ⟨Nat.le_of_ble_eq_true rfl, rfl, fun pre => by cases pre <;> rfl⟩
   rcases List.mem_cons.1 hp with rfl | hp
   ·exact ⟨Nat.le_of_ble_eq_true rfl, rfl, fun pre => by cases pre <;> rfl⟩
   cases hp
  ·exact aK
  ·intro pre x hlt
   obtain rfl : pre = [] := by cases pre; rfl; simp at hlt
   have hx : 512 * x.val + 512 ≤ N := by have := x.isLt; omega
   have e1 := lM S' N x.val hx
   have e2 := bR S' x.val (by omega)
   have e3 : (N - 512 * x.val).min (512 - 0) = 512 := Nat.min_eq_right (by omega)
   refine gob ?_
   refine ⟨1, ?_⟩
   refine EffG.mk (And.intro ?_ ?_)
   ·(repeat' (first | exact trivial | refine And.intro ?_ ?_)) <;> first | omega | exact Nat.le_refl _ | rfl | exact (congrArg List.length e1).trans e2 | decide
   refine gob ?_
   refine ⟨[0, 1, 2, 3, 4, 5, 6, 7, 8, 9, 13], aK (h3 := ?_)⟩
   (repeat' (first | exact trivial | refine And.intro ⟨_, rfl, rfl, ?_, id⟩ ?_ | refine And.intro ⟨_, rfl, rfl, ?_, fun _ => rfl⟩ ?_)) <;> first | rfl | exact (congrArg (fun d => D.node [d]) (mH e3 e1)).trans (Pure.ren (d := cQ [loF S' x.val]) _).symm
  ·intro xs hxs
   have hx1 : ∃ x : Fin (N / 512), xs = [x] ∧ x.val = q := by
    match xs, hxs with
    |[x], h => exact ⟨x, rfl, by simpa using h⟩
   obtain ⟨x, rfl, rfl⟩ := hx1
   refine gob ?_
   refine aI [0, 1, 2, 3, 4, 5, 6, 7, 10]
 ·rename_i l0 ls
  have hl2 : ls.length + 1 < 1000 := hl
  have hls1 := hls l0 (by simp)
  have hls2 : ∀ x ∈ ls, x.bytes.length = 512 := fun x hx => hls x (by simp [hx])
  refine gob ?_
  refine aA hlay [1, 7] ?_
  refine aA hsec [] ?_
  have hg := cC 8 9 (512 * q) 512 q 1 (N / 512) (rw1 := true) (rw2 := true) (by omega) (by omega) (by rw [if_neg (by decide)]; omega) (by omega) (by omega) (by omega)
  refine RangeG.mk ⟨137, [.ptr 8 [], .ptr 9 []], [(8, ⟨.cell, .i64 (512 * q : Nat), true⟩), (9, ⟨.cell, .i64 (512 : Nat), true⟩)], Fin (N / 512), fun x => .i64 (512 * x.val : Nat), fun ys => ys.map (·.val) = List.range' q 1, 1, 19, 3, 2, _,
   fun pre => match pre with
    |[] => [(0, some ⟨tDv, dvD most N cap N2 cap2 (.slice 3 [] 0 (ls.length + 1) none) st, true⟩), (1, some ⟨.row .cell, .u8s S', true⟩), (3, some ⟨.row tLo, cQ (l0 :: ls), true⟩), (4, some ⟨.cell, .ptr 0 [], true⟩), (5, some ⟨.cell, .i64 (512 * q : Nat), true⟩), (6, some ⟨.cell, .slice 7 [] o 512 cap3, true⟩), (7, some ⟨.row .cell, .u8s B, false⟩), (8, some ⟨.cell, .i64 (512 * q : Nat), true⟩), (9, some ⟨.cell, .i64 (512 : Nat), true⟩)]
    |x :: _ => [(0, some ⟨tDv, dvD most N cap N2 cap2 (.slice 10 [] 0 (ls.length + 1 + 1) none) st, true⟩), (1, some ⟨.row .cell, .u8s S', true⟩), (4, some ⟨.cell, .ptr 0 [], true⟩), (5, some ⟨.cell, .i64 (512 * q : Nat), true⟩), (6, some ⟨.cell, .slice 7 [] o 512 cap3, true⟩), (7, some ⟨.row .cell, .u8s B, false⟩), (8, some ⟨.cell, .i64 (512 * q : Nat), true⟩), (9, some ⟨.cell, .i64 (512 : Nat), true⟩), (10, some ⟨.row tLo, cQ ((l0 :: ls) ++ [loF S' x.val]), true⟩)],
   11, [0, 1, 2, 3, 4, 5, 6, 7, 8, 9], rfl, hg, ⟨rfl, rfl, rfl, rfl, rfl, by decide, by decide⟩, ?_, ?_, ?_, ?_⟩
  ·intro p hp
   rcases List.mem_cons.1 hp with rfl | hp
   ·exact ⟨Nat.le_of_ble_eq_true rfl, rfl, fun pre => by cases pre <;> rfl⟩
   rcases List.mem_cons.1 hp with rfl | hp
   ·exact ⟨Nat.le_of_ble_eq_true rfl, rfl, fun pre => by cases pre <;> rfl⟩
   cases hp
  ·exact aK
  ·intro pre x hlt
   obtain rfl : pre = [] := by cases pre; rfl; simp at hlt
   have hx : 512 * x.val + 512 ≤ N := by have := x.isLt; omega
   have e1 := lM S' N x.val hx
   have e2 := bR S' x.val (by omega)
   have e3 : (N - 512 * x.val).min (512 - 0) = 512 := Nat.min_eq_right (by omega)
   refine gob ?_
   refine ⟨0, ?_⟩
   refine EffG.mk (And.intro ?_ ?_)
   ·(repeat' (first | exact trivial | refine And.intro ?_ ?_)) <;> first | omega | exact Nat.le_refl _ | rfl | exact (congrArg List.length e1).trans e2 | decide | exact (show (ls.length + 1 + 1) * 528 ≤ 140737488355328 by omega) | exact (show ls.length + 1 + 1 < 9223372036854775808 by omega) | exact hls1 | exact (show 0 + (ls.length + 1) ≤ ((l0 :: ls).map loD).length by rw [List.length_map, List.length_cons]; omega) | exact aD0 hls2 e3 e1 e2
   refine gob ?_
   refine ⟨[0, 1, 2, 3, 4, 5, 6, 7, 8, 9, 13], aK (h3 := ?_)⟩
   (repeat' (first | exact trivial | refine And.intro ⟨_, rfl, rfl, ?_, id⟩ ?_ | refine And.intro ⟨_, rfl, rfl, ?_, fun _ => rfl⟩ ?_)) <;> first | rfl | exact (aDZ e3 e1).trans (Pure.ren (d := cQ ((l0 :: ls) ++ [loF S' x.val])) _).symm
  ·intro xs hxs
   have hx1 : ∃ x : Fin (N / 512), xs = [x] ∧ x.val = q := by
    match xs, hxs with
    |[x], h => exact ⟨x, rfl, by simpa using h⟩
   obtain ⟨x, rfl, rfl⟩ := hx1
   refine gob ?_
   refine aI [0, 1, 2, 3, 4, 5, 6, 7, 10]
set_option maxRecDepth 3000
section
variable (most N : Nat) (cap : Option Nat) (N2 : Nat) (cap2 : Option Nat) (ls : List Lo)
include most N cap N2 cap2 ls
section
variable (hls : ∀ x ∈ ls, x.bytes.length = 512) (st q o : Nat) (cap3 : Option Nat) (S B : B8) (hS : S.length = N) (hq : 512 * q + 512 ≤ N) (hB : o + 512 ≤ B.length)
include hls st q o cap3 S B hS hq hB
theorem aIw (hN : N < 4611686018427387904) (hl : ls.length < 1000) (hst : st < 1000) :
  AC Tryz.prog 61 [.ptr 0 [], .fn 118 [] [.ptr 4 [], .ptr 5 [], .ptr 6 []]] 8
   (cX 3 ls ++ [(0, some ⟨tDv, dvD most N cap N2 cap2 (dU 3 ls) st, true⟩), (1, some ⟨.row .cell, .u8s S, true⟩), (4, some ⟨.cell, .ptr 0 [], true⟩), (5, some ⟨.cell, .i64 (512 * q : Nat), true⟩), (6, some ⟨.cell, .slice 7 [] o 512 cap3, true⟩), (7, some ⟨.row .cell, .u8s B, false⟩)])
   ⟨.i64 0, (cX 3 ls).map (fun p => (p.1, none)) ++ [(0, some (dvD most N cap N2 cap2 (.slice 8 [] 0 (ls.length + 1) none) (st + 1))), (1, some (.u8s (jN S ((B.drop o).take 512) (512 * q))))],
    [(.row tLo, cQ (ls ++ [loF (jN S ((B.drop o).take 512) (512 * q)) q]))]⟩ := by
 have hw := aEy most N cap N2 cap2 ls hls (st + 1) q o cap3 S B hS hq hB hN hl
 generalize jN S ((B.drop o).take 512) (512 * q) = S' at hw ⊢
 refine acA tab mix Tryz.func61 {} ?_
 cases ls
 ·refine gob ?_
  refine aA hw [0, 1, 2, 3, 4, 5, 6, 7] ?_
  refine aI [0, 1, 2, 3, 4, 5, 6, 7, 8]
 ·refine gob ?_
  refine aA hw [0, 1, 2, 3, 4, 5, 6, 7] ?_
  refine aI [0, 1, 2, 3, 4, 5, 6, 7, 8]
theorem aGd (hN : N ≤ most) (hm : most ≤ 16777216) (hl : ls.length < 1000) (hst : st < 1000) :
  AC Tryz.prog 78 [.ptr 0 [], .i64 (512 * q : Nat), .slice 4 [] o 512 cap3] 5
   (cX 3 ls ++ [(0, some ⟨tDv, dvD most N cap N2 cap2 (dU 3 ls) st, true⟩), (1, some ⟨.row .cell, .u8s S, true⟩), (4, some ⟨.row .cell, .u8s B, false⟩)])
   ⟨.i64 0, (cX 3 ls).map (fun p => (p.1, none)) ++ [(0, some (dvD most N cap N2 cap2 (.slice 5 [] 0 (ls.length + 1) none) (st + 1))), (1, some (.u8s (jN S ((B.drop o).take 512) (512 * q))))],
    [(.row tLo, cQ (ls ++ [loF (jN S ((B.drop o).take 512) (512 * q)) q]))]⟩ := by
 have hw := aIw most N cap N2 cap2 ls hls st q o cap3 S B hS hq hB (by omega) hl hst
 have hu := uC most N cap N2 cap2 ls st
 generalize jN S ((B.drop o).take 512) (512 * q) = S' at hw ⊢
 refine acA tab mix Tryz.func78 {} ?_
 cases ls
 ·refine gob ?_
  refine aA hu [0, 1, 2, 3] ?_
  refine aA hw [0, 1, 2, 3, 5, 6, 7, 4] ?_
  refine aI [0, 1, 2, 3, 4, 8]
 ·refine gob ?_
  refine aA hu [0, 1, 2, 3] ?_
  refine aA hw [0, 1, 2, 3, 5, 6, 7, 4] ?_
  refine aI [0, 1, 2, 3, 4, 8]
end
section
variable (st p k : Nat) (S : B8) (hS : S.length = N) (hq : p + k ≤ N) (hN : N < 70368744177664)
include st p k S hS hq hN
theorem aGg :
  AC Tryz.prog 82 [.ptr 0 [], .i64 p, .i64 k] 4
   [(0, some ⟨tDv, dvD most N cap N2 cap2 (dU 3 ls) st, false⟩), (1, some ⟨.row .cell, .u8s S, false⟩)]
   ⟨.tup [.slice 4 [] 0 (((p : Int) + (k : Int)).toNat - p) none, .i64 0], [], [(.row .cell, .u8s ((S.drop (0 + p)).take (((p : Int) + (k : Int)).toNat - p)))]⟩ := by
 have hu := uC most N cap N2 cap2 ls st
 have hc := lF S (0 + p) (((p : Int) + (k : Int)).toNat - p) (cap.map (· - p)) (by omega) (by omega)
 refine acA tab mix Tryz.func82 {} ?_
 cases ls
 ·refine gob ?_
  refine aA hu [0, 1, 2, 3] ?_
  refine aA hc [1] ?_
  refine aI [0, 1, 2, 3, 4]
 ·refine gob ?_
  refine aA hu [0, 1, 2, 3] ?_
  refine aA hc [1] ?_
  refine aI [0, 1, 2, 3, 4]
theorem lD :
  AC Tryz.prog 82 [.ptr 0 [], .i64 p, .i64 k] 4
   [(0, some ⟨tDv, dvD most N cap N2 cap2 (dU 3 ls) st, false⟩), (1, some ⟨.row .cell, .u8s S, false⟩)]
   ⟨.tup [.slice 4 [] 0 k none, .i64 0], [], [(.row .cell, .u8s ((S.drop p).take k))]⟩ := by
 have h := aGg most N cap N2 cap2 ls st p k S hS hq hN
 rw [show ((p : Int) + (k : Int)).toNat - p = k by omega, Nat.zero_add] at h
 exact h
end
theorem eJ (st : Nat) (S : B8) (hS : S.length = N) (hN : N < 70368744177664) :
  AC Tryz.prog 8 [.ptr 0 []] 4
   [(0, some ⟨tDv, dvD most N cap N2 cap2 (dU 3 ls) st, false⟩), (1, some ⟨.row .cell, .u8s S, false⟩)]
   ⟨.slice 4 [] 0 N none, [], [(.row .cell, .u8s S)]⟩ := by
 have hc := lF S 0 N cap (by omega) (by omega)
 rw [List.drop_zero, List.take_of_length_le (by omega)] at hc
 refine acA tab mix Tryz.func8 {} ?_
 cases ls
 ·refine gob ?_
  refine aA hc [1] ?_
  refine aI [0, 1, 2, 3, 4]
 ·refine gob ?_
  refine aA hc [1] ?_
  refine aI [0, 1, 2, 3, 4]
end
theorem aIM (most N o : Nat) (S : B8) (c : Option Nat) (hS : o + N ≤ S.length) (hN : N ≤ most) (hm : most ≤ 16777216) :
  AC Tryz.prog 35 [.ptr 0 [], .slice 1 [] o N c] 2
   [(0, some ⟨tDv, .node [.i64 most, .nilslice, .nilslice, .nilslice, .i64 0, .bool false, .nilptr], true⟩), (1, some ⟨.row .cell, .u8s S, false⟩)]
   ⟨.tup [], [(0, some (.node [.i64 most, .slice 2 [] 0 N none, .slice 3 [] 0 N none, .nilslice, .i64 0, .bool false, .nilptr]))], [(.row .cell, .u8s ((S.drop o).take N)), (.row .cell, .u8s ((S.drop o).take N))]⟩ := by
 have hc := lF S o N c (by omega) (by omega)
 refine acA tab mix Tryz.func35 {} ?_
 refine gob ?_
 refine aA hc [1] ?_
 refine aA hc [1] ?_
 refine aI [0, 1, 2, 3]
end Go.Proofs.YtodkhgofmgaafaaGreatDoor.Av
