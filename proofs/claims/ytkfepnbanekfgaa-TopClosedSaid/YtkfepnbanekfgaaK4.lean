/- What the proof leans on, part 4: OT O1 O2 O3 O4 O5 O6 O7 O8 O9 O10 O11 O12. -/
import Derived.Test.YtkfepnbanekfgaaK3
import Derived.KernelRfl
import Derived.Test.YtkfepnbanekfgaaProg
set_option linter.all false
namespace Go.Proofs.Ytkfepnbanekfgaa
open Go Go.AL
def tyT : Nat → Ty
  | 1 => .func
  | 2 => .int
  | 3 => .int
  | 4 => .bool
  | 5 => .num .u8
  | 6 => .num .u8
  | 7 => .struct [(2, 0), (3, 1), (4, 2), (6, 3)]
  | 8 => .struct [(2, 0), (3, 1), (4, 2), (6, 3)]
  | 9 => .str
  | 10 => .str
  | 11 => .str
  | 12 => .num .u64
  | 13 => .struct [(9, 0), (12, 1)]
  | 14 => .struct [(9, 0), (12, 1)]
  | 15 => .ptr 191
  | 16 => .ptr 194
  | 17 => .ptr 202
  | 18 => .struct [(17, 0)]
  | 19 => .struct [(17, 0)]
  | 21 => .num .i32
  | 22 => .slice 114
  | 23 => .slice 3
  | 24 => .slice 53
  | 25 => .struct [(22, 0), (23, 1), (24, 2)]
  | 26 => .struct [(22, 0), (23, 1), (24, 2)]
  | 27 => .slice 76
  | 28 => .int
  | 30 => .func
  | 31 => .func
  | 33 => .func
  | 34 => .func
  | 35 => .func
  | 37 => .func
  | 38 => .func
  | 39 => .func
  | 40 => .slice 84
  | 41 => .struct [(3, 0), (3, 1), (23, 2), (3, 3), (40, 4), (3, 5)]
  | 42 => .struct [(3, 0), (3, 1), (23, 2), (3, 3), (40, 4), (3, 5)]
  | 43 => .slice 66
  | 44 => .slice 56
  | 45 => .arr 2 3
  | 46 => .func
  | 47 => .func
  | 48 => .func
  | 49 => .func
  | 50 => .slice 52
  | 51 => .struct [(3, 0), (3, 1)]
  | 52 => .struct [(3, 0), (3, 1)]
  | 53 => .slice 23
  | 54 => .func
  | 55 => .struct [(3, 0), (3, 1)]
  | 56 => .struct [(3, 0), (3, 1)]
  | 58 => .func
  | 59 => .func
  | 60 => .func
  | 61 => .func
  | 62 => .func
  | 63 => .struct [(26, 0)]
  | 64 => .struct [(26, 0)]
  | 65 => .struct [(3, 0), (3, 1), (3, 2), (4, 3)]
  | 66 => .struct [(3, 0), (3, 1), (3, 2), (4, 3)]
  | 67 => .struct [(3, 0), (3, 1)]
  | 68 => .struct [(3, 0), (3, 1)]
  | 70 => .func
  | 71 => .func
  | 72 => .struct [(3, 0), (68, 1)]
  | 73 => .struct [(3, 0), (68, 1)]
  | 74 => .slice 73
  | 75 => .struct [(9, 0), (3, 1)]
  | 76 => .struct [(9, 0), (3, 1)]
  | 77 => .func
  | 78 => .func
  | 79 => .func
  | 80 => .func
  | 81 => .func
  | 82 => .func
  | 83 => .struct [(3, 0), (3, 1)]
  | 84 => .struct [(3, 0), (3, 1)]
  | 85 => .slice 90
  | 86 => .slice 92
  | 88 => .func
  | 89 => .struct [(3, 0), (3, 1)]
  | 90 => .struct [(3, 0), (3, 1)]
  | 91 => .struct [(90, 0), (3, 2)]
  | 92 => .struct [(90, 0), (3, 2)]
  | 93 => .func
  | 94 => .func
  | 95 => .map 90 4
  | 96 => .struct [(42, 0), (95, 6)]
  | 97 => .struct [(42, 0), (95, 6)]
  | 98 => .slice 139
  | 99 => .struct [(97, 0), (98, 7)]
  | 100 => .struct [(97, 0), (98, 7)]
  | 102 => .func
  | 103 => .func
  | 104 => .func
  | 105 => .slice 107
  | 106 => .struct [(3, 0)]
  | 107 => .struct [(3, 0)]
  | 108 => .map 107 52
  | 109 => .struct [(50, 0), (108, 1)]
  | 110 => .struct [(50, 0), (108, 1)]
  | 111 => .func
  | 112 => .func
  | 113 => .struct [(23, 0), (23, 1), (23, 2), (3, 3), (3, 4)]
  | 114 => .struct [(23, 0), (23, 1), (23, 2), (3, 3), (3, 4)]
  | 115 => .struct [(114, 0)]
  | 116 => .struct [(114, 0)]
  | 117 => .func
  | 118 => .func
  | 119 => .func
  | 120 => .func
  | 121 => .slice 123
  | 122 => .struct [(76, 0), (3, 2), (3, 3), (3, 4)]
  | 123 => .struct [(76, 0), (3, 2), (3, 3), (3, 4)]
  | 124 => .func
  | 125 => .func
  | 126 => .arr 6 3
  | 127 => .arr 6 3
  | 128 => .func
  | 130 => .func
  | 131 => .func
  | 132 => .func
  | 133 => .func
  | 134 => .func
  | 136 => .func
  | 137 => .func
  | 138 => .struct [(66, 0), (90, 4)]
  | 139 => .struct [(66, 0), (90, 4)]
  | 140 => .slice 146
  | 142 => .func
  | 143 => .func
  | 144 => .func
  | 145 => .arr 80 3
  | 146 => .arr 80 3
  | 148 => .slice 5
  | 149 => .func
  | 150 => .func
  | 151 => .func
  | 152 => .func
  | 153 => .struct [(152, 0)]
  | 154 => .struct [(152, 0)]
  | 155 => .func
  | 156 => .func
  | 157 => .ptr 146
  | 158 => .func
  | 159 => .func
  | 160 => .struct [(159, 0)]
  | 161 => .struct [(159, 0)]
  | 162 => .func
  | 163 => .func
  | 164 => .func
  | 165 => .func
  | 166 => .num .u64
  | 167 => .func
  | 168 => .func
  | 169 => .int
  | 171 => .func
  | 172 => .func
  | 173 => .func
  | 175 => .func
  | 176 => .func
  | 177 => .num .u32
  | 178 => .func
  | 179 => .num .u64
  | 180 => .num .u64
  | 181 => .func
  | 182 => .func
  | 183 => .func
  | 184 => .ptr 3
  | 185 => .func
  | 186 => .ptr 180
  | 188 => .func
  | 189 => .func
  | 190 => .struct [(17, 0), (17, 1), (17, 2), (9, 3)]
  | 191 => .struct [(17, 0), (17, 1), (17, 2), (9, 3)]
  | 195 => .num .u8
  | 196 => .num .u8
  | 197 => .func
  | 198 => .ptr 5
  | 199 => .num .i32
  | 200 => .num .i32
  | 201 => .struct [(12, 0), (12, 1), (177, 2), (195, 3), (5, 4), (5, 5), (196, 6), (197, 7), (198, 8), (199, 9), (200, 10)]
  | 202 => .struct [(12, 0), (12, 1), (177, 2), (195, 3), (5, 4), (5, 5), (196, 6), (197, 7), (198, 8), (199, 9), (200, 10)]
  | _ => .none
def szT : Nat → Nat
  | 7 => 4
  | 8 => 4
  | 13 => 2
  | 14 => 2
  | 25 => 3
  | 26 => 3
  | 41 => 6
  | 42 => 6
  | 45 => 2
  | 51 => 2
  | 52 => 2
  | 55 => 2
  | 56 => 2
  | 63 => 3
  | 64 => 3
  | 65 => 4
  | 66 => 4
  | 67 => 2
  | 68 => 2
  | 72 => 3
  | 73 => 3
  | 75 => 2
  | 76 => 2
  | 83 => 2
  | 84 => 2
  | 89 => 2
  | 90 => 2
  | 91 => 3
  | 92 => 3
  | 96 => 7
  | 97 => 7
  | 99 => 8
  | 100 => 8
  | 109 => 2
  | 110 => 2
  | 113 => 5
  | 114 => 5
  | 115 => 5
  | 116 => 5
  | 122 => 5
  | 123 => 5
  | 126 => 6
  | 127 => 6
  | 138 => 6
  | 139 => 6
  | 145 => 80
  | 146 => 80
  | 190 => 4
  | 191 => 4
  | 201 => 11
  | 202 => 11
  | _ => 1
def byT : Nat → Nat
  | 1 => 8
  | 2 => 8
  | 3 => 8
  | 4 => 1
  | 5 => 1
  | 6 => 1
  | 7 => 24
  | 8 => 24
  | 9 => 16
  | 10 => 16
  | 11 => 16
  | 12 => 8
  | 13 => 24
  | 14 => 24
  | 15 => 8
  | 16 => 8
  | 17 => 8
  | 18 => 8
  | 19 => 8
  | 21 => 4
  | 22 => 24
  | 23 => 24
  | 24 => 24
  | 25 => 72
  | 26 => 72
  | 27 => 24
  | 28 => 8
  | 30 => 8
  | 31 => 8
  | 33 => 8
  | 34 => 8
  | 35 => 8
  | 37 => 8
  | 38 => 8
  | 39 => 8
  | 40 => 24
  | 41 => 80
  | 42 => 80
  | 43 => 24
  | 44 => 24
  | 45 => 16
  | 46 => 8
  | 47 => 8
  | 48 => 8
  | 49 => 8
  | 50 => 24
  | 51 => 16
  | 52 => 16
  | 53 => 24
  | 54 => 8
  | 55 => 16
  | 56 => 16
  | 58 => 8
  | 59 => 8
  | 60 => 8
  | 61 => 8
  | 62 => 8
  | 63 => 72
  | 64 => 72
  | 65 => 32
  | 66 => 32
  | 67 => 16
  | 68 => 16
  | 70 => 8
  | 71 => 8
  | 72 => 24
  | 73 => 24
  | 74 => 24
  | 75 => 24
  | 76 => 24
  | 77 => 8
  | 78 => 8
  | 79 => 8
  | 80 => 8
  | 81 => 8
  | 82 => 8
  | 83 => 16
  | 84 => 16
  | 85 => 24
  | 86 => 24
  | 88 => 8
  | 89 => 16
  | 90 => 16
  | 91 => 24
  | 92 => 24
  | 93 => 8
  | 94 => 8
  | 95 => 8
  | 96 => 88
  | 97 => 88
  | 98 => 24
  | 99 => 112
  | 100 => 112
  | 102 => 8
  | 103 => 8
  | 104 => 8
  | 105 => 24
  | 106 => 8
  | 107 => 8
  | 108 => 8
  | 109 => 32
  | 110 => 32
  | 111 => 8
  | 112 => 8
  | 113 => 88
  | 114 => 88
  | 115 => 88
  | 116 => 88
  | 117 => 8
  | 118 => 8
  | 119 => 8
  | 120 => 8
  | 121 => 24
  | 122 => 48
  | 123 => 48
  | 124 => 8
  | 125 => 8
  | 126 => 48
  | 127 => 48
  | 128 => 8
  | 130 => 8
  | 131 => 8
  | 132 => 8
  | 133 => 8
  | 134 => 8
  | 136 => 8
  | 137 => 8
  | 138 => 48
  | 139 => 48
  | 140 => 24
  | 142 => 8
  | 143 => 8
  | 144 => 8
  | 145 => 640
  | 146 => 640
  | 148 => 24
  | 149 => 8
  | 150 => 8
  | 151 => 8
  | 152 => 8
  | 153 => 8
  | 154 => 8
  | 155 => 8
  | 156 => 8
  | 157 => 8
  | 158 => 8
  | 159 => 8
  | 160 => 8
  | 161 => 8
  | 162 => 8
  | 163 => 8
  | 164 => 8
  | 165 => 8
  | 166 => 8
  | 167 => 8
  | 168 => 8
  | 169 => 8
  | 171 => 8
  | 172 => 8
  | 173 => 8
  | 175 => 8
  | 176 => 8
  | 177 => 4
  | 178 => 8
  | 179 => 8
  | 180 => 8
  | 181 => 8
  | 182 => 8
  | 183 => 8
  | 184 => 8
  | 185 => 8
  | 186 => 8
  | 188 => 8
  | 189 => 8
  | 190 => 40
  | 191 => 40
  | 195 => 1
  | 196 => 1
  | 197 => 8
  | 198 => 8
  | 199 => 4
  | 200 => 4
  | 201 => 48
  | 202 => 48
  | _ => 0
def zrT : Nat → List A
  | 1 => [.s .nilFunc]
  | 2 => [.s (.int .i64 0)]
  | 3 => [.s (.int .i64 0)]
  | 4 => [.s (.bool false)]
  | 5 => [.s (.int .u8 0)]
  | 6 => [.s (.int .u8 0)]
  | 7 => [.s (.int .i64 0), .s (.int .i64 0), .s (.bool false), .s (.int .u8 0)]
  | 8 => [.s (.int .i64 0), .s (.int .i64 0), .s (.bool false), .s (.int .u8 0)]
  | 9 => [.s (.string .empty)]
  | 10 => [.s (.string .empty)]
  | 11 => [.s (.string .empty)]
  | 12 => [.s (.int .u64 0)]
  | 13 => [.s (.string .empty), .s (.int .u64 0)]
  | 14 => [.s (.string .empty), .s (.int .u64 0)]
  | 15 => [.s (.pointer none)]
  | 16 => [.s (.pointer none)]
  | 17 => [.s (.pointer none)]
  | 18 => [.s (.pointer none)]
  | 19 => [.s (.pointer none)]
  | 21 => [.s (.int .i32 0)]
  | 22 => [.sl true .exact []]
  | 23 => [.sl true .exact []]
  | 24 => [.sl true .exact []]
  | 25 => [.sl true .exact [], .sl true .exact [], .sl true .exact []]
  | 26 => [.sl true .exact [], .sl true .exact [], .sl true .exact []]
  | 27 => [.sl true .exact []]
  | 28 => [.s (.int .i64 0)]
  | 30 => [.s .nilFunc]
  | 31 => [.s .nilFunc]
  | 33 => [.s .nilFunc]
  | 34 => [.s .nilFunc]
  | 35 => [.s .nilFunc]
  | 37 => [.s .nilFunc]
  | 38 => [.s .nilFunc]
  | 39 => [.s .nilFunc]
  | 40 => [.sl true .exact []]
  | 41 => [.s (.int .i64 0), .s (.int .i64 0), .sl true .exact [], .s (.int .i64 0), .sl true .exact [], .s (.int .i64 0)]
  | 42 => [.s (.int .i64 0), .s (.int .i64 0), .sl true .exact [], .s (.int .i64 0), .sl true .exact [], .s (.int .i64 0)]
  | 43 => [.sl true .exact []]
  | 44 => [.sl true .exact []]
  | 45 => [.s (.int .i64 0), .s (.int .i64 0)]
  | 46 => [.s .nilFunc]
  | 47 => [.s .nilFunc]
  | 48 => [.s .nilFunc]
  | 49 => [.s .nilFunc]
  | 50 => [.sl true .exact []]
  | 51 => [.s (.int .i64 0), .s (.int .i64 0)]
  | 52 => [.s (.int .i64 0), .s (.int .i64 0)]
  | 53 => [.sl true .exact []]
  | 54 => [.s .nilFunc]
  | 55 => [.s (.int .i64 0), .s (.int .i64 0)]
  | 56 => [.s (.int .i64 0), .s (.int .i64 0)]
  | 58 => [.s .nilFunc]
  | 59 => [.s .nilFunc]
  | 60 => [.s .nilFunc]
  | 61 => [.s .nilFunc]
  | 62 => [.s .nilFunc]
  | 63 => [.sl true .exact [], .sl true .exact [], .sl true .exact []]
  | 64 => [.sl true .exact [], .sl true .exact [], .sl true .exact []]
  | 65 => [.s (.int .i64 0), .s (.int .i64 0), .s (.int .i64 0), .s (.bool false)]
  | 66 => [.s (.int .i64 0), .s (.int .i64 0), .s (.int .i64 0), .s (.bool false)]
  | 67 => [.s (.int .i64 0), .s (.int .i64 0)]
  | 68 => [.s (.int .i64 0), .s (.int .i64 0)]
  | 70 => [.s .nilFunc]
  | 71 => [.s .nilFunc]
  | 72 => [.s (.int .i64 0), .s (.int .i64 0), .s (.int .i64 0)]
  | 73 => [.s (.int .i64 0), .s (.int .i64 0), .s (.int .i64 0)]
  | 74 => [.sl true .exact []]
  | 75 => [.s (.string .empty), .s (.int .i64 0)]
  | 76 => [.s (.string .empty), .s (.int .i64 0)]
  | 77 => [.s .nilFunc]
  | 78 => [.s .nilFunc]
  | 79 => [.s .nilFunc]
  | 80 => [.s .nilFunc]
  | 81 => [.s .nilFunc]
  | 82 => [.s .nilFunc]
  | 83 => [.s (.int .i64 0), .s (.int .i64 0)]
  | 84 => [.s (.int .i64 0), .s (.int .i64 0)]
  | 85 => [.sl true .exact []]
  | 86 => [.sl true .exact []]
  | 88 => [.s .nilFunc]
  | 89 => [.s (.int .i64 0), .s (.int .i64 0)]
  | 90 => [.s (.int .i64 0), .s (.int .i64 0)]
  | 91 => [.s (.int .i64 0), .s (.int .i64 0), .s (.int .i64 0)]
  | 92 => [.s (.int .i64 0), .s (.int .i64 0), .s (.int .i64 0)]
  | 93 => [.s .nilFunc]
  | 94 => [.s .nilFunc]
  | 95 => [.s (.map none)]
  | 96 => [.s (.int .i64 0), .s (.int .i64 0), .sl true .exact [], .s (.int .i64 0), .sl true .exact [], .s (.int .i64 0), .s (.map none)]
  | 97 => [.s (.int .i64 0), .s (.int .i64 0), .sl true .exact [], .s (.int .i64 0), .sl true .exact [], .s (.int .i64 0), .s (.map none)]
  | 98 => [.sl true .exact []]
  | 99 => [.s (.int .i64 0), .s (.int .i64 0), .sl true .exact [], .s (.int .i64 0), .sl true .exact [], .s (.int .i64 0), .s (.map none), .sl true .exact []]
  | 100 => [.s (.int .i64 0), .s (.int .i64 0), .sl true .exact [], .s (.int .i64 0), .sl true .exact [], .s (.int .i64 0), .s (.map none), .sl true .exact []]
  | 102 => [.s .nilFunc]
  | 103 => [.s .nilFunc]
  | 104 => [.s .nilFunc]
  | 105 => [.sl true .exact []]
  | 106 => [.s (.int .i64 0)]
  | 107 => [.s (.int .i64 0)]
  | 108 => [.s (.map none)]
  | 109 => [.sl true .exact [], .s (.map none)]
  | 110 => [.sl true .exact [], .s (.map none)]
  | 111 => [.s .nilFunc]
  | 112 => [.s .nilFunc]
  | 113 => [.sl true .exact [], .sl true .exact [], .sl true .exact [], .s (.int .i64 0), .s (.int .i64 0)]
  | 114 => [.sl true .exact [], .sl true .exact [], .sl true .exact [], .s (.int .i64 0), .s (.int .i64 0)]
  | 115 => [.sl true .exact [], .sl true .exact [], .sl true .exact [], .s (.int .i64 0), .s (.int .i64 0)]
  | 116 => [.sl true .exact [], .sl true .exact [], .sl true .exact [], .s (.int .i64 0), .s (.int .i64 0)]
  | 117 => [.s .nilFunc]
  | 118 => [.s .nilFunc]
  | 119 => [.s .nilFunc]
  | 120 => [.s .nilFunc]
  | 121 => [.sl true .exact []]
  | 122 => [.s (.string .empty), .s (.int .i64 0), .s (.int .i64 0), .s (.int .i64 0), .s (.int .i64 0)]
  | 123 => [.s (.string .empty), .s (.int .i64 0), .s (.int .i64 0), .s (.int .i64 0), .s (.int .i64 0)]
  | 124 => [.s .nilFunc]
  | 125 => [.s .nilFunc]
  | 126 => [.s (.int .i64 0), .s (.int .i64 0), .s (.int .i64 0), .s (.int .i64 0), .s (.int .i64 0), .s (.int .i64 0)]
  | 127 => [.s (.int .i64 0), .s (.int .i64 0), .s (.int .i64 0), .s (.int .i64 0), .s (.int .i64 0), .s (.int .i64 0)]
  | 128 => [.s .nilFunc]
  | 130 => [.s .nilFunc]
  | 131 => [.s .nilFunc]
  | 132 => [.s .nilFunc]
  | 133 => [.s .nilFunc]
  | 134 => [.s .nilFunc]
  | 136 => [.s .nilFunc]
  | 137 => [.s .nilFunc]
  | 138 => [.s (.int .i64 0), .s (.int .i64 0), .s (.int .i64 0), .s (.bool false), .s (.int .i64 0), .s (.int .i64 0)]
  | 139 => [.s (.int .i64 0), .s (.int .i64 0), .s (.int .i64 0), .s (.bool false), .s (.int .i64 0), .s (.int .i64 0)]
  | 140 => [.sl true .exact []]
  | 142 => [.s .nilFunc]
  | 143 => [.s .nilFunc]
  | 144 => [.s .nilFunc]
  | 145 => List.replicate 80 (.s (.int .i64 0))
  | 146 => List.replicate 80 (.s (.int .i64 0))
  | 148 => [.sl true .exact []]
  | 149 => [.s .nilFunc]
  | 150 => [.s .nilFunc]
  | 151 => [.s .nilFunc]
  | 152 => [.s .nilFunc]
  | 153 => [.s .nilFunc]
  | 154 => [.s .nilFunc]
  | 155 => [.s .nilFunc]
  | 156 => [.s .nilFunc]
  | 157 => [.s (.pointer none)]
  | 158 => [.s .nilFunc]
  | 159 => [.s .nilFunc]
  | 160 => [.s .nilFunc]
  | 161 => [.s .nilFunc]
  | 162 => [.s .nilFunc]
  | 163 => [.s .nilFunc]
  | 164 => [.s .nilFunc]
  | 165 => [.s .nilFunc]
  | 166 => [.s (.int .u64 0)]
  | 167 => [.s .nilFunc]
  | 168 => [.s .nilFunc]
  | 169 => [.s (.int .i64 0)]
  | 171 => [.s .nilFunc]
  | 172 => [.s .nilFunc]
  | 173 => [.s .nilFunc]
  | 175 => [.s .nilFunc]
  | 176 => [.s .nilFunc]
  | 177 => [.s (.int .u32 0)]
  | 178 => [.s .nilFunc]
  | 179 => [.s (.int .u64 0)]
  | 180 => [.s (.int .u64 0)]
  | 181 => [.s .nilFunc]
  | 182 => [.s .nilFunc]
  | 183 => [.s .nilFunc]
  | 184 => [.s (.pointer none)]
  | 185 => [.s .nilFunc]
  | 186 => [.s (.pointer none)]
  | 188 => [.s .nilFunc]
  | 189 => [.s .nilFunc]
  | 190 => [.s (.pointer none), .s (.pointer none), .s (.pointer none), .s (.string .empty)]
  | 191 => [.s (.pointer none), .s (.pointer none), .s (.pointer none), .s (.string .empty)]
  | 195 => [.s (.int .u8 0)]
  | 196 => [.s (.int .u8 0)]
  | 197 => [.s .nilFunc]
  | 198 => [.s (.pointer none)]
  | 199 => [.s (.int .i32 0)]
  | 200 => [.s (.int .i32 0)]
  | 201 => [.s (.int .u64 0), .s (.int .u64 0), .s (.int .u32 0), .s (.int .u8 0), .s (.int .u8 0), .s (.int .u8 0), .s (.int .u8 0), .s .nilFunc, .s (.pointer none), .s (.int .i32 0), .s (.int .i32 0)]
  | 202 => [.s (.int .u64 0), .s (.int .u64 0), .s (.int .u32 0), .s (.int .u8 0), .s (.int .u8 0), .s (.int .u8 0), .s (.int .u8 0), .s .nilFunc, .s (.pointer none), .s (.int .i32 0), .s (.int .i32 0)]
  | _ => []
noncomputable def tab : Tab := ⟨tyT, szT, byT, zrT, pureEq Try.prog, findIx Try.prog, keyOk Try.prog⟩
set_option maxRecDepth 10000 in
theorem tyT_none : ∀ t, 204 ≤ t → tyT t = .none := by
  intro t h
  unfold tyT
  split <;> first | rfl | omega
theorem tab_chk : ((List.range 204).all fun t => tab.chkAt Try.prog t) = true := by kernel_rfl
theorem tab_ok : tab.Ok Try.prog := Tab.ok_of tab_chk tyT_none (by kernel_rfl) (by kernel_rfl) (by kernel_rfl)
end Go.Proofs.Ytkfepnbanekfgaa

namespace Go.Proofs.Ytkfepnbanekfgaa
open Go Go.AL Go.AL.Q
def mb0 : Nat → Bool := fun _ => false
theorem mixed : Try.prog.follows .mixedOrders = true := by kernel_rfl
theorem told {f : Nat} {fn : Func} {c : Code} {args : List A} {v : A} (hf : Try.prog.funcs[f]? = some fn) (hb : fn.body = some c) (hn : enterOk fn = true) (h : Pure Try.prog f args v) : Ans Try.prog f args v := ⟨enters_of hf hb hn, h⟩
theorem within_t (n a b : Int) : Ans Try.prog 30 [.int n, .int a, .int b] (.bool (wi n a b)) := by
  refine told Try.func30 rfl rfl (Pure.of tab_ok Try.func30 rfl Try.ntmps30 rfl (allC (.s _) (allC (.s _) (all1 (.s _)))) (allC (fun _ => rfl) (allC (fun _ => rfl) (all1 (fun _ => rfl)))) (by first | exact .s _ | assumption | exact .tup _ (by intro x hx; simp only [List.mem_cons, List.not_mem_nil, or_false] at hx; rcases hx with rfl | rfl | rfl | rfl <;> first | exact .s _ | (simp_all; done))) fun E hE => ?_)
  refine Aw.sm tab_ok mb0 [] rfl rfl ?zo ?zk
  case zo =>
    repeat' apply AllP.cons
    all_goals first | exact trivial
  case zk =>
  refine Aw.sm tab_ok mb0 [] rfl rfl ?zo ?zk
  case zo =>
    repeat' apply AllP.cons
    all_goals first | exact trivial | exact id | exact fun _ => rfl
  case zk =>
  exact Aw.ret ⟨_, .cons (.tmp _) .nil, rfl⟩
theorem in_t (n a b : Int) : Ans Try.prog 13 [.int n, .int a, .int b] (.bool (wi n a b)) := by
  refine told Try.func13 rfl rfl (Pure.of tab_ok Try.func13 rfl Try.ntmps13 rfl (allC (.s _) (allC (.s _) (all1 (.s _)))) (allC (fun _ => rfl) (allC (fun _ => rfl) (all1 (fun _ => rfl)))) (by first | exact .s _ | assumption | exact .tup _ (by intro x hx; simp only [List.mem_cons, List.not_mem_nil, or_false] at hx; rcases hx with rfl | rfl | rfl | rfl <;> first | exact .s _ | (simp_all; done))) fun E hE => ?_)
  refine Aw.sm tab_ok mb0 [] rfl rfl ?zo ?zk
  case zo =>
    repeat' apply AllP.cons
    all_goals first | exact trivial
  case zk =>
  refine Aw.sm tab_ok mb0 [] rfl rfl ?zo ?zk
  case zo =>
    repeat' apply AllP.cons
    all_goals first | exact trivial | exact id | exact fun _ => rfl
  case zk =>
  exact Aw.ret ⟨_, .cons (.tmp _) .nil, rfl⟩
theorem mod_t (n b : Int) (hb : 0 < b) (hb2 : b ≤ 9223372036854775807) : Ans Try.prog 8 [.int n, .int b] (.int (n % b)) := by
  have h1 := Int.emod_nonneg n (show b ≠ 0 by omega)
  have h2 := Int.emod_lt_of_pos n hb
  have hm := mod_is n b hb
  refine told Try.func8 rfl rfl (Pure.of tab_ok Try.func8 rfl Try.ntmps8 rfl (allC (.s _) (all1 (.s _))) (allC (fun _ => rfl) (all1 (fun _ => rfl))) (by first | exact .s _ | assumption | exact .tup _ (by intro x hx; simp only [List.mem_cons, List.not_mem_nil, or_false] at hx; rcases hx with rfl | rfl | rfl | rfl <;> first | exact .s _ | (simp_all; done))) fun E hE => ?_)
  refine Aw.sm tab_ok mb0 [] rfl rfl ?zo ?zk
  case zo =>
    repeat' apply AllP.cons
    all_goals first | exact trivial
  case zk =>
  refine Aw.sm tab_ok mb0 [] rfl rfl ?zo ?zk
  case zo =>
    repeat' apply AllP.cons
    all_goals first | exact trivial | exact (show b ≠ 0 by omega)
  case zk =>
  refine Aw.seq ?_
  refine Aw.sm tab_ok mb0 [] rfl rfl ?zo ?zk
  case zo =>
    repeat' apply AllP.cons
    all_goals first | exact trivial
  case zk =>
  refine Aw.cond rfl (fun h3 => ?_) (fun h3 => Aw.skip ?_)
  · have h3' : n.tmod b < 0 := of_decide_eq_true h3
    rw [if_pos h3'] at hm
    refine Aw.em tab_ok mb0 [] rfl rfl ?zo ?zk
    case zo =>
      repeat' apply AllP.cons
      all_goals first | exact trivial | exact (show inR (n.tmod b + b) by rw [hm]; simp only [inR]; omega)
    case zk =>
    refine Aw.sm tab_ok mb0 [] rfl rfl ?zo ?zk
    case zo =>
      repeat' apply AllP.cons
      all_goals first | exact trivial
    case zk =>
    exact Aw.ret ⟨_, .cons (.tmp _) .nil, congrArg A.int hm⟩
  · have h3' : ¬ n.tmod b < 0 := of_decide_eq_false h3
    rw [if_neg h3'] at hm
    refine Aw.sm tab_ok mb0 [] rfl rfl ?zo ?zk
    case zo =>
      repeat' apply AllP.cons
      all_goals first | exact trivial
    case zk =>
    exact Aw.ret ⟨_, .cons (.tmp _) .nil, congrArg A.int hm⟩
theorem same_t (p q : Bool) (a b : List Int) (hl : (a.length : Int) ≤ 9223372036854775806) : Ans Try.prog 24 [.sl p .any (ints a), .sl q .any (ints b)] (.bool (a == b)) := by
  refine told Try.func24 rfl rfl (Pure.of tab_ok Try.func24 rfl Try.ntmps24 rfl (allC (free_ints _ _ _) (all1 (free_ints _ _ _))) (allC (fun _ => rfl) (all1 (fun _ => rfl))) (by first | exact .s _ | assumption | exact .tup _ (by intro x hx; simp only [List.mem_cons, List.not_mem_nil, or_false] at hx; rcases hx with rfl | rfl | rfl | rfl <;> first | exact .s _ | (simp_all; done))) fun E hE => ?_)
  have za := ints_lenI a
  have zb := ints_lenI b
  refine Aw.sm tab_ok mb0 [] rfl rfl ?zo ?zk
  case zo =>
    repeat' apply AllP.cons
    all_goals first | exact trivial
  case zk =>
  refine Aw.seq ?_
  refine Aw.sm tab_ok mb0 [] rfl rfl ?zo ?zk
  case zo =>
    repeat' apply AllP.cons
    all_goals first | exact trivial
  case zk =>
  refine Aw.cond rfl (fun h1 => ?_) (fun h1 => Aw.skip ?_)
  · have h1 : (((ints a).length : Int) != ((ints b).length : Int)) = true := h1
    have hne : (a == b) = false := by
      cases e : (a == b) with
      | false => rfl
      | true => rw [za, zb, eq_of_beq e] at h1; simp at h1
    rw [hne]
    refine Aw.sm tab_ok mb0 [] rfl rfl ?zo ?zk
    case zo =>
      repeat' apply AllP.cons
      all_goals first | exact trivial
    case zk =>
    exact Aw.ret ⟨_, .cons (.tmp _) .nil, rfl⟩
  have h1 : (((ints a).length : Int) != ((ints b).length : Int)) = false := h1
  have hlen : a.length = b.length := by
    rw [za, zb] at h1; simp at h1; omega
  generalize hR : (a == b) = R
  have ua : Under 0 (A.sl p .any (ints a)) := (free_ints _ _ _).under
  have ub : Under 0 (A.sl q .any (ints b)) := (free_ints _ _ _).under
  refine Aw.seq ?_
  refine Aw.sm tab_ok mb0 [] rfl rfl ?zo ?zk
  case zo =>
    repeat' apply AllP.cons
    all_goals first | exact trivial
  case zk =>
  refine Aw.block (Aw.rounds 0 hE [(0, .sl p .any (ints a)), (1, .sl q .any (ints b))] (fun k : Nat => [(5, .int k)]) (fun _ => []) (fun k => k ≤ a.length ∧ (a.drop k == b.drop k) = R) (fun k => a.length - k) 0
    ⟨Nat.zero_le _, by simpa using hR⟩ ⟨⟨.refl _, .refl _, trivial⟩, ⟨.refl _, trivial⟩, trivial, Nat.le_refl _⟩ ⟨ua, ub, trivial⟩ (fun _ _ => ⟨.s _, trivial⟩) (fun _ _ => trivial) ?_)
  rintro k ⟨hk, hrun⟩
  refine Aw.seq ?_
  refine Aw.sm tab_ok mb0 [] rfl rfl ?zo ?zk
  case zo =>
    repeat' apply AllP.cons
    all_goals first | exact trivial
  case zk =>
  refine Aw.cond rfl (fun h2 => Aw.skip ?_) (fun h2 => ?_)
  · have hlt : k < a.length := by have := of_decide_eq_true h2; omega
    have hlb : k < b.length := by omega
    rw [List.drop_eq_getElem_cons hlt, List.drop_eq_getElem_cons hlb, List.cons_beq_cons] at hrun
    refine Aw.seq (Aw.block ?_)
    refine Aw.sd tab_ok mixed mb0 [(2, [.int a[k]]), (6, [.int b[k]])] rfl (by kernel_rfl) rfl rfl ?zo ?zk
    case zo =>
      repeat' apply AllP.cons
      all_goals first | exact trivial | exact rfl | exact Nat.le_of_ble_eq_true rfl | exact Int.natCast_nonneg _ | exact ints_get hlt | exact ints_get hlb
    case zk =>
    refine Aw.cond rfl (fun h3 => ?_) (fun h3 => Aw.skip ?_)
    · have h3 : (a[k] != b[k]) = true := h3
      have h4 : (a[k] == b[k]) = false := by simpa using h3
      have : R = false := by rw [← hrun, h4]; rfl
      subst this
      refine Aw.sm tab_ok mb0 [] rfl rfl ?zo ?zk
      case zo =>
        repeat' apply AllP.cons
        all_goals first | exact trivial
      case zk =>
      exact Aw.ret ⟨_, .cons (.tmp _) .nil, rfl⟩
    · have h3 : (a[k] != b[k]) = false := h3
      have h4 : (a[k] == b[k]) = true := by simpa using h3
      rw [h4, Bool.true_and] at hrun
      refine Aw.em tab_ok mb0 [] rfl rfl ?zo ?zk
      case zo =>
        repeat' apply AllP.cons
        all_goals first | exact trivial | exact inrk k (by omega)
      case zk =>
      exact ⟨k + 1, ⟨hlt, hrun⟩, by omega, ⟨.refl _, .refl _, trivial⟩, ⟨.refl _, trivial⟩, trivial, Nat.zero_le _⟩
  · have hend : k = a.length := by have := of_decide_eq_false h2; omega
    have : R = true := by rw [← hrun, hend, List.drop_length, hlen, List.drop_length]; rfl
    subst this
    refine Aw.exit2 ?_
    refine Aw.sm tab_ok mb0 [] rfl rfl ?zo ?zk
    case zo =>
      repeat' apply AllP.cons
      all_goals first | exact trivial
    case zk =>
    exact Aw.ret ⟨_, .cons (.tmp _) .nil, rfl⟩
theorem sum_g (l : List Int) (b : Int) (hl : l.length ≤ 1000) (hb : b ≤ 1000000000000) (h : ∀ x ∈ l, 0 ≤ x ∧ x ≤ b) : ∀ k, k ≤ l.length → inR (l.take k).sum := fun k _ => by
  have h1 := sum_bd (l := l.take k) fun x hx => h x (List.mem_of_mem_take hx)
  have h2 : (l.take k).length ≤ 1000 := by rw [List.length_take]; omega
  have h3 : b * ((l.take k).length : Int) ≤ 1000000000000 * ((l.take k).length : Int) := Int.mul_le_mul_of_nonneg_right hb (by omega)
  have h4 : 1000000000000 * ((l.take k).length : Int) ≤ 1000000000000 * 1000 := Int.mul_le_mul_of_nonneg_left (by omega) (by omega)
  simp only [inR]; omega
end Go.Proofs.Ytkfepnbanekfgaa

namespace Go.Proofs.Ytkfepnbanekfgaa
open Go Go.AL Go.AL.Q Go.AL.Sh
theorem withinS_t (n a b : Int) : Ans Try.prog 25 [.int n, .int a, .int b] (.bool (wi n a b)) := by
  refine told Try.func25 rfl rfl (Pure.of tab_ok Try.func25 rfl Try.ntmps25 rfl (allC (.s _) (allC (.s _) (all1 (.s _)))) (allC (fun _ => rfl) (allC (fun _ => rfl) (all1 (fun _ => rfl)))) (by first | exact .s _ | assumption | exact .tup _ (by intro x hx; simp only [List.mem_cons, List.not_mem_nil, or_false] at hx; rcases hx with rfl | rfl | rfl | rfl <;> first | exact .s _ | (simp_all; done))) fun E hE => ?_)
  refine Aw.sm tab_ok mb0 [] rfl rfl ?zo ?zk
  case zo =>
    repeat' apply AllP.cons
    all_goals first | exact trivial
  case zk =>
  refine Aw.sm tab_ok mb0 [] rfl rfl ?zo ?zk
  case zo =>
    repeat' apply AllP.cons
    all_goals first | exact trivial | exact id | exact fun _ => rfl
  case zk =>
  exact Aw.ret ⟨_, .cons (.tmp _) .nil, rfl⟩
theorem u5 : Try.prog.underlying 5 = some (.int .u8) := by kernel_rfl
theorem u3 : Try.prog.underlying 3 = some (.int .i64) := by kernel_rfl
set_option maxRecDepth 100000 in
theorem neU8 (x y : Operand) (a b : Int) : EqIs tab .neq 5 x y (.s (.int .u8 a)) (.s (.int .u8 b)) (a != b) := by
  refine ⟨.int .u8 a, .int .u8 b, rfl, rfl, (congrFun (congrFun (congrFun (congrFun (congrFun (congrFun (show tab.eqv = pureEq Try.prog from rfl) _) _) _) _) _) _).trans ?_⟩
  have hp : pureRun Try.prog program = some Try.prog := rfl
  have pp : ∀ {α : Type} (x : α), pureRun Try.prog (pure x) = some x := fun x => rfl
  have e1 : pureRun Try.prog (eqGuard .neq 5 x y (.int .u8 a) (.int .u8 b)) = some () := by
    simp [eqGuard, pp]
  have e2 : pureRun Try.prog (binOp .neq 5 (.int .u8 a) (.int .u8 b)) = some (.bool (a != b)) := by rfl
  unfold pureEq
  rw [pureRun_bind, e1]
  exact e2
set_option maxRecDepth 100000 in
theorem eqStr (x y : Operand) (a b : ByteArray) : EqIs tab .eql 9 x y (.s (.string a)) (.s (.string b)) (a.toList == b.toList) := by
  refine ⟨.string a, .string b, rfl, rfl, (congrFun (congrFun (congrFun (congrFun (congrFun (congrFun (show tab.eqv = pureEq Try.prog from rfl) _) _) _) _) _) _).trans ?_⟩
  have hp : pureRun Try.prog program = some Try.prog := rfl
  have pp : ∀ {α : Type} (x : α), pureRun Try.prog (pure x) = some x := fun x => rfl
  have e1 : pureRun Try.prog (eqGuard .eql 9 x y (.string a) (.string b)) = some () := by
    simp [eqGuard, pp]
  unfold pureEq
  rw [pureRun_bind, e1, binOp_string_eql]; rfl
theorem isName_t (b : ByteArray) : Ans Try.prog 44 [.s (.string b)] (.bool (nameB b)) := by
  have hsz : gq (!wi b.size 1 16) false = true → (0 : Int) < b.size := fun h => by
    cases hw : wi b.size 1 16 with
    | false => rw [hw] at h; cases h
    | true => have := wi_iff.1 hw; omega
  refine told Try.func44 rfl rfl (Pure.of tab_ok Try.func44 rfl Try.ntmps44 rfl (all1 (.s _)) (all1 (fun _ => rfl)) (by first | exact .s _ | assumption | exact .tup _ (by intro x hx; simp only [List.mem_cons, List.not_mem_nil, or_false] at hx; rcases hx with rfl | rfl | rfl | rfl <;> first | exact .s _ | (simp_all; done))) fun E hE => ?_)
  refine Aw.sm tab_ok mb0 [] rfl rfl ?zo ?zk
  case zo =>
    repeat' apply AllP.cons
    all_goals first | exact trivial
  case zk =>
  refine Aw.seq ?_
  refine Aw.sm tab_ok mb0 [(1, [.int b.size, .un, .un]), (2, [.bool (wi b.size 1 16)]), (6, [.s (.int .u8 (b.data.toList.getD 0 0).toNat), .un, .un])] rfl rfl ?zo ?zk
  case zo =>
    repeat' apply AllP.cons
    all_goals first | exact trivial | exact id | exact fun _ => rfl | exact withinS_t _ _ _ | exact gq_f | exact OpX.strLen tab_ok rfl rfl | exact fun h => OpX.strAtD tab_ok rfl rfl rfl (by decide) (hsz h)
  case zk =>
  refine Aw.cond rfl (fun h => ?_) (fun h => Aw.skip ?_)
  · have hn : nameB b = false := by
      have h : cond (!wi b.size 1 16) true (decide (((b.data.toList.getD 0 0).toNat : Int) < 97)) = true := h
      unfold nameB
      cases hw : wi b.size 1 16 with
      | false => rfl
      | true => rw [hw] at h; simp only [Bool.not_true, cond_false] at h; rw [h]; rfl
    rw [hn]
    refine Aw.sm tab_ok mb0 [] rfl rfl ?zo ?zk
    case zo =>
      repeat' apply AllP.cons
      all_goals first | exact trivial
    case zk =>
    exact Aw.ret ⟨_, .cons (.tmp _) .nil, rfl⟩
  have h : cond (!wi b.size 1 16) true (decide (((b.data.toList.getD 0 0).toNat : Int) < 97)) = false := h
  have hw : wi b.size 1 16 = true := by
    cases hw : wi b.size 1 16 with
    | false => rw [hw] at h; cases h
    | true => rfl
  have hn : nameB b = b.data.toList.all chOk := by
    unfold nameB
    rw [hw] at h ⊢
    simp only [Bool.not_true, cond_false] at h
    rw [h]; rfl
  rw [hn]
  have hs := wi_iff.1 hw
  have hlen : (b.data.toList.map fun c => [A.s (.int .u8 c.toNat)]).length = b.size := by simp
  have hL : b.data.toList.length = b.size := Array.length_toList ..
  have ub : ∀ {n : Nat}, Under n (A.sl false .any (b.data.toList.map fun c => [A.s (.int .u8 c.toNat)])) := (Free.sl _ _ _ fun e he x hx => by
    obtain ⟨c, _, rfl⟩ := List.mem_map.1 he; simp at hx; subst hx; exact .s _).under
  refine Aw.seq ?_
  refine Aw.sm tab_ok mb0 [(1, [.sl false .any (b.data.toList.map fun c => [A.s (.int .u8 c.toNat)]), .un, .un])] rfl rfl ?zo ?zk
  case zo =>
    repeat' apply AllP.cons
    all_goals first | exact trivial | exact OpX.bytes tab_ok rfl rfl rfl rfl (by omega) (by simp only [maxLen]; omega)
  case zk =>
  refine Aw.block (Aw.rounds 0 hE [(15, .sl false .any (b.data.toList.map fun c => [A.s (.int .u8 c.toNat)])), (16, .int b.size)] (fun k : Nat => [(17, .int k)]) (fun k => []) (fun k => k ≤ b.size ∧ (b.data.toList.take k).all chOk = true) (fun k => b.size - k) 0 ?zg ⟨?zc, ?zv, ?zh, Nat.le_of_ble_eq_true rfl⟩ ?zu (fun k zhk => ?zw) (fun k zhk => ?zx) fun k hk => ?zr)
  case zg =>
    (repeat' (first | exact ⟨Nat.zero_le _, rfl⟩))
  case zc =>
    (repeat' (first | (refine And.intro ?_ ?_) | exact trivial | exact A.Le.refl _ | exact .of_eq (congrArg A.int (by rw [← hlen]))))
  case zv =>
    (repeat' (first | (refine And.intro ?_ ?_) | exact trivial | exact A.Le.refl _))
  case zh =>
    (repeat' (first | exact trivial))
  case zu =>
    (repeat' (first | exact trivial | exact Under.s _ | exact ub | (refine And.intro ?_ ?_)))
  case zw =>
    (repeat' (first | exact trivial | exact Under.s _ | (refine And.intro ?_ ?_)))
  case zx =>
    (repeat' (first | exact trivial))
  case zr =>
  refine Aw.sm tab_ok mb0 [] rfl rfl ?zo ?zk
  case zo =>
    repeat' apply AllP.cons
    all_goals first | exact trivial
  case zk =>
  refine Aw.seq (Aw.cond rfl (fun h1 => Aw.skip1 ?_) (fun h1 => Aw.exit2 ?_))
  · have hlt : k < b.size := by have := of_decide_eq_true h1; omega
    have hg : (b.data.toList.map fun c => [A.s (.int .u8 c.toNat)])[k]? = some [A.s (.int .u8 (b.data.toList.getD k 0).toNat)] := by
      rw [List.getElem?_map, List.getElem?_eq_getElem (by omega)]
      rw [List.getD_eq_getElem?_getD, List.getElem?_eq_getElem (by omega : k < b.data.toList.length)]; rfl
    generalize hc : b.data.toList.getD k 0 = c at *
    have hc2 : c.toNat < 256 := UInt8.toNat_lt c
    have hwr : IntKind.i64.wrap (c.toNat : Int) = c.toNat := by
      exact wrap_in (by simp only [inR]; omega)
    refine Aw.seq (Aw.block ?_)
    refine Aw.sm tab_ok mb0 [(0, [.s (.int .u8 c.toNat)])] rfl rfl ?zo ?zk
    case zo =>
      repeat' apply AllP.cons
      all_goals first | exact trivial | exact rfl | exact Nat.le_of_ble_eq_true rfl | exact Int.natCast_nonneg _ | exact hg
    case zk =>
    refine Aw.sm tab_ok mb0 [(1, [.int c.toNat, .un, .un]), (2, [.bool (wi c.toNat 97 122)]), (6, [.int c.toNat, .un, .un]), (7, [.bool (wi c.toNat 48 57)]), (12, [.bool ((c.toNat : Int) != 45)])] rfl rfl ?zo ?zk
    case zo =>
      repeat' apply AllP.cons
      all_goals first | exact trivial | exact id | exact fun _ => rfl | exact withinS_t _ _ _ | exact (withinS_t _ _ _).un | exact fun _ => neU8 _ _ _ _ | exact OpX.conv u5 u3 rfl hwr | exact fun _ => OpX.conv u5 u3 rfl hwr
    case zk =>
    have hch : chOk c = !(cond (cond (!wi c.toNat 97 122) (!wi c.toNat 48 57) false) ((c.toNat : Int) != 45) false) := rfl
    refine Aw.cond rfl (fun h2 => ?_) (fun h2 => Aw.skip ?_)
    · have h2 : cond (cond (!wi c.toNat 97 122) (!wi c.toNat 48 57) false) ((c.toNat : Int) != 45) false = true := h2
      rw [h2] at hch
      have hall : b.data.toList.all chOk = false := by
        rw [← Bool.not_eq_true, List.all_eq_true]
        intro hh
        have := hh c (by rw [← hc, List.getD_eq_getElem?_getD, List.getElem?_eq_getElem (by omega : k < b.data.toList.length)]; exact List.getElem_mem _)
        rw [hch] at this; cases this
      rw [hall]
      refine Aw.sm tab_ok mb0 [] rfl rfl ?zo ?zk
      case zo =>
        repeat' apply AllP.cons
        all_goals first | exact trivial
      case zk =>
      exact Aw.ret ⟨_, .cons (.tmp _) .nil, rfl⟩
    have h2 : cond (cond (!wi c.toNat 97 122) (!wi c.toNat 48 57) false) ((c.toNat : Int) != 45) false = false := h2
    rw [h2] at hch
    have hnx : (b.data.toList.take (k + 1)).all chOk = true := by
      rw [List.take_succ_eq_append_getElem (by omega : k < b.data.toList.length), List.all_append, hk.2]
      have : b.data.toList[k]'(by omega) = c := by rw [← hc, List.getD_eq_getElem?_getD, List.getElem?_eq_getElem (by omega : k < b.data.toList.length)]; rfl
      rw [this]; simp [hch]
    refine Aw.em tab_ok mb0 [] rfl rfl ?zo ?zk
    case zo =>
      repeat' apply AllP.cons
      all_goals first | exact trivial | exact inrk k (by omega)
    case zk =>
    refine ⟨k + 1, ?zg, ?zm, ⟨?zc, ?zv, ?zh, Nat.le_of_ble_eq_true rfl⟩⟩
    case zg =>
      (repeat' (first | exact ⟨hlt, hnx⟩))
    case zm =>
      (repeat' (first | omega))
    case zc =>
      (repeat' (first | (refine And.intro ?_ ?_) | exact trivial | exact A.Le.refl _))
    case zv =>
      (repeat' (first | (refine And.intro ?_ ?_) | exact trivial | exact A.Le.refl _))
    case zh =>
      (repeat' (first | exact trivial))
  have hke : k = b.size := by have := of_decide_eq_false h1; omega
  have hall : b.data.toList.all chOk = true := by have := hk.2; rwa [List.take_of_length_le (by omega)] at this
  rw [hall]
  refine Aw.sm tab_ok mb0 [] rfl rfl ?zo ?zk
  case zo =>
    repeat' apply AllP.cons
    all_goals first | exact trivial
  case zk =>
  exact Aw.ret ⟨_, .cons (.tmp _) .nil, rfl⟩
end Go.Proofs.Ytkfepnbanekfgaa

namespace Go.Proofs.Ytkfepnbanekfgaa
open Go Go.AL Go.AL.Q Go.AL.Sh
theorem same_n (o x : Stk) : Ans Try.prog 46 [.agg o.c, .pt x.c] (.bool (sameN o x)) := by
  refine told Try.func46 rfl rfl (Pure.of tab_ok Try.func46 rfl Try.ntmps46 rfl (allC (.agg _ o.free) (all1 (.pt _ x.free))) (allC (fun _ => rfl) (all1 (fun _ => rfl))) (by first | exact .s _ | assumption | exact .tup _ (by intro x hx; simp only [List.mem_cons, List.not_mem_nil, or_false] at hx; rcases hx with rfl | rfl | rfl | rfl <;> first | exact .s _ | (simp_all; done))) fun E hE => ?_)
  refine Aw.sm tab_ok mb0 [] rfl rfl ?zo ?zk
  case zo =>
    repeat' apply AllP.cons
    all_goals first | exact trivial
  case zk =>
  refine Aw.sm tab_ok mb0 [(4, [.bool (sameN o x)])] rfl rfl ?zo ?zk
  case zo =>
    repeat' apply AllP.cons
    all_goals first | exact trivial | exact Nat.le_of_ble_eq_true rfl | exact eqStr _ _ _ _
  case zk =>
  exact Aw.ret ⟨_, .cons (.tmp _) .nil, rfl⟩
theorem index_s (b : Bool) (l : List Stk) (x : Stk) (hl : (l.length : Int) ≤ 9223372036854775806) : Ans Try.prog 59 [.sl b .any (l.map Stk.c), .fn (.func 46) [] [.pt x.c]] (.int (idxS (fun o => sameN o x) 0 l)) := by
  have ll : ((l.map Stk.c).length : Int) = l.length := by rw [List.length_map]
  have ul : ∀ {m : Nat}, Under m (A.sl b .any (l.map Stk.c)) := (free_map Stk.free _ _ _).under
  have hfn : Free (.fn (.func 46) [] [.pt x.c]) := .fn _ _ _ allN (all1 (.pt _ x.free))
  have uf : ∀ {m : Nat}, Under m (A.fn (.func 46) [] [.pt x.c]) := hfn.under
  refine told Try.func59 rfl rfl (Pure.of tab_ok Try.func59 rfl Try.ntmps59 rfl (allC (free_map Stk.free _ _ _) (all1 (hfn))) (allC (fun _ => rfl) (all1 (fun _ => rfl))) (by first | exact .s _ | assumption | exact .tup _ (by intro x hx; simp only [List.mem_cons, List.not_mem_nil, or_false] at hx; rcases hx with rfl | rfl | rfl | rfl <;> first | exact .s _ | (simp_all; done))) fun E hE => ?_)
  refine Aw.sm tab_ok mb0 [] rfl rfl ?zo ?zk
  case zo =>
    repeat' apply AllP.cons
    all_goals first | exact trivial
  case zk =>
  refine Aw.seq ?_
  refine Aw.sm tab_ok mb0 [] rfl rfl ?zo ?zk
  case zo =>
    repeat' apply AllP.cons
    all_goals first | exact trivial
  case zk =>
  refine Aw.block (Aw.rounds 0 hE [(0, .sl b .any (l.map Stk.c)), (1, .fn (.func 46) [] [.pt x.c]), (7, .int l.length)] (fun k : Nat => [(8, .int k)]) (fun k => []) (fun k => k ≤ l.length ∧ idxS (fun o => sameN o x) 0 l = idxS (fun o => sameN o x) k (l.drop k)) (fun k => l.length - k) 0 ?zg ⟨?zc, ?zv, ?zh, Nat.le_of_ble_eq_true rfl⟩ ?zu (fun k zhk => ?zw) (fun k zhk => ?zx) fun k hk => ?zr)
  case zg =>
    (repeat' (first | exact ⟨Nat.zero_le _, rfl⟩))
  case zc =>
    (repeat' (first | (refine And.intro ?_ ?_) | exact trivial | exact A.Le.refl _ | exact .of_eq (congrArg A.int ll.symm)))
  case zv =>
    (repeat' (first | (refine And.intro ?_ ?_) | exact trivial | exact A.Le.refl _))
  case zh =>
    (repeat' (first | exact trivial))
  case zu =>
    (repeat' (first | exact trivial | exact Under.s _ | exact ul | exact uf | (refine And.intro ?_ ?_)))
  case zw =>
    (repeat' (first | exact trivial | exact Under.s _ | (refine And.intro ?_ ?_)))
  case zx =>
    (repeat' (first | exact trivial))
  case zr =>
  obtain ⟨hk, he⟩ := hk
  refine Aw.sm tab_ok mb0 [] rfl rfl ?zo ?zk
  case zo =>
    repeat' apply AllP.cons
    all_goals first | exact trivial
  case zk =>
  refine Aw.seq (Aw.cond rfl (fun h1 => Aw.skip1 ?_) (fun h1 => Aw.exit2 ?_))
  · have hlt : k < l.length := by have := of_decide_eq_true h1; omega
    have hd : l.drop k = l.getD k stk0 :: l.drop (k + 1) := by rw [List.drop_eq_getElem_cons hlt, List.getD_eq_getElem?_getD, List.getElem?_eq_getElem hlt]; rfl
    rw [hd, idxS] at he
    have hg := stk_at hlt
    generalize l.getD k stk0 = o at *
    refine Aw.seq (Aw.block ?_)
    refine Aw.sm tab_ok mb0 [] rfl rfl ?zo ?zk
    case zo =>
      repeat' apply AllP.cons
      all_goals first | exact trivial
    case zk =>
    refine Aw.sm tab_ok mb0 [(3, o.c), (5, [.bool (sameN o x)])] rfl rfl ?zo ?zk
    case zo =>
      repeat' apply AllP.cons
      all_goals first | exact trivial | exact rfl | exact Nat.le_of_ble_eq_true rfl | exact Int.natCast_nonneg _ | exact hg | exact same_n o x
    case zk =>
    refine Aw.cond rfl (fun h2 => ?_) (fun h2 => Aw.skip ?_)
    · have h2 : sameN o x = true := h2
      rw [if_pos h2] at he
      refine Aw.sm tab_ok mb0 [] rfl rfl ?zo ?zk
      case zo =>
        repeat' apply AllP.cons
        all_goals first | exact trivial
      case zk =>
      exact Aw.ret ⟨_, .cons (.tmp _) .nil, congrArg A.int he.symm⟩
    · have h2 : sameN o x = false := h2
      rw [h2] at he
      refine Aw.em tab_ok mb0 [] rfl rfl ?zo ?zk
      case zo =>
        repeat' apply AllP.cons
        all_goals first | exact trivial | exact inrk k (by omega)
      case zk =>
      refine ⟨k + 1, ?zg, ?zm, ⟨?zc, ?zv, ?zh, Nat.le_of_ble_eq_true rfl⟩⟩
      case zg =>
        (repeat' (first | exact ⟨hlt, he⟩))
      case zm =>
        (repeat' (first | omega))
      case zc =>
        (repeat' (first | (refine And.intro ?_ ?_) | exact trivial | exact A.Le.refl _))
      case zv =>
        (repeat' (first | (refine And.intro ?_ ?_) | exact trivial | exact A.Le.refl _))
      case zh =>
        (repeat' (first | exact trivial))
  have hle : k = l.length := by have := of_decide_eq_false h1; omega
  subst hle
  rw [List.drop_length] at he
  refine Aw.sm tab_ok mb0 [] rfl rfl ?zo ?zk
  case zo =>
    repeat' apply AllP.cons
    all_goals first | exact trivial
  case zk =>
  exact Aw.ret ⟨_, .cons (.tmp _) .nil, congrArg A.int he.symm⟩
theorem has_s (b : Bool) (l : List Stk) (x : Stk) (hl : (l.length : Int) ≤ 9223372036854775806) : Ans Try.prog 45 [.sl b .any (l.map Stk.c), .fn (.func 46) [] [.pt x.c]] (.bool (l.any fun o => sameN o x)) := by
  have hfn : Free (.fn (.func 46) [] [.pt x.c]) := .fn _ _ _ allN (all1 (.pt _ x.free))
  have e := idxS_any (p := fun o => sameN o x) l 0
  refine told Try.func45 rfl rfl (Pure.of tab_ok Try.func45 rfl Try.ntmps45 rfl (allC (free_map Stk.free _ _ _) (all1 (hfn))) (allC (fun _ => rfl) (all1 (fun _ => rfl))) (by first | exact .s _ | assumption | exact .tup _ (by intro x hx; simp only [List.mem_cons, List.not_mem_nil, or_false] at hx; rcases hx with rfl | rfl | rfl | rfl <;> first | exact .s _ | (simp_all; done))) fun E hE => ?_)
  refine Aw.sm tab_ok mb0 [] rfl rfl ?zo ?zk
  case zo =>
    repeat' apply AllP.cons
    all_goals first | exact trivial
  case zk =>
  refine Aw.sm tab_ok mb0 [(2, [.int (idxS (fun o => sameN o x) 0 l)])] rfl rfl ?zo ?zk
  case zo =>
    repeat' apply AllP.cons
    all_goals first | exact trivial | exact index_s b l x hl
  case zk =>
  exact Aw.ret ⟨_, .cons (.tmp _) .nil, congrArg A.bool e⟩
theorem are_s (b : Bool) (l : List Stk) (hl : (l.length : Int) ≤ 9223372036854775806) : Ans Try.prog 26 [.sl b .any (l.map Stk.c)] (.bool (areB l)) := by
  have ll : ((l.map Stk.c).length : Int) = l.length := by rw [List.length_map]
  have ul : ∀ {m : Nat}, Under m (A.sl b .any (l.map Stk.c)) := (free_map Stk.free _ _ _).under
  refine told Try.func26 rfl rfl (Pure.of tab_ok Try.func26 rfl Try.ntmps26 rfl (all1 (free_map Stk.free _ _ _)) (all1 (fun _ => rfl)) (by first | exact .s _ | assumption | exact .tup _ (by intro x hx; simp only [List.mem_cons, List.not_mem_nil, or_false] at hx; rcases hx with rfl | rfl | rfl | rfl <;> first | exact .s _ | (simp_all; done))) fun E hE => ?_)
  refine Aw.sm tab_ok mb0 [] rfl rfl ?zo ?zk
  case zo =>
    repeat' apply AllP.cons
    all_goals first | exact trivial
  case zk =>
  refine Aw.sm tab_ok mb0 [] rfl rfl ?zo ?zk
  case zo =>
    repeat' apply AllP.cons
    all_goals first | exact trivial
  case zk =>
  refine Aw.seq ?_
  refine Aw.sm tab_ok mb0 [] rfl rfl ?zo ?zk
  case zo =>
    repeat' apply AllP.cons
    all_goals first | exact trivial
  case zk =>
  have h0 : areK l 0 = decide (((l.map Stk.c).length : Int) ≤ 10) := by unfold areK; rw [ll]; cases decide ((l.length : Int) ≤ 10) <;> rfl
  refine Aw.block (Aw.rounds 0 hE [(0, .sl b .any (l.map Stk.c)), (9, .sl b .any (l.map Stk.c)), (10, .int l.length)] (fun k : Nat => [(3, .bool (areK l k)), (11, .int k)]) (fun k => []) (fun k => k ≤ l.length) (fun k => l.length - k) 0 ?zg ⟨?zc, ?zv, ?zh, Nat.le_of_ble_eq_true rfl⟩ ?zu (fun k zhk => ?zw) (fun k zhk => ?zx) fun k hk => ?zr)
  case zg =>
    (repeat' (first | exact Nat.zero_le _))
  case zc =>
    (repeat' (first | (refine And.intro ?_ ?_) | exact trivial | exact A.Le.refl _ | exact .of_eq (congrArg A.int ll.symm)))
  case zv =>
    (repeat' (first | (refine And.intro ?_ ?_) | exact trivial | exact A.Le.refl _ | exact .of_eq (congrArg A.bool h0)))
  case zh =>
    (repeat' (first | exact trivial))
  case zu =>
    (repeat' (first | exact trivial | exact Under.s _ | exact ul | (refine And.intro ?_ ?_)))
  case zw =>
    (repeat' (first | exact trivial | exact Under.s _ | (refine And.intro ?_ ?_)))
  case zx =>
    (repeat' (first | exact trivial))
  case zr =>
  refine Aw.sm tab_ok mb0 [] rfl rfl ?zo ?zk
  case zo =>
    repeat' apply AllP.cons
    all_goals first | exact trivial
  case zk =>
  refine Aw.seq (Aw.cond rfl (fun h1 => Aw.skip1 ?_) (fun h1 => Aw.exit2 ?_))
  · have hlt : k < l.length := by have := of_decide_eq_true h1; omega
    have hst := areK_step l k
    unfold stkOk at hst
    have hg := stk_at hlt
    have ht : (l.map Stk.c).take (Int.toNat (k : Int)) = (l.take k).map Stk.c := by rw [Int.toNat_natCast, List.map_take]
    have hh := fun x => has_s b (l.take k) x (by rw [List.length_take]; omega)
    generalize l.getD k stk0 = x at *
    have hn := isName_t x.n
    have hx := hh x
    rw [← ht] at hx
    refine Aw.seq (Aw.block ?_)
    refine Aw.sm tab_ok mb0 [(1, x.c)] rfl rfl ?zo ?zk
    case zo =>
      repeat' apply AllP.cons
      all_goals first | exact trivial | exact rfl | exact Nat.le_of_ble_eq_true rfl | exact Int.natCast_nonneg _ | exact hg
    case zk =>
    refine Aw.freeze (id := 0) (t := 5) rfl rfl ?_
    refine Aw.em tab_ok mb0 [(4, [.bool (nameB x.n)]), (9, [.bool (wi x.w 0 1000)]), (16, [.bool ((l.take k).any fun o => sameN o x)])] rfl rfl ?zo ?zk
    case zo =>
      repeat' apply AllP.cons
      all_goals first | exact trivial | exact id | exact fun _ => rfl | exact fun _ => Nat.le_of_ble_eq_true rfl | exact fun _ => Int.natCast_nonneg _ | exact fun _ => hn | exact fun _ => withinS_t _ _ _ | exact fun _ => hx | exact fun _ => (show (k : Int) ≤ ((l.map Stk.c).length : Int) by rw [ll]; omega)
    case zk =>
    refine Aw.em tab_ok mb0 [] rfl rfl ?zo ?zk
    case zo =>
      repeat' apply AllP.cons
      all_goals first | exact trivial | exact inrk k (by omega)
    case zk =>
    refine ⟨k + 1, ?zg, ?zm, ⟨?zc, ?zv, ?zh, Nat.le_of_ble_eq_true rfl⟩⟩
    case zg =>
      (repeat' (first | assumption))
    case zm =>
      (repeat' (first | omega))
    case zc =>
      (repeat' (first | (refine And.intro ?_ ?_) | exact trivial | exact A.Le.refl _))
    case zv =>
      (repeat' (first | (refine And.intro ?_ ?_) | exact trivial | exact A.Le.refl _ | exact .of_eq (congrArg A.bool (by rw [hst]; cases areK l k <;> cases nameB x.n <;> cases wi x.w 0 1000 <;> rfl))))
    case zh =>
      (repeat' (first | exact trivial))
  have hle : k = l.length := by have := of_decide_eq_false h1; omega
  subst hle
  refine Aw.sm tab_ok mb0 [] rfl rfl ?zo ?zk
  case zo =>
    repeat' apply AllP.cons
    all_goals first | exact trivial
  case zk =>
  exact Aw.ret ⟨_, .cons (.tmp _) .nil, rfl⟩
end Go.Proofs.Ytkfepnbanekfgaa

namespace Go.Proofs.Ytkfepnbanekfgaa
open Go Go.AL Go.AL.Q Go.AL.Sh
theorem nan_t (n : Int) : Ans Try.prog 74 [.int n] (.bool false) := by
  refine told Try.func74 rfl rfl (Pure.of tab_ok Try.func74 rfl Try.ntmps74 rfl (all1 (.s _)) (all1 (fun _ => rfl)) (by first | exact .s _ | assumption | exact .tup _ (by intro x hx; simp only [List.mem_cons, List.not_mem_nil, or_false] at hx; rcases hx with rfl | rfl | rfl | rfl <;> first | exact .s _ | (simp_all; done))) fun E hE => ?_)
  refine Aw.sm tab_ok mb0 [] rfl rfl ?zo ?zk
  case zo =>
    repeat' apply AllP.cons
    all_goals first | exact trivial
  case zk =>
  refine Aw.sm tab_ok mb0 [] rfl rfl ?zo ?zk
  case zo =>
    repeat' apply AllP.cons
    all_goals first | exact trivial
  case zk =>
  exact Aw.ret ⟨_, .cons (.tmp _) .nil, congrArg A.bool (show (n != n) = false by simp)⟩
theorem cmpI_t (a b : Int) : Ans Try.prog 63 [.int a, .int b] (.int (cmpI a b)) := by
  have h1 := nan_t a
  have h2 := nan_t b
  refine told Try.func63 rfl rfl (Pure.of tab_ok Try.func63 rfl Try.ntmps63 rfl (allC (.s _) (all1 (.s _))) (allC (fun _ => rfl) (all1 (fun _ => rfl))) (by first | exact .s _ | assumption | exact .tup _ (by intro x hx; simp only [List.mem_cons, List.not_mem_nil, or_false] at hx; rcases hx with rfl | rfl | rfl | rfl <;> first | exact .s _ | (simp_all; done))) fun E hE => ?_)
  refine Aw.sm tab_ok mb0 [] rfl rfl ?zo ?zk
  case zo =>
    repeat' apply AllP.cons
    all_goals first | exact trivial
  case zk =>
  refine Aw.sm tab_ok mb0 [(1, [.bool false])] rfl rfl ?zo ?zk
  case zo =>
    repeat' apply AllP.cons
    all_goals first | exact trivial | exact h1
  case zk =>
  refine Aw.sm tab_ok mb0 [(1, [.bool false])] rfl rfl ?zo ?zk
  case zo =>
    repeat' apply AllP.cons
    all_goals first | exact trivial | exact h2
  case zk =>
  refine Aw.seq ?_
  refine Aw.sm tab_ok mb0 [] rfl rfl ?zo ?zk
  case zo =>
    repeat' apply AllP.cons
    all_goals first | exact trivial
  case zk =>
  refine Aw.cond rfl (fun h => by cases h) (fun _ => Aw.skip ?_)
  refine Aw.seq ?_
  refine Aw.sm tab_ok mb0 [] rfl rfl ?zo ?zk
  case zo =>
    repeat' apply AllP.cons
    all_goals first | exact trivial
  case zk =>
  refine Aw.cond rfl (fun h => by cases h) (fun _ => Aw.skip ?_)
  refine Aw.seq ?_
  refine Aw.sm tab_ok mb0 [] rfl rfl ?zo ?zk
  case zo =>
    repeat' apply AllP.cons
    all_goals first | exact trivial
  case zk =>
  refine Aw.cond rfl (fun h => ?_) (fun h => Aw.skip ?_)
  · have h : a < b := of_decide_eq_true h
    refine Aw.sm tab_ok mb0 [] rfl rfl ?zo ?zk
    case zo =>
      repeat' apply AllP.cons
      all_goals first | exact trivial
    case zk =>
    exact Aw.ret ⟨_, .cons (.tmp _) .nil, by unfold cmpI; rw [if_pos h]; rfl⟩
  have h : ¬ a < b := of_decide_eq_false h
  refine Aw.seq ?_
  refine Aw.sm tab_ok mb0 [] rfl rfl ?zo ?zk
  case zo =>
    repeat' apply AllP.cons
    all_goals first | exact trivial
  case zk =>
  refine Aw.cond rfl (fun h' => ?_) (fun h' => Aw.skip ?_)
  · have h' : a > b := of_decide_eq_true h'
    refine Aw.sm tab_ok mb0 [] rfl rfl ?zo ?zk
    case zo =>
      repeat' apply AllP.cons
      all_goals first | exact trivial
    case zk =>
    exact Aw.ret ⟨_, .cons (.tmp _) .nil, by unfold cmpI; rw [if_neg h, if_pos h']; rfl⟩
  have h' : ¬ a > b := of_decide_eq_false h'
  refine Aw.sm tab_ok mb0 [] rfl rfl ?zo ?zk
  case zo =>
    repeat' apply AllP.cons
    all_goals first | exact trivial
  case zk =>
  exact Aw.ret ⟨_, .cons (.tmp _) .nil, by unfold cmpI; rw [if_neg h, if_neg h']; rfl⟩
theorem or_t (a b : Int) : Ans Try.prog 62 [.sl false .exact [[.int a], [.int b]]] (.int (orI a b)) := by
  have hfr : Free (.sl false .exact [[A.int a], [A.int b]]) := .sl _ _ _ fun e he x hx => by
    simp only [List.mem_cons, List.not_mem_nil, or_false] at he
    rcases he with rfl | rfl <;> (simp only [List.mem_cons, List.not_mem_nil, or_false] at hx; subst hx; exact .s _)
  have ufr : ∀ {n : Nat}, Under n (A.sl false .any [[A.int a], [A.int b]]) := (Free.sl _ _ _ fun e he x hx => by
    simp only [List.mem_cons, List.not_mem_nil, or_false] at he
    rcases he with rfl | rfl <;> (simp only [List.mem_cons, List.not_mem_nil, or_false] at hx; subst hx; exact .s _)).under
  refine told Try.func62 rfl rfl (Pure.of tab_ok Try.func62 rfl Try.ntmps62 rfl (all1 (hfr)) (all1 (fun _ => rfl)) (by first | exact .s _ | assumption | exact .tup _ (by intro x hx; simp only [List.mem_cons, List.not_mem_nil, or_false] at hx; rcases hx with rfl | rfl | rfl | rfl <;> first | exact .s _ | (simp_all; done))) fun E hE => ?_)
  refine Aw.sm tab_ok mb0 [] rfl rfl ?zo ?zk
  case zo =>
    repeat' apply AllP.cons
    all_goals first | exact trivial
  case zk =>
  refine Aw.sm tab_ok mb0 [] rfl rfl ?zo ?zk
  case zo =>
    repeat' apply AllP.cons
    all_goals first | exact trivial
  case zk =>
  refine Aw.seq ?_
  refine Aw.sm tab_ok mb0 [] rfl rfl ?zo ?zk
  case zo =>
    repeat' apply AllP.cons
    all_goals first | exact trivial
  case zk =>
  refine Aw.block (Aw.rounds 0 hE [(3, .int 0), (6, .sl false .any [[.int a], [.int b]]), (7, .int 2)] (fun k : Nat => [(8, .int k)]) (fun k => []) (fun k => k ≤ 2 ∧ (0 < k → a = 0) ∧ (1 < k → b = 0)) (fun k => 2 - k) 0 ?zg ⟨?zc, ?zv, ?zh, Nat.le_of_ble_eq_true rfl⟩ ?zu (fun k zhk => ?zw) (fun k zhk => ?zx) fun k hk => ?zr)
  case zg =>
    (repeat' (first | exact ⟨by omega, by omega, by omega⟩))
  case zc =>
    (repeat' (first | (refine And.intro ?_ ?_) | exact trivial | exact A.Le.refl _ | exact A.Le.any _ _ _))
  case zv =>
    (repeat' (first | (refine And.intro ?_ ?_) | exact trivial | exact A.Le.refl _))
  case zh =>
    (repeat' (first | exact trivial))
  case zu =>
    (repeat' (first | exact trivial | exact Under.s _ | exact ufr | (refine And.intro ?_ ?_)))
  case zw =>
    (repeat' (first | exact trivial | exact Under.s _ | (refine And.intro ?_ ?_)))
  case zx =>
    (repeat' (first | exact trivial))
  case zr =>
  obtain ⟨hk, ha, hb⟩ := hk
  refine Aw.sm tab_ok mb0 [] rfl rfl ?zo ?zk
  case zo =>
    repeat' apply AllP.cons
    all_goals first | exact trivial
  case zk =>
  refine Aw.seq (Aw.cond rfl (fun h1 => Aw.skip1 ?_) (fun h1 => Aw.exit2 ?_))
  · have hlt : k < 2 := by have := of_decide_eq_true h1; omega
    refine Aw.seq (Aw.block ?_)
    obtain ⟨v, hv, hva, hvb⟩ : ∃ v, [[A.int a], [A.int b]][k]? = some [A.int v] ∧ (k = 0 → v = a) ∧ (k = 1 → v = b) := by
      match k, hlt with
      | 0, _ => exact ⟨a, rfl, fun _ => rfl, (fun h => nomatch h)⟩
      | 1, _ => exact ⟨b, rfl, (fun h => nomatch h), fun _ => rfl⟩
    refine Aw.sm tab_ok mb0 [(0, [.int v])] rfl rfl ?zo ?zk
    case zo =>
      repeat' apply AllP.cons
      all_goals first | exact trivial | exact rfl | exact Nat.le_of_ble_eq_true rfl | exact Int.natCast_nonneg _ | exact hv
    case zk =>
    refine Aw.sm tab_ok mb0 [] rfl rfl ?zo ?zk
    case zo =>
      repeat' apply AllP.cons
      all_goals first | exact trivial
    case zk =>
    refine Aw.cond rfl (fun h2 => ?_) (fun h2 => Aw.skip ?_)
    · have h2 : (v != 0) = true := h2
      have h2 : v ≠ 0 := by simpa using h2
      have e : orI a b = v := by
        unfold orI
        rcases (by omega : k = 0 ∨ k = 1) with rfl | rfl
        · rw [if_neg (by rw [← hva rfl]; exact h2), hva rfl]
        · rw [if_pos (ha (by omega)), hvb rfl]
      rw [e]
      refine Aw.sm tab_ok mb0 [] rfl rfl ?zo ?zk
      case zo =>
        repeat' apply AllP.cons
        all_goals first | exact trivial
      case zk =>
      exact Aw.ret ⟨_, .cons (.tmp _) .nil, rfl⟩
    have h2 : (v != 0) = false := h2
    have h2 : v = 0 := by simpa using h2
    refine Aw.em tab_ok mb0 [] rfl rfl ?zo ?zk
    case zo =>
      repeat' apply AllP.cons
      all_goals first | exact trivial | exact inrk k (by omega)
    case zk =>
    have n1 : a = 0 := by
      rcases (by omega : k = 0 ∨ k = 1) with rfl | rfl
      · rw [← hva rfl]; exact h2
      · exact ha (by omega)
    have n2 : 1 < k + 1 → b = 0 := fun h => by obtain rfl : k = 1 := by omega
                                               rw [← hvb rfl]; exact h2
    refine ⟨k + 1, ?zg, ?zm, ⟨?zc, ?zv, ?zh, Nat.le_of_ble_eq_true rfl⟩⟩
    case zg =>
      (repeat' (first | omega))
    case zm =>
      (repeat' (first | omega))
    case zc =>
      (repeat' (first | (refine And.intro ?_ ?_) | exact trivial | exact A.Le.refl _))
    case zv =>
      (repeat' (first | (refine And.intro ?_ ?_) | exact trivial | exact A.Le.refl _))
    case zh =>
      (repeat' (first | exact trivial))
  have hke : k = 2 := by have := of_decide_eq_false h1; omega
  subst hke
  have e : orI a b = 0 := by unfold orI; rw [if_pos (ha (by omega))]; exact hb (by omega)
  rw [e]
  refine Aw.sm tab_ok mb0 [] rfl rfl ?zo ?zk
  case zo =>
    repeat' apply AllP.cons
    all_goals first | exact trivial
  case zk =>
  exact Aw.ret ⟨_, .cons (.tmp _) .nil, rfl⟩
theorem cmpS_t (a b : ByteArray) : Ans Try.prog 75 [.s (.string a), .s (.string b)] (.int (Extern.BytealgCompare.cmp a b)) := by
  refine told Try.func75 rfl rfl (Pure.of tab_ok Try.func75 rfl Try.ntmps75 rfl (allC (.s _) (all1 (.s _))) (allC (fun _ => rfl) (all1 (fun _ => rfl))) (by first | exact .s _ | assumption | exact .tup _ (by intro x hx; simp only [List.mem_cons, List.not_mem_nil, or_false] at hx; rcases hx with rfl | rfl | rfl | rfl <;> first | exact .s _ | (simp_all; done))) fun E hE => ?_)
  refine Aw.sm tab_ok mb0 [] rfl rfl ?zo ?zk
  case zo =>
    repeat' apply AllP.cons
    all_goals first | exact trivial
  case zk =>
  refine Aw.sm tab_ok mb0 [(2, [.int (Extern.BytealgCompare.cmp a b), .un, .un])] rfl rfl ?zo ?zk
  case zo =>
    repeat' apply AllP.cons
    all_goals first | exact trivial | exact OpX.cmpStr Try.func82 (by kernel_rfl) (by kernel_rfl) (by kernel_rfl) (by kernel_rfl) rfl rfl rfl
  case zk =>
  exact Aw.ret ⟨_, .cons (.tmp _) .nil, rfl⟩
theorem cmpT_t (a b : ByteArray) : Ans Try.prog 64 [.s (.string a), .s (.string b)] (.int (Extern.BytealgCompare.cmp a b)) := by
  refine told Try.func64 rfl rfl (Pure.of tab_ok Try.func64 rfl Try.ntmps64 rfl (allC (.s _) (all1 (.s _))) (allC (fun _ => rfl) (all1 (fun _ => rfl))) (by first | exact .s _ | assumption | exact .tup _ (by intro x hx; simp only [List.mem_cons, List.not_mem_nil, or_false] at hx; rcases hx with rfl | rfl | rfl | rfl <;> first | exact .s _ | (simp_all; done))) fun E hE => ?_)
  refine Aw.sm tab_ok mb0 [] rfl rfl ?zo ?zk
  case zo =>
    repeat' apply AllP.cons
    all_goals first | exact trivial
  case zk =>
  refine Aw.sm tab_ok mb0 [(2, [.int (Extern.BytealgCompare.cmp a b)])] rfl rfl ?zo ?zk
  case zo =>
    repeat' apply AllP.cons
    all_goals first | exact trivial | exact cmpS_t a b
  case zk =>
  exact Aw.ret ⟨_, .cons (.tmp _) .nil, rfl⟩
theorem cmpSh_t (a b : Shr) : Ans Try.prog 61 [.agg a.c, .agg b.c] (.int (cmpSh a b)) := by
  have h1 := cmpI_t b.rest a.rest
  have h2 := cmpT_t a.n b.n
  have h3 := or_t (cmpI b.rest a.rest) (Extern.BytealgCompare.cmp a.n b.n)
  refine told Try.func61 rfl rfl (Pure.of tab_ok Try.func61 rfl Try.ntmps61 rfl (allC (.agg _ a.free) (all1 (.agg _ b.free))) (allC (fun _ => rfl) (all1 (fun _ => rfl))) (by first | exact .s _ | assumption | exact .tup _ (by intro x hx; simp only [List.mem_cons, List.not_mem_nil, or_false] at hx; rcases hx with rfl | rfl | rfl | rfl <;> first | exact .s _ | (simp_all; done))) fun E hE => ?_)
  refine Aw.sm tab_ok mb0 [] rfl rfl ?zo ?zk
  case zo =>
    repeat' apply AllP.cons
    all_goals first | exact trivial
  case zk =>
  refine Aw.sd tab_ok mixed mb0 [(4, [.int (cmpI b.rest a.rest)]), (11, [.int (Extern.BytealgCompare.cmp a.n b.n)]), (13, [.int (cmpSh a b)])] rfl (by kernel_rfl) rfl rfl ?zo ?zk
  case zo =>
    repeat' apply AllP.cons
    all_goals first | exact trivial | exact Nat.le_of_ble_eq_true rfl | exact h1 | exact h2 | exact h3
  case zk =>
  exact Aw.ret ⟨_, .cons (.tmp _) .nil, rfl⟩
end Go.Proofs.Ytkfepnbanekfgaa

namespace Go.Proofs.Ytkfepnbanekfgaa
open Go Go.AL Go.AL.Q Go.AL.Sh
theorem shB_under (l : List Shr) {n : Nat} : UnderB n (shB l) := .cells _ fun x hx => by
  obtain ⟨y, hy, hx⟩ := List.mem_flatten.1 hx
  obtain ⟨z, _, rfl⟩ := List.mem_map.1 hy
  exact (Shr.free z x hx).under
set_option maxRecDepth 100000 in
theorem ins_s (l : List Shr) (hl : l.length ≤ 10) : SCall Try.prog 83 [.ms 2 0 l.length, .int 0, .int l.length, .fn (.func 61) [] []] (ofH [(2, shB l)]) 3 (fun v H' _ => v = .tup [] ∧ H' = ofH [(2, shB (sortS l))]) := by
  have ums : Under 3 (A.ms 2 0 l.length) := .ms _ _ _ (by decide)
  have ufn : ∀ {n : Nat}, Under n (A.fn (.func 61) [] []) := (Free.fn _ _ _ allN allN).under
  have usB : ∀ {n : Nat} {l : List Shr}, UnderB n (shB l) := shB_under _
  refine SCall.drop (post := fun v H' _ => v = .tup [] ∧ HasH H' [(2, shB (sortS l))]) (SCall.of_bodyN tab_ok Try.func83 rfl Try.ntmps83 (Nat.le_of_ble_eq_true rfl) (allC (fun _ => rfl) (allC (fun _ => rfl) (allC (fun _ => rfl) (all1 fun _ => rfl)))) fun E hE => ?_)
    (fun v H' c' h => ⟨_, h.2.ofH, h.1, rfl⟩)
  refine Aw.sm tab_ok mb0 [] rfl rfl ?zo ?zk
  case zo =>
    repeat' apply AllP.cons
    all_goals first | exact trivial | exact (by simp only [Ob.of, inR]; omega)
  case zk =>
  generalize hR : sortS l = R
  generalize hn : l.length = n at *
  refine Aw.block (Aw.rounds 3 hE [(0, .ms 2 0 n), (1, .int 0), (2, .int n), (3, .fn (.func 61) [] [])] (fun i : (Nat×List Shr) => [(8, .int ((i.1 : Int) + 1))]) (fun i => [(2, shB i.2)]) (fun i => i.2.length = n ∧ sortF (n - 1 - i.1) (i.1 + 1) i.2 = R) (fun i => n - i.1) (0, l) ?zg ⟨?zc, ?zv, ?zh, Nat.le_of_ble_eq_true rfl⟩ ?zu (fun i zhk => ?zw) (fun i zhk => ?zx) fun i hk => ?zr)
  case zg =>
    (repeat' (first | exact ⟨hn, by rw [← hR]; unfold sortS; rw [hn]; rfl⟩))
  case zc =>
    (repeat' (first | (refine And.intro ?_ ?_) | exact trivial | exact A.Le.refl _))
  case zv =>
    (repeat' (first | (refine And.intro ?_ ?_) | exact trivial | exact A.Le.refl _))
  case zh =>
    (repeat' (first | (refine And.intro ?_ ?_) | exact trivial | exact rfl))
  case zu =>
    (repeat' (first | exact trivial | exact Under.s _ | assumption | exact ufn | (refine And.intro ?_ ?_)))
  case zw =>
    (repeat' (first | exact trivial | exact Under.s _ | (refine And.intro ?_ ?_)))
  case zx =>
    (repeat' (first | exact trivial | exact Nat.le_of_ble_eq_true rfl | exact usB | (refine And.intro ?_ ?_)))
  case zr =>
  obtain ⟨k, s⟩ := i
  obtain ⟨hs, hrun⟩ := hk
  simp only at hs hrun
  refine Aw.seq ?_
  refine Aw.sm tab_ok mb0 [] rfl rfl ?zo ?zk
  case zo =>
    repeat' apply AllP.cons
    all_goals first | exact trivial
  case zk =>
  refine Aw.cond rfl (fun h1 => Aw.skip ?_) (fun h1 => ?_)
  rotate_left
  · have hge : ¬ ((k : Int) + 1 < n) := of_decide_eq_false h1
    refine Aw.exit2 ?_
    rw [show n - 1 - k = 0 by omega, sortF] at hrun
    subst hrun
    exact ⟨_, .nil, rfl, rfl, trivial⟩
  have hlt : (k : Int) + 1 < n := of_decide_eq_true h1
  rw [show n - 1 - k = (n - 1 - (k + 1)) + 1 by omega, sortF] at hrun
  refine Aw.seq (Aw.block ?_)
  refine Aw.sm tab_ok mb0 [] rfl rfl ?zo ?zk
  case zo =>
    repeat' apply AllP.cons
    all_goals first | exact trivial
  case zk =>
  generalize hI : insI (k + 1) s = I at *
  refine Aw.block (Aw.rounds 3 hE [(0, .ms 2 0 n), (1, .int 0), (2, .int n), (3, .fn (.func 61) [] []), (8, .int ((k : Int) + 1))] (fun j : (Nat×List Shr) => [(9, .int j.1)]) (fun j => [(2, shB j.2)]) (fun j => j.2.length = n ∧ j.1 ≤ k + 1 ∧ insI j.1 j.2 = I) (fun j => j.1) (k + 1, s) ?zg ⟨?zc, ?zv, ?zh, Nat.le_of_ble_eq_true rfl⟩ ?zu (fun j zhk => ?zw) (fun j zhk => ?zx) fun j hk => ?zr)
  case zg =>
    (repeat' (first | exact ⟨hs, Nat.le_refl _, hI⟩))
  case zc =>
    (repeat' (first | (refine And.intro ?_ ?_) | exact trivial | exact A.Le.refl _))
  case zv =>
    (repeat' (first | (refine And.intro ?_ ?_) | exact trivial | exact A.Le.refl _))
  case zh =>
    (repeat' (first | (refine And.intro ?_ ?_) | exact trivial | exact rfl))
  case zu =>
    (repeat' (first | exact trivial | exact Under.s _ | assumption | exact ufn | (refine And.intro ?_ ?_)))
  case zw =>
    (repeat' (first | exact trivial | exact Under.s _ | (refine And.intro ?_ ?_)))
  case zx =>
    (repeat' (first | exact trivial | exact Nat.le_of_ble_eq_true rfl | exact usB | (refine And.intro ?_ ?_)))
  case zr =>
  obtain ⟨j, u⟩ := j
  obtain ⟨hu, hjk, hrun2⟩ := hk
  simp only at hu hjk hrun2
  have hul := shr_len u
  have hg1 : ((j : Int) > 0) → (((u.map Shr.c).flatten.drop (0 + Int.toNat (j : Int) * 5)).take 5).map A.down = (u.getD j shr0).c := fun h => by rw [Int.toNat_natCast]; exact shr_at (by omega)
  have hg2 : ((j : Int) > 0) → (((u.map Shr.c).flatten.drop (0 + Int.toNat ((j : Int) - 1) * 5)).take 5).map A.down = (u.getD (j - 1) shr0).c := fun h => by rw [show Int.toNat ((j : Int) - 1) = j - 1 by omega]; exact shr_at (by omega)
  have hjp : gq (decide ((j : Int) > 0)) true = true → (j : Int) > 0 := fun h => of_decide_eq_true (by rwa [gq] at h)
  refine Aw.seq ?_
  refine Aw.sd tab_ok mixed mb0 [(8, [.agg (u.getD j shr0).c]), (13, [.agg (u.getD (j - 1) shr0).c]), (14, [.int (cmpSh (u.getD j shr0) (u.getD (j - 1) shr0))])] rfl (by kernel_rfl) rfl rfl ?zo ?zk
  case zo =>
    repeat' apply AllP.cons
    all_goals first | exact trivial | exact id | exact fun _ => rfl | exact fun _ => Int.natCast_nonneg _ | exact fun _ => cmpSh_t _ _ | exact fun h => congrArg A.agg (hg1 (hjp h)) | exact fun h => congrArg A.agg (hg2 (hjp h)) | exact fun h => (by simp only [Ob.of, inR]; omega) | exact fun h => (show (0 : Int) ≤ (j : Int) - 1 by have := hjp h; omega) | exact fun h => (show 0 + Int.toNat (j : Int) * 5 + 5 ≤ (u.map Shr.c).flatten.length by rw [hul, Int.toNat_natCast]; omega) | exact fun h => (show 0 + Int.toNat ((j : Int) - 1) * 5 + 5 ≤ (u.map Shr.c).flatten.length by have := hjp h; rw [hul, show Int.toNat ((j : Int) - 1) = j - 1 by omega]; omega)
  case zk =>
  refine Aw.cond rfl (fun h2 => Aw.skip ?_) (fun h2 => ?_)
  · have h2 : cond (decide ((j : Int) > 0)) (decide (cmpSh (u.getD j shr0) (u.getD (j - 1) shr0) < 0)) false = true := h2
    rw [c_and, Bool.and_eq_true, decide_eq_true_eq, decide_eq_true_eq] at h2
    obtain ⟨hj0, hc⟩ := h2
    obtain ⟨i, rfl⟩ : ∃ i, j = i + 1 := ⟨j - 1, by omega⟩
    rw [Nat.add_sub_cancel] at hc
    rw [insI, if_pos hc] at hrun2
    have e1 : Int.toNat (((i + 1 : Nat) : Int) - 1) = i := by omega
    have e2 : Int.toNat ((i + 1 : Nat) : Int) = i + 1 := by omega
    have g1 : (((u.map Shr.c).flatten.drop (0 + Int.toNat (((i + 1 : Nat) : Int) - 1) * 5)).take 5).map A.down = (u.getD i shr0).c := by rw [e1]; exact shr_at (by omega)
    have g2 : (((u.map Shr.c).flatten.drop (0 + Int.toNat ((i + 1 : Nat) : Int) * 5)).take 5).map A.down = (u.getD (i + 1) shr0).c := by rw [e2]; exact shr_at (by omega)
    have st : setSeg (setSeg (u.map Shr.c).flatten (0 + Int.toNat ((i + 1 : Nat) : Int) * 5) (u.getD i shr0).c) (0 + Int.toNat (((i + 1 : Nat) : Int) - 1) * 5) (u.getD (i + 1) shr0).c = ((swp u i).map Shr.c).flatten := by
      rw [e1, e2, shr_set (by omega), shr_set (by rw [List.length_set]; omega)]; rfl
    have st := congrArg (fun x => some (B.cells x)) st
    have sl : (setSeg (u.map Shr.c).flatten (0 + Int.toNat ((i + 1 : Nat) : Int) * 5) (u.getD i shr0).c).length = u.length * 5 := by
      rw [e2, shr_set (by omega), shr_len, List.length_set]
    refine Aw.seq (Aw.block ?_)
    refine Aw.ed tab_ok mixed mb0 [(9, [.agg (u.getD i shr0).c]), (13, [.agg (u.getD (i + 1) shr0).c])] rfl (by kernel_rfl) rfl rfl ?zo ?zk
    case zo =>
      repeat' apply AllP.cons
      all_goals first | exact trivial | exact rfl | exact Int.natCast_nonneg _ | exact congrArg A.agg g1 | exact congrArg A.agg g2 | exact (by simp only [Ob.of, inR]; omega) | exact (show 0 + Int.toNat ((i + 1 : Nat) : Int) * 5 + 5 ≤ (u.map Shr.c).flatten.length by rw [hul, e2]; omega) | exact (show 0 + Int.toNat (((i + 1 : Nat) : Int) - 1) * 5 + 5 ≤ (u.map Shr.c).flatten.length by rw [hul, e1]; omega) | exact (show 0 + Int.toNat (((i + 1 : Nat) : Int) - 1) * 5 + 5 ≤ (setSeg (u.map Shr.c).flatten (0 + Int.toNat ((i + 1 : Nat) : Int) * 5) (u.getD i shr0).c).length by rw [sl, e1]; omega)
    case zk =>
    refine Aw.em tab_ok mb0 [] rfl rfl ?zo ?zk
    case zo =>
      repeat' apply AllP.cons
      all_goals first | exact trivial | exact (by simp only [Ob.of, inR]; omega)
    case zk =>
    have hsl : (swp u i).length = n := by rw [swp_len]; exact hu
    refine ⟨(i, swp u i), ?zg, ?zm, ⟨?zc, ?zv, ?zh, Nat.le_of_ble_eq_true rfl⟩⟩
    case zg =>
      (repeat' (first | exact ⟨hsl, by omega, hrun2⟩))
    case zm =>
      (repeat' (first | omega))
    case zc =>
      (repeat' (first | (refine And.intro ?_ ?_) | exact trivial | exact A.Le.refl _))
    case zv =>
      (repeat' (first | (refine And.intro ?_ ?_) | exact trivial | exact .of_eq (congrArg A.int (by omega))))
    case zh =>
      (repeat' (first | (refine And.intro ?_ ?_) | exact trivial | exact st))
  have hIu : u = I := by
    have h2 : cond (decide ((j : Int) > 0)) (decide (cmpSh (u.getD j shr0) (u.getD (j - 1) shr0) < 0)) false = false := h2
    rw [← hrun2]
    cases j with
    | zero => rfl
    | succ i =>
      rw [decide_eq_true (by omega), cond_true, Nat.add_sub_cancel] at h2
      rw [insI, if_neg (of_decide_eq_false h2)]
  subst hIu
  refine Aw.exit2 ?_
  refine Aw.em tab_ok mb0 [] rfl rfl ?zo ?zk
  case zo =>
    repeat' apply AllP.cons
    all_goals first | exact trivial | exact (by simp only [Ob.of, inR]; omega)
  case zk =>
  refine ⟨(k + 1, u), ?zg, ?zm, ⟨?zc, ?zv, ?zh, Nat.le_of_ble_eq_true rfl⟩⟩
  case zg =>
    (repeat' (first | exact ⟨hu, hrun⟩))
  case zm =>
    (repeat' (first | omega))
  case zc =>
    (repeat' (first | (refine And.intro ?_ ?_) | exact trivial | exact A.Le.refl _))
  case zv =>
    (repeat' (first | (refine And.intro ?_ ?_) | exact trivial | exact A.Le.refl _))
  case zh =>
    (repeat' (first | (refine And.intro ?_ ?_) | exact trivial | exact rfl))
end Go.Proofs.Ytkfepnbanekfgaa

namespace Go.Proofs.Ytkfepnbanekfgaa
open Go Go.AL Go.AL.Q Go.AL.Sh
theorem u92 : Try.prog.underlying 166 = some (.int .u64) := by kernel_rfl
theorem u104 : Try.prog.underlying 179 = some (.int .u64) := by kernel_rfl
def tabB : ByteArray := ⟨((List.range 256).map fun n => if n = 0 then (0 : UInt8) else UInt8.ofNat (Nat.log2 n + 1)).toArray⟩
def bitsL (n : Nat) : Int := (tabB.data.toList.getD (Int.toNat (n : Int)) 0).toNat
theorem tabB_size : tabB.size = 256 := by kernel_rfl
theorem wr8 {n : Nat} (hn : n ≤ 10) : IntKind.u8.wrap (n : Int) = n := by
  match n, hn with
  | 0, _ | 1, _ | 2, _ | 3, _ | 4, _ | 5, _ | 6, _ | 7, _ | 8, _ | 9, _ | 10, _ => rfl
theorem wr64 {n : Nat} (hn : n ≤ 10) : IntKind.u64.wrap (n : Int) = n := by
  match n, hn with
  | 0, _ | 1, _ | 2, _ | 3, _ | 4, _ | 5, _ | 6, _ | 7, _ | 8, _ | 9, _ | 10, _ => rfl
set_option maxRecDepth 100000 in
theorem len64_t (n : Nat) (hn : n ≤ 10) : Ans Try.prog 92 [.s (.int .u64 n)] (.int (bitsL n)) := by
  unfold bitsL
  refine told Try.func92 rfl rfl (Pure.of tab_ok Try.func92 rfl Try.ntmps92 rfl (all1 (.s _)) (all1 (fun _ => rfl)) (by first | exact .s _ | assumption | exact .tup _ (by intro x hx; simp only [List.mem_cons, List.not_mem_nil, or_false] at hx; rcases hx with rfl | rfl | rfl | rfl <;> first | exact .s _ | (simp_all; done))) fun E hE => ?_)
  refine Aw.sm tab_ok mb0 [] rfl rfl ?zo ?zk
  case zo =>
    repeat' apply AllP.cons
    all_goals first | exact trivial
  case zk =>
  refine Aw.seq ?_
  refine Aw.sm tab_ok mb0 [(1, [.bool (decide ((n : Int) ≥ 4294967296)), .un, .un])] rfl rfl ?zo ?zk
  case zo =>
    repeat' apply AllP.cons
    all_goals first | exact trivial | exact OpX.geqN rfl rfl
  case zk =>
  refine Aw.cond rfl (fun h => ?_) (fun _ => Aw.skip ?_)
  · have h : (n : Int) ≥ 4294967296 := of_decide_eq_true h
    omega
  refine Aw.seq ?_
  refine Aw.sm tab_ok mb0 [(1, [.bool (decide ((n : Int) ≥ 65536)), .un, .un])] rfl rfl ?zo ?zk
  case zo =>
    repeat' apply AllP.cons
    all_goals first | exact trivial | exact OpX.geqN rfl rfl
  case zk =>
  refine Aw.cond rfl (fun h => ?_) (fun _ => Aw.skip ?_)
  · have h : (n : Int) ≥ 65536 := of_decide_eq_true h
    omega
  refine Aw.seq ?_
  refine Aw.sm tab_ok mb0 [(1, [.bool (decide ((n : Int) ≥ 256)), .un, .un])] rfl rfl ?zo ?zk
  case zo =>
    repeat' apply AllP.cons
    all_goals first | exact trivial | exact OpX.geqN rfl rfl
  case zk =>
  refine Aw.cond rfl (fun h => ?_) (fun _ => Aw.skip ?_)
  · have h : (n : Int) ≥ 256 := of_decide_eq_true h
    omega
  generalize hc : tabB.data.toList.getD (Int.toNat (n : Int)) 0 = c
  have hc2 : c.toNat < 256 := UInt8.toNat_lt c
  have hwr : IntKind.i64.wrap (c.toNat : Int) = c.toNat := wrap_in (by simp only [inR]; omega)
  have hsz := tabB_size
  refine Aw.sm tab_ok mb0 [(2, [.s (.int .u8 n), .un, .un]), (3, [.s (.int .u8 c.toNat), .un, .un]), (4, [.int c.toNat, .un, .un])] rfl rfl ?zo ?zk
  case zo =>
    repeat' apply AllP.cons
    all_goals first | exact trivial | exact OpX.conv u104 u5 rfl (wr8 hn) | exact hc ▸ OpX.strAtD (b := tabB) tab_ok rfl (by kernel_rfl) rfl (by omega) (by omega) | exact OpX.conv u5 u3 rfl hwr | exact (by simp only [Ob.of, inR]; omega)
  case zk =>
  exact Aw.ret ⟨_, .cons (.tmp _) .nil, congrArg A.int (Int.zero_add _)⟩
theorem len_t (n : Nat) (hn : n ≤ 10) : Ans Try.prog 77 [.s (.int .u64 n)] (.int (bitsL n)) := by
  have h1 := len64_t n hn
  refine told Try.func77 rfl rfl (Pure.of tab_ok Try.func77 rfl Try.ntmps77 rfl (all1 (.s _)) (all1 (fun _ => rfl)) (by first | exact .s _ | assumption | exact .tup _ (by intro x hx; simp only [List.mem_cons, List.not_mem_nil, or_false] at hx; rcases hx with rfl | rfl | rfl | rfl <;> first | exact .s _ | (simp_all; done))) fun E hE => ?_)
  refine Aw.sm tab_ok mb0 [] rfl rfl ?zo ?zk
  case zo =>
    repeat' apply AllP.cons
    all_goals first | exact trivial
  case zk =>
  refine Aw.seq (Aw.cond rfl (fun h => by cases h) (fun _ => Aw.skip1 ?_))
  refine Aw.sm tab_ok mb0 [(1, [.int (bitsL n)])] rfl rfl ?zo ?zk
  case zo =>
    repeat' apply AllP.cons
    all_goals first | exact trivial | exact h1
  case zk =>
  exact Aw.ret ⟨_, .cons (.tmp _) .nil, rfl⟩
set_option maxRecDepth 100000 in
theorem pdq_s (l : List Shr) (hl : l.length ≤ 10) (lim : Int) : SCall Try.prog 76 [.ms 2 0 l.length, .int 0, .int l.length, .int lim, .fn (.func 61) [] []] (ofH [(2, shB l)]) 3 (fun v H' _ => v = .tup [] ∧ H' = ofH [(2, shB (sortS l))]) := by
  have ums : Under 3 (A.ms 2 0 l.length) := .ms _ _ _ (by decide)
  have ufn : ∀ {n : Nat}, Under n (A.fn (.func 61) [] []) := (Free.fn _ _ _ allN allN).under
  have usB : ∀ {n : Nat} {l : List Shr}, UnderB n (shB l) := shB_under _
  refine SCall.drop (post := fun v H' _ => v = .tup [] ∧ HasH H' [(2, shB (sortS l))]) (SCall.of_bodyN tab_ok Try.func76 rfl Try.ntmps76 (Nat.le_of_ble_eq_true rfl) (allC (fun _ => rfl) (allC (fun _ => rfl) (allC (fun _ => rfl) (allC (fun _ => rfl) (all1 fun _ => rfl))))) fun E hE => ?_)
    (fun v H' c' h => ⟨_, h.2.ofH, h.1, rfl⟩)
  refine Aw.sm tab_ok mb0 [] rfl rfl ?zo ?zk
  case zo =>
    repeat' apply AllP.cons
    all_goals first | exact trivial
  case zk =>
  refine Aw.sm tab_ok mb0 [] rfl rfl ?zo ?zk
  case zo =>
    repeat' apply AllP.cons
    all_goals first | exact trivial
  case zk =>
  refine Aw.block (Aw.rounds 3 hE [(0, .ms 2 0 l.length), (1, .int 0), (2, .int l.length), (3, .int lim), (4, .fn (.func 61) [] [])] (fun k : Nat => []) (fun k => [(2, shB l)]) (fun k => True) (fun k => k) 0 ?zg ⟨?zc, ?zv, ?zh, Nat.le_of_ble_eq_true rfl⟩ ?zu (fun k zhk => ?zw) (fun k zhk => ?zx) fun k hk => ?zr)
  case zg =>
    (repeat' (first | exact trivial))
  case zc =>
    (repeat' (first | (refine And.intro ?_ ?_) | exact trivial | exact A.Le.refl _))
  case zv =>
    (repeat' (first | exact trivial))
  case zh =>
    (repeat' (first | (refine And.intro ?_ ?_) | exact trivial | exact rfl))
  case zu =>
    (repeat' (first | exact trivial | exact Under.s _ | assumption | exact ufn | (refine And.intro ?_ ?_)))
  case zw =>
    (repeat' (first | exact trivial))
  case zx =>
    (repeat' (first | exact trivial | exact Nat.le_of_ble_eq_true rfl | exact usB | (refine And.intro ?_ ?_)))
  case zr =>
  refine Aw.block ?_
  refine Aw.sm tab_ok mb0 [] rfl rfl ?zo ?zk
  case zo =>
    repeat' apply AllP.cons
    all_goals first | exact trivial | exact (by simp only [Ob.of, inR]; omega)
  case zk =>
  refine Aw.seq ?_
  refine Aw.sm tab_ok mb0 [] rfl rfl ?zo ?zk
  case zo =>
    repeat' apply AllP.cons
    all_goals first | exact trivial
  case zk =>
  refine Aw.cond rfl (fun _ => ?_) (fun h => ?_)
  rotate_left
  · have h : ¬ ((l.length : Int) - 0 ≤ 12) := of_decide_eq_false h
    omega
  refine Aw.ss rfl ?_
  refine RegL.partE tab_ok mb0 false 4 0 [] ?_
  conv => arg 5; whnf
  refine PartK.mk ?zo ?zk
  case zo =>
    repeat' apply AllP.cons
    all_goals first | exact trivial
  case zk =>
  refine Does.raw rfl (DoesR.call (fst := []) (cap := []) rfl rfl (enters_of Try.func83 rfl rfl) (ins_s l hl) ?_)
  rintro v H' c' ⟨hc, rfl, rfl⟩
  exact Aw.ret ⟨_, .nil, rfl, rfl, trivial⟩
theorem sortF_s (l : List Shr) (hl : l.length ≤ 10) : SCall Try.prog 65 [.ms 2 0 l.length, .fn (.func 61) [] []] (ofH [(2, shB l)]) 3 (fun v H' _ => v = .tup [] ∧ H' = ofH [(2, shB (sortS l))]) := by
  have h1 := (len_t l.length hl)
  refine SCall.drop (post := fun v H' _ => v = .tup [] ∧ HasH H' [(2, shB (sortS l))]) (SCall.of_bodyN tab_ok Try.func65 rfl Try.ntmps65 (Nat.le_of_ble_eq_true rfl) (allC (fun _ => rfl) (all1 fun _ => rfl)) fun E hE => ?_)
    (fun v H' c' h => ⟨_, h.2.ofH, h.1, rfl⟩)
  refine Aw.sm tab_ok mb0 [] rfl rfl ?zo ?zk
  case zo =>
    repeat' apply AllP.cons
    all_goals first | exact trivial
  case zk =>
  refine Aw.es rfl ?_
  refine RegL.partE tab_ok mb0 false 6 0 [(3, [.s (.int .u64 l.length), .un, .un]), (4, [.int (bitsL l.length)])] ?_
  conv => arg 5; whnf
  refine PartK.mk ?zo ?zk
  case zo =>
    repeat' apply AllP.cons
    all_goals first | exact trivial | exact OpX.conv u3 u92 rfl (wr64 hl) | exact h1
  case zk =>
  refine Does.raw rfl (DoesR.call (fst := []) (cap := []) rfl rfl (enters_of Try.func76 rfl rfl) (pdq_s l hl _) ?_)
  rintro v H' c' ⟨hc, rfl, rfl⟩
  exact ⟨_, .nil, rfl, rfl, trivial⟩
end Go.Proofs.Ytkfepnbanekfgaa

namespace Go.Proofs.Ytkfepnbanekfgaa
open Go Go.AL Go.AL.Q Go.AL.Sh
theorem sumS_t (b : Bool) (c : Cap) (l : List Int) (hl : (l.length : Int) ≤ 9223372036854775806) (h : ∀ k, k ≤ l.length → inR (l.take k).sum) (hc : ∀ u, spareOf (.sl b c (ints l)) u = none) : Ans Try.prog 27 [.sl b c (ints l)] (.int l.sum) := by
  refine told Try.func27 rfl rfl (Pure.of tab_ok Try.func27 rfl Try.ntmps27 rfl (all1 (free_ints _ _ _)) (all1 hc) (.s _) fun E hE => ?_)
  refine Aw.keep (n := 0) (cst := []) (v := [(0, .sl b .any (ints l))]) (Hl := []) hE trivial ⟨(free_ints _ _ _).under, trivial⟩ trivial ⟨trivial, ⟨.any _ _ _, trivial⟩, trivial, Nat.le_refl _⟩ ?_
  refine Aw.sm tab_ok mb0 [] rfl rfl ?zo ?zk
  case zo =>
    repeat' apply AllP.cons
    all_goals first | exact trivial
  case zk =>
  refine Aw.sm tab_ok mb0 [] rfl rfl ?zo ?zk
  case zo =>
    repeat' apply AllP.cons
    all_goals first | exact trivial
  case zk =>
  refine Aw.seq ?_
  refine Aw.sm tab_ok mb0 [] rfl rfl ?zo ?zk
  case zo =>
    repeat' apply AllP.cons
    all_goals first | exact trivial
  case zk =>
  have hlen : (ints l).length = l.length := by simp [ints]
  refine Aw.block (Aw.rounds 0 hE [(6, .sl b .any (ints l)), (7, .int (ints l).length)] (fun k : Nat => [(3, .int (l.take k).sum), (8, .int k)]) (fun _ => []) (fun k => k ≤ l.length) (fun k => l.length - k) 0
    (Nat.zero_le _) ⟨⟨.refl _, .refl _, trivial⟩, ⟨.refl _, .refl _, trivial⟩, trivial, Nat.le_refl _⟩ ⟨(free_ints _ _ _).under, .s _, trivial⟩ (fun _ _ => ⟨.s _, .s _, trivial⟩) (fun _ _ => trivial) fun k hk => ?_)
  refine Aw.sm tab_ok mb0 [] rfl rfl ?zo ?zk
  case zo =>
    repeat' apply AllP.cons
    all_goals first | exact trivial
  case zk =>
  refine Aw.seq (Aw.cond rfl (fun h1 => Aw.skip1 ?_) (fun h1 => Aw.exit2 ?_))
  · have hlt : k < l.length := by have := of_decide_eq_true h1; omega
    have ht := sum_take_succ hlt
    refine Aw.seq (Aw.block ?_)
    refine Aw.sm tab_ok mb0 [(0, [.int l[k]])] rfl rfl ?zo ?zk
    case zo =>
      repeat' apply AllP.cons
      all_goals first | exact trivial | exact rfl | exact Nat.le_of_ble_eq_true rfl | exact Int.natCast_nonneg _ | exact ints_get hlt
    case zk =>
    refine Aw.em tab_ok mb0 [] rfl rfl ?zo ?zk
    case zo =>
      repeat' apply AllP.cons
      all_goals first | exact trivial | exact ht ▸ h (k + 1) hlt
    case zk =>
    refine Aw.em tab_ok mb0 [] rfl rfl ?zo ?zk
    case zo =>
      repeat' apply AllP.cons
      all_goals first | exact trivial | exact inrk k (by omega)
    case zk =>
    exact ⟨k + 1, hlt, by omega, ⟨.refl _, .refl _, trivial⟩, ⟨.of_eq (by rw [ht]; rfl), .refl _, trivial⟩, trivial, Nat.le_refl _⟩
  · have hle : k = l.length := by have := of_decide_eq_false h1; omega
    subst hle
    refine Aw.sm tab_ok mb0 [] rfl rfl ?zo ?zk
    case zo =>
      repeat' apply AllP.cons
      all_goals first | exact trivial
    case zk =>
    exact Aw.ret ⟨_, .cons (.tmp _) .nil, by rw [List.take_length]; rfl⟩
theorem sumS_out (l : List Int) (h : ∀ k, k ≤ l.length → inR (l.take k).sum) (hl : l.length ≤ 1000) : Ans Try.prog 27 [outA l] (.int l.sum) := by
  cases l with
  | nil => exact sumS_t true .exact [] (by simp) (fun _ _ => by simp [inR]) (fun _ => rfl)
  | cons x l => exact sumS_t false .any (x :: l) (by simp at hl ⊢; omega) h (fun _ => rfl)
def iB (l : List Int) : B := .cells (l.map A.int)
theorem iB_under {n : Nat} (l : List Int) : UnderB n (iB l) := .cells _ fun x hx => by
  obtain ⟨y, _, rfl⟩ := List.mem_map.1 hx; exact .s _
theorem iB_at {l : List Int} {k : Nat} (hk : k < l.length) : ((l.map A.int).getD (0 + Int.toNat (k : Int) * 1) .un).down = .int (l.getD k 0) := by
  rw [show 0 + Int.toNat (k : Int) * 1 = k by omega]
  simp only [List.getD_eq_getElem?_getD, List.getElem?_map, List.getElem?_eq_getElem hk, Option.map_some, Option.getD_some]; rfl
theorem sumM_s (l : List Int) (hl : l.length ≤ 1000) (h : ∀ k, k ≤ l.length → inR (l.take k).sum) : SCall Try.prog 27 [.ms 0 0 l.length] (ofH [(0, iB l)]) 1 (fun v H' _ => v = .int l.sum ∧ H' = ofH [(0, iB l)]) := by
  have ums : Under 1 (A.ms 0 0 l.length) := .ms _ _ _ (by decide)
  refine SCall.drop (post := fun v H' _ => v = .int l.sum ∧ HasH H' [(0, iB l)]) (SCall.of_bodyN tab_ok Try.func27 rfl Try.ntmps27 (Nat.le_of_ble_eq_true rfl) (all1 fun _ => rfl) fun E hE => ?_)
    (fun v H' c' h => ⟨_, h.2.ofH, h.1, rfl⟩)
  refine Aw.sm tab_ok mb0 [] rfl rfl ?zo ?zk
  case zo =>
    repeat' apply AllP.cons
    all_goals first | exact trivial
  case zk =>
  refine Aw.sm tab_ok mb0 [] rfl rfl ?zo ?zk
  case zo =>
    repeat' apply AllP.cons
    all_goals first | exact trivial
  case zk =>
  refine Aw.seq ?_
  refine Aw.sm tab_ok mb0 [] rfl rfl ?zo ?zk
  case zo =>
    repeat' apply AllP.cons
    all_goals first | exact trivial
  case zk =>
  refine Aw.block (Aw.rounds 1 hE [(6, .ms 0 0 l.length), (7, .int l.length)] (fun k : Nat => [(3, .int (l.take k).sum), (8, .int k)]) (fun k => [(0, iB l)]) (fun k => k ≤ l.length) (fun k => l.length - k) 0 ?zg ⟨?zc, ?zv, ?zh, Nat.le_of_ble_eq_true rfl⟩ ?zu (fun k zhk => ?zw) (fun k zhk => ?zx) fun k hk => ?zr)
  case zg =>
    (repeat' (first | exact Nat.zero_le _))
  case zc =>
    (repeat' (first | (refine And.intro ?_ ?_) | exact trivial | exact A.Le.refl _))
  case zv =>
    (repeat' (first | (refine And.intro ?_ ?_) | exact trivial | exact A.Le.refl _))
  case zh =>
    (repeat' (first | (refine And.intro ?_ ?_) | exact trivial | exact rfl))
  case zu =>
    (repeat' (first | exact trivial | exact Under.s _ | assumption | (refine And.intro ?_ ?_)))
  case zw =>
    (repeat' (first | exact trivial | exact Under.s _ | (refine And.intro ?_ ?_)))
  case zx =>
    (repeat' (first | exact trivial | exact Nat.le_of_ble_eq_true rfl | exact iB_under _ | (refine And.intro ?_ ?_)))
  case zr =>
  refine Aw.sm tab_ok mb0 [] rfl rfl ?zo ?zk
  case zo =>
    repeat' apply AllP.cons
    all_goals first | exact trivial
  case zk =>
  refine Aw.seq (Aw.cond rfl (fun h1 => Aw.skip1 ?_) (fun h1 => Aw.exit2 ?_))
  · have hlt : k < l.length := by have := of_decide_eq_true h1; omega
    have ht := sum_take_succ hlt
    have ha := iB_at hlt
    have hv : l.getD k 0 = l[k] := by simp [List.getD_eq_getElem?_getD, hlt]
    rw [hv] at ha
    refine Aw.seq (Aw.block ?_)
    refine Aw.sm tab_ok mb0 [(1, [.int l[k]])] rfl rfl ?zo ?zk
    case zo =>
      repeat' apply AllP.cons
      all_goals first | exact trivial | exact Int.natCast_nonneg _ | exact ha | exact (show (k : Int) < (l.length : Int) by omega) | exact (show 0 + Int.toNat (k : Int) * 1 < (l.map A.int).length by rw [List.length_map]; omega)
    case zk =>
    refine Aw.em tab_ok mb0 [] rfl rfl ?zo ?zk
    case zo =>
      repeat' apply AllP.cons
      all_goals first | exact trivial | exact ht ▸ h (k + 1) hlt
    case zk =>
    refine Aw.em tab_ok mb0 [] rfl rfl ?zo ?zk
    case zo =>
      repeat' apply AllP.cons
      all_goals first | exact trivial | exact inrk k (by omega)
    case zk =>
    refine ⟨k + 1, ?zg, ?zm, ⟨?zc, ?zv, ?zh, Nat.le_of_ble_eq_true rfl⟩⟩
    case zg =>
      (repeat' (first | assumption))
    case zm =>
      (repeat' (first | omega))
    case zc =>
      (repeat' (first | (refine And.intro ?_ ?_) | exact trivial | exact A.Le.refl _))
    case zv =>
      (repeat' (first | (refine And.intro ?_ ?_) | exact trivial | exact A.Le.refl _ | exact .of_eq (by rw [ht]; rfl)))
    case zh =>
      (repeat' (first | (refine And.intro ?_ ?_) | exact trivial | exact rfl))
  have hle : k = l.length := by have := of_decide_eq_false h1; omega
  subst hle
  refine Aw.sm tab_ok mb0 [] rfl rfl ?zo ?zk
  case zo =>
    repeat' apply AllP.cons
    all_goals first | exact trivial
  case zk =>
  exact Aw.ret ⟨_, .cons (.tmp _) .nil, by rw [List.take_length]; rfl, rfl, trivial⟩
theorem wts_t (b : Bool) (l : List Stk) (hl : l.length ≤ 10) : Ans Try.prog 28 [.sl b .any (l.map Stk.c)] (outA (wts l)) := by
  have ll : ((l.map Stk.c).length : Int) = l.length := by rw [List.length_map]
  have ul : ∀ {m : Nat}, Under m (A.sl b .any (l.map Stk.c)) := (free_map Stk.free _ _ _).under
  have hfr := outA_free (wts l)
  have hS : ∀ k, k < l.length → wts (l.take (k + 1)) = wts (l.take k) ++ [(l.getD k stk0).w] := fun k hk => by
    rw [List.take_succ_eq_append_getElem hk, List.getD_eq_getElem?_getD, List.getElem?_eq_getElem hk]; unfold wts; rw [List.map_append]; rfl
  refine told Try.func28 rfl rfl (Pure.of tab_ok Try.func28 rfl Try.ntmps28 rfl (all1 (free_map Stk.free _ _ _)) (all1 (fun _ => rfl)) (by first | exact .s _ | assumption | exact .tup _ (by intro x hx; simp only [List.mem_cons, List.not_mem_nil, or_false] at hx; rcases hx with rfl | rfl | rfl | rfl <;> first | exact .s _ | (simp_all; done))) fun E hE => ?_)
  refine Aw.sm tab_ok mb0 [] rfl rfl ?zo ?zk
  case zo =>
    repeat' apply AllP.cons
    all_goals first | exact trivial
  case zk =>
  refine Aw.sm tab_ok mb0 [] rfl rfl ?zo ?zk
  case zo =>
    repeat' apply AllP.cons
    all_goals first | exact trivial
  case zk =>
  refine Aw.seq ?_
  refine Aw.sm tab_ok mb0 [] rfl rfl ?zo ?zk
  case zo =>
    repeat' apply AllP.cons
    all_goals first | exact trivial
  case zk =>
  refine Aw.block (Aw.rounds 0 hE [(6, .sl b .any (l.map Stk.c)), (7, .int l.length)] (fun k : Nat => [(3, grL 3 (wts (l.take k))), (8, .int k)]) (fun k => []) (fun k => k ≤ l.length) (fun k => l.length - k) 0 ?zg ⟨?zc, ?zv, ?zh, Nat.le_of_ble_eq_true rfl⟩ ?zu (fun k zhk => ?zw) (fun k zhk => ?zx) fun k hk => ?zr)
  case zg =>
    (repeat' (first | exact Nat.zero_le _))
  case zc =>
    (repeat' (first | (refine And.intro ?_ ?_) | exact trivial | exact A.Le.refl _ | exact .of_eq (congrArg A.int ll.symm)))
  case zv =>
    (repeat' (first | (refine And.intro ?_ ?_) | exact trivial | exact A.Le.refl _))
  case zh =>
    (repeat' (first | exact trivial))
  case zu =>
    (repeat' (first | exact trivial | exact Under.s _ | exact ul | (refine And.intro ?_ ?_)))
  case zw =>
    (repeat' (first | exact trivial | exact Under.s _ | exact grL_under _ | (refine And.intro ?_ ?_)))
  case zx =>
    (repeat' (first | exact trivial))
  case zr =>
  refine Aw.sm tab_ok mb0 [] rfl rfl ?zo ?zk
  case zo =>
    repeat' apply AllP.cons
    all_goals first | exact trivial
  case zk =>
  refine Aw.seq (Aw.cond rfl (fun h1 => Aw.skip1 ?_) (fun h1 => Aw.exit2 ?_))
  · have hlt : k < l.length := by have := of_decide_eq_true h1; omega
    have hSk := hS k hlt
    have hg := stk_at hlt
    have hlk : (wts (l.take k)).length = k := by simp [wts]; omega
    generalize l.getD k stk0 = x at *
    generalize hv1 : wts (l.take (k + 1)) = G1 at *
    generalize wts (l.take k) = G at *
    have hone : ∀ z ∈ [[A.int x.w]], z.length = 1 := fun z hz => by simp at hz; subst hz; rfl
    refine Aw.seq (Aw.block ?_)
    refine Aw.sm tab_ok mb0 [(0, x.c)] rfl rfl ?zo ?zk
    case zo =>
      repeat' apply AllP.cons
      all_goals first | exact trivial | exact rfl | exact Nat.le_of_ble_eq_true rfl | exact Int.natCast_nonneg _ | exact hg
    case zk =>
    refine Aw.freeze (id := 0) (t := 5) rfl rfl ?_
    cases G with
    | nil =>
      refine Aw.em tab_ok mb0 [] rfl rfl ?zo ?zk
      case zo =>
        repeat' apply AllP.cons
        all_goals first | exact trivial | exact Nat.le_of_ble_eq_true rfl | exact hone
      case zk =>
      refine Aw.em tab_ok mb0 [] rfl rfl ?zo ?zk
      case zo =>
        repeat' apply AllP.cons
        all_goals first | exact trivial | exact inrk k (by omega)
      case zk =>
      refine ⟨k + 1, ?zg, ?zm, ⟨?zc, ?zv, ?zh, Nat.le_of_ble_eq_true rfl⟩⟩
      case zg =>
        (repeat' (first | assumption))
      case zm =>
        (repeat' (first | omega))
      case zc =>
        (repeat' (first | (refine And.intro ?_ ?_) | exact trivial | exact A.Le.refl _))
      case zv =>
        (repeat' (first | (refine And.intro ?_ ?_) | exact trivial | exact A.Le.refl _ | exact .of_eq (by rw [hv1, hSk]; rfl)))
      case zh =>
        (repeat' (first | exact trivial))
    | cons y t =>
      have hl1 : (ints (y :: t)).length ≤ 10 := by rw [ints_len]; omega
      have hz := ints_one (y :: t)
      refine Aw.em tab_ok mb0 [] rfl rfl ?zo ?zk
      case zo =>
        repeat' apply AllP.cons
        all_goals first | exact trivial | exact Nat.le_of_ble_eq_true rfl | exact hone | exact hz | exact (show ((ints (y :: t)).length + 1) * 8 ≤ 140737488355328 by omega) | exact (show (ints (y :: t)).length + 1 ≤ maxLen by unfold maxLen; omega)
      case zk =>
      refine Aw.em tab_ok mb0 [] rfl rfl ?zo ?zk
      case zo =>
        repeat' apply AllP.cons
        all_goals first | exact trivial | exact inrk k (by omega)
      case zk =>
      refine ⟨k + 1, ?zg, ?zm, ⟨?zc, ?zv, ?zh, Nat.le_of_ble_eq_true rfl⟩⟩
      case zg =>
        (repeat' (first | assumption))
      case zm =>
        (repeat' (first | omega))
      case zc =>
        (repeat' (first | (refine And.intro ?_ ?_) | exact trivial | exact A.Le.refl _))
      case zv =>
        (repeat' (first | (refine And.intro ?_ ?_) | exact trivial | exact A.Le.refl _ | exact .of_eq (show grL 3 (wts (l.take (k + 1))) = A.sl false (.own 3) (ints (y :: t) ++ [[A.int x.w]]) by rw [hv1, hSk]; simp [grL, ints])))
      case zh =>
        (repeat' (first | exact trivial))
  have hle : k = l.length := by have := of_decide_eq_false h1; omega
  subst hle
  rw [List.take_length]
  refine Aw.keep (n := 0) (cst := []) (v := [(3, outA (wts l))]) (Hl := []) hE trivial ⟨hfr.under, trivial⟩ trivial ⟨trivial, ⟨(grL_down (e := 3) (wts l)) ▸ .down _, trivial⟩, trivial, Nat.zero_le _⟩ ?_
  generalize wts l = W
  cases W with
  | nil =>
    refine Aw.sm tab_ok mb0 [] rfl rfl ?zo ?zk
    case zo =>
      repeat' apply AllP.cons
      all_goals first | exact trivial
    case zk =>
    exact Aw.ret ⟨_, .cons (.tmp _) .nil, rfl⟩
  | cons x t =>
    refine Aw.sm tab_ok mb0 [] rfl rfl ?zo ?zk
    case zo =>
      repeat' apply AllP.cons
      all_goals first | exact trivial
    case zk =>
    exact Aw.ret ⟨_, .cons (.tmp _) .nil, rfl⟩
end Go.Proofs.Ytkfepnbanekfgaa

namespace Go.Proofs.Ytkfepnbanekfgaa
open Go Go.AL Go.AL.Q Go.AL.Sh
theorem eg78 : Try.prog.eqGuardType Try.prog.depth 123 = false := by kernel_rfl
set_option maxRecDepth 100000 in
theorem eq54 (a b : ByteArray) (c d : Int) (h : (a == b) = false) : pureRun Try.prog (Op.equalIn 9999 76 (.agg #[.string a, .int .i64 c]) (.agg #[.string b, .int .i64 d])) = some false := by
  have h1 : pureRun Try.prog (underlying 76) = Try.prog.underlying 76 := rfl
  have h2 : pureRun Try.prog program = some Try.prog := rfl
  have h3 : Try.prog.stoodInHeld 76 = false := by kernel_rfl
  have p1 : ∀ x y : Value, pureRun Try.prog (part 9 #[x, y] 0) = some x := fun x y => rfl
  have pp : ∀ {α : Type} (x : α), pureRun Try.prog (pure x) = some x := fun x => rfl
  have e9 : pureRun Try.prog (Op.equalIn 9998 9 (.string a) (.string b)) = some (a == b) := by rfl
  rw [show (9999 : Nat) = 9998 + 1 from rfl, Op.equalIn, pureRun_bind, h1, Try.underlying76]
  simp only [Option.bind_some, pureRun_bind, h2, h3]
  simp [pureRun_bind, p1, e9, pp, h]
set_option maxRecDepth 100000 in
theorem eq78 (a b : ByteArray) (c d e c' d' e' f f' : Int) (h : (a == b) = false) : pureRun Try.prog (Op.equal 123 (.agg #[.string a, .int .i64 c, .int .i64 d, .int .i64 e, .int .i64 f]) (.agg #[.string b, .int .i64 c', .int .i64 d', .int .i64 e', .int .i64 f'])) = some false := by
  have h1 : pureRun Try.prog (underlying 123) = Try.prog.underlying 123 := rfl
  have h2 : pureRun Try.prog program = some Try.prog := rfl
  have h3 : Try.prog.stoodInHeld 123 = false := by kernel_rfl
  have p1 : ∀ x y z u v : Value, pureRun Try.prog (part 76 #[x, y, z, u, v] 0) = some (.agg #[x, y]) := fun x y z u v => rfl
  have pp : ∀ {α : Type} (x : α), pureRun Try.prog (pure x) = some x := fun x => rfl
  rw [Op.equal, Op.maxDepth, show (10000 : Nat) = 9999 + 1 from rfl, Op.equalIn, pureRun_bind, h1, Try.underlying123]
  simp only [Option.bind_some, pureRun_bind, h2, h3]
  simp [pureRun_bind, p1, eq54 a b c c' h, pp]
theorem bytes_ne {b : ByteArray} (h : 0 < b.size) : (b == ByteArray.empty) = false := by
  cases e : (b == ByteArray.empty) with
  | false => rfl
  | true =>
    have e : (b.data == ByteArray.empty.data) = true := e
    have h : 0 < b.data.size := h
    rw [eq_of_beq e] at h
    exact absurd h (by decide)
set_option maxRecDepth 100000 in
theorem eqSh (x y : Operand) (s : Shr) (h : 0 < s.n.size) : EqIs tab .eql 123 x y (.agg s.c) (.agg shr0.c) false := by
  refine ⟨.agg #[.string s.n, .int .i64 s.w, .int .i64 s.gets, .int .i64 s.rest, .int .i64 s.place], .agg #[.string .empty, .int .i64 0, .int .i64 0, .int .i64 0, .int .i64 0], rfl, rfl, (congrFun (congrFun (congrFun (congrFun (congrFun (congrFun (show tab.eqv = pureEq Try.prog from rfl) _) _) _) _) _) _).trans ?_⟩
  have h2 := eq78 s.n .empty s.w s.gets s.rest 0 0 0 s.place 0 (bytes_ne h)
  have hp : pureRun Try.prog program = some Try.prog := rfl
  have pp : ∀ {α : Type} (x : α), pureRun Try.prog (pure x) = some x := fun x => rfl
  have e1 : pureRun Try.prog (eqGuard .eql 123 x y (.agg #[.string s.n, .int .i64 s.w, .int .i64 s.gets, .int .i64 s.rest, .int .i64 s.place]) (.agg #[.string .empty, .int .i64 0, .int .i64 0, .int .i64 0, .int .i64 0])) = some () := by
    simp [eqGuard, pureRun_bind, hp, eg78, pp]
  unfold pureEq
  rw [pureRun_bind, e1]
  show pureRun Try.prog (binOp .eql 123 (.agg #[.string s.n, .int .i64 s.w, .int .i64 s.gets, .int .i64 s.rest, .int .i64 s.place]) (.agg #[.string .empty, .int .i64 0, .int .i64 0, .int .i64 0, .int .i64 0])) = _
  have : binOp .eql 123 (.agg #[.string s.n, .int .i64 s.w, .int .i64 s.gets, .int .i64 s.rest, .int .i64 s.place]) (.agg #[.string .empty, .int .i64 0, .int .i64 0, .int .i64 0, .int .i64 0]) = (Op.equal 123 (.agg #[.string s.n, .int .i64 s.w, .int .i64 s.gets, .int .i64 s.rest, .int .i64 s.place]) (.agg #[.string .empty, .int .i64 0, .int .i64 0, .int .i64 0, .int .i64 0]) >>= fun b => pure (.bool b)) := rfl
  rw [this, pureRun_bind, h2]; rfl
end Go.Proofs.Ytkfepnbanekfgaa

namespace Go.Proofs.Ytkfepnbanekfgaa
open Go Go.AL Go.AL.Q Go.AL.Sh
def memI (bo : B) (n : Nat) (x : List Shr × Int) : Hp := ofH [(0, bo), (1, .cells [.ms 0 0 n]), (2, shB x.1), (3, .cells [.ms 2 0 n]), (4, .cells [.int x.2])]
theorem one_under {a : A} {n : Nat} (h : Under n a) : UnderB n (.cells [a]) := .cells _ fun x hx => by
  simp only [List.mem_cons, List.not_mem_nil, or_false] at hx; subst hx; exact h
theorem shB_nms (l : List Shr) {D : Nat → Prop} : NmsB D (shB l) := .cells _ fun x hx => by
  obtain ⟨y, hy, hx⟩ := List.mem_flatten.1 hx
  obtain ⟨z, _, rfl⟩ := List.mem_map.1 hy
  exact (Shr.free z x hx).nms
theorem of2 {b bx : B} {id : Nat} (h : ofH [(2, b)] id = some bx) : id = 2 ∧ bx = b := by
  simp only [ofH, updH_apply] at h
  split at h
  · rename_i e; cases h; exact ⟨e, rfl⟩
  · cases h
theorem sortF_fr (l : List Shr) (hl : l.length ≤ 10) {H : Hp} {c : Nat} (hH : H 2 = some (shB l)) : SCall Try.prog 65 [.ms 2 0 l.length, .fn (.func 61) [] []] H c (fun v H1 c1 => v = .tup [] ∧ H1 = overH H (ofH [(2, shB l)]) (ofH [(2, shB (sortS l))]) ∧ c1 = c) :=
  (SCall.frame (sortF_s l hl) (H := H) (c := c) (fun id bx h => by rw [(of2 h).1]; decide) (fun id bx h => by
    obtain ⟨rfl, rfl⟩ := of2 h
    exact ⟨shB_nms l, hH⟩) (allC (.ms _ _ _ rfl) (all1 (Free.fn _ _ _ allN allN).nms)) (fun _ H' c' h => by
    obtain ⟨rfl, rfl⟩ := h
    exact ⟨.tup _ allN, fun id bx h => by obtain ⟨rfl, rfl⟩ := of2 h; exact ⟨rfl, shB_nms _⟩⟩)).mono fun v H1 c1 h => by
    obtain ⟨H', c', ⟨rfl, rfl⟩, rfl, rfl⟩ := h
    exact ⟨rfl, rfl, rfl⟩
set_option maxRecDepth 100000 in
set_option maxHeartbeats 2000000 in
theorem more_s (l : List Shr) (hl : l.length ≤ 10) (hnm : ∀ s ∈ l, 0 < s.n.size) (left : Nat) (hleft : left ≤ 100000000) (bo : Nat → B) (ubo : ∀ k n, UnderB n (bo k)) (lp : B) (ulp : UnderB 5 lp)
    {S : Slots} {nt : Nat} {ps : Array Tmp} {asg body : Code}
    (it : ∀ x : List Shr × Int, IterD Try.prog (fun _ => true) 5 S nt ps asg body (((sortS l).take left).map fun s => [A.agg s.c]) (fun k H => ∃ H0, H0 = memI (bo k) l.length x ∧ H = updH H0 5 (some lp)) (fun _ => 7)) :
    SCall Try.prog 60 [.yl 5, .ref 3 0, .ref 4 0] (updH (memI (bo 0) l.length (l, (left : Int))) 5 (some lp)) 6 (fun v H' c' => 7 ≤ c' ∧ ∃ x : List Shr × Int, Sub H' fun H => ∃ H0, H0 = memI (bo (((sortS l).take left).map fun s => [A.agg s.c]).length) l.length x ∧ H = updH H0 5 (some lp)) := by
  have ufn : ∀ {n : Nat}, Under n (A.fn (.func 61) [] []) := (Free.fn _ _ _ allN allN).under
  have usB : ∀ {n : Nat} {l : List Shr}, UnderB n (shB l) := shB_under _
  have ulp7 : UnderB 7 lp := by
    cases ulp with
    | cells cs h => exact .cells _ fun x hx => (h x hx).mono (by decide)
    | map kvs h => exact .map _ fun p hp => ⟨(h p hp).1.mono (by decide), (h p hp).2.mono (by decide)⟩
    | lp st pend S nt ps asg body h => exact .lp _ _ _ _ _ _ _ fun t => (h t).mono (by decide)
  have hsl := sortS_len l
  have hmem : ∀ s ∈ sortS l, 0 < s.n.size := fun s hs => hnm s ((sortS_perm l).mem_iff.1 hs)
  have hsort := sortF_s l hl
  refine SCall.of_bodyN tab_ok Try.func60 rfl Try.ntmps60 (Nat.le_of_ble_eq_true rfl) (allC (fun _ => rfl) (allC (fun _ => rfl) (all1 fun _ => rfl))) fun E hE => ?_
  unfold memI
  refine Aw.sm tab_ok mb0 [] rfl rfl ?zo ?zk
  case zo =>
    repeat' apply AllP.cons
    all_goals first | exact trivial | exact rfl | exact Nat.le_of_ble_eq_true rfl
  case zk =>
  refine Aw.freeze (id := 6) (t := 4) rfl rfl ?_
  refine Aw.ss rfl ?_
  refine RegL.partE tab_ok mb0 false 3 0 [] ?_
  conv => arg 5; whnf
  refine PartK.mk ?zo ?zk
  case zo =>
    repeat' apply AllP.cons
    all_goals first | exact trivial | exact Nat.le_of_ble_eq_true rfl
  case zk =>
  refine Does.raw rfl (DoesR.call (fst := []) (cap := []) rfl rfl (enters_of Try.func65 rfl rfl) (sortF_fr l hl rfl) ?_)
  rintro v H' c' ⟨rfl, rfl, rfl⟩
  have h6 : ∀ id, 7 ≤ id → E.φ0 id = none := fun id h => hE id (by omega)
  generalize hm : (((sortS l).take left).map fun s => [A.agg s.c]) = L at *
  generalize hss : sortS l = s at *
  refine Aw.sm tab_ok mb0 [] rfl rfl ?zo ?zk
  case zo =>
    repeat' apply AllP.cons
    all_goals first | exact trivial | exact Nat.le_of_ble_eq_true rfl
  case zk =>
  refine Aw.block (Aw.rounds 7 h6 [(0, .yl 5), (2, .ref 4 0), (12, .ms 2 0 l.length), (13, .int l.length)] (fun i : (Nat×Int) => [(14, .int i.1)]) (fun i => [(5, lp), (0, bo i.1), (1, .cells [.ms 0 0 l.length]), (2, shB s), (3, .cells [.ms 2 0 l.length]), (4, .cells [.int i.2])]) (fun i => i.1 ≤ l.length ∧ i.1 ≤ left ∧ i.2 = (left : Int) - i.1) (fun i => l.length - i.1) (0, (left : Int)) ?zg ⟨?zc, ?zv, ?zh, Nat.le_of_ble_eq_true rfl⟩ ?zu (fun i zhk => ?zw) (fun i zhk => ?zx) fun i hk => ?zr)
  case zg =>
    (repeat' (first | exact ⟨by omega, by omega, by omega⟩))
  case zc =>
    (repeat' (first | (refine And.intro ?_ ?_) | exact trivial | exact A.Le.refl _))
  case zv =>
    (repeat' (first | (refine And.intro ?_ ?_) | exact trivial | exact A.Le.refl _))
  case zh =>
    (repeat' (first | (refine And.intro ?_ ?_) | exact trivial | exact rfl))
  case zu =>
    (repeat' (first | exact trivial | exact Under.s _ | exact Under.ref _ _ (by decide) | exact Under.ms _ _ _ (by decide) | exact Under.yl _ (by decide) | (refine And.intro ?_ ?_)))
  case zw =>
    (repeat' (first | exact trivial | exact Under.s _ | (refine And.intro ?_ ?_)))
  case zx =>
    (repeat' (first | exact trivial | assumption | exact Nat.le_of_ble_eq_true rfl | exact one_under (.ms _ _ _ (by decide)) | exact one_under (.s _) | exact ubo _ _ | exact usB | (refine And.intro ?_ ?_)))
  case zr =>
  obtain ⟨k, x⟩ := i
  obtain ⟨hk, hkl, hx⟩ := hk
  simp only at hk hkl hx
  refine Aw.sm tab_ok mb0 [] rfl rfl ?zo ?zk
  case zo =>
    repeat' apply AllP.cons
    all_goals first | exact trivial
  case zk =>
  refine Aw.seq (Aw.cond rfl (fun h1 => Aw.skip1 ?_) (fun h1 => Aw.exit2 ?_))
  · have hlt : k < l.length := by have := of_decide_eq_true h1; omega
    have hg := shr_at (l := s) (k := k) (by omega)
    have hsn := hmem (s.getD k shr0) (by rw [shr_get (show k < s.length by omega)]; exact List.getElem_mem _)
    have hLk : k < left → L[k]? = some [A.agg (s.getD k shr0).c] := fun h => by
      rw [← hm, List.getElem?_map, List.getElem?_take_of_lt h, List.getElem?_eq_getElem (by omega : k < s.length), shr_get (show k < s.length by omega)]; rfl
    have hul := shr_len s
    generalize s.getD k shr0 = y at *
    refine Aw.seq (Aw.block ?_)
    refine Aw.sm tab_ok mb0 [(1, [.agg y.c])] rfl rfl ?zo ?zk
    case zo =>
      repeat' apply AllP.cons
      all_goals first | exact trivial | exact rfl | exact Nat.le_of_ble_eq_true rfl | exact Int.natCast_nonneg _ | exact congrArg A.agg (by rw [Int.toNat_natCast]; exact hg) | exact (show 0 + Int.toNat (k : Int) * 5 + 5 ≤ (s.map Shr.c).flatten.length by rw [hul, Int.toNat_natCast]; omega) | exact (show (k : Int) < (l.length : Int) by omega)
    case zk =>
    refine Aw.freeze (id := 7) (t := 6) rfl rfl ?_
    refine Aw.sm tab_ok mb0 [] rfl rfl ?zo ?zk
    case zo =>
      repeat' apply AllP.cons
      all_goals first | exact trivial | exact rfl | exact Nat.le_of_ble_eq_true rfl | exact (by simp only [Ob.of, inR]; omega)
    case zk =>
    have upy : ∀ {n : Nat}, Under n (A.pt y.c) := (Free.pt _ y.free).under
    refine Aw.keep (n := 7) (cst := [(0, .yl 5), (2, .ref 4 0), (6, .pt y.c), (12, .ms 2 0 l.length), (13, .int l.length), (14, .int k)]) (v := []) (Hl := [(5, lp), (0, bo k), (1, .cells [.ms 0 0 l.length]), (2, shB s), (3, .cells [.ms 2 0 l.length]), (4, .cells [.int (x - 1)])]) h6 ?zu ?zw ?zx ⟨?zc, ?zv, ?zh, Nat.le_of_ble_eq_true rfl⟩ ?zr
    case zu =>
      (repeat' (first | exact trivial | exact Under.s _ | exact Under.ref _ _ (by decide) | exact Under.ms _ _ _ (by decide) | exact Under.yl _ (by decide) | exact upy | (refine And.intro ?_ ?_)))
    case zw =>
      (repeat' (first | exact trivial))
    case zx =>
      (repeat' (first | exact trivial | assumption | exact Nat.le_of_ble_eq_true rfl | exact one_under (.ms _ _ _ (by decide)) | exact one_under (.s _) | exact ubo _ _ | exact usB | (refine And.intro ?_ ?_)))
    case zc =>
      (repeat' (first | (refine And.intro ?_ ?_) | exact trivial | exact A.Le.refl _))
    case zv =>
      (repeat' (first | exact trivial))
    case zh =>
      (repeat' (first | (refine And.intro ?_ ?_) | exact trivial | exact rfl))
    case zr =>
    by_cases hlast : k < left
    · refine Aw.ss rfl ?_
      refine RegL.partE tab_ok mb0 true 10 0 [(1, [.bool false, .un, .un]), (5, [.bool false])] ?_
      conv => arg 5; whnf
      refine PartK.mk ?zo ?zk
      case zo =>
        repeat' apply AllP.cons
        all_goals first | exact trivial | exact fun _ => rfl | exact Nat.le_of_ble_eq_true rfl | exact OpX.lssN rfl rfl (decide_eq_false (by omega)) | exact eqSh _ _ y hsn
      case zk =>
      refine Does.rawT rfl rfl rfl rfl (IterD.yield (it (s, x - 1)) rfl rfl rfl (k := k) (c3 := 7) (fun i h1 _ => h1) (Nat.le_refl _) (fun i h1 _ => h1) (hLk hlast) (all1 (Free.agg _ y.free)) ⟨_, rfl, cutHD_all _⟩ ?_)
      rintro H' ⟨H0, rfl, rfl⟩
      rw [glueHD_all]
      refine RegL.partE tab_ok mb0 true 2 11 [] ?_
      conv => arg 5; whnf
      refine PartK.mk ?zo ?zk
      case zo =>
        repeat' apply AllP.cons
        all_goals first | exact trivial | exact fun _ => rfl
      case zk =>
      refine Aw.cond rfl (fun h => by cases h) (fun _ => Aw.skip ?_)
      refine Aw.em tab_ok mb0 [] rfl rfl ?zo ?zk
      case zo =>
        repeat' apply AllP.cons
        all_goals first | exact trivial | exact inrk k (by omega)
      case zk =>
      refine ⟨(k + 1, x - 1), ?zg, ?zm, ⟨?zc, ?zv, ?zh, Nat.le_of_ble_eq_true rfl⟩⟩
      case zg =>
        (repeat' (first | omega))
      case zm =>
        (repeat' (first | omega))
      case zc =>
        (repeat' (first | (refine And.intro ?_ ?_) | exact trivial | exact A.Le.refl _))
      case zv =>
        (repeat' (first | (refine And.intro ?_ ?_) | exact trivial | exact A.Le.refl _))
      case zh =>
        (repeat' (first | (refine And.intro ?_ ?_) | exact trivial | exact rfl))
    · refine Aw.st tab_ok mb0 [(1, [.bool true, .un, .un])] rfl rfl ?zo ?zk
      case zo =>
        repeat' apply AllP.cons
        all_goals first | exact trivial | exact Nat.le_of_ble_eq_true rfl | exact OpX.lssN rfl rfl (decide_eq_true (by omega))
      case zk =>
      refine Aw.cond rfl (fun _ => ?_) (fun h => by cases h)
      have hke : k = L.length := by rw [← hm, List.length_map, List.length_take]; omega
      exact Aw.ret ⟨_, .nil, Nat.le_refl _, (s, x - 1), .self ⟨_, rfl, by rw [← hke]; rfl⟩⟩
  have hke : k = L.length := by have := of_decide_eq_false h1; rw [← hm, List.length_map, List.length_take]; omega
  exact ⟨_, .nil, Nat.le_refl _, (s, x), .self ⟨_, rfl, by rw [← hke]; rfl⟩⟩
theorem more_n (l : List Shr) (n : Nat) (hn : l.length = n) (hl : l.length ≤ 10) (hnm : ∀ s ∈ l, 0 < s.n.size) (left : Nat) (hleft : left ≤ 100000000) (bo : Nat → B) (ubo : ∀ k n, UnderB n (bo k)) (lp : B) (ulp : UnderB 5 lp)
    {S : Slots} {nt : Nat} {ps : Array Tmp} {asg body : Code}
    (it : ∀ x : List Shr × Int, IterD Try.prog (fun _ => true) 5 S nt ps asg body (((sortS l).take left).map fun s => [A.agg s.c]) (fun k H => ∃ H0, H0 = memI (bo k) n x ∧ H = updH H0 5 (some lp)) (fun _ => 7)) :
    SCall Try.prog 60 [.yl 5, .ref 3 0, .ref 4 0] (updH (memI (bo 0) n (l, (left : Int))) 5 (some lp)) 6 (fun v H' c' => 7 ≤ c' ∧ ∃ x : List Shr × Int, Sub H' fun H => ∃ H0, H0 = memI (bo (((sortS l).take left).map fun s => [A.agg s.c]).length) n x ∧ H = updH H0 5 (some lp)) := by
  subst hn
  exact more_s l hl hnm left hleft bo ubo lp ulp it
def mb23 : Nat → Bool := fun d => Nat.beq d 2 || Nat.beq d 3
theorem more0_s (n : Nat) (left : Int) (H : Hp) : SCall Try.prog 47 [.ms 2 0 n, .int left] H 3 (fun v H' c' => v = .fn (.func 60) [] [.ref 3 0, .ref 4 0] ∧ H' = updH (updH H 3 (some (.cells [.ms 2 0 n]))) 4 (some (.cells [.int left])) ∧ c' = 5) := by
  refine SCall.of_bodyN tab_ok Try.func47 rfl Try.ntmps47 (Nat.le_of_ble_eq_true rfl) (allC (fun _ => rfl) (all1 fun _ => rfl)) fun E hE => ?_
  refine Aw.sm tab_ok mb23 [] rfl rfl ?zo ?zk
  case zo =>
    repeat' apply AllP.cons
    all_goals first | exact trivial
  case zk =>
  refine Aw.sm tab_ok mb23 [] rfl rfl ?zo ?zk
  case zo =>
    repeat' apply AllP.cons
    all_goals first | exact trivial
  case zk =>
  exact Aw.ret ⟨_, .cons (.tmp _) .nil, rfl, rfl, rfl⟩
theorem of0 {b bx : B} {id : Nat} (h : ofH [(0, b)] id = some bx) : id = 0 ∧ bx = b := by
  simp only [ofH, updH_apply] at h
  split at h
  · rename_i e; cases h; exact ⟨e, rfl⟩
  · cases h
theorem sumM_fr (l : List Int) (hl : l.length ≤ 1000) (h : ∀ k, k ≤ l.length → inR (l.take k).sum) (n : Nat) (hn : l.length = n) {H : Hp} {c : Nat} (hH : H 0 = some (iB l)) : SCall Try.prog 27 [.ms 0 0 n] H c (fun v H1 c1 => v = .int l.sum ∧ H1 = H ∧ c1 = c) := by
  subst hn
  refine (SCall.frame (sumM_s l hl h) (H := H) (c := c) (fun id bx h => by rw [(of0 h).1]; decide) (fun id bx h => ?_) (all1 (.ms _ _ _ rfl)) (fun v H' c' h => ?_)).mono fun v H1 c1 h => ?_
  · obtain ⟨rfl, rfl⟩ := of0 h
    exact ⟨(iB_under (n := 0) l).nmsA fun i hi => by omega, hH⟩
  · obtain ⟨rfl, rfl⟩ := h
    exact ⟨.s _, fun id bx h => by obtain ⟨rfl, rfl⟩ := of0 h; exact ⟨rfl, (iB_under (n := 0) l).nmsA fun i hi => by omega⟩⟩
  · obtain ⟨H', c', ⟨rfl, rfl⟩, rfl, rfl⟩ := h
    refine ⟨rfl, ?_, rfl⟩
    funext id
    unfold overH
    cases e : ofH [(0, iB l)] id with
    | none => rfl
    | some b =>
      obtain ⟨rfl, rfl⟩ := of0 e
      exact hH.symm
end Go.Proofs.Ytkfepnbanekfgaa

namespace Go.Proofs.Ytkfepnbanekfgaa
open Go Go.AL Go.AL.Q Go.AL.Sh
def grS : Nat → Nat → A
  | 0, _ => .sl true .exact []
  | k + 1, cap => .gs 2 (k + 1) cap
def cellJ (sh : List Shr) (k cap : Nat) : B := .cells (((sh.take k).map Shr.c).flatten ++ List.replicate ((cap - k) * 5) A.un)
def grC (sh : List Shr) : Nat → Nat → List (Nat × B)
  | 0, _ => []
  | k + 1, cap => [(2, cellJ sh (k + 1) cap)]
theorem grS_under (k cap : Nat) {n : Nat} (h : 3 ≤ n) : Under n (grS k cap) := by
  cases k with
  | zero => exact (Free.sl _ _ _ (fun _ h => by cases h)).under
  | succ k => exact .gs _ _ _ (by omega)
theorem cellJ_under (sh : List Shr) (k cap : Nat) {n : Nat} : UnderB n (cellJ sh k cap) := .cells _ fun x hx => by
  rcases List.mem_append.1 hx with h | h
  · obtain ⟨y, hy, h⟩ := List.mem_flatten.1 h
    obtain ⟨z, _, rfl⟩ := List.mem_map.1 hy
    exact (Shr.free z x h).under
  · rw [List.mem_replicate] at h; rw [h.2]; exact .un
theorem grC_under (sh : List Shr) (k cap : Nat) : UnderH 3 (grC sh k cap) := by
  cases k with
  | zero => trivial
  | succ k => exact ⟨⟨by decide, cellJ_under _ _ _⟩, trivial⟩
theorem cellJ_own {sh : List Shr} {k m : Nat} : ∀ v ∈ ((sh.take k).map Shr.c).flatten ++ List.replicate m A.un, ∀ u, spareOf v u = none := fun v hv u => by
  rcases List.mem_append.1 hv with h | h
  · obtain ⟨y, hy, h⟩ := List.mem_flatten.1 h
    obtain ⟨z, _, rfl⟩ := List.mem_map.1 hy
    simp only [Shr.c, List.mem_cons, List.not_mem_nil, or_false] at h
    rcases h with rfl | rfl | rfl | rfl | rfl <;> rfl
  · rw [List.mem_replicate] at h; rw [h.2]; rfl
theorem nms_ofL {D : Nat → Prop} : ∀ {l : List (Nat × A)}, (∀ p ∈ l, Nms D p.2) → ∀ t, Nms D (ofL l t)
  | [], _, t => .un
  | (i, x) :: l, h, t => by
    simp only [ofL, upd_apply]
    split
    · exact h (i, x) (List.mem_cons_self ..)
    · exact nms_ofL (fun p hp => h p (List.mem_cons_of_mem _ hp)) t
theorem shr_flat5 (sh : List Shr) (k : Nat) (h : k ≤ sh.length) : ((sh.take k).map Shr.c).flatten.length = k * 5 := by rw [shr_len, List.length_take, Nat.min_eq_left h]
theorem grow1 {sh : List Shr} {k cap : Nat} {s : Shr} (hk : k < sh.length) (hs : sh.take (k + 1) = sh.take k ++ [s]) (hc : k + 1 ≤ cap) :
    setSeg (((sh.take k).map Shr.c).flatten ++ List.replicate ((cap - k) * 5) A.un) (k * 5) s.c = ((sh.take (k + 1)).map Shr.c).flatten ++ List.replicate ((cap - (k + 1)) * 5) A.un := by
  have h := setSeg_end (l := ((sh.take k).map Shr.c).flatten) (v := s.c) (j := (cap - k) * 5) (show 5 ≤ _ by omega)
  rw [shr_flat5 sh k (by omega)] at h
  rw [h, hs, List.map_append, List.flatten_append, show (cap - k) * 5 - s.c.length = (cap - (k + 1)) * 5 by show (cap - k) * 5 - 5 = _; omega]
  simp
theorem grow2 {sh : List Shr} {k cap cap' : Nat} {s : Shr} (hk : k ≤ sh.length) (hs : sh.take (k + 1) = sh.take k ++ [s]) :
    ((((sh.take k).map Shr.c).flatten ++ List.replicate ((cap - k) * 5) A.un).take (k * 5)).map A.down ++ (([s.c] : List (List A)).flatten.map A.down) ++ List.replicate ((cap' - (k + 1)) * 5) A.un = ((sh.take (k + 1)).map Shr.c).flatten ++ List.replicate ((cap' - (k + 1)) * 5) A.un := by
  have h := shr_flat5 sh k hk
  have e : (((sh.take k).map Shr.c).flatten ++ List.replicate ((cap - k) * 5) A.un).take (k * 5) = ((sh.take k).map Shr.c).flatten := by rw [← h]; exact List.take_left ..
  rw [e, flat_down (c := Shr.c) (fun _ => rfl), hs, List.map_append, List.flatten_append]; rfl
theorem renSh {X : Ctx} {r : Option Nat} {x : Code} {Q : Exit → St → Prop} {cst : List (Nat × A)} {ob bb : B} {n cap k m : Nat} {sh : List Shr} (h0 : X.φ0 2 = none) (hc : ∀ p ∈ cst, Nms (· ≠ 2) p.2) (ho : NmsB (· ≠ 2) ob) (hb : NmsB (· ≠ 2) bb) (ht : ofL2 cst [] 7 = .gs 3 n cap)
    (h : Aw X r x Q ⟨upd (ofL2 cst []) 7 (.gs 2 n cap), updH (updH (ofH [(0, ob), (1, bb), (3, .cells (((sh.take k).map Shr.c).flatten ++ List.replicate m A.un))]) 3 none) 2 (some (.cells (((sh.take k).map Shr.c).flatten ++ List.replicate m A.un))), 4⟩) :
    Aw X r x Q ⟨ofL2 cst [], ofH [(0, ob), (1, bb), (3, .cells (((sh.take k).map Shr.c).flatten ++ List.replicate m A.un))], 4⟩ := by
  refine Aw.renameS (id1 := 3) (id2 := 2) (j := 7) rfl ht (by decide) rfl h0 (Nat.le_of_ble_eq_true rfl) (nms_ofL (by simpa using hc)) (fun id bx hbx => ?_) cellJ_own h
  simp only [ofH, updH_apply] at hbx
  split at hbx
  · cases hbx; exact ho
  · split at hbx
    · cases hbx; exact hb
    · split at hbx
      · cases hbx; exact .cells _ fun x hx => by
          rcases List.mem_append.1 hx with h | h
          · obtain ⟨y, hy, h⟩ := List.mem_flatten.1 h
            obtain ⟨z, _, rfl⟩ := List.mem_map.1 hy
            exact (Shr.free z x h).nms
          · rw [List.mem_replicate] at h; rw [h.2]; exact .un
      · cases hbx
end Go.Proofs.Ytkfepnbanekfgaa

namespace Go.Proofs.Ytkfepnbanekfgaa
open Go Go.AL Go.AL.Q Go.AL.Sh
def outK (all by' : Int) (l : List Stk) (k : Nat) : List Int := ((lucky all by' l).take k).foldl bump (getsL all by' l)
theorem outK_succ {all by' : Int} {l : List Stk} {k : Nat} {s : Shr} (h : (lucky all by' l)[k]? = some s) : outK all by' l (k + 1) = bump (outK all by' l k) s := by
  obtain ⟨hk, e⟩ := List.getElem?_eq_some_iff.1 h
  unfold outK
  rw [List.take_succ_eq_append_getElem hk, List.foldl_append, e]; rfl
theorem outK_len (all by' : Int) (l : List Stk) (k : Nat) : (outK all by' l k).length = l.length := by unfold outK; rw [bumps_len, getsL_len]
theorem outK_bd {all by' : Int} {l : List Stk} (h : Rights l) (h0 : 0 ≤ all) (h1 : all ≤ 10000000) (hb : 0 < by') (k : Nat) : ∀ x ∈ outK all by' l k, 0 ≤ x ∧ x ≤ 100000000000 := fun x hx => by
  have := bumps_bd _ (getsL_bd h h0 h1 hb) (by decide) x hx
  have h2 : ((lucky all by' l).take k).length ≤ 10 := by
    rw [List.length_take]
    unfold lucky
    rw [List.length_take, sortS_len, shrs_len]
    have := h.n
    omega
  omega
theorem rowsI (L : List Int) : RowsAre (L.map A.int) (ints L) 1 := ⟨ints_one L, by rw [ints_len, Nat.mul_one, List.length_map]; exact Nat.le_refl _, fun i j hi hj => by
  obtain rfl : j = 0 := by omega
  rw [ints_len] at hi
  simp [ints, List.getD_eq_getElem?_getD, hi]; try rfl⟩
theorem mk0 (n : Nat) : ((List.range (Int.toNat (n : Int) * tab.sz 3)).map fun j => (tab.zr 3).getD (j % tab.sz 3) .un).map A.down = (List.replicate n 0).map A.int := by
  show ((List.range (Int.toNat (n : Int) * 1)).map fun j => ([A.int 0]).getD (j % 1) .un).map A.down = _
  rw [Int.toNat_natCast, Nat.mul_one, List.map_replicate, List.map_map]
  refine List.ext_getElem (by simp) fun i h1 h2 => ?_
  simp [Nat.mod_one]; rfl
set_option maxRecDepth 100000 in
set_option maxHeartbeats 8000000 in
theorem divide_t (b : Bool) (l : List Stk) (hr : Rights l) (all : Int) (h0 : 0 ≤ all) (h1' : all ≤ 10000000) (hb : 0 < (wts l).sum) : Ans Try.prog 29 [.int all, .sl b .any (l.map Stk.c)] (.sl false .any (ints (divF all l))) := by
  have ll : ((l.map Stk.c).length : Int) = l.length := by rw [List.length_map]
  have ul : ∀ {m : Nat}, Under m (A.sl b .any (l.map Stk.c)) := (free_map Stk.free _ _ _).under
  have hl10 := hr.n
  have hwb := wts_bd hr
  have hwt := wts_t b l hl10
  have hwl : (wts l).length ≤ 10 := by simpa [wts] using hl10
  have hsum := sumS_out (wts l) (sum_g (wts l) 1000 (by omega) (by decide) fun x hx => by
    obtain ⟨s, hs, rfl⟩ := List.mem_map.1 hx
    exact hr.w s hs) (by omega)
  have hfr : Free (.sl false .any (ints (divF all l))) := free_ints _ _ _
  have hdiv : divF all l = divB all (wts l).sum l := rfl
  have hle := left_eq hr h0 h1' hb
  have hby0 := hb
  refine told Try.func29 rfl rfl (Pure.of tab_ok Try.func29 rfl Try.ntmps29 rfl (allC (.s _) (all1 (free_map Stk.free _ _ _))) (allC (fun _ => rfl) (all1 fun _ => rfl)) hfr fun E hE => ?_)
  refine Aw.sm tab_ok mb0 [] rfl rfl ?zo ?zk
  case zo =>
    repeat' apply AllP.cons
    all_goals first | exact trivial
  case zk =>
  have hout : outA (wts l) = .sl false .any (ints (wts l)) := by
    cases h : wts l with
    | nil => rw [h] at hb; simp at hb
    | cons x t => rfl
  rw [hout] at hwt hsum
  refine Aw.sm tab_ok mb0 [(1, [.sl false .any (ints (wts l))]), (2, [.int (wts l).sum])] rfl rfl ?zo ?zk
  case zo =>
    repeat' apply AllP.cons
    all_goals first | exact trivial | exact hwt | exact hsum
  case zk =>
  rw [hdiv]
  generalize hby : (wts l).sum = by' at *
  refine Aw.sm tab_ok mb0 [] rfl rfl ?zo ?zk
  case zo =>
    repeat' apply AllP.cons
    all_goals first | exact trivial | exact rfl | exact Nat.le_of_ble_eq_true rfl | exact Int.natCast_nonneg _ | exact (show (((l.map Stk.c).length : Nat) : Int) ≤ (maxLen : Int) by rw [ll]; simp only [maxLen]; omega) | exact (show ((8 : Nat) : Int) * ((l.map Stk.c).length : Nat) ≤ 140737488355328 by rw [ll]; omega)
  case zk =>
  refine Aw.sm tab_ok mb0 [] rfl rfl ?zo ?zk
  case zo =>
    repeat' apply AllP.cons
    all_goals first | exact trivial
  case zk =>
  refine Aw.seq ?_
  refine Aw.sm tab_ok mb0 [] rfl rfl ?zo ?zk
  case zo =>
    repeat' apply AllP.cons
    all_goals first | exact trivial
  case zk =>
  have h3e : ∀ id, 3 ≤ id → E.φ0 id = none := fun id _ => hE id (by omega)
  refine Aw.raise (c' := 3) (Nat.le_of_ble_eq_true rfl) ?_
  have hz0 : fillO all by' l 0 = List.replicate l.length 0 := fillO_zero all by' l
  refine Aw.block (Aw.rounds 3 h3e [(0, .int all), (1, .sl b .any (l.map Stk.c)), (5, .int by'), (6, .ref 1 0), (18, .sl b .any (l.map Stk.c)), (19, .int l.length)] (fun i : (Nat×Nat) => [(7, grS i.1 i.2), (20, .int i.1)]) (fun i => ((0, iB (fillO all by' l i.1)) :: (1, .cells [.ms 0 0 l.length]) :: grC (shrs all by' l) i.1 i.2)) (fun i => i.1 ≤ l.length ∧ (i.1 ≠ 0 → i.1 ≤ i.2)) (fun i => l.length - i.1) (0, 0) ?zg ⟨?zc, ?zv, ?zh, Nat.le_of_ble_eq_true rfl⟩ ?zu (fun i zhk => ?zw) (fun i zhk => ?zx) fun i hk => ?zr)
  case zg =>
    (repeat' (first | exact ⟨Nat.zero_le _, fun h => absurd rfl h⟩))
  case zc =>
    (repeat' (first | (refine And.intro ?_ ?_) | exact trivial | exact A.Le.refl _ | exact .of_eq (congrArg A.int ll.symm)))
  case zv =>
    (repeat' (first | (refine And.intro ?_ ?_) | exact trivial | exact A.Le.refl _))
  case zh =>
    (repeat' (first | (refine And.intro ?_ ?_) | exact trivial | exact congrArg (fun x => some (B.cells x)) ((mk0 _).trans (by rw [hz0, List.length_map])) | exact congrArg (fun x => some (B.cells [A.ms 0 0 x])) (by rw [Int.toNat_natCast, List.length_map])))
  case zu =>
    (repeat' (first | exact trivial | exact Under.s _ | exact Under.ref _ _ (by decide) | exact ul | (refine And.intro ?_ ?_)))
  case zw =>
    (repeat' (first | exact trivial | exact Under.s _ | exact grS_under _ _ (Nat.le_refl _) | (refine And.intro ?_ ?_)))
  case zx =>
    (repeat' (first | exact Nat.le_of_ble_eq_true rfl | exact iB_under _ | exact one_under (.ms _ _ _ (by decide)) | exact grC_under _ _ _ | (refine And.intro ?_ ?_)))
  case zr =>
  obtain ⟨k, cap⟩ := i
  obtain ⟨hk, hcap⟩ := hk
  simp only at hk hcap
  refine Aw.sm tab_ok mb0 [] rfl rfl ?zo ?zk
  case zo =>
    repeat' apply AllP.cons
    all_goals first | exact trivial
  case zk =>
  refine Aw.seq (Aw.cond rfl (fun h1 => Aw.skip1 ?_) (fun h1 => Aw.exit2 ?_))
  · have hlt : k < l.length := by have := of_decide_eq_true h1; omega
    have hg := stk_at hlt
    obtain ⟨p0, p1, g0, g1, r0, r1, -⟩ := shrOf_bd hr h0 h1' hby0 k
    have hset := fillO_set (all := all) (by' := by') hlt
    have hfl := fillO_len (all := all) (by' := by') (Nat.le_of_lt hlt)
    have hst := shrs_take (all := all) (by' := by') hlt
    have hsl := shrs_len all by' l
    have upx : ∀ {n : Nat}, Under n (A.pt (l.getD k stk0).c) := (Free.pt _ (Stk.free _)).under
    have hsc : (shrOf all by' l k).c = [.s (.string (l.getD k stk0).n), .int (l.getD k stk0).w, .int ((all * (l.getD k stk0).w).tdiv by'), .int ((all * (l.getD k stk0).w).tmod by'), .int k] := rfl
    have hsg : (shrOf all by' l k).gets = (all * (l.getD k stk0).w).tdiv by' := rfl
    generalize shrOf all by' l k = sh at *
    generalize l.getD k stk0 = x at *
    have ups : ∀ {n : Nat}, Under n (A.pt sh.c) := (Free.pt _ sh.free).under
    refine Aw.seq (Aw.block ?_)
    refine Aw.sm tab_ok mb0 [(1, x.c)] rfl rfl ?zo ?zk
    case zo =>
      repeat' apply AllP.cons
      all_goals first | exact trivial | exact rfl | exact Nat.le_of_ble_eq_true rfl | exact Int.natCast_nonneg _ | exact hg
    case zk =>
    refine Aw.freeze (id := 3) (t := 9) rfl rfl ?_
    refine Aw.sd tab_ok mixed mb0 [] rfl (by kernel_rfl) rfl rfl ?zo ?zk
    case zo =>
      repeat' apply AllP.cons
      all_goals first | exact trivial | exact rfl | exact Nat.le_of_ble_eq_true rfl | exact (show inR (all * x.w) by simp only [inR]; omega) | exact (show by' ≠ 0 ∧ inR ((all * x.w).tdiv by') from ⟨by omega, by simp only [inR]; omega⟩) | exact (show by' ≠ 0 by omega)
    case zk =>
    refine Aw.freeze (id := 19) (t := 10) rfl rfl ?_
    have hfml : ((fillO all by' l k).map A.int).length = l.length := by rw [List.length_map]; exact hfl
    have hput : setSeg ((fillO all by' l k).map A.int) (0 + Int.toNat (k : Int) * 1) [A.int ((all * x.w).tdiv by')] = (fillO all by' l (k + 1)).map A.int := by
      rw [show 0 + Int.toNat (k : Int) * 1 = k by omega, setSeg_set (by omega), ← hsg, hset]
    refine Aw.sm tab_ok mb0 [] rfl rfl ?zo ?zk
    case zo =>
      repeat' apply AllP.cons
      all_goals first | exact trivial | exact rfl | exact Nat.le_of_ble_eq_true rfl | exact Int.natCast_nonneg _ | exact (show (k : Int) < (l.length : Int) by omega) | exact (show 0 + Int.toNat (k : Int) * 1 + 1 ≤ ((fillO all by' l k).map A.int).length by rw [hfml]; omega)
    case zk =>
    have hnil : ∀ {n : Nat}, Under n (A.sl true .exact []) := (Free.sl _ _ _ (fun _ h => by cases h)).under
    have hone : ∀ z ∈ [sh.c], z.length = 5 := fun z hz => by simp at hz; subst hz; rfl
    have hagg : A.Le (.pt sh.c) (.pt [.s (.string x.n), .int x.w, .int ((all * x.w).tdiv by'), .int ((all * x.w).tmod by'), .int k]) := .of_eq (congrArg A.pt hsc)
    have hu4 : ∀ id, 4 ≤ id → E.φ0 id = none := fun id _ => hE id (by omega)
    cases k with
    | zero =>
      refine Aw.keep (n := 3) (cst := [(0, .int all), (1, .sl b .any (l.map Stk.c)), (5, .int by'), (6, .ref 1 0), (7, .sl true .exact []), (10, .pt sh.c), (18, .sl b .any (l.map Stk.c)), (19, .int l.length), (20, .int ((0 : Nat) : Int))]) (v := []) (Hl := [(0, iB (fillO all by' l (0 + 1))), (1, .cells [.ms 0 0 l.length])]) h3e ?zu ?zw ?zx ⟨?zc, ?zv, ?zh, Nat.le_of_ble_eq_true rfl⟩ ?zr
      case zu =>
        (repeat' (first | exact trivial | exact Under.s _ | exact Under.ref _ _ (by decide) | exact ul | exact ups | exact hnil | (refine And.intro ?_ ?_)))
      case zw =>
        (repeat' (first | exact trivial))
      case zx =>
        (repeat' (first | exact trivial | exact Nat.le_of_ble_eq_true rfl | exact iB_under _ | exact one_under (.ms _ _ _ (by decide)) | (refine And.intro ?_ ?_)))
      case zc =>
        (repeat' (first | (refine And.intro ?_ ?_) | exact trivial | exact A.Le.refl _ | exact hagg))
      case zv =>
        (repeat' (first | exact trivial))
      case zh =>
        (repeat' (first | (refine And.intro ?_ ?_) | exact trivial | exact rfl | exact congrArg (fun x => some (B.cells x)) hput))
      case zr =>
      refine Aw.es rfl ?_
      refine RegL.partE tab_ok mb0 false 3 0 [] ?_
      conv => arg 5; whnf
      refine PartK.mk ?zo ?zk
      case zo =>
        repeat' apply AllP.cons
        all_goals first | exact trivial | exact Nat.le_of_ble_eq_true rfl
      case zk =>
      refine Does.raw rfl (DoesR.appNil tab_ok (ys := [sh.c]) rfl rfl rfl (fun h => by cases h) (by decide) rfl rfl (by simp) hone (Nat.le_of_ble_eq_true rfl) (Nat.le_of_ble_eq_true rfl) (fun cap1 hcap1 => ?_))
      refine RegL.partE tab_ok mb0 false 1 4 [] ?_
      conv => arg 5; whnf
      refine PartK.mk ?zo ?zk
      case zo =>
        repeat' apply AllP.cons
        all_goals first | exact trivial
      case zk =>
      have hcap1 : 0 + 1 ≤ cap1 := hcap1
      have hcell : (([sh.c] : List (List A)).flatten.map A.down ++ List.replicate ((cap1 - 1) * 5) A.un) = (((shrs all by' l).take (0 + 1)).map Shr.c).flatten ++ List.replicate ((cap1 - (0 + 1)) * 5) A.un := by
        rw [hst]; rfl
      refine Aw.keep (n := 4) (cst := [(0, .int all), (1, .sl b .any (l.map Stk.c)), (5, .int by'), (6, .ref 1 0), (7, .gs 3 (0 + 1) cap1), (18, .sl b .any (l.map Stk.c)), (19, .int l.length), (20, .int ((0 : Nat) : Int))]) (v := []) (Hl := [(0, iB (fillO all by' l (0 + 1))), (1, .cells [.ms 0 0 l.length]), (3, .cells ((((shrs all by' l).take (0 + 1)).map Shr.c).flatten ++ List.replicate ((cap1 - (0 + 1)) * 5) A.un))]) hu4 ?zu ?zw ?zx ⟨?zc, ?zv, ?zh, Nat.le_of_ble_eq_true rfl⟩ ?zr
      case zu =>
        (repeat' (first | exact trivial | exact Under.s _ | exact Under.ref _ _ (by decide) | exact ul | exact .gs _ _ _ (by decide) | (refine And.intro ?_ ?_)))
      case zw =>
        (repeat' (first | exact trivial))
      case zx =>
        (repeat' (first | exact trivial | exact Nat.le_of_ble_eq_true rfl | exact iB_under _ | exact one_under (.ms _ _ _ (by decide)) | exact cellJ_under _ _ _ | (refine And.intro ?_ ?_)))
      case zc =>
        (repeat' (first | (refine And.intro ?_ ?_) | exact trivial | exact A.Le.refl _))
      case zv =>
        (repeat' (first | exact trivial))
      case zh =>
        (repeat' (first | (refine And.intro ?_ ?_) | exact trivial | exact rfl | exact congrArg (fun x => some (B.cells x)) hcell))
      case zr =>
      refine renSh (hE 2 (by decide)) (fun p hp => ?_) ((iB_under (n := 1) _).nmsA fun i hi => by omega) ((one_under (n := 1) (.ms _ _ _ (by decide))).nmsA fun i hi => by omega) rfl ?_
      · simp only [List.mem_cons, List.not_mem_nil, or_false] at hp
        rcases hp with rfl | rfl | rfl | rfl | rfl | rfl | rfl | rfl
        · exact .s _
        · exact (free_map Stk.free _ _ _).nms
        · exact .s _
        · exact .ref _ _ (by decide)
        · exact .gs _ _ _ (by decide)
        · exact (free_map Stk.free _ _ _).nms
        · exact .s _
        · exact .s _
      refine Aw.em tab_ok mb0 [] rfl rfl ?zo ?zk
      case zo =>
        repeat' apply AllP.cons
        all_goals first | exact trivial | exact inrk _ (by omega)
      case zk =>
      refine ⟨(0 + 1, cap1), ?zg, ?zm, ⟨?zc, ?zv, ?zh, Nat.le_of_ble_eq_true rfl⟩⟩
      case zg =>
        (repeat' (first | omega))
      case zm =>
        (repeat' (first | omega))
      case zc =>
        (repeat' (first | (refine And.intro ?_ ?_) | exact trivial | exact A.Le.refl _))
      case zv =>
        (repeat' (first | (refine And.intro ?_ ?_) | exact trivial | exact A.Le.refl _))
      case zh =>
        (repeat' (first | (refine And.intro ?_ ?_) | exact trivial | exact rfl))
    | succ k =>
      have hcap := hcap (by omega)
      refine Aw.keep (n := 3) (cst := [(0, .int all), (1, .sl b .any (l.map Stk.c)), (5, .int by'), (6, .ref 1 0), (7, .gs 2 (k + 1) cap), (10, .pt sh.c), (18, .sl b .any (l.map Stk.c)), (19, .int l.length), (20, .int ((k + 1 : Nat) : Int))]) (v := []) (Hl := [(0, iB (fillO all by' l (k + 1 + 1))), (1, .cells [.ms 0 0 l.length]), (2, cellJ (shrs all by' l) (k + 1) cap)]) h3e ?zu ?zw ?zx ⟨?zc, ?zv, ?zh, Nat.le_of_ble_eq_true rfl⟩ ?zr
      case zu =>
        (repeat' (first | exact trivial | exact Under.s _ | exact Under.ref _ _ (by decide) | exact ul | exact ups | exact .gs _ _ _ (by decide) | (refine And.intro ?_ ?_)))
      case zw =>
        (repeat' (first | exact trivial))
      case zx =>
        (repeat' (first | exact trivial | exact Nat.le_of_ble_eq_true rfl | exact iB_under _ | exact one_under (.ms _ _ _ (by decide)) | exact cellJ_under _ _ _ | (refine And.intro ?_ ?_)))
      case zc =>
        (repeat' (first | (refine And.intro ?_ ?_) | exact trivial | exact A.Le.refl _ | exact hagg))
      case zv =>
        (repeat' (first | exact trivial))
      case zh =>
        (repeat' (first | (refine And.intro ?_ ?_) | exact trivial | exact rfl | exact congrArg (fun x => some (B.cells x)) hput))
      case zr =>
      have hcl : ((((shrs all by' l).take (k + 1)).map Shr.c).flatten ++ List.replicate ((cap - (k + 1)) * 5) A.un).length = cap * 5 := by
        rw [List.length_append, shr_flat5 _ _ (by omega), List.length_replicate]; omega
      refine Aw.es rfl ?_
      refine RegL.partE tab_ok mb0 false 3 0 [] ?_
      conv => arg 5; whnf
      refine PartK.mk ?zo ?zk
      case zo =>
        repeat' apply AllP.cons
        all_goals first | exact trivial | exact Nat.le_of_ble_eq_true rfl
      case zk =>
      refine Does.raw rfl (DoesR.appGs tab_ok (ys := [sh.c]) (id := 2) (n := k + 1) (cap := cap) rfl rfl rfl (fun h => by cases h) (by decide) rfl rfl hcl rfl (by simp) hone (show (k + 1 + 1) * _ ≤ 140737488355328 from Nat.le_trans (Nat.mul_le_mul_right _ (show k + 1 + 1 ≤ 100 by omega)) (Nat.le_of_ble_eq_true rfl)) (show k + 1 + 1 ≤ maxLen by unfold maxLen; omega) (fun hroom => ?_) (fun cap1 hcap1 => ?_))
      · have hroom : k + 1 + 1 ≤ cap := hroom
        have hcell := grow1 (sh := shrs all by' l) (k := k + 1) (cap := cap) (s := sh) (by omega) hst hroom
        refine RegL.partE tab_ok mb0 false 1 4 [] ?_
        conv => arg 5; whnf
        refine PartK.mk ?zo ?zk
        case zo =>
          repeat' apply AllP.cons
          all_goals first | exact trivial
        case zk =>
        refine Aw.em tab_ok mb0 [] rfl rfl ?zo ?zk
        case zo =>
          repeat' apply AllP.cons
          all_goals first | exact trivial | exact inrk _ (by omega)
        case zk =>
        refine ⟨(k + 1 + 1, cap), ?zg, ?zm, ⟨?zc, ?zv, ?zh, Nat.le_of_ble_eq_true rfl⟩⟩
        case zg =>
          (repeat' (first | omega))
        case zm =>
          (repeat' (first | omega))
        case zc =>
          (repeat' (first | (refine And.intro ?_ ?_) | exact trivial | exact A.Le.refl _))
        case zv =>
          (repeat' (first | (refine And.intro ?_ ?_) | exact trivial | exact A.Le.refl _))
        case zh =>
          (repeat' (first | (refine And.intro ?_ ?_) | exact trivial | exact rfl | exact congrArg (fun x => some (B.cells x)) hcell))
      · have hcap1 : k + 1 + 1 ≤ cap1 := hcap1
        have hcell := grow2 (sh := shrs all by' l) (k := k + 1) (cap := cap) (cap' := cap1) (s := sh) (by omega) hst
        refine RegL.partE tab_ok mb0 false 1 4 [] ?_
        conv => arg 5; whnf
        refine PartK.mk ?zo ?zk
        case zo =>
          repeat' apply AllP.cons
          all_goals first | exact trivial
        case zk =>
        refine Aw.keep (n := 4) (cst := [(0, .int all), (1, .sl b .any (l.map Stk.c)), (5, .int by'), (6, .ref 1 0), (7, .gs 3 (k + 1 + 1) cap1), (18, .sl b .any (l.map Stk.c)), (19, .int l.length), (20, .int ((k + 1 : Nat) : Int))]) (v := []) (Hl := [(0, iB (fillO all by' l (k + 1 + 1))), (1, .cells [.ms 0 0 l.length]), (3, .cells ((((shrs all by' l).take (k + 1 + 1)).map Shr.c).flatten ++ List.replicate ((cap1 - (k + 1 + 1)) * 5) A.un))]) hu4 ?zu ?zw ?zx ⟨?zc, ?zv, ?zh, Nat.le_of_ble_eq_true rfl⟩ ?zr
        case zu =>
          (repeat' (first | exact trivial | exact Under.s _ | exact Under.ref _ _ (by decide) | exact ul | exact .gs _ _ _ (by decide) | (refine And.intro ?_ ?_)))
        case zw =>
          (repeat' (first | exact trivial))
        case zx =>
          (repeat' (first | exact trivial | exact Nat.le_of_ble_eq_true rfl | exact iB_under _ | exact one_under (.ms _ _ _ (by decide)) | exact cellJ_under _ _ _ | (refine And.intro ?_ ?_)))
        case zc =>
          (repeat' (first | (refine And.intro ?_ ?_) | exact trivial | exact A.Le.refl _))
        case zv =>
          (repeat' (first | exact trivial))
        case zh =>
          (repeat' (first | (refine And.intro ?_ ?_) | exact trivial | exact rfl | exact congrArg (fun x => some (B.cells x)) hcell))
        case zr =>
        refine renSh (hE 2 (by decide)) (fun p hp => ?_) ((iB_under (n := 1) _).nmsA fun i hi => by omega) ((one_under (n := 1) (.ms _ _ _ (by decide))).nmsA fun i hi => by omega) rfl ?_
        · simp only [List.mem_cons, List.not_mem_nil, or_false] at hp
          rcases hp with rfl | rfl | rfl | rfl | rfl | rfl | rfl | rfl
          · exact .s _
          · exact (free_map Stk.free _ _ _).nms
          · exact .s _
          · exact .ref _ _ (by decide)
          · exact .gs _ _ _ (by decide)
          · exact (free_map Stk.free _ _ _).nms
          · exact .s _
          · exact .s _
        refine Aw.em tab_ok mb0 [] rfl rfl ?zo ?zk
        case zo =>
          repeat' apply AllP.cons
          all_goals first | exact trivial | exact inrk _ (by omega)
        case zk =>
        refine ⟨(k + 1 + 1, cap1), ?zg, ?zm, ⟨?zc, ?zv, ?zh, Nat.le_of_ble_eq_true rfl⟩⟩
        case zg =>
          (repeat' (first | omega))
        case zm =>
          (repeat' (first | omega))
        case zc =>
          (repeat' (first | (refine And.intro ?_ ?_) | exact trivial | exact A.Le.refl _))
        case zv =>
          (repeat' (first | (refine And.intro ?_ ?_) | exact trivial | exact A.Le.refl _))
        case zh =>
          (repeat' (first | (refine And.intro ?_ ?_) | exact trivial | exact rfl))
  obtain rfl : k = l.length := by have := of_decide_eq_false h1; omega
  have hL : (lucky all by' l).length ≤ 10 := by unfold lucky; rw [List.length_take, sortS_len, shrs_len]; omega
  have hgl := getsL_len all by' l
  have hsl := shrs_len all by' l
  have hgb := getsL_bd hr h0 h1' hby0
  have hfull := fillO_full all by' l
  have hlp : 0 < l.length := by
    cases l with
    | nil => rw [← hby] at hby0; simp [wts] at hby0
    | cons a l => simp
  have hcap := hcap (by omega)
  have utm : ∀ {n : Nat}, 3 ≤ n → Under n (A.ms 2 0 l.length) := fun h => .ms _ _ _ (by omega)
  obtain ⟨m, hm⟩ : ∃ m, l.length = m + 1 := ⟨l.length - 1, by omega⟩
  have hgv : grS l.length cap = .gs 2 l.length cap := by rw [hm]; rfl
  have hgc : grC (shrs all by' l) l.length cap = [(2, cellJ (shrs all by' l) l.length cap)] := by rw [hm]; rfl
  refine Aw.keep (n := 3) (cst := [(0, .int all), (1, .sl b .any (l.map Stk.c)), (6, .ref 1 0), (7, .ms 2 0 l.length)]) (v := []) (Hl := [(0, iB (getsL all by' l)), (1, .cells [.ms 0 0 l.length]), (2, cellJ (shrs all by' l) l.length cap)]) h3e ?zu ?zw ?zx ⟨?zc, ?zv, ?zh, Nat.le_of_ble_eq_true rfl⟩ ?zr
  case zu =>
    (repeat' (first | exact trivial | exact Under.s _ | exact Under.ref _ _ (by decide) | exact Under.ms _ _ _ (by decide) | exact ul | (refine And.intro ?_ ?_)))
  case zw =>
    (repeat' (first | exact trivial))
  case zx =>
    (repeat' (first | exact trivial | exact Nat.le_of_ble_eq_true rfl | exact iB_under _ | exact one_under (.ms _ _ _ (by decide)) | exact cellJ_under _ _ _ | (refine And.intro ?_ ?_)))
  case zc =>
    (repeat' (first | (refine And.intro ?_ ?_) | exact trivial | exact A.Le.refl _ | exact (by show A.Le _ (grS l.length cap); rw [hgv]; exact A.Le.ms _ _ _)))
  case zv =>
    (repeat' (first | exact trivial))
  case zh =>
    (repeat' (first | (refine And.intro ?_ ?_) | exact trivial | exact rfl | exact congrArg (fun x => some (iB x)) hfull | exact (show ofH ((0, iB (fillO all by' l l.length)) :: (1, .cells [.ms 0 0 l.length]) :: grC (shrs all by' l) l.length cap) 2 = _ by rw [hgc]; rfl)))
  case zr =>
  have htake : ((shrs all by' l).take l.length) = shrs all by' l := List.take_of_length_le (by omega)
  refine Aw.weaken (S' := _) (H' := ofH [(0, iB (getsL all by' l)), (1, .cells [.ms 0 0 l.length]), (2, shB (shrs all by' l))]) (c' := 3) (fun _ => .refl _) (fun id bx hb => ?_) (Nat.le_refl _) ?_
  · simp only [ofH, updH_apply] at hb ⊢
    split at hb
    · rename_i e; cases hb; rw [if_pos e]; exact ⟨_, rfl, .refl _⟩
    · rename_i e; rw [if_neg e]
      split at hb
      · rename_i e; cases hb; rw [if_pos e]; exact ⟨_, rfl, .refl _⟩
      · rename_i e; rw [if_neg e]
        split at hb
        · rename_i e; cases hb; rw [if_pos e]
          exact ⟨_, rfl, by unfold cellJ; rw [htake]; exact B.Le.fronts⟩
        · cases hb
  refine Aw.seq ?_
  refine Aw.ss rfl ?_
  refine RegL.partE tab_ok mb0 false 3 0 [] ?_
  conv => arg 5; whnf
  refine PartK.mk ?zo ?zk
  case zo =>
    repeat' apply AllP.cons
    all_goals first | exact trivial | exact Nat.le_of_ble_eq_true rfl
  case zk =>
  refine Does.raw rfl (DoesR.call (fst := []) (cap := []) rfl rfl (enters_of Try.func27 rfl rfl) (sumM_fr (getsL all by' l) (by omega) (sum_g _ 10000000000 (by omega) (by decide) hgb) l.length hgl rfl) ?_)
  rintro v H' c' ⟨rfl, rfl, rfl⟩
  refine RegL.partE tab_ok mb0 false 1 4 [] ?_
  conv => arg 5; whnf
  refine PartK.mk ?zo ?zk
  case zo =>
    repeat' apply AllP.cons
    all_goals first | exact trivial | exact (show inR (leftI all by' l) by simp only [inR]; omega)
  case zk =>
  refine Does.raw rfl (DoesR.call (fst := []) (cap := []) rfl rfl (enters_of Try.func47 rfl rfl) (more0_s l.length (leftI all by' l) _) ?_)
  rintro v H' c' ⟨rfl, rfl, rfl⟩
  have h5e : ∀ id, 5 ≤ id → E.φ0 id = none := fun id _ => hE id (by omega)
  have hleft : (((leftI all by' l).toNat : Nat) : Int) = leftI all by' l := Int.toNat_of_nonneg hle.2.1
  have ufn : ∀ {n : Nat}, 5 ≤ n → Under n (A.fn (.func 60) [] [.ref 3 0, .ref 4 0]) := fun h => .fn _ _ _ allN (allC (.ref _ _ (by omega)) (all1 (.ref _ _ (by omega))))
  have usB : ∀ {n : Nat} {l : List Shr}, UnderB n (shB l) := shB_under _
  refine Aw.keep (n := 5) (cst := [(6, .ref 1 0), (55, .fn (.func 60) [] [.ref 3 0, .ref 4 0])]) (v := []) (Hl := [(0, iB (getsL all by' l)), (1, .cells [.ms 0 0 l.length]), (2, shB (shrs all by' l)), (3, .cells [.ms 2 0 l.length]), (4, .cells [.int (((leftI all by' l).toNat : Nat) : Int)])]) h5e ?zu ?zw ?zx ⟨?zc, ?zv, ?zh, Nat.le_of_ble_eq_true rfl⟩ ?zr
  case zu =>
    (repeat' (first | exact trivial | exact Under.ref _ _ (by decide) | exact ufn (Nat.le_refl _) | (refine And.intro ?_ ?_)))
  case zw =>
    (repeat' (first | exact trivial))
  case zx =>
    (repeat' (first | exact trivial | exact Nat.le_of_ble_eq_true rfl | exact iB_under _ | exact one_under (.ms _ _ _ (by decide)) | exact one_under (.s _) | exact usB | (refine And.intro ?_ ?_)))
  case zc =>
    (repeat' (first | (refine And.intro ?_ ?_) | exact trivial | exact A.Le.refl _))
  case zv =>
    (repeat' (first | exact trivial))
  case zh =>
    (repeat' (first | (refine And.intro ?_ ?_) | exact trivial | exact rfl | exact congrArg (fun x => some (B.cells [A.int x])) hleft.symm))
  case zr =>
  have hLl : ((lucky all by' l).map fun s => [A.agg s.c]).length = (lucky all by' l).length := List.length_map _
  have umem : ∀ {x : List Shr × Int} {bo : List Int} {n : Nat}, 5 ≤ n → UnderH n [(0, iB bo), (1, .cells [.ms 0 0 l.length]), (2, shB x.1), (3, .cells [.ms 2 0 l.length]), (4, .cells [.int x.2])] := fun h => ⟨⟨by omega, iB_under _⟩, ⟨by omega, one_under (.ms _ _ _ (by omega))⟩, ⟨by omega, usB⟩, ⟨by omega, one_under (.ms _ _ _ (by omega))⟩, ⟨by omega, one_under (.s _)⟩, trivial⟩
  refine Aw.block (Aw.iterX rfl (enters_of Try.func60 rfl rfl) ((lucky all by' l).map fun s : Shr => [A.agg s.c]) (fun (x : List Shr × Int) k H => H = memI (iB (outK all by' l k)) l.length x) (fun _ => 7) rfl (fun yy h => by obtain ⟨s, _, rfl⟩ := List.mem_map.1 h; rfl)
    (fun x k H h => by subst h; rfl) (fun x k H h => by subst h; exact (umem (by decide)).ofH) (ofL2_under (n := 5) ⟨.ref _ _ (by decide), ufn (Nat.le_refl _), trivial⟩) (fun _ => Nat.le_of_ble_eq_true rfl)
    (fun lpB ulp it => more_n (shrs all by' l) l.length hsl (by omega) (shrs_nm hr) (leftI all by' l).toNat (by omega) (fun k => iB (outK all by' l k)) (fun _ _ => iB_under _) lpB ulp it) ?_ ?_)
  · intro lpB ulp x k yy hk H hI E' b' hE'
    rw [List.getElem?_map] at hk
    cases hs : (lucky all by' l)[k]? with
    | none => rw [hs] at hk; cases hk
    | some s =>
    rw [hs] at hk
    cases hk
    subst hI
    obtain ⟨j, hj, hsj⟩ := lucky_place s (List.mem_of_getElem? hs)
    have hpl : s.place = (j : Int) := by rw [hsj]; rfl
    have hol := outK_len all by' l k
    have hob := outK_bd hr h0 h1' hby0 k
    have hsc := outK_succ hs
    have hbm : bump (outK all by' l k) s = (outK all by' l k).set j ((outK all by' l k).getD j 0 + 1) := by unfold bump; rw [hpl, Int.toNat_natCast]
    rw [hbm] at hsc
    have hat := iB_at (l := outK all by' l k) (k := j) (by omega)
    have hvb : 0 ≤ (outK all by' l k).getD j 0 ∧ (outK all by' l k).getD j 0 ≤ 100000000000 := by
      rw [List.getD_eq_getElem?_getD, List.getElem?_eq_getElem (by omega)]; exact hob _ (List.getElem_mem _)
    generalize outK all by' l (k + 1) = O1 at *
    generalize outK all by' l k = O at *
    generalize (O.getD j 0) = v at *
    have hscc : s.c = [.s (.string s.n), .int s.w, .int s.gets, .int s.rest, .int j] := by rw [← hpl]; rfl
    have hput : setSeg (O.map A.int) (0 + Int.toNat (j : Int) * 1) [A.int (v + 1)] = O1.map A.int := by
      rw [show 0 + Int.toNat (j : Int) * 1 = j by omega, setSeg_set (by omega), hsc]
    have hulp : UnderB 5 (lpB .busy none) := ulp .busy none
    generalize hLB : lpB .busy none = LB at *
    have ulb : UnderB 7 LB := by
      cases hulp with
      | cells cs h => exact .cells _ fun x hx => (h x hx).mono (by decide)
      | map kvs h => exact .map _ fun p hp => ⟨(h p hp).1.mono (by decide), (h p hp).2.mono (by decide)⟩
      | lp st pend S nt ps asg body h => exact .lp _ _ _ _ _ _ _ fun t => (h t).mono (by decide)
    refine Aw.em tab_ok mb0 [] rfl rfl ?zo ?zk
    case zo =>
      repeat' apply AllP.cons
      all_goals first | exact trivial | exact rfl | exact Nat.le_of_ble_eq_true rfl
    case zk =>
    refine ⟨rfl, rfl, ?_⟩
    refine Aw.freeze (id := 7) (t := 11) (cs := s.c) rfl rfl ?_
    have usc : ∀ {n : Nat}, Under n (A.pt [.s (.string s.n), .int s.w, .int s.gets, .int s.rest, .int j]) := hscc ▸ (Free.pt _ s.free).under
    refine Aw.keep (n := 7) (cst := [(6, .ref 1 0), (11, .pt [.s (.string s.n), .int s.w, .int s.gets, .int s.rest, .int j])]) (v := []) (Hl := [(5, LB), (0, iB O), (1, .cells [.ms 0 0 l.length]), (2, shB x.1), (3, .cells [.ms 2 0 l.length]), (4, .cells [.int x.2])]) hE' ?zu ?zw ?zx ⟨?zc, ?zv, ?zh, Nat.le_of_ble_eq_true rfl⟩ ?zr
    case zu =>
      (repeat' (first | exact trivial | exact Under.ref _ _ (by decide) | exact usc | (refine And.intro ?_ ?_)))
    case zw =>
      (repeat' (first | exact trivial))
    case zx =>
      (repeat' (first | exact trivial | assumption | exact Nat.le_of_ble_eq_true rfl | exact iB_under _ | exact one_under (.ms _ _ _ (by decide)) | exact one_under (.s _) | exact usB | (refine And.intro ?_ ?_)))
    case zc =>
      (repeat' (first | (refine And.intro ?_ ?_) | exact trivial | exact A.Le.refl _ | exact .of_eq (congrArg A.pt hscc.symm)))
    case zv =>
      (repeat' (first | exact trivial))
    case zh =>
      (repeat' (first | (refine And.intro ?_ ?_) | exact trivial | exact rfl))
    case zr =>
    refine Aw.block ?_
    refine Aw.em tab_ok mb0 [(4, [.int v])] rfl rfl ?zo ?zk
    case zo =>
      repeat' apply AllP.cons
      all_goals first | exact trivial | exact rfl | exact Nat.le_of_ble_eq_true rfl | exact Int.natCast_nonneg _ | exact hat | exact (show (j : Int) < (l.length : Int) by omega) | exact (show 0 + Int.toNat (j : Int) * 1 < (O.map A.int).length by rw [List.length_map]; omega) | exact (show inR (v + 1) by simp only [inR]; omega)
    case zk =>
    have hput' := congrArg (fun x => some (B.cells x)) hput
    exact ⟨⟨.busy, none, congrArg some hLB.symm⟩, rfl, _, rfl, HasH.ofH (l := [(0, iB O1), (1, .cells [.ms 0 0 l.length]), (2, shB x.1), (3, .cells [.ms 2 0 l.length]), (4, .cells [.int x.2])]) ⟨hput', rfl, rfl, rfl, rfl, trivial⟩⟩
  · rintro x H c' hc ⟨_, rfl, hs⟩
    have hc2 : 2 ≤ c' := Nat.le_trans (by decide) hc
    have hK : outK all by' l ((lucky all by' l).map fun s : Shr => [A.agg s.c]).length = divB all by' l := by
      rw [List.length_map]; unfold outK; rw [List.take_length]; rfl
    rw [hK] at hs
    have hdl := divB_len all by' l
    have h2e : ∀ id, 2 ≤ id → E.φ0 id = none := fun id _ => hE id (by omega)
    refine Aw.keep (n := 2) (cst := [(6, .ref 1 0)]) (v := []) (Hl := [(0, iB (divB all by' l)), (1, .cells [.ms 0 0 l.length])]) h2e ?zu ?zw ?zx ⟨?zc, ?zv, ?zh, hc2⟩ ?zr
    case zu =>
      (repeat' (first | exact trivial | exact Under.ref _ _ (by decide) | (refine And.intro ?_ ?_)))
    case zw =>
      (repeat' (first | exact trivial))
    case zx =>
      (repeat' (first | exact trivial | exact Nat.le_of_ble_eq_true rfl | exact iB_under _ | exact one_under (.ms _ _ _ (by decide)) | (refine And.intro ?_ ?_)))
    case zc =>
      (repeat' (first | (refine And.intro ?_ ?_) | exact trivial | exact A.Le.refl _))
    case zv =>
      (repeat' (first | exact trivial))
    case zh =>
      (repeat' (first | (refine And.intro ?_ ?_) | exact trivial | exact hs 0 _ rfl | exact hs 1 _ rfl))
    case zr =>
    generalize divB all by' l = D at *
    refine Aw.sm tab_ok mb0 [] rfl rfl ?zo ?zk
    case zo =>
      repeat' apply AllP.cons
      all_goals first | exact trivial | exact Nat.le_of_ble_eq_true rfl
    case zk =>
    refine Aw.freezeS (id := 0) (t := 4) (n := l.length) (sz := 1) (cs := D.map A.int) (ints D) rfl rfl (rowsI D) (by rw [ints_len]; exact hdl) ?_
    exact Aw.ret ⟨_, .cons (.tmp _) .nil, rfl⟩
end Go.Proofs.Ytkfepnbanekfgaa

namespace Go.Proofs.Ytkfepnbanekfgaa
open Go Go.AL Go.AL.Q Go.AL.Sh
def sharesA (all : Int) (l : List Stk) : A :=
  cond (wi all 0 10000000) (cond (cond (areB l) (decide (0 < (wts l).sum)) false) (.tup [.sl false .exact (ints (divF all l)), .int 0]) (.tup [.sl true .exact [], .int 32])) (.tup [.sl true .exact [], .int 7])
theorem sharesA_free (all : Int) (l : List Stk) : Free (sharesA all l) := by
  have hn : Free (.sl true .exact []) := .sl _ _ _ (fun _ h => by cases h)
  unfold sharesA
  cases wi all 0 10000000
  · exact .tup _ (allC hn (all1 (.s _)))
  · cases cond (areB l) (decide (0 < (wts l).sum)) false
    · exact .tup _ (allC hn (all1 (.s _)))
    · exact .tup _ (allC (free_ints _ _ _) (all1 (.s _)))
theorem Divide_t (b : Bool) (l : List Stk) (hl : (l.length : Int) ≤ 9223372036854775806) (all : Int) : Ans Try.prog 7 [.int all, .sl b .any (l.map Stk.c)] (sharesA all l) := by
  have hfr := sharesA_free all l
  have hare := are_s b l hl
  refine told Try.func7 rfl rfl (Pure.of tab_ok Try.func7 rfl Try.ntmps7 rfl (allC (.s _) (all1 (free_map Stk.free _ _ _))) (allC (fun _ => rfl) (all1 fun _ => rfl)) hfr fun E hE => ?_)
  refine Aw.sm tab_ok mb0 [] rfl rfl ?zo ?zk
  case zo =>
    repeat' apply AllP.cons
    all_goals first | exact trivial
  case zk =>
  refine Aw.seq ?_
  refine Aw.sm tab_ok mb0 [(1, [.bool (wi all 0 10000000)])] rfl rfl ?zo ?zk
  case zo =>
    repeat' apply AllP.cons
    all_goals first | exact trivial | exact withinS_t _ _ _
  case zk =>
  refine Aw.cond rfl (fun h => ?_) (fun h => Aw.skip ?_)
  · have h : (!wi all 0 10000000) = true := h
    have h : wi all 0 10000000 = false := by simpa using h
    unfold sharesA
    rw [h]
    refine Aw.sm tab_ok mb0 [] rfl rfl ?zo ?zk
    case zo =>
      repeat' apply AllP.cons
      all_goals first | exact trivial
    case zk =>
    exact Aw.ret ⟨_, .cons (.tmp _) (.cons (.tmp _) .nil), rfl⟩
  have h : (!wi all 0 10000000) = false := h
  have h : wi all 0 10000000 = true := by simpa using h
  have hall := wi_iff.1 h
  refine Aw.seq ?_
  unfold sharesA
  rw [h]
  cases ha : areB l with
  | false =>
    rw [ha] at hare
    refine Aw.st tab_ok mb0 [(1, [.bool false])] rfl rfl ?zo ?zk
    case zo =>
      repeat' apply AllP.cons
      all_goals first | exact trivial | exact hare
    case zk =>
    refine Aw.cond rfl (fun _ => ?_) (fun h => by cases h)
    refine Aw.sm tab_ok mb0 [] rfl rfl ?zo ?zk
    case zo =>
      repeat' apply AllP.cons
      all_goals first | exact trivial
    case zk =>
    exact Aw.ret ⟨_, .cons (.tmp _) (.cons (.tmp _) .nil), rfl⟩
  | true =>
    rw [ha] at hare
    have hr := are_rights ha
    have hwt := wts_t b l hr.n
    have hwl : (wts l).length ≤ 10 := by simpa [wts] using hr.n
    have hsum := sumS_out (wts l) (sum_g (wts l) 1000 (by omega) (by decide) fun x hx => by
      obtain ⟨s, hs, rfl⟩ := List.mem_map.1 hx
      exact hr.w s hs) (by omega)
    have hd := divide_t b l hr all hall.1 hall.2
    generalize divF all l = D at *
    generalize wts l = W at *
    cases W with
    | nil =>
      refine Aw.st tab_ok mb0 [(1, [.bool true]), (5, [.sl true .exact []]), (6, [.int 0])] rfl rfl ?zo ?zk
      case zo =>
        repeat' apply AllP.cons
        all_goals first | exact trivial | exact fun _ => rfl | exact hare | exact hwt | exact hsum
      case zk =>
      refine Aw.cond rfl (fun _ => ?_) (fun h => by cases h)
      refine Aw.sm tab_ok mb0 [] rfl rfl ?zo ?zk
      case zo =>
        repeat' apply AllP.cons
        all_goals first | exact trivial
      case zk =>
      exact Aw.ret ⟨_, .cons (.tmp _) (.cons (.tmp _) .nil), rfl⟩
    | cons x t =>
      generalize hS : (x :: t).sum = s at *
      refine Aw.st tab_ok mb0 [(1, [.bool true]), (5, [.sl false .any (ints (x :: t))]), (6, [.int s])] rfl rfl ?zo ?zk
      case zo =>
        repeat' apply AllP.cons
        all_goals first | exact trivial | exact fun _ => rfl | exact hare | exact hwt | exact hsum
      case zk =>
      refine Aw.cond rfl (fun h => ?_) (fun h => Aw.skip ?_)
      · have h : s ≤ 0 := of_decide_eq_true h
        rw [decide_eq_false (show ¬ 0 < s by omega)]
        refine Aw.sm tab_ok mb0 [] rfl rfl ?zo ?zk
        case zo =>
          repeat' apply AllP.cons
          all_goals first | exact trivial
        case zk =>
        exact Aw.ret ⟨_, .cons (.tmp _) (.cons (.tmp _) .nil), rfl⟩
      · have h : ¬ s ≤ 0 := of_decide_eq_false h
        have hd := hd (by omega)
        rw [decide_eq_true (show 0 < s by omega)]
        have hz := ints_one D
        refine Aw.sm tab_ok mb0 [(2, [.sl false .any (ints D)])] rfl rfl ?zo ?zk
        case zo =>
          repeat' apply AllP.cons
          all_goals first | exact trivial | exact hd
        case zk =>
        refine Aw.sm tab_ok mb0 [] rfl rfl ?zo ?zk
        case zo =>
          repeat' apply AllP.cons
          all_goals first | exact trivial | exact rfl | exact Int.natCast_nonneg _ | exact Int.le_refl _
        case zk =>
        exact Aw.ret ⟨_, .cons (.tmp _) (.cons (.tmp _) .nil), congrArg (fun x => A.tup [A.sl false .exact x, .int 0]) (show (ints D).take (Int.toNat ((ints D).length : Int)) = ints D by rw [Int.toNat_natCast, List.take_length])⟩
end Go.Proofs.Ytkfepnbanekfgaa

