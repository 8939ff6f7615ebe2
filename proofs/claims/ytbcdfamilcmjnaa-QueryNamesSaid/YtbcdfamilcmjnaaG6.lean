/- Parts of the proof: U44j, H44b, H44c, K44b, C30, C30b, V38b, V44, C44, C44b, V38c, V39, V39b, C38, C38b, C38c. -/
import Derived.Test.YtbcdfamilcmjnaaG2
import Derived.Test.YtbcdfamilcmjnaaG5
import Derived.Test.YtbcdfamilcmjnaaRows
import Derived.Test.YtbcdfamilcmjnaaG3
import Derived.Test.YtbcdfamilcmjnaaG4
import Derived.Shelf.Strings.Builder1
set_option linter.all false
/- Parts of the proof. -/
namespace Go.AM
open Go
set_option linter.unusedVariables false
set_option linter.unusedSimpArgs false
set_option maxRecDepth 4000
attribute [local irreducible] WO fillCells fillRows
def r241_0:List AI:=[oC 0 (.b false)]
def r241_1:List AI:=[oO 14 (.build [.i .u8 0,.i .i64 0,.i .i64 0,.i .i64 0,.s []] [(0,1,(.c (.i .u8 1)))]),
 oO 15 (.call false 249 [(.t 14),(.c (.s [103,111,114,111,117,116,105,110,101,115]))]),
 oM 16 15,
 oG 17 (.build [.i .u8 0,.i .i64 0,.i .i64 0,.i .i64 0,.s []] [(0,1,(.c (.i .u8 2))),(1,1,(.c (.i .i64 15)))]) 16 true,
 oG 18 (.call false 249 [(.t 17),(.c (.s [102,114,97,109,101,115,32,49,53]))]) 16 true,
 oO 19 (.pick (.t 16) (.t 18) (.c (.b false))),
 oM 20 19,
 oG 21 (.build [.i .u8 0,.i .i64 0,.i .i64 0,.i .i64 0,.s []] [(0,1,(.c (.i .u8 3))),(1,1,(.c (.i .i64 2))),(2,1,(.c (.i .i64 169)))]) 20 true,
 oG 22 (.call false 249 [(.t 21),(.c (.s [108,111,99,97,108,115,32,50,32,49,54,57]))]) 20 true,
 oO 23 (.pick (.t 20) (.t 22) (.c (.b false))),
 oM 24 23,
 oG 25 (.build [.i .u8 0,.i .i64 0,.i .i64 0,.i .i64 0,.s []] [(0,1,(.c (.i .u8 4)))]) 24 true,
 oG 26 (.call false 249 [(.t 25),(.c (.s [100,101,102,101,114,115,32,48]))]) 24 true,
 oO 27 (.pick (.t 24) (.t 26) (.c (.b false))),
 oM 28 27,
 oG 29 (.build [.i .u8 0,.i .i64 0,.i .i64 0,.i .i64 0,.s []] [(0,1,(.c (.i .u8 5))),(1,1,(.c (.i .i64 1)))]) 28 true,
 oG 30 (.call false 249 [(.t 29),(.c (.s [112,97,110,105,99,115,32,49]))]) 28 true,
 oO 31 (.pick (.t 28) (.t 30) (.c (.b false))),
 oM 32 31,
 oG 33 (.build [.i .u8 0,.i .i64 0,.i .i64 0,.i .i64 0,.s []] [(0,1,(.c (.i .u8 6))),(3,1,(.c (.i .i64 (-9223372036854775808))))]) 32 true,
 oG 34 (.call false 249 [(.t 33),(.c (.s [119,97,105,116,115,32,45,57,50,50,51,51,55,50,48,51,54,56,53,52,55,55,53,56,48,56]))]) 32 true,
 oO 35 (.pick (.t 32) (.t 34) (.c (.b false))),
 oM 36 35,
 oG 37 (.build [.i .u8 0,.i .i64 0,.i .i64 0,.i .i64 0,.s []] [(0,1,(.c (.i .u8 7)))]) 36 true,
 oG 38 (.call false 249 [(.t 37),(.c (.s [105,110,32,34,34]))]) 36 true,
 oO 39 (.pick (.t 36) (.t 38) (.c (.b false))),
 oM 40 39,
 oG 41 (.build [.i .u8 0,.i .i64 0,.i .i64 0,.i .i64 0,.s []] [(0,1,(.c (.i .u8 8))),(4,1,(.c (.s [97,32,34,98,34])))]) 40 true,
 oG 42 (.call false 249 [(.t 41),(.c (.s [115,108,111,116,32,34,97,32,92,34,98,92,34,34]))]) 40 true,
 oO 43 (.pick (.t 40) (.t 42) (.c (.b false))),
 oM 1 43]
def r241_2:List AI:=[oO 44 (.build [.i .u8 0,.i .i64 0,.i .i64 0,.i .i64 0,.s []] []),
 oO 45 (.call false 250 [(.t 44)]),
 oM 46 45,
 oG 47 (.build [.i .u8 0,.i .i64 0,.i .i64 0,.i .i64 0,.s []] [(0,1,(.c (.i .u8 9)))]) 46 true,
 oG 48 (.call false 250 [(.t 47)]) 46 true,
 oO 49 (.pick (.t 46) (.t 48) (.c (.b false))),
 oM 50 49,
 oG 51 (.build [.i .u8 0,.i .i64 0,.i .i64 0,.i .i64 0,.s []] [(0,1,(.c (.i .u8 1))),(1,1,(.c (.i .i64 1)))]) 50 true,
 oG 52 (.call false 250 [(.t 51)]) 50 true,
 oO 53 (.pick (.t 50) (.t 52) (.c (.b false))),
 oM 54 53,
 oG 55 (.build [.i .u8 0,.i .i64 0,.i .i64 0,.i .i64 0,.s []] [(0,1,(.c (.i .u8 2))),(1,1,(.c (.i .i64 16)))]) 54 true,
 oG 56 (.call false 250 [(.t 55)]) 54 true,
 oO 57 (.pick (.t 54) (.t 56) (.c (.b false))),
 oM 58 57,
 oG 59 (.build [.i .u8 0,.i .i64 0,.i .i64 0,.i .i64 0,.s []] [(0,1,(.c (.i .u8 2))),(1,1,(.c (.i .i64 (-1))))]) 58 true,
 oG 60 (.call false 250 [(.t 59)]) 58 true,
 oO 61 (.pick (.t 58) (.t 60) (.c (.b false))),
 oM 62 61,
 oG 63 (.build [.i .u8 0,.i .i64 0,.i .i64 0,.i .i64 0,.s []] [(0,1,(.c (.i .u8 2))),(2,1,(.c (.i .i64 1)))]) 62 true,
 oG 64 (.call false 250 [(.t 63)]) 62 true,
 oO 65 (.pick (.t 62) (.t 64) (.c (.b false))),
 oM 66 65,
 oG 67 (.build [.i .u8 0,.i .i64 0,.i .i64 0,.i .i64 0,.s []] [(0,1,(.c (.i .u8 3))),(2,1,(.c (.i .i64 170)))]) 66 true,
 oG 68 (.call false 250 [(.t 67)]) 66 true,
 oO 69 (.pick (.t 66) (.t 68) (.c (.b false))),
 oM 70 69,
 oG 71 (.build [.i .u8 0,.i .i64 0,.i .i64 0,.i .i64 0,.s []] [(0,1,(.c (.i .u8 3))),(2,1,(.c (.i .i64 (-1))))]) 70 true,
 oG 72 (.call false 250 [(.t 71)]) 70 true,
 oO 73 (.pick (.t 70) (.t 72) (.c (.b false))),
 oM 74 73,
 oG 75 (.build [.i .u8 0,.i .i64 0,.i .i64 0,.i .i64 0,.s []] [(0,1,(.c (.i .u8 6))),(4,1,(.c (.s [97])))]) 74 true,
 oG 76 (.call false 250 [(.t 75)]) 74 true,
 oO 77 (.pick (.t 74) (.t 76) (.c (.b false))),
 oM 78 77,
 oG 79 (.build [.i .u8 0,.i .i64 0,.i .i64 0,.i .i64 0,.s []] [(0,1,(.c (.i .u8 6))),(1,1,(.c (.i .i64 1)))]) 78 true,
 oG 80 (.call false 250 [(.t 79)]) 78 true,
 oO 81 (.pick (.t 78) (.t 80) (.c (.b false))),
 oM 82 81,
 oG 83 (.build [.i .u8 0,.i .i64 0,.i .i64 0,.i .i64 0,.s []] [(0,1,(.c (.i .u8 7))),(3,1,(.c (.i .i64 1)))]) 82 true,
 oG 84 (.call false 250 [(.t 83)]) 82 true,
 oO 85 (.pick (.t 82) (.t 84) (.c (.b false))),
 oM 86 85,
 oG 87 (.build [.i .u8 0,.i .i64 0,.i .i64 0,.i .i64 0,.s []] [(0,1,(.c (.i .u8 8))),(4,1,(.c (.s [115,101,118,101,110,116,101,101,110,32,108,101,116,116,101,114,115])))]) 86 true,
 oG 88 (.call false 250 [(.t 87)]) 86 true,
 oO 89 (.pick (.t 86) (.t 88) (.c (.b false))),
 oM 2 89]
def r241_3:List AI:=[oO 90 (.call false 251 [(.c (.s [])),(.c (.i .i64 12))]),
 oM 91 90,
 oG 92 (.call false 251 [(.c (.s [103,111,114,111,117,116,105,110,101,115,32])),(.c (.i .i64 12))]) 91 true,
 oO 93 (.pick (.t 91) (.t 92) (.c (.b false))),
 oM 94 93,
 oG 95 (.call false 251 [(.c (.s [71,111,114,111,117,116,105,110,101,115])),(.c (.i .i64 12))]) 94 true,
 oO 96 (.pick (.t 94) (.t 95) (.c (.b false))),
 oM 97 96,
 oG 98 (.call false 251 [(.c (.s [102,114,97,109,101,115])),(.c (.i .i64 12))]) 97 true,
 oO 99 (.pick (.t 97) (.t 98) (.c (.b false))),
 oM 100 99,
 oG 101 (.call false 251 [(.c (.s [102,114,97,109,101,115,32])),(.c (.i .i64 12))]) 100 true,
 oO 102 (.pick (.t 100) (.t 101) (.c (.b false))),
 oM 103 102,
 oG 104 (.call false 251 [(.c (.s [102,114,97,109,101,115,32,49,54])),(.c (.i .i64 12))]) 103 true,
 oO 105 (.pick (.t 103) (.t 104) (.c (.b false))),
 oM 106 105,
 oG 107 (.call false 251 [(.c (.s [102,114,97,109,101,115,32,45,49])),(.c (.i .i64 12))]) 106 true,
 oO 108 (.pick (.t 106) (.t 107) (.c (.b false))),
 oM 109 108,
 oG 110 (.call false 251 [(.c (.s [102,114,97,109,101,115,32,48,32,48])),(.c (.i .i64 12))]) 109 true,
 oO 111 (.pick (.t 109) (.t 110) (.c (.b false))),
 oM 112 111,
 oG 113 (.call false 251 [(.c (.s [102,114,97,109,101,115,32,32,48])),(.c (.i .i64 12))]) 112 true,
 oO 114 (.pick (.t 112) (.t 113) (.c (.b false))),
 oM 115 114,
 oG 116 (.call false 251 [(.c (.s [108,111,99,97,108,115,32,48])),(.c (.i .i64 12))]) 115 true,
 oO 117 (.pick (.t 115) (.t 116) (.c (.b false))),
 oM 118 117,
 oG 119 (.call false 251 [(.c (.s [108,111,99,97,108,115,32,48,32,49,55,48])),(.c (.i .i64 12))]) 118 true,
 oO 120 (.pick (.t 118) (.t 119) (.c (.b false))),
 oM 121 120,
 oG 122 (.call false 251 [(.c (.s [108,111,99,97,108,115,32,48,32,48,32,48])),(.c (.i .i64 12))]) 121 true,
 oO 123 (.pick (.t 121) (.t 122) (.c (.b false))),
 oM 124 123,
 oG 125 (.call false 251 [(.c (.s [119,97,105,116,115])),(.c (.i .i64 12))]) 124 true,
 oO 126 (.pick (.t 124) (.t 125) (.c (.b false))),
 oM 127 126,
 oG 128 (.call false 251 [(.c (.s [119,97,105,116,115,32,43,49])),(.c (.i .i64 12))]) 127 true,
 oO 129 (.pick (.t 127) (.t 128) (.c (.b false))),
 oM 130 129,
 oG 131 (.call false 251 [(.c (.s [105,110,32,109,97,105,110])),(.c (.i .i64 12))]) 130 true,
 oO 132 (.pick (.t 130) (.t 131) (.c (.b false))),
 oM 133 132,
 oG 134 (.call false 251 [(.c (.s [105,110,32,34,115,101,118,101,110,116,101,101,110,32,108,101,116,116,101,114,115,34])),(.c (.i .i64 12))]) 133 true,
 oO 135 (.pick (.t 133) (.t 134) (.c (.b false))),
 oM 136 135,
 oG 137 (.call false 251 [(.c (.s [105,110,32,34,97,34,32])),(.c (.i .i64 12))]) 136 true,
 oO 138 (.pick (.t 136) (.t 137) (.c (.b false))),
 oM 139 138,
 oG 140 (.call false 251 [(.c (.s [119,104,111])),(.c (.i .i64 12))]) 139 true,
 oO 141 (.pick (.t 139) (.t 140) (.c (.b false))),
 oM 142 141,
 oG 143 (.call false 251 [(.c (.s [32,102,114,97,109,101,115,32,48])),(.c (.i .i64 12))]) 142 true,
 oO 144 (.pick (.t 142) (.t 143) (.c (.b false))),
 oM 3 144]
def r241_4:List AI:=[oO 145 (.call false 251 [(.c (.s [102,114,97,109,101,115,32,49,53])),(.c (.i .i64 6))]),
 oM 146 145,
 oG 147 (.call false 251 [(.c (.s [108,111,99,97,108,115,32,49,32,48])),(.c (.i .i64 6))]) 146 true,
 oO 148 (.pick (.t 146) (.t 147) (.c (.b false))),
 oM 149 148,
 oG 150 (.call false 251 [(.c (.s [108,111,99,97,108,115,32,48,32,50])),(.c (.i .i64 6))]) 149 true,
 oO 151 (.pick (.t 149) (.t 150) (.c (.b false))),
 oM 152 151,
 oG 153 (.call false 251 [(.c (.s [100,101,102,101,114,115,32,49])),(.c (.i .i64 6))]) 152 true,
 oO 154 (.pick (.t 152) (.t 153) (.c (.b false))),
 oM 155 154,
 oG 156 (.call false 251 [(.c (.s [112,97,110,105,99,115,32,49])),(.c (.i .i64 6))]) 155 true,
 oO 157 (.pick (.t 155) (.t 156) (.c (.b false))),
 oM 4 157]
def r241_5:List AI:=[oO 158 (.call true 252 []),
 oO 5 (.alloc [.i .u8 0,.i .i64 0,.i .i64 0,.sl .full []]),
 oS 4 5 158]
def r241_6:List AI:=[oO 159 (.build [.i .u8 0,.i .i64 0,.s [],.sl .full [],.b false] [(0,1,(.c (.i .u8 1))),(1,1,(.c (.i .i64 1)))]),
 oO 6 (.alloc [.i .u8 0,.i .i64 0,.s [],.sl .full [],.b false]),
 oS 5 6 159]
def r241_7:List AI:=[oF 160 3 5,
 oL 161 160,
 oO 162 (.build [.i .u8 0,.i .i64 0,.sl .full [],.sl .full [],.sl .full []] [(0,1,(.c (.i .u8 3)))]),
 oO 163 (.load 5 true (.t 6)),
 oO 164 (.build [.i .i64 0,.i .u8 0,.i .i64 0,.s [],.sl .full [],.b false] [(0,1,(.c (.i .i64 0))),(1,5,(.t 163))]),
 oO 165 (.load 5 true (.t 6)),
 oO 166 (.build [.i .i64 0,.i .u8 0,.i .i64 0,.s [],.sl .full [],.b false] [(0,1,(.c (.i .i64 1))),(1,5,(.t 165))]),
 oO 167 (.bslice [.i .i64 0,.i .u8 0,.i .i64 0,.s [],.sl .full [],.b false] 2 [(0,(.t 164)),(1,(.t 166))]),
 oO 168 (.build [.i .i64 0,.i .i64 0,.i .u64 0,.sl .full []] [(0,1,(.c (.i .i64 1))),(2,1,(.c (.i .u64 1))),(3,1,(.t 167))]),
 oO 169 (.build [.i .i64 0,.i .i64 0,.i .u64 0,.sl .full []] [(0,1,(.c (.i .i64 1))),(1,1,(.c (.i .i64 5)))]),
 oO 170 (.build [.i .i64 0,.i .i64 0,.i .u64 0,.sl .full []] [(1,1,(.c (.i .i64 1)))]),
 oO 171 (.bslice [.i .i64 0,.i .i64 0,.i .u64 0,.sl .full []] 3 [(0,(.t 168)),(1,(.t 169)),(2,(.t 170))]),
 oO 172 (.build [.i .i64 0,.i .i64 0,.b false,.i .u8 0,.i .i64 0,.s [],.sl .full [],.b false] [(0,1,(.c (.i .i64 2))),(1,1,(.c (.i .i64 1)))]),
 oO 173 (.load 5 true (.t 6)),
 oO 174 (.build [.i .i64 0,.i .i64 0,.b false,.i .u8 0,.i .i64 0,.s [],.sl .full [],.b false] [(2,1,(.c (.b true))),(3,5,(.t 173))]),
 oO 175 (.bslice [.i .i64 0,.i .i64 0,.b false,.i .u8 0,.i .i64 0,.s [],.sl .full [],.b false] 2 [(0,(.t 172)),(1,(.t 174))]),
 oO 176 (.build [.i .u64 0,.i .u8 0,.i .i64 0,.s [],.sl .full [],.b false,.i .u64 0] [(6,1,(.c (.i .u64 2)))]),
 oO 177 (.bslice [.i .u64 0,.i .u8 0,.i .i64 0,.s [],.sl .full [],.b false,.i .u64 0] 1 [(0,(.t 176))]),
 oO 178 (.build [.i .u8 0,.i .i64 0,.sl .full [],.sl .full [],.sl .full []] [(0,1,(.c (.i .u8 1))),(2,1,(.t 171)),(3,1,(.t 175)),(4,1,(.t 177))]),
 oF 179 3 5,
 oL 180 179,
 oO 181 (.iaL 5 (.t 180) (.c (.i .i64 0))),
 oO 182 (.load 5 true (.t 181)),
 oO 183 (.bslice [.i .u8 0,.i .i64 0,.sl .full [],.sl .full [],.sl .full []] 3 [(0,(.t 162)),(1,(.t 178)),(2,(.t 182))]),
 oO 184 (.app 5 88 (.t 161) (.t 183)),
 oF 185 3 5,
 oS 1 185 184]
def r241_8:List AI:=[oO 186 (.load 4 true (.t 5)),
 oO 187 (.bslice [.s []] 4 [(0,(.c (.s [103,111,114,111,117,116,105,110,101,32,48,58,32,98,108,111,99,107,101,100,32,55]))),(1,(.c (.s [103,111,114,111,117,116,105,110,101,32,49,58,32,100,111,110,101]))),(2,(.c (.s [103,111,114,111,117,116,105,110,101,32,50,58,32,114,101,97,100,121]))),(3,(.c (.s [103,111,114,111,117,116,105,110,101,32,51,58,32,98,108,111,99,107,101,100,32,55])))]),
 oO 188 (.call false 253 [(.t 186),(.c (.s [103,111,114,111,117,116,105,110,101,115])),(.t 187)]),
 oM 189 188,
 oG 190 (.load 4 true (.t 5)) 189 true,
 oG 191 (.bslice [.s []] 2 [(0,(.c (.s [103,111,114,111,117,116,105,110,101,32,48]))),(1,(.c (.s [103,111,114,111,117,116,105,110,101,32,51])))]) 189 true,
 oG 192 (.call false 253 [(.t 190),(.c (.s [119,97,105,116,115,32,55])),(.t 191)]) 189 true,
 oO 193 (.pick (.t 189) (.t 192) (.c (.b false))),
 oM 194 193,
 oG 195 (.load 4 true (.t 5)) 194 true,
 oG 196 (.call false 253 [(.t 195),(.c (.s [119,97,105,116,115,32,48])),(.c (.sl .full []))]) 194 true,
 oO 197 (.pick (.t 194) (.t 196) (.c (.b false))),
 oM 198 197,
 oG 199 (.load 4 true (.t 5)) 198 true,
 oG 200 (.bslice [.s []] 4 [(0,(.c (.s [48,32,48,32,97,116,32,50]))),(1,(.c (.s [50,32,48,32,97,116,32,48]))),(2,(.c (.s [50,32,49,32,97,116,32,53]))),(3,(.c (.s [51,32,48,32,97,116,32,50])))]) 198 true,
 oG 201 (.call false 253 [(.t 199),(.c (.s [105,110,32,34,102,34])),(.t 200)]) 198 true,
 oO 202 (.pick (.t 198) (.t 201) (.c (.b false))),
 oM 203 202,
 oG 204 (.load 4 true (.t 5)) 203 true,
 oG 205 (.call false 253 [(.t 204),(.c (.s [105,110,32,34,103,34])),(.c (.sl .full []))]) 203 true,
 oO 206 (.pick (.t 203) (.t 205) (.c (.b false))),
 oM 207 206,
 oG 208 (.load 4 true (.t 5)) 207 true,
 oG 209 (.bslice [.s []] 3 [(0,(.c (.s [48,32,48,32,48,32,61,32,53]))),(1,(.c (.s [50,32,48,32,48,32,61,32,116,114,117,101]))),(2,(.c (.s [51,32,48,32,48,32,61,32,53])))]) 207 true,
 oG 210 (.call false 253 [(.t 208),(.c (.s [115,108,111,116,32,34,120,34])),(.t 209)]) 207 true,
 oO 211 (.pick (.t 207) (.t 210) (.c (.b false))),
 oM 212 211,
 oG 213 (.load 4 true (.t 5)) 212 true,
 oG 214 (.bslice [.s []] 1 [(0,(.c (.s [50,32,48,32,49,32,61,32,116,114,117,101])))]) 212 true,
 oG 215 (.call false 253 [(.t 213),(.c (.s [115,108,111,116,32,34,121,34])),(.t 214)]) 212 true,
 oO 216 (.pick (.t 212) (.t 215) (.c (.b false))),
 oM 217 216,
 oG 218 (.load 4 true (.t 5)) 217 true,
 oG 219 (.bslice [.s []] 2 [(0,(.c (.s [32,32,48,32,34,120,34,32,61,32,116,114,117,101]))),(1,(.c (.s [32,32,49,32,34,121,34,32,61,32,116,114,117,101])))]) 217 true,
 oG 220 (.call false 253 [(.t 218),(.c (.s [108,111,99,97,108,115,32,50,32,48])),(.t 219)]) 217 true,
 oO 221 (.pick (.t 217) (.t 220) (.c (.b false))),
 oM 222 221,
 oG 223 (.load 4 true (.t 5)) 222 true,
 oG 224 (.bslice [.s []] 2 [(0,(.c (.s [100,101,102,101,114,32,50,32,49,32,34,102,34]))),(1,(.c (.s [100,101,102,101,114,32,48,32,48,32,34,109,97,105,110,34,32,119,105,116,104,32,116,114,117,101])))]) 222 true,
 oG 225 (.call false 253 [(.t 223),(.c (.s [100,101,102,101,114,115,32,50])),(.t 224)]) 222 true,
 oO 226 (.pick (.t 222) (.t 225) (.c (.b false))),
 oM 227 226,
 oG 228 (.load 4 true (.t 5)) 227 true,
 oG 229 (.bslice [.s []] 1 [(0,(.c (.s [101,120,105,116])))]) 227 true,
 oG 230 (.call false 253 [(.t 228),(.c (.s [112,97,110,105,99,115,32,50])),(.t 229)]) 227 true,
 oO 231 (.pick (.t 227) (.t 230) (.c (.b false))),
 oM 232 231,
 oG 233 (.load 4 true (.t 5)) 232 true,
 oG 234 (.call false 253 [(.t 233),(.c (.s [102,114,97,109,101,115,32,49])),(.c (.sl .full []))]) 232 true,
 oO 235 (.pick (.t 232) (.t 234) (.c (.b false))),
 oM 7 235]
def r241_9:List AI:=[oO 237 (.mks [.i .u8 0] 1 (.c (.i .i64 2001)) (.c (.i .i64 2001))),
 oO 238 (.b2s (.t 237)),
 oO 239 (.call false 245 [(.t 238)]),
 oM 236 239,
 oE 240 0 236,
 oE 241 1 236,
 oO 8 (.alloc [.i .u8 0,.i .i64 0,.i .i64 0,.i .i64 0,.s []]),
 oS 5 8 240,
 oM 9 241]
def r241_10:List AI:=[oO 243 (.call false 255 []),
 oO 244 (.build [.i .u8 0,.i .i64 0,.i .i64 0,.sl .full []] []),
 oO 245 (.call false 254 [(.t 243),(.t 244),(.c (.s [103,111,114,111,117,116,105,110,101,115]))]),
 oM 242 245,
 oE 246 0 242,
 oE 247 1 242,
 oM 10 246,
 oM 11 247]
def r241_11:List AI:=[oO 249 (.call false 255 []),
 oO 250 (.build [.i .u8 0,.i .i64 0,.i .i64 0,.sl .full []] []),
 oO 251 (.call false 254 [(.t 249),(.t 250),(.c (.s [110,111,110,101]))]),
 oM 248 251,
 oE 252 0 248,
 oE 253 1 248,
 oM 12 252,
 oM 13 253]
def r241_12:List AI:=[oC 254 (.b true),
 oG 255 (.mv (.t 1)) 254 true,
 oO 256 (.pick (.t 254) (.t 255) (.c (.b false))),
 oM 257 256,
 oG 258 (.mv (.t 2)) 257 true,
 oO 259 (.pick (.t 257) (.t 258) (.c (.b false))),
 oM 260 259,
 oG 261 (.mv (.t 3)) 260 true,
 oO 262 (.pick (.t 260) (.t 261) (.c (.b false))),
 oM 263 262,
 oG 264 (.mv (.t 4)) 263 true,
 oO 265 (.pick (.t 263) (.t 264) (.c (.b false))),
 oM 266 265,
 oG 267 (.mv (.t 7)) 266 true,
 oO 268 (.pick (.t 266) (.t 267) (.c (.b false))),
 oM 269 268,
 oG 270 (.mv (.t 9)) 269 true,
 oG 271 (.bin .eql (.t 270) (.c (.i .i64 4))) 269 true,
 oO 272 (.pick (.t 269) (.t 271) (.c (.b false))),
 oM 273 272,
 oG 274 (.mv (.t 11)) 273 true,
 oG 275 (.bin .eql (.t 274) (.c (.i .i64 8))) 273 true,
 oO 276 (.pick (.t 273) (.t 275) (.c (.b false))),
 oM 277 276,
 oG 278 (.mv (.t 13)) 277 true,
 oG 279 (.bin .eql (.t 278) (.c (.i .i64 12))) 277 true,
 oO 280 (.pick (.t 277) (.t 279) (.c (.b false))),
 oM 281 280,
 oG 282 (.call false 256 []) 281 true,
 oO 283 (.pick (.t 281) (.t 282) (.c (.b false))),
 oM 0 283]
abbrev c241_0:AC:=(.seq (.reg 9 r241_9) (.seq (.reg 10 r241_10) (.seq (.reg 11 r241_11) (.seq (.reg 12 r241_12) .ret))))
abbrev c241_1:AC:=(.seq (.reg 8 r241_8) c241_0)
abbrev c241_2:AC:=(.seq (.reg 7 r241_7) c241_1)
abbrev c241_3:AC:=(.seq (.reg 6 r241_6) c241_2)
abbrev c241_4:AC:=(.seq (.reg 5 r241_5) c241_3)
abbrev c241_5:AC:=(.seq (.reg 4 r241_4) c241_4)
abbrev c241_6:AC:=(.seq (.reg 3 r241_3) c241_5)
abbrev c241_7:AC:=(.seq (.reg 2 r241_2) c241_6)
abbrev c241_8:AC:=(.seq (.reg 1 r241_1) c241_7)
abbrev b241:AC:=(.seq (.reg 0 r241_0) c241_8)
def pf241:AF:={ nt:=284,res:=[.tmp 0],body:=b241 }
abbrev H241 (Q:AE→Sl→St→Prop)(K:Bool→Prop):Prop:=∀(σ:Sl)(st:St)(res0:Bool),σ 0 = .b res0→K res0→Q .ret σ st
def T241_9 (prog:Prog)(K:Bool→Prop)(texts1:Bool)(bads2:Bool)(forms3:Bool)(nones4:Bool)(many7:Bool):Prop:=
  ∃r'1:Qry,∃r'2:Int,Pus prog 245 [.s (rep 2001 0)] (.tup [r'1.av,.i .i64 r'2])∧∃r'4:Img,Pus prog 255 [] (r'4.av)∧∃r'6:List (List UInt8),∃r'7:Int,Pus prog 254 [r'4.av,.ag [.i .u8 0,.i .i64 0,.i .i64 0,.sl .ext (List.map Rou.row ([]:List Rou))],.s ([103,111,114,111,117,116,105,110,101,115]:List UInt8)] (.tup [.sl .ext (List.map rowS r'6),.i .i64 r'7])∧∃r'9:Img,Pus prog 255 [] (r'9.av)∧∃r'11:List (List UInt8),∃r'12:Int,Pus prog 254 [r'9.av,.ag [.i .u8 0,.i .i64 0,.i .i64 0,.sl .ext (List.map Rou.row ([]:List Rou))],.s ([110,111,110,101]:List UInt8)] (.tup [.sl .ext (List.map rowS r'11),.i .i64 r'12])∧(texts1 = true→(bads2 = true→(forms3 = true→(nones4 = true→(many7 = true→(r'2 = 4→(r'7 = 8→(r'12 = 12→∃r'22:Bool,Pus prog 256 [] (.b r'22)∧K r'22)∧(¬(r'12 = 12)→K false))∧(¬(r'7 = 8)→K false))∧(¬(r'2 = 4)→K false))∧(many7 = false→K false))∧(nones4 = false→K false))∧(forms3 = false→K false))∧(bads2 = false→K false))∧(texts1 = false→K false)
def T241_8 (prog:Prog)(K:Bool→Prop)(texts1:Bool)(bads2:Bool)(forms3:Bool)(nones4:Bool)(m20481:Sta):Prop:=
  ∃r'1:Bool,Pus prog 253 [m20481.av,.s ([103,111,114,111,117,116,105,110,101,115]:List UInt8),.sl .ext (List.map rowS [([103,111,114,111,117,116,105,110,101,32,48,58,32,98,108,111,99,107,101,100,32,55]:List UInt8),([103,111,114,111,117,116,105,110,101,32,49,58,32,100,111,110,101]:List UInt8),([103,111,114,111,117,116,105,110,101,32,50,58,32,114,101,97,100,121]:List UInt8),([103,111,114,111,117,116,105,110,101,32,51,58,32,98,108,111,99,107,101,100,32,55]:List UInt8)])] (.b r'1)∧(r'1 = true→∃r'4:Bool,Pus prog 253 [m20481.av,.s ([119,97,105,116,115,32,55]:List UInt8),.sl .ext (List.map rowS [([103,111,114,111,117,116,105,110,101,32,48]:List UInt8),([103,111,114,111,117,116,105,110,101,32,51]:List UInt8)])] (.b r'4)∧(r'4 = true→∃r'7:Bool,Pus prog 253 [m20481.av,.s ([119,97,105,116,115,32,48]:List UInt8),.sl .ext (List.map rowS ([]:List (List UInt8)))] (.b r'7)∧(r'7 = true→∃r'10:Bool,Pus prog 253 [m20481.av,.s ([105,110,32,34,102,34]:List UInt8),.sl .ext (List.map rowS [([48,32,48,32,97,116,32,50]:List UInt8),([50,32,48,32,97,116,32,48]:List UInt8),([50,32,49,32,97,116,32,53]:List UInt8),([51,32,48,32,97,116,32,50]:List UInt8)])] (.b r'10)∧(r'10 = true→∃r'13:Bool,Pus prog 253 [m20481.av,.s ([105,110,32,34,103,34]:List UInt8),.sl .ext (List.map rowS ([]:List (List UInt8)))] (.b r'13)∧(r'13 = true→∃r'16:Bool,Pus prog 253 [m20481.av,.s ([115,108,111,116,32,34,120,34]:List UInt8),.sl .ext (List.map rowS [([48,32,48,32,48,32,61,32,53]:List UInt8),([50,32,48,32,48,32,61,32,116,114,117,101]:List UInt8),([51,32,48,32,48,32,61,32,53]:List UInt8)])] (.b r'16)∧(r'16 = true→∃r'19:Bool,Pus prog 253 [m20481.av,.s ([115,108,111,116,32,34,121,34]:List UInt8),.sl .ext (List.map rowS [([50,32,48,32,49,32,61,32,116,114,117,101]:List UInt8)])] (.b r'19)∧(r'19 = true→∃r'22:Bool,Pus prog 253 [m20481.av,.s ([108,111,99,97,108,115,32,50,32,48]:List UInt8),.sl .ext (List.map rowS [([32,32,48,32,34,120,34,32,61,32,116,114,117,101]:List UInt8),([32,32,49,32,34,121,34,32,61,32,116,114,117,101]:List UInt8)])] (.b r'22)∧(r'22 = true→∃r'25:Bool,Pus prog 253 [m20481.av,.s ([100,101,102,101,114,115,32,50]:List UInt8),.sl .ext (List.map rowS [([100,101,102,101,114,32,50,32,49,32,34,102,34]:List UInt8),([100,101,102,101,114,32,48,32,48,32,34,109,97,105,110,34,32,119,105,116,104,32,116,114,117,101]:List UInt8)])] (.b r'25)∧(r'25 = true→∃r'28:Bool,Pus prog 253 [m20481.av,.s ([112,97,110,105,99,115,32,50]:List UInt8),.sl .ext (List.map rowS [([101,120,105,116]:List UInt8)])] (.b r'28)∧(r'28 = true→∃r'31:Bool,Pus prog 253 [m20481.av,.s ([102,114,97,109,101,115,32,49]:List UInt8),.sl .ext (List.map rowS ([]:List (List UInt8)))] (.b r'31)∧T241_9 prog K texts1 bads2 forms3 nones4 r'31)∧(r'28 = false→T241_9 prog K texts1 bads2 forms3 nones4 false))∧(r'25 = false→T241_9 prog K texts1 bads2 forms3 nones4 false))∧(r'22 = false→T241_9 prog K texts1 bads2 forms3 nones4 false))∧(r'19 = false→T241_9 prog K texts1 bads2 forms3 nones4 false))∧(r'16 = false→T241_9 prog K texts1 bads2 forms3 nones4 false))∧(r'13 = false→T241_9 prog K texts1 bads2 forms3 nones4 false))∧(r'10 = false→T241_9 prog K texts1 bads2 forms3 nones4 false))∧(r'7 = false→T241_9 prog K texts1 bads2 forms3 nones4 false))∧(r'4 = false→T241_9 prog K texts1 bads2 forms3 nones4 false))∧(r'1 = false→T241_9 prog K texts1 bads2 forms3 nones4 false)
def T241_7 (prog:Prog)(K:Bool→Prop)(texts1:Bool)(bads2:Bool)(forms3:Bool)(nones4:Bool)(m20481:Sta)(m24577:Val):Prop:=
  ∃c'1:Rou,m20481.routines[0]? = some c'1∧Fit (m20481.routines.length + [(Rou.mk 3 0 ([]:List Frm) ([]:List Dfr) ([]:List Pan)),(Rou.mk 1 0 [(Frm.mk 1 0 1 [(Loc.mk 0 m24577),(Loc.mk 1 m24577)]),(Frm.mk 1 5 0 ([]:List Loc)),(Frm.mk 0 1 0 ([]:List Loc))] [(Dfr.mk 2 1 false (Val.mk 0 0 [] ([]:List Val) false)),(Dfr.mk 0 0 true m24577)] [(Pan.mk 0 (Val.mk 0 0 [] ([]:List Val) false) 2)]),c'1].length) 88∧T241_8 prog K texts1 bads2 forms3 nones4 (Sta.mk m20481.outcome m20481.failing m20481.steps (m20481.routines ++ [(Rou.mk 3 0 ([]:List Frm) ([]:List Dfr) ([]:List Pan)),(Rou.mk 1 0 [(Frm.mk 1 0 1 [(Loc.mk 0 m24577),(Loc.mk 1 m24577)]),(Frm.mk 1 5 0 ([]:List Loc)),(Frm.mk 0 1 0 ([]:List Loc))] [(Dfr.mk 2 1 false (Val.mk 0 0 [] ([]:List Val) false)),(Dfr.mk 0 0 true m24577)] [(Pan.mk 0 (Val.mk 0 0 [] ([]:List Val) false) 2)]),c'1]))
def T241_6 (prog:Prog)(K:Bool→Prop)(texts1:Bool)(bads2:Bool)(forms3:Bool)(nones4:Bool)(m20481:Sta):Prop:=
  T241_7 prog K texts1 bads2 forms3 nones4 m20481 (Val.mk 1 1 [] ([]:List Val) false)
def T241_5 (prog:Prog)(K:Bool→Prop)(texts1:Bool)(bads2:Bool)(forms3:Bool)(nones4:Bool):Prop:=
  ∃r'1:Sta,(PuN prog 252 [] (fun r=>r = r'1.avo .full))∧T241_6 prog K texts1 bads2 forms3 nones4 r'1
def T241_4 (prog:Prog)(K:Bool→Prop)(texts1:Bool)(bads2:Bool)(forms3:Bool):Prop:=
  ∃r'1:Bool,Pus prog 251 [.s ([102,114,97,109,101,115,32,49,53]:List UInt8),.i .i64 6] (.b r'1)∧(r'1 = true→∃r'4:Bool,Pus prog 251 [.s ([108,111,99,97,108,115,32,49,32,48]:List UInt8),.i .i64 6] (.b r'4)∧(r'4 = true→∃r'7:Bool,Pus prog 251 [.s ([108,111,99,97,108,115,32,48,32,50]:List UInt8),.i .i64 6] (.b r'7)∧(r'7 = true→∃r'10:Bool,Pus prog 251 [.s ([100,101,102,101,114,115,32,49]:List UInt8),.i .i64 6] (.b r'10)∧(r'10 = true→∃r'13:Bool,Pus prog 251 [.s ([112,97,110,105,99,115,32,49]:List UInt8),.i .i64 6] (.b r'13)∧T241_5 prog K texts1 bads2 forms3 r'13)∧(r'10 = false→T241_5 prog K texts1 bads2 forms3 false))∧(r'7 = false→T241_5 prog K texts1 bads2 forms3 false))∧(r'4 = false→T241_5 prog K texts1 bads2 forms3 false))∧(r'1 = false→T241_5 prog K texts1 bads2 forms3 false)
def T241_3 (prog:Prog)(K:Bool→Prop)(texts1:Bool)(bads2:Bool):Prop:=
  ∃r'1:Bool,Pus prog 251 [.s ([]:List UInt8),.i .i64 12] (.b r'1)∧(r'1 = true→∃r'4:Bool,Pus prog 251 [.s ([103,111,114,111,117,116,105,110,101,115,32]:List UInt8),.i .i64 12] (.b r'4)∧(r'4 = true→∃r'7:Bool,Pus prog 251 [.s ([71,111,114,111,117,116,105,110,101,115]:List UInt8),.i .i64 12] (.b r'7)∧(r'7 = true→∃r'10:Bool,Pus prog 251 [.s ([102,114,97,109,101,115]:List UInt8),.i .i64 12] (.b r'10)∧(r'10 = true→∃r'13:Bool,Pus prog 251 [.s ([102,114,97,109,101,115,32]:List UInt8),.i .i64 12] (.b r'13)∧(r'13 = true→∃r'16:Bool,Pus prog 251 [.s ([102,114,97,109,101,115,32,49,54]:List UInt8),.i .i64 12] (.b r'16)∧(r'16 = true→∃r'19:Bool,Pus prog 251 [.s ([102,114,97,109,101,115,32,45,49]:List UInt8),.i .i64 12] (.b r'19)∧(r'19 = true→∃r'22:Bool,Pus prog 251 [.s ([102,114,97,109,101,115,32,48,32,48]:List UInt8),.i .i64 12] (.b r'22)∧(r'22 = true→∃r'25:Bool,Pus prog 251 [.s ([102,114,97,109,101,115,32,32,48]:List UInt8),.i .i64 12] (.b r'25)∧(r'25 = true→∃r'28:Bool,Pus prog 251 [.s ([108,111,99,97,108,115,32,48]:List UInt8),.i .i64 12] (.b r'28)∧(r'28 = true→∃r'31:Bool,Pus prog 251 [.s ([108,111,99,97,108,115,32,48,32,49,55,48]:List UInt8),.i .i64 12] (.b r'31)∧(r'31 = true→∃r'34:Bool,Pus prog 251 [.s ([108,111,99,97,108,115,32,48,32,48,32,48]:List UInt8),.i .i64 12] (.b r'34)∧(r'34 = true→∃r'37:Bool,Pus prog 251 [.s ([119,97,105,116,115]:List UInt8),.i .i64 12] (.b r'37)∧(r'37 = true→∃r'40:Bool,Pus prog 251 [.s ([119,97,105,116,115,32,43,49]:List UInt8),.i .i64 12] (.b r'40)∧(r'40 = true→∃r'43:Bool,Pus prog 251 [.s ([105,110,32,109,97,105,110]:List UInt8),.i .i64 12] (.b r'43)∧(r'43 = true→∃r'46:Bool,Pus prog 251 [.s ([105,110,32,34,115,101,118,101,110,116,101,101,110,32,108,101,116,116,101,114,115,34]:List UInt8),.i .i64 12] (.b r'46)∧(r'46 = true→∃r'49:Bool,Pus prog 251 [.s ([105,110,32,34,97,34,32]:List UInt8),.i .i64 12] (.b r'49)∧(r'49 = true→∃r'52:Bool,Pus prog 251 [.s ([119,104,111]:List UInt8),.i .i64 12] (.b r'52)∧(r'52 = true→∃r'55:Bool,Pus prog 251 [.s ([32,102,114,97,109,101,115,32,48]:List UInt8),.i .i64 12] (.b r'55)∧T241_4 prog K texts1 bads2 r'55)∧(r'52 = false→T241_4 prog K texts1 bads2 false))∧(r'49 = false→T241_4 prog K texts1 bads2 false))∧(r'46 = false→T241_4 prog K texts1 bads2 false))∧(r'43 = false→T241_4 prog K texts1 bads2 false))∧(r'40 = false→T241_4 prog K texts1 bads2 false))∧(r'37 = false→T241_4 prog K texts1 bads2 false))∧(r'34 = false→T241_4 prog K texts1 bads2 false))∧(r'31 = false→T241_4 prog K texts1 bads2 false))∧(r'28 = false→T241_4 prog K texts1 bads2 false))∧(r'25 = false→T241_4 prog K texts1 bads2 false))∧(r'22 = false→T241_4 prog K texts1 bads2 false))∧(r'19 = false→T241_4 prog K texts1 bads2 false))∧(r'16 = false→T241_4 prog K texts1 bads2 false))∧(r'13 = false→T241_4 prog K texts1 bads2 false))∧(r'10 = false→T241_4 prog K texts1 bads2 false))∧(r'7 = false→T241_4 prog K texts1 bads2 false))∧(r'4 = false→T241_4 prog K texts1 bads2 false))∧(r'1 = false→T241_4 prog K texts1 bads2 false)
def T241_2 (prog:Prog)(K:Bool→Prop)(texts1:Bool):Prop:=
  ∃r'1:Bool,Pus prog 250 [.ag [.i .u8 0,.i .i64 0,.i .i64 0,.i .i64 0,.s []]] (.b r'1)∧(r'1 = true→∃r'4:Bool,Pus prog 250 [.ag [.i .u8 9,.i .i64 0,.i .i64 0,.i .i64 0,.s []]] (.b r'4)∧(r'4 = true→∃r'7:Bool,Pus prog 250 [.ag [.i .u8 1,.i .i64 1,.i .i64 0,.i .i64 0,.s []]] (.b r'7)∧(r'7 = true→∃r'10:Bool,Pus prog 250 [.ag [.i .u8 2,.i .i64 16,.i .i64 0,.i .i64 0,.s []]] (.b r'10)∧(r'10 = true→∃r'13:Bool,Pus prog 250 [.ag [.i .u8 2,.i .i64 (-1),.i .i64 0,.i .i64 0,.s []]] (.b r'13)∧(r'13 = true→∃r'16:Bool,Pus prog 250 [.ag [.i .u8 2,.i .i64 0,.i .i64 1,.i .i64 0,.s []]] (.b r'16)∧(r'16 = true→∃r'19:Bool,Pus prog 250 [.ag [.i .u8 3,.i .i64 0,.i .i64 170,.i .i64 0,.s []]] (.b r'19)∧(r'19 = true→∃r'22:Bool,Pus prog 250 [.ag [.i .u8 3,.i .i64 0,.i .i64 (-1),.i .i64 0,.s []]] (.b r'22)∧(r'22 = true→∃r'25:Bool,Pus prog 250 [.ag [.i .u8 6,.i .i64 0,.i .i64 0,.i .i64 0,.s ([97]:List UInt8)]] (.b r'25)∧(r'25 = true→∃r'28:Bool,Pus prog 250 [.ag [.i .u8 6,.i .i64 1,.i .i64 0,.i .i64 0,.s []]] (.b r'28)∧(r'28 = true→∃r'31:Bool,Pus prog 250 [.ag [.i .u8 7,.i .i64 0,.i .i64 0,.i .i64 1,.s []]] (.b r'31)∧(r'31 = true→∃r'34:Bool,Pus prog 250 [.ag [.i .u8 8,.i .i64 0,.i .i64 0,.i .i64 0,.s ([115,101,118,101,110,116,101,101,110,32,108,101,116,116,101,114,115]:List UInt8)]] (.b r'34)∧T241_3 prog K texts1 r'34)∧(r'31 = false→T241_3 prog K texts1 false))∧(r'28 = false→T241_3 prog K texts1 false))∧(r'25 = false→T241_3 prog K texts1 false))∧(r'22 = false→T241_3 prog K texts1 false))∧(r'19 = false→T241_3 prog K texts1 false))∧(r'16 = false→T241_3 prog K texts1 false))∧(r'13 = false→T241_3 prog K texts1 false))∧(r'10 = false→T241_3 prog K texts1 false))∧(r'7 = false→T241_3 prog K texts1 false))∧(r'4 = false→T241_3 prog K texts1 false))∧(r'1 = false→T241_3 prog K texts1 false)
def T241_1 (prog:Prog)(K:Bool→Prop) :Prop:=
  ∃r'1:Bool,Pus prog 249 [.ag [.i .u8 1,.i .i64 0,.i .i64 0,.i .i64 0,.s []],.s ([103,111,114,111,117,116,105,110,101,115]:List UInt8)] (.b r'1)∧(r'1 = true→∃r'4:Bool,Pus prog 249 [.ag [.i .u8 2,.i .i64 15,.i .i64 0,.i .i64 0,.s []],.s ([102,114,97,109,101,115,32,49,53]:List UInt8)] (.b r'4)∧(r'4 = true→∃r'7:Bool,Pus prog 249 [.ag [.i .u8 3,.i .i64 2,.i .i64 169,.i .i64 0,.s []],.s ([108,111,99,97,108,115,32,50,32,49,54,57]:List UInt8)] (.b r'7)∧(r'7 = true→∃r'10:Bool,Pus prog 249 [.ag [.i .u8 4,.i .i64 0,.i .i64 0,.i .i64 0,.s []],.s ([100,101,102,101,114,115,32,48]:List UInt8)] (.b r'10)∧(r'10 = true→∃r'13:Bool,Pus prog 249 [.ag [.i .u8 5,.i .i64 1,.i .i64 0,.i .i64 0,.s []],.s ([112,97,110,105,99,115,32,49]:List UInt8)] (.b r'13)∧(r'13 = true→∃r'16:Bool,Pus prog 249 [.ag [.i .u8 6,.i .i64 0,.i .i64 0,.i .i64 (-9223372036854775808),.s []],.s ([119,97,105,116,115,32,45,57,50,50,51,51,55,50,48,51,54,56,53,52,55,55,53,56,48,56]:List UInt8)] (.b r'16)∧(r'16 = true→∃r'19:Bool,Pus prog 249 [.ag [.i .u8 7,.i .i64 0,.i .i64 0,.i .i64 0,.s []],.s ([105,110,32,34,34]:List UInt8)] (.b r'19)∧(r'19 = true→∃r'22:Bool,Pus prog 249 [.ag [.i .u8 8,.i .i64 0,.i .i64 0,.i .i64 0,.s ([97,32,34,98,34]:List UInt8)],.s ([115,108,111,116,32,34,97,32,92,34,98,92,34,34]:List UInt8)] (.b r'22)∧T241_2 prog K r'22)∧(r'19 = false→T241_2 prog K false))∧(r'16 = false→T241_2 prog K false))∧(r'13 = false→T241_2 prog K false))∧(r'10 = false→T241_2 prog K false))∧(r'7 = false→T241_2 prog K false))∧(r'4 = false→T241_2 prog K false))∧(r'1 = false→T241_2 prog K false)
def T241_0 (prog:Prog)(K:Bool→Prop) :Prop:=
  T241_1 prog K 
section
variable {prog:Prog}{d:Nat}{Q:AE→Sl→St→Prop}{K:Bool→Prop}(hQ:H241 Q K){σ:Sl}{st:St}
include hQ
theorem w241_9 {texts1 bads2 forms3 nones4 many7:Bool}(H1:σ 1 = .b texts1)(H2:σ 2 = .b bads2)(H3:σ 3 = .b forms3)(H4:σ 4 = .b nones4)(H7:σ 7 = .b many7)(h:T241_9 prog K texts1 bads2 forms3 nones4 many7):W prog d c241_0 σ st Q:=
 sq_ (W.reg (s_mks (n:=2001) (m:=2001) (f:=row8) (a:=0) rfl rfl rfl rfl rfl (by decide) rfl ⟨by decide,by decide⟩ (s_b2s rfl (h.elim fun r'1 e'26=>e'26.elim fun r'2 e'3=>ca_ (sc rfl rfl sn) e'3.1 (m_ (x_ rfl rfl (x_ rfl rfl (s_alloc (so_ rfl (show lk _ (d,36870) = some (_,([.i .u8 0,.i .i64 0,.i .i64 0,.i .i64 0,.s []]:List AV)) from lk_here) rfl rfl rfl (m_ (e_ (q_ rfl (e'3.2.elim fun r'4 e'5=>ca_ sn e'5.1 (s_build f_nil (e'5.2.elim fun r'6 e'25=>e'25.elim fun r'7 e'8=>ca_ (sc rfl rfl (sc rfl rfl (sc rfl rfl sn))) e'8.1 (m_ (x_ rfl rfl (x_ rfl rfl (s_mvL rfl (m_ (e_ (q_ rfl (e'8.2.elim fun r'9 e'10=>ca_ sn e'10.1 (s_build f_nil (e'10.2.elim fun r'11 e'24=>e'24.elim fun r'12 e'13=>ca_ (sc rfl rfl (sc rfl rfl (sc rfl rfl sn))) e'13.1 (m_ (x_ rfl rfl (x_ rfl rfl (s_mvL rfl (m_ (e_ (q_ rfl (s_mvB rfl (gy_ rfl (s_mvB H1 (pt_ rfl rfl (s_mvB rfl (eb_ (g:=257) rfl (fun g'14=>gy_ rfl (s_mvB H2 (pt_ rfl rfl (s_mvB rfl (eb_ (g:=260) rfl (fun g'15=>gy_ rfl (s_mvB H3 (pt_ rfl rfl (s_mvB rfl (eb_ (g:=263) rfl (fun g'16=>gy_ rfl (s_mvB H4 (pt_ rfl rfl (s_mvB rfl (eb_ (g:=266) rfl (fun g'17=>gy_ rfl (s_mvB H7 (pt_ rfl rfl (s_mvB rfl (eb_ (g:=269) rfl (fun g'18=>gy_ rfl (s_mvI rfl (gy_ rfl (b_ rfl rfl eql_ (pt_ rfl rfl (s_mvB rfl (em_ (g:=273) rfl (fun g'19=>gy_ rfl (s_mvI rfl (gy_ rfl (b_ rfl rfl eql_ (pt_ rfl rfl (s_mvB rfl (em_ (g:=277) rfl (fun g'20=>gy_ rfl (s_mvI rfl (gy_ rfl (b_ rfl rfl eql_ (pt_ rfl rfl (s_mvB rfl (em_ (g:=281) rfl (fun g'21=>gy_ rfl (((((((((e'13.2.1 g'14).1 g'15).1 g'16).1 g'17).1 g'18).1 g'19).1 g'20).1 g'21).elim fun r'22 e'23=>ca_ sn e'23.1 (pt_ rfl rfl (s_mvB rfl (e_ (rt_ (hQ _ _ _ rfl e'23.2))))))) (fun g'21=>gn_ (b:=false) rfl rfl (pf_ rfl rfl (s_mvB rfl (e_ (rt_ (hQ _ _ _ rfl ((((((((e'13.2.1 g'14).1 g'15).1 g'16).1 g'17).1 g'18).1 g'19).1 g'20).2 g'21)))))))))))))) (fun g'20=>gn_ (b:=false) rfl rfl (gn_ (b:=false) rfl rfl (pf_ rfl rfl (s_mvB rfl (gn_ (b:=false) rfl rfl (pf_ rfl rfl (s_mvB rfl (e_ (rt_ (hQ _ _ _ rfl (((((((e'13.2.1 g'14).1 g'15).1 g'16).1 g'17).1 g'18).1 g'19).2 g'20)))))))))))))))))) (fun g'19=>gn_ (b:=false) rfl rfl (gn_ (b:=false) rfl rfl (pf_ rfl rfl (s_mvB rfl (gn_ (b:=false) rfl rfl (gn_ (b:=false) rfl rfl (pf_ rfl rfl (s_mvB rfl (gn_ (b:=false) rfl rfl (pf_ rfl rfl (s_mvB rfl (e_ (rt_ (hQ _ _ _ rfl ((((((e'13.2.1 g'14).1 g'15).1 g'16).1 g'17).1 g'18).2 g'19)))))))))))))))))))))) (fun g'18=>gn_ (b:=false) rfl rfl (gn_ (b:=false) rfl rfl (pf_ rfl rfl (s_mvB rfl (gn_ (b:=false) rfl rfl (gn_ (b:=false) rfl rfl (pf_ rfl rfl (s_mvB rfl (gn_ (b:=false) rfl rfl (gn_ (b:=false) rfl rfl (pf_ rfl rfl (s_mvB rfl (gn_ (b:=false) rfl rfl (pf_ rfl rfl (s_mvB rfl (e_ (rt_ (hQ _ _ _ rfl (((((e'13.2.1 g'14).1 g'15).1 g'16).1 g'17).2 g'18)))))))))))))))))))))))) (fun g'17=>gn_ (b:=false) rfl rfl (pf_ rfl rfl (s_mvB rfl (gn_ (b:=false) rfl rfl (gn_ (b:=false) rfl rfl (pf_ rfl rfl (s_mvB rfl (gn_ (b:=false) rfl rfl (gn_ (b:=false) rfl rfl (pf_ rfl rfl (s_mvB rfl (gn_ (b:=false) rfl rfl (gn_ (b:=false) rfl rfl (pf_ rfl rfl (s_mvB rfl (gn_ (b:=false) rfl rfl (pf_ rfl rfl (s_mvB rfl (e_ (rt_ (hQ _ _ _ rfl ((((e'13.2.1 g'14).1 g'15).1 g'16).2 g'17))))))))))))))))))))))))))) (fun g'16=>gn_ (b:=false) rfl rfl (pf_ rfl rfl (s_mvB rfl (gn_ (b:=false) rfl rfl (pf_ rfl rfl (s_mvB rfl (gn_ (b:=false) rfl rfl (gn_ (b:=false) rfl rfl (pf_ rfl rfl (s_mvB rfl (gn_ (b:=false) rfl rfl (gn_ (b:=false) rfl rfl (pf_ rfl rfl (s_mvB rfl (gn_ (b:=false) rfl rfl (gn_ (b:=false) rfl rfl (pf_ rfl rfl (s_mvB rfl (gn_ (b:=false) rfl rfl (pf_ rfl rfl (s_mvB rfl (e_ (rt_ (hQ _ _ _ rfl (((e'13.2.1 g'14).1 g'15).2 g'16)))))))))))))))))))))))))))))) (fun g'15=>gn_ (b:=false) rfl rfl (pf_ rfl rfl (s_mvB rfl (gn_ (b:=false) rfl rfl (pf_ rfl rfl (s_mvB rfl (gn_ (b:=false) rfl rfl (pf_ rfl rfl (s_mvB rfl (gn_ (b:=false) rfl rfl (gn_ (b:=false) rfl rfl (pf_ rfl rfl (s_mvB rfl (gn_ (b:=false) rfl rfl (gn_ (b:=false) rfl rfl (pf_ rfl rfl (s_mvB rfl (gn_ (b:=false) rfl rfl (gn_ (b:=false) rfl rfl (pf_ rfl rfl (s_mvB rfl (gn_ (b:=false) rfl rfl (pf_ rfl rfl (s_mvB rfl (e_ (rt_ (hQ _ _ _ rfl ((e'13.2.1 g'14).2 g'15))))))))))))))))))))))))))))))))) (fun g'14=>gn_ (b:=false) rfl rfl (pf_ rfl rfl (s_mvB rfl (gn_ (b:=false) rfl rfl (pf_ rfl rfl (s_mvB rfl (gn_ (b:=false) rfl rfl (pf_ rfl rfl (s_mvB rfl (gn_ (b:=false) rfl rfl (pf_ rfl rfl (s_mvB rfl (gn_ (b:=false) rfl rfl (gn_ (b:=false) rfl rfl (pf_ rfl rfl (s_mvB rfl (gn_ (b:=false) rfl rfl (gn_ (b:=false) rfl rfl (pf_ rfl rfl (s_mvB rfl (gn_ (b:=false) rfl rfl (gn_ (b:=false) rfl rfl (pf_ rfl rfl (s_mvB rfl (gn_ (b:=false) rfl rfl (pf_ rfl rfl (s_mvB rfl (e_ (rt_ (hQ _ _ _ rfl (e'13.2.2 g'14)))))))))))))))))))))))))))))))))))))))))))))))))))))))))))))))))))))
theorem w241_8 {texts1 bads2 forms3 nones4:Bool}{m20481:Sta}{o_m20481_3:Own}{v20481:Nat}(H1:σ 1 = .b texts1)(H2:σ 2 = .b bads2)(H3:σ 3 = .b forms3)(H4:σ 4 = .b nones4)(H5:σ 5 = .p (d,20481) v20481 0)(Ab20481:ApM d st.ow o_m20481_3 m20481.routines.length)(B20481:lk st.bx (d,20481) = some (v20481,[.i .u8 m20481.outcome,.i .i64 m20481.failing,.i .i64 m20481.steps,.sl o_m20481_3 (List.map Rou.row m20481.routines)]))(h:T241_8 prog K texts1 bads2 forms3 nones4 m20481):W prog d c241_1 σ st Q:=
 q_ rfl (l_ H5 B20481 rfl rfl (s_bslM (f:=rowS) (l:=[([103,111,114,111,117,116,105,110,101,32,48,58,32,98,108,111,99,107,101,100,32,55]:List UInt8),([103,111,114,111,117,116,105,110,101,32,49,58,32,100,111,110,101]:List UInt8),([103,111,114,111,117,116,105,110,101,32,50,58,32,114,101,97,100,121]:List UInt8),([103,111,114,111,117,116,105,110,101,32,51,58,32,98,108,111,99,107,101,100,32,55]:List UInt8)]) rfl rfl (g_cons rfl rfl rfl (g_cons rfl rfl rfl (g_cons rfl rfl rfl (g_cons rfl rfl rfl g_nil)))) rfl (h.elim fun r'1 e'2=>ca_ (sc rfl rfl (sc rfl rfl (sc rfl rfl sn))) e'2.1 (s_mvB rfl (eb_ (g:=189) rfl (fun g'3=>gy_ rfl (l_ H5 B20481 rfl rfl (gy_ rfl (s_bslM (f:=rowS) (l:=[([103,111,114,111,117,116,105,110,101,32,48]:List UInt8),([103,111,114,111,117,116,105,110,101,32,51]:List UInt8)]) rfl rfl (g_cons rfl rfl rfl (g_cons rfl rfl rfl g_nil)) rfl (gy_ rfl ((e'2.2.1 g'3).elim fun r'4 e'5=>ca_ (sc rfl rfl (sc rfl rfl (sc rfl rfl sn))) e'5.1 (pt_ rfl rfl (s_mvB rfl (eb_ (g:=194) rfl (fun g'6=>gy_ rfl (l_ H5 B20481 rfl rfl (gy_ rfl ((e'5.2.1 g'6).elim fun r'7 e'8=>ca_ (sc rfl rfl (sc rfl rfl (sc (show _ = AV.sl .full (List.map rowS []) from rfl) rfl sn))) e'8.1 (pt_ rfl rfl (s_mvB rfl (eb_ (g:=198) rfl (fun g'9=>gy_ rfl (l_ H5 B20481 rfl rfl (gy_ rfl (s_bslM (f:=rowS) (l:=[([48,32,48,32,97,116,32,50]:List UInt8),([50,32,48,32,97,116,32,48]:List UInt8),([50,32,49,32,97,116,32,53]:List UInt8),([51,32,48,32,97,116,32,50]:List UInt8)]) rfl rfl (g_cons rfl rfl rfl (g_cons rfl rfl rfl (g_cons rfl rfl rfl (g_cons rfl rfl rfl g_nil)))) rfl (gy_ rfl ((e'8.2.1 g'9).elim fun r'10 e'11=>ca_ (sc rfl rfl (sc rfl rfl (sc rfl rfl sn))) e'11.1 (pt_ rfl rfl (s_mvB rfl (eb_ (g:=203) rfl (fun g'12=>gy_ rfl (l_ H5 B20481 rfl rfl (gy_ rfl ((e'11.2.1 g'12).elim fun r'13 e'14=>ca_ (sc rfl rfl (sc rfl rfl (sc (show _ = AV.sl .full (List.map rowS []) from rfl) rfl sn))) e'14.1 (pt_ rfl rfl (s_mvB rfl (eb_ (g:=207) rfl (fun g'15=>gy_ rfl (l_ H5 B20481 rfl rfl (gy_ rfl (s_bslM (f:=rowS) (l:=[([48,32,48,32,48,32,61,32,53]:List UInt8),([50,32,48,32,48,32,61,32,116,114,117,101]:List UInt8),([51,32,48,32,48,32,61,32,53]:List UInt8)]) rfl rfl (g_cons rfl rfl rfl (g_cons rfl rfl rfl (g_cons rfl rfl rfl g_nil))) rfl (gy_ rfl ((e'14.2.1 g'15).elim fun r'16 e'17=>ca_ (sc rfl rfl (sc rfl rfl (sc rfl rfl sn))) e'17.1 (pt_ rfl rfl (s_mvB rfl (eb_ (g:=212) rfl (fun g'18=>gy_ rfl (l_ H5 B20481 rfl rfl (gy_ rfl (s_bslM (f:=rowS) (l:=[([50,32,48,32,49,32,61,32,116,114,117,101]:List UInt8)]) rfl rfl (g_cons rfl rfl rfl g_nil) rfl (gy_ rfl ((e'17.2.1 g'18).elim fun r'19 e'20=>ca_ (sc rfl rfl (sc rfl rfl (sc rfl rfl sn))) e'20.1 (pt_ rfl rfl (s_mvB rfl (eb_ (g:=217) rfl (fun g'21=>gy_ rfl (l_ H5 B20481 rfl rfl (gy_ rfl (s_bslM (f:=rowS) (l:=[([32,32,48,32,34,120,34,32,61,32,116,114,117,101]:List UInt8),([32,32,49,32,34,121,34,32,61,32,116,114,117,101]:List UInt8)]) rfl rfl (g_cons rfl rfl rfl (g_cons rfl rfl rfl g_nil)) rfl (gy_ rfl ((e'20.2.1 g'21).elim fun r'22 e'23=>ca_ (sc rfl rfl (sc rfl rfl (sc rfl rfl sn))) e'23.1 (pt_ rfl rfl (s_mvB rfl (eb_ (g:=222) rfl (fun g'24=>gy_ rfl (l_ H5 B20481 rfl rfl (gy_ rfl (s_bslM (f:=rowS) (l:=[([100,101,102,101,114,32,50,32,49,32,34,102,34]:List UInt8),([100,101,102,101,114,32,48,32,48,32,34,109,97,105,110,34,32,119,105,116,104,32,116,114,117,101]:List UInt8)]) rfl rfl (g_cons rfl rfl rfl (g_cons rfl rfl rfl g_nil)) rfl (gy_ rfl ((e'23.2.1 g'24).elim fun r'25 e'26=>ca_ (sc rfl rfl (sc rfl rfl (sc rfl rfl sn))) e'26.1 (pt_ rfl rfl (s_mvB rfl (eb_ (g:=227) rfl (fun g'27=>gy_ rfl (l_ H5 B20481 rfl rfl (gy_ rfl (s_bslM (f:=rowS) (l:=[([101,120,105,116]:List UInt8)]) rfl rfl (g_cons rfl rfl rfl g_nil) rfl (gy_ rfl ((e'26.2.1 g'27).elim fun r'28 e'29=>ca_ (sc rfl rfl (sc rfl rfl (sc rfl rfl sn))) e'29.1 (pt_ rfl rfl (s_mvB rfl (eb_ (g:=232) rfl (fun g'30=>gy_ rfl (l_ H5 B20481 rfl rfl (gy_ rfl ((e'29.2.1 g'30).elim fun r'31 e'32=>ca_ (sc rfl rfl (sc rfl rfl (sc (show _ = AV.sl .full (List.map rowS []) from rfl) rfl sn))) e'32.1 (pt_ rfl rfl (s_mvB rfl (e_ (w241_9 hQ H1 H2 H3 H4 rfl e'32.2)))))))) (fun g'30=>gn_ (b:=false) rfl rfl (gn_ (b:=false) rfl rfl (pf_ rfl rfl (s_mvB rfl (e_ (w241_9 hQ H1 H2 H3 H4 rfl (e'29.2.2 g'30)))))))))))))))) (fun g'27=>gn_ (b:=false) rfl rfl (gn_ (b:=false) rfl rfl (gn_ (b:=false) rfl rfl (pf_ rfl rfl (s_mvB rfl (gn_ (b:=false) rfl rfl (gn_ (b:=false) rfl rfl (pf_ rfl rfl (s_mvB rfl (e_ (w241_9 hQ H1 H2 H3 H4 rfl (e'26.2.2 g'27))))))))))))))))))))) (fun g'24=>gn_ (b:=false) rfl rfl (gn_ (b:=false) rfl rfl (gn_ (b:=false) rfl rfl (pf_ rfl rfl (s_mvB rfl (gn_ (b:=false) rfl rfl (gn_ (b:=false) rfl rfl (gn_ (b:=false) rfl rfl (pf_ rfl rfl (s_mvB rfl (gn_ (b:=false) rfl rfl (gn_ (b:=false) rfl rfl (pf_ rfl rfl (s_mvB rfl (e_ (w241_9 hQ H1 H2 H3 H4 rfl (e'23.2.2 g'24)))))))))))))))))))))))))) (fun g'21=>gn_ (b:=false) rfl rfl (gn_ (b:=false) rfl rfl (gn_ (b:=false) rfl rfl (pf_ rfl rfl (s_mvB rfl (gn_ (b:=false) rfl rfl (gn_ (b:=false) rfl rfl (gn_ (b:=false) rfl rfl (pf_ rfl rfl (s_mvB rfl (gn_ (b:=false) rfl rfl (gn_ (b:=false) rfl rfl (gn_ (b:=false) rfl rfl (pf_ rfl rfl (s_mvB rfl (gn_ (b:=false) rfl rfl (gn_ (b:=false) rfl rfl (pf_ rfl rfl (s_mvB rfl (e_ (w241_9 hQ H1 H2 H3 H4 rfl (e'20.2.2 g'21))))))))))))))))))))))))))))))) (fun g'18=>gn_ (b:=false) rfl rfl (gn_ (b:=false) rfl rfl (gn_ (b:=false) rfl rfl (pf_ rfl rfl (s_mvB rfl (gn_ (b:=false) rfl rfl (gn_ (b:=false) rfl rfl (gn_ (b:=false) rfl rfl (pf_ rfl rfl (s_mvB rfl (gn_ (b:=false) rfl rfl (gn_ (b:=false) rfl rfl (gn_ (b:=false) rfl rfl (pf_ rfl rfl (s_mvB rfl (gn_ (b:=false) rfl rfl (gn_ (b:=false) rfl rfl (gn_ (b:=false) rfl rfl (pf_ rfl rfl (s_mvB rfl (gn_ (b:=false) rfl rfl (gn_ (b:=false) rfl rfl (pf_ rfl rfl (s_mvB rfl (e_ (w241_9 hQ H1 H2 H3 H4 rfl (e'17.2.2 g'18)))))))))))))))))))))))))))))))))))) (fun g'15=>gn_ (b:=false) rfl rfl (gn_ (b:=false) rfl rfl (gn_ (b:=false) rfl rfl (pf_ rfl rfl (s_mvB rfl (gn_ (b:=false) rfl rfl (gn_ (b:=false) rfl rfl (gn_ (b:=false) rfl rfl (pf_ rfl rfl (s_mvB rfl (gn_ (b:=false) rfl rfl (gn_ (b:=false) rfl rfl (gn_ (b:=false) rfl rfl (pf_ rfl rfl (s_mvB rfl (gn_ (b:=false) rfl rfl (gn_ (b:=false) rfl rfl (gn_ (b:=false) rfl rfl (pf_ rfl rfl (s_mvB rfl (gn_ (b:=false) rfl rfl (gn_ (b:=false) rfl rfl (gn_ (b:=false) rfl rfl (pf_ rfl rfl (s_mvB rfl (gn_ (b:=false) rfl rfl (gn_ (b:=false) rfl rfl (pf_ rfl rfl (s_mvB rfl (e_ (w241_9 hQ H1 H2 H3 H4 rfl (e'14.2.2 g'15))))))))))))))))))))))))))))))))))))))) (fun g'12=>gn_ (b:=false) rfl rfl (gn_ (b:=false) rfl rfl (pf_ rfl rfl (s_mvB rfl (gn_ (b:=false) rfl rfl (gn_ (b:=false) rfl rfl (gn_ (b:=false) rfl rfl (pf_ rfl rfl (s_mvB rfl (gn_ (b:=false) rfl rfl (gn_ (b:=false) rfl rfl (gn_ (b:=false) rfl rfl (pf_ rfl rfl (s_mvB rfl (gn_ (b:=false) rfl rfl (gn_ (b:=false) rfl rfl (gn_ (b:=false) rfl rfl (pf_ rfl rfl (s_mvB rfl (gn_ (b:=false) rfl rfl (gn_ (b:=false) rfl rfl (gn_ (b:=false) rfl rfl (pf_ rfl rfl (s_mvB rfl (gn_ (b:=false) rfl rfl (gn_ (b:=false) rfl rfl (gn_ (b:=false) rfl rfl (pf_ rfl rfl (s_mvB rfl (gn_ (b:=false) rfl rfl (gn_ (b:=false) rfl rfl (pf_ rfl rfl (s_mvB rfl (e_ (w241_9 hQ H1 H2 H3 H4 rfl (e'11.2.2 g'12))))))))))))))))))))))))))))))))))))))))))))) (fun g'9=>gn_ (b:=false) rfl rfl (gn_ (b:=false) rfl rfl (gn_ (b:=false) rfl rfl (pf_ rfl rfl (s_mvB rfl (gn_ (b:=false) rfl rfl (gn_ (b:=false) rfl rfl (pf_ rfl rfl (s_mvB rfl (gn_ (b:=false) rfl rfl (gn_ (b:=false) rfl rfl (gn_ (b:=false) rfl rfl (pf_ rfl rfl (s_mvB rfl (gn_ (b:=false) rfl rfl (gn_ (b:=false) rfl rfl (gn_ (b:=false) rfl rfl (pf_ rfl rfl (s_mvB rfl (gn_ (b:=false) rfl rfl (gn_ (b:=false) rfl rfl (gn_ (b:=false) rfl rfl (pf_ rfl rfl (s_mvB rfl (gn_ (b:=false) rfl rfl (gn_ (b:=false) rfl rfl (gn_ (b:=false) rfl rfl (pf_ rfl rfl (s_mvB rfl (gn_ (b:=false) rfl rfl (gn_ (b:=false) rfl rfl (gn_ (b:=false) rfl rfl (pf_ rfl rfl (s_mvB rfl (gn_ (b:=false) rfl rfl (gn_ (b:=false) rfl rfl (pf_ rfl rfl (s_mvB rfl (e_ (w241_9 hQ H1 H2 H3 H4 rfl (e'8.2.2 g'9)))))))))))))))))))))))))))))))))))))))))))))))) (fun g'6=>gn_ (b:=false) rfl rfl (gn_ (b:=false) rfl rfl (pf_ rfl rfl (s_mvB rfl (gn_ (b:=false) rfl rfl (gn_ (b:=false) rfl rfl (gn_ (b:=false) rfl rfl (pf_ rfl rfl (s_mvB rfl (gn_ (b:=false) rfl rfl (gn_ (b:=false) rfl rfl (pf_ rfl rfl (s_mvB rfl (gn_ (b:=false) rfl rfl (gn_ (b:=false) rfl rfl (gn_ (b:=false) rfl rfl (pf_ rfl rfl (s_mvB rfl (gn_ (b:=false) rfl rfl (gn_ (b:=false) rfl rfl (gn_ (b:=false) rfl rfl (pf_ rfl rfl (s_mvB rfl (gn_ (b:=false) rfl rfl (gn_ (b:=false) rfl rfl (gn_ (b:=false) rfl rfl (pf_ rfl rfl (s_mvB rfl (gn_ (b:=false) rfl rfl (gn_ (b:=false) rfl rfl (gn_ (b:=false) rfl rfl (pf_ rfl rfl (s_mvB rfl (gn_ (b:=false) rfl rfl (gn_ (b:=false) rfl rfl (gn_ (b:=false) rfl rfl (pf_ rfl rfl (s_mvB rfl (gn_ (b:=false) rfl rfl (gn_ (b:=false) rfl rfl (pf_ rfl rfl (s_mvB rfl (e_ (w241_9 hQ H1 H2 H3 H4 rfl (e'5.2.2 g'6)))))))))))))))))))))))))))))))))))))))))))))))))))))) (fun g'3=>gn_ (b:=false) rfl rfl (gn_ (b:=false) rfl rfl (gn_ (b:=false) rfl rfl (pf_ rfl rfl (s_mvB rfl (gn_ (b:=false) rfl rfl (gn_ (b:=false) rfl rfl (pf_ rfl rfl (s_mvB rfl (gn_ (b:=false) rfl rfl (gn_ (b:=false) rfl rfl (gn_ (b:=false) rfl rfl (pf_ rfl rfl (s_mvB rfl (gn_ (b:=false) rfl rfl (gn_ (b:=false) rfl rfl (pf_ rfl rfl (s_mvB rfl (gn_ (b:=false) rfl rfl (gn_ (b:=false) rfl rfl (gn_ (b:=false) rfl rfl (pf_ rfl rfl (s_mvB rfl (gn_ (b:=false) rfl rfl (gn_ (b:=false) rfl rfl (gn_ (b:=false) rfl rfl (pf_ rfl rfl (s_mvB rfl (gn_ (b:=false) rfl rfl (gn_ (b:=false) rfl rfl (gn_ (b:=false) rfl rfl (pf_ rfl rfl (s_mvB rfl (gn_ (b:=false) rfl rfl (gn_ (b:=false) rfl rfl (gn_ (b:=false) rfl rfl (pf_ rfl rfl (s_mvB rfl (gn_ (b:=false) rfl rfl (gn_ (b:=false) rfl rfl (gn_ (b:=false) rfl rfl (pf_ rfl rfl (s_mvB rfl (gn_ (b:=false) rfl rfl (gn_ (b:=false) rfl rfl (pf_ rfl rfl (s_mvB rfl (e_ (w241_9 hQ H1 H2 H3 H4 rfl (e'2.2.2 g'3)))))))))))))))))))))))))))))))))))))))))))))))))))))))
theorem w241_7 {texts1 bads2 forms3 nones4:Bool}{m20481:Sta}{m24577:Val}{o_m20481_3 o_m24577_3:Own}{v20481:Nat}{v24577:Nat}(H1:σ 1 = .b texts1)(H2:σ 2 = .b bads2)(H3:σ 3 = .b forms3)(H4:σ 4 = .b nones4)(H5:σ 5 = .p (d,20481) v20481 0)(H6:σ 6 = .p (d,24577) v24577 0)(Ab20481:ApM d st.ow o_m20481_3 m20481.routines.length)(Ab24577:ApM d st.ow o_m24577_3 m24577.list.length)(B20481:lk st.bx (d,20481) = some (v20481,[.i .u8 m20481.outcome,.i .i64 m20481.failing,.i .i64 m20481.steps,.sl o_m20481_3 (List.map Rou.row m20481.routines)]))(B24577:lk st.bx (d,24577) = some (v24577,[.i .u8 m24577.kind,.i .i64 m24577.int,.s m24577.text,.sl o_m24577_3 (List.map Val.row m24577.list),.b m24577.cut]))(h:T241_7 prog K texts1 bads2 forms3 nones4 m20481 m24577):W prog d c241_2 σ st Q:=
 q_ rfl (f_ H5 (l_ rfl B20481 rfl rfl (s_build (f_cons rfl rfl f_nil) (l_ H6 B24577 rfl rfl (s_build (f_cons rfl rfl (f_cons rfl rfl f_nil)) (l_ H6 B24577 rfl rfl (s_build (f_cons rfl rfl (f_cons rfl rfl f_nil)) (s_bslM (f:=Loc.row) (l:=[(Loc.mk 0 m24577),(Loc.mk 1 m24577)]) rfl rfl (g_cons rfl rfl rfl (g_cons rfl rfl rfl g_nil)) (by simp only [List.map_cons,List.map_nil,Loc.row_eq]; rfl) (s_build (f_cons rfl rfl (f_cons rfl rfl (f_cons rfl rfl f_nil))) (s_build (f_cons rfl rfl (f_cons rfl rfl f_nil)) (s_build (f_cons rfl rfl f_nil) (s_bslM (f:=Frm.row) (l:=[(Frm.mk 1 0 1 [(Loc.mk 0 m24577),(Loc.mk 1 m24577)]),(Frm.mk 1 5 0 ([]:List Loc)),(Frm.mk 0 1 0 ([]:List Loc))]) rfl rfl (g_cons rfl rfl rfl (g_cons rfl rfl rfl (g_cons rfl rfl rfl g_nil))) (by simp only [List.map_cons,List.map_nil,Frm.row_eq]; rfl) (s_build (f_cons rfl rfl (f_cons rfl rfl f_nil)) (l_ H6 B24577 rfl rfl (s_build (f_cons rfl rfl (f_cons rfl rfl f_nil)) (s_bslM (f:=Dfr.row) (l:=[(Dfr.mk 2 1 false (Val.mk 0 0 [] ([]:List Val) false)),(Dfr.mk 0 0 true m24577)]) rfl rfl (g_cons rfl rfl rfl (g_cons rfl rfl rfl g_nil)) (by simp only [List.map_cons,List.map_nil,Dfr.row_eq]; rfl) (s_build (f_cons rfl rfl f_nil) (s_bslM (f:=Pan.row) (l:=[(Pan.mk 0 (Val.mk 0 0 [] ([]:List Val) false) 2)]) rfl rfl (g_cons rfl rfl rfl g_nil) (by simp only [List.map_cons,List.map_nil,Pan.row_eq]; rfl) (s_build (f_cons rfl rfl (f_cons rfl rfl (f_cons rfl rfl (f_cons rfl rfl f_nil)))) (f_ H5 (l_ rfl B20481 rfl rfl (h.elim fun c'1 e'2=>ia_ rfl rfl (by decide) e'2.1 (Rou.row_eq c'1) rfl (lf_ rfl rfl rfl (s_bslM (f:=Rou.row) (l:=[(Rou.mk 3 0 ([]:List Frm) ([]:List Dfr) ([]:List Pan)),(Rou.mk 1 0 [(Frm.mk 1 0 1 [(Loc.mk 0 m24577),(Loc.mk 1 m24577)]),(Frm.mk 1 5 0 ([]:List Loc)),(Frm.mk 0 1 0 ([]:List Loc))] [(Dfr.mk 2 1 false (Val.mk 0 0 [] ([]:List Val) false)),(Dfr.mk 0 0 true m24577)] [(Pan.mk 0 (Val.mk 0 0 [] ([]:List Val) false) 2)]),c'1]) rfl rfl (g_cons rfl rfl rfl (g_cons rfl rfl rfl (g_cons rfl rfl rfl g_nil))) (by simp only [List.map_cons,List.map_nil,Rou.row_eq]; rfl) (s_app Rou.row_len rfl rfl rfl Ab20481.1 e'2.2.1 rfl (fun o'3 ow'6 a'4 fr'5 on'7=>f_ H5 (so_ rfl B20481 rfl rfl rfl (e_ (w241_8 (m20481:=(Sta.mk m20481.outcome m20481.failing m20481.steps (m20481.routines ++ [(Rou.mk 3 0 ([]:List Frm) ([]:List Dfr) ([]:List Pan)),(Rou.mk 1 0 [(Frm.mk 1 0 1 [(Loc.mk 0 m24577),(Loc.mk 1 m24577)]),(Frm.mk 1 5 0 ([]:List Loc)),(Frm.mk 0 1 0 ([]:List Loc))] [(Dfr.mk 2 1 false (Val.mk 0 0 [] ([]:List Val) false)),(Dfr.mk 0 0 true m24577)] [(Pan.mk 0 (Val.mk 0 0 [] ([]:List Val) false) 2)]),c'1]))) hQ H1 H2 H3 H4 H5 (ApM.mk a'4 (Mine.app Ab20481.2 rfl on'7)) lk_here e'2.2.2)))))))))))))))))))))))))))))
theorem w241_6 {texts1 bads2 forms3 nones4:Bool}{m20481:Sta}{o_m20481_3:Own}{v20481:Nat}(H1:σ 1 = .b texts1)(H2:σ 2 = .b bads2)(H3:σ 3 = .b forms3)(H4:σ 4 = .b nones4)(H5:σ 5 = .p (d,20481) v20481 0)(Ab20481:ApM d st.ow o_m20481_3 m20481.routines.length)(B20481:lk st.bx (d,20481) = some (v20481,[.i .u8 m20481.outcome,.i .i64 m20481.failing,.i .i64 m20481.steps,.sl o_m20481_3 (List.map Rou.row m20481.routines)]))(h:T241_6 prog K texts1 bads2 forms3 nones4 m20481):W prog d c241_3 σ st Q:=
 sq_ (W.reg (s_build (f_cons rfl rfl (f_cons rfl rfl f_nil)) (s_alloc (so_ rfl (show lk _ (d,24577) = some (_,([.i .u8 0,.i .i64 0,.s [],.sl .full (List.map Val.row ([]:List Val)),.b false]:List AV)) from lk_here) rfl rfl rfl (e_ (w241_7 (m24577:=(Val.mk 1 1 [] ([]:List Val) false)) hQ H1 H2 H3 H4 H5 rfl Ab20481 ApM.full (lk_other rfl (lk_other rfl B20481)) lk_here h))))))
theorem w241_5 {texts1 bads2 forms3 nones4:Bool}(H1:σ 1 = .b texts1)(H2:σ 2 = .b bads2)(H3:σ 3 = .b forms3)(H4:σ 4 = .b nones4)(h:T241_5 prog K texts1 bads2 forms3 nones4):W prog d c241_4 σ st Q:=
 sq_ (W.reg (h.elim fun r'1 e'2=>s_callN sen (e'2.1) (fun st'3 hf'4=>s_alloc (so_ rfl ((hf'4.1 (d,20481) (Nat.lt_succ_self d) key_dn).trans (show lk _ (d,20481) = some (_,([.i .u8 0,.i .i64 0,.i .i64 0,.sl .full (List.map Rou.row ([]:List Rou))]:List AV)) from lk_here)) rfl rfl rfl (e_ (w241_6 hQ H1 H2 H3 H4 rfl ApM.full lk_here e'2.2))))))
theorem w241_4 {texts1 bads2 forms3:Bool}(H1:σ 1 = .b texts1)(H2:σ 2 = .b bads2)(H3:σ 3 = .b forms3)(h:T241_4 prog K texts1 bads2 forms3):W prog d c241_5 σ st Q:=
 q_ rfl (h.elim fun r'1 e'2=>ca_ (sc rfl rfl (sc rfl rfl sn)) e'2.1 (s_mvB rfl (eb_ (g:=146) rfl (fun g'3=>gy_ rfl ((e'2.2.1 g'3).elim fun r'4 e'5=>ca_ (sc rfl rfl (sc rfl rfl sn)) e'5.1 (pt_ rfl rfl (s_mvB rfl (eb_ (g:=149) rfl (fun g'6=>gy_ rfl ((e'5.2.1 g'6).elim fun r'7 e'8=>ca_ (sc rfl rfl (sc rfl rfl sn)) e'8.1 (pt_ rfl rfl (s_mvB rfl (eb_ (g:=152) rfl (fun g'9=>gy_ rfl ((e'8.2.1 g'9).elim fun r'10 e'11=>ca_ (sc rfl rfl (sc rfl rfl sn)) e'11.1 (pt_ rfl rfl (s_mvB rfl (eb_ (g:=155) rfl (fun g'12=>gy_ rfl ((e'11.2.1 g'12).elim fun r'13 e'14=>ca_ (sc rfl rfl (sc rfl rfl sn)) e'14.1 (pt_ rfl rfl (s_mvB rfl (e_ (w241_5 hQ H1 H2 H3 rfl e'14.2)))))) (fun g'12=>gn_ (b:=false) rfl rfl (pf_ rfl rfl (s_mvB rfl (e_ (w241_5 hQ H1 H2 H3 rfl (e'11.2.2 g'12))))))))))) (fun g'9=>gn_ (b:=false) rfl rfl (pf_ rfl rfl (s_mvB rfl (gn_ (b:=false) rfl rfl (pf_ rfl rfl (s_mvB rfl (e_ (w241_5 hQ H1 H2 H3 rfl (e'8.2.2 g'9)))))))))))))) (fun g'6=>gn_ (b:=false) rfl rfl (pf_ rfl rfl (s_mvB rfl (gn_ (b:=false) rfl rfl (pf_ rfl rfl (s_mvB rfl (gn_ (b:=false) rfl rfl (pf_ rfl rfl (s_mvB rfl (e_ (w241_5 hQ H1 H2 H3 rfl (e'5.2.2 g'6))))))))))))))))) (fun g'3=>gn_ (b:=false) rfl rfl (pf_ rfl rfl (s_mvB rfl (gn_ (b:=false) rfl rfl (pf_ rfl rfl (s_mvB rfl (gn_ (b:=false) rfl rfl (pf_ rfl rfl (s_mvB rfl (gn_ (b:=false) rfl rfl (pf_ rfl rfl (s_mvB rfl (e_ (w241_5 hQ H1 H2 H3 rfl (e'2.2.2 g'3))))))))))))))))))
theorem w241_3 {texts1 bads2:Bool}(H1:σ 1 = .b texts1)(H2:σ 2 = .b bads2)(h:T241_3 prog K texts1 bads2):W prog d c241_6 σ st Q:=
 q_ rfl (h.elim fun r'1 e'2=>ca_ (sc rfl rfl (sc rfl rfl sn)) e'2.1 (s_mvB rfl (eb_ (g:=91) rfl (fun g'3=>gy_ rfl ((e'2.2.1 g'3).elim fun r'4 e'5=>ca_ (sc rfl rfl (sc rfl rfl sn)) e'5.1 (pt_ rfl rfl (s_mvB rfl (eb_ (g:=94) rfl (fun g'6=>gy_ rfl ((e'5.2.1 g'6).elim fun r'7 e'8=>ca_ (sc rfl rfl (sc rfl rfl sn)) e'8.1 (pt_ rfl rfl (s_mvB rfl (eb_ (g:=97) rfl (fun g'9=>gy_ rfl ((e'8.2.1 g'9).elim fun r'10 e'11=>ca_ (sc rfl rfl (sc rfl rfl sn)) e'11.1 (pt_ rfl rfl (s_mvB rfl (eb_ (g:=100) rfl (fun g'12=>gy_ rfl ((e'11.2.1 g'12).elim fun r'13 e'14=>ca_ (sc rfl rfl (sc rfl rfl sn)) e'14.1 (pt_ rfl rfl (s_mvB rfl (eb_ (g:=103) rfl (fun g'15=>gy_ rfl ((e'14.2.1 g'15).elim fun r'16 e'17=>ca_ (sc rfl rfl (sc rfl rfl sn)) e'17.1 (pt_ rfl rfl (s_mvB rfl (eb_ (g:=106) rfl (fun g'18=>gy_ rfl ((e'17.2.1 g'18).elim fun r'19 e'20=>ca_ (sc rfl rfl (sc rfl rfl sn)) e'20.1 (pt_ rfl rfl (s_mvB rfl (eb_ (g:=109) rfl (fun g'21=>gy_ rfl ((e'20.2.1 g'21).elim fun r'22 e'23=>ca_ (sc rfl rfl (sc rfl rfl sn)) e'23.1 (pt_ rfl rfl (s_mvB rfl (eb_ (g:=112) rfl (fun g'24=>gy_ rfl ((e'23.2.1 g'24).elim fun r'25 e'26=>ca_ (sc rfl rfl (sc rfl rfl sn)) e'26.1 (pt_ rfl rfl (s_mvB rfl (eb_ (g:=115) rfl (fun g'27=>gy_ rfl ((e'26.2.1 g'27).elim fun r'28 e'29=>ca_ (sc rfl rfl (sc rfl rfl sn)) e'29.1 (pt_ rfl rfl (s_mvB rfl (eb_ (g:=118) rfl (fun g'30=>gy_ rfl ((e'29.2.1 g'30).elim fun r'31 e'32=>ca_ (sc rfl rfl (sc rfl rfl sn)) e'32.1 (pt_ rfl rfl (s_mvB rfl (eb_ (g:=121) rfl (fun g'33=>gy_ rfl ((e'32.2.1 g'33).elim fun r'34 e'35=>ca_ (sc rfl rfl (sc rfl rfl sn)) e'35.1 (pt_ rfl rfl (s_mvB rfl (eb_ (g:=124) rfl (fun g'36=>gy_ rfl ((e'35.2.1 g'36).elim fun r'37 e'38=>ca_ (sc rfl rfl (sc rfl rfl sn)) e'38.1 (pt_ rfl rfl (s_mvB rfl (eb_ (g:=127) rfl (fun g'39=>gy_ rfl ((e'38.2.1 g'39).elim fun r'40 e'41=>ca_ (sc rfl rfl (sc rfl rfl sn)) e'41.1 (pt_ rfl rfl (s_mvB rfl (eb_ (g:=130) rfl (fun g'42=>gy_ rfl ((e'41.2.1 g'42).elim fun r'43 e'44=>ca_ (sc rfl rfl (sc rfl rfl sn)) e'44.1 (pt_ rfl rfl (s_mvB rfl (eb_ (g:=133) rfl (fun g'45=>gy_ rfl ((e'44.2.1 g'45).elim fun r'46 e'47=>ca_ (sc rfl rfl (sc rfl rfl sn)) e'47.1 (pt_ rfl rfl (s_mvB rfl (eb_ (g:=136) rfl (fun g'48=>gy_ rfl ((e'47.2.1 g'48).elim fun r'49 e'50=>ca_ (sc rfl rfl (sc rfl rfl sn)) e'50.1 (pt_ rfl rfl (s_mvB rfl (eb_ (g:=139) rfl (fun g'51=>gy_ rfl ((e'50.2.1 g'51).elim fun r'52 e'53=>ca_ (sc rfl rfl (sc rfl rfl sn)) e'53.1 (pt_ rfl rfl (s_mvB rfl (eb_ (g:=142) rfl (fun g'54=>gy_ rfl ((e'53.2.1 g'54).elim fun r'55 e'56=>ca_ (sc rfl rfl (sc rfl rfl sn)) e'56.1 (pt_ rfl rfl (s_mvB rfl (e_ (w241_4 hQ H1 H2 rfl e'56.2)))))) (fun g'54=>gn_ (b:=false) rfl rfl (pf_ rfl rfl (s_mvB rfl (e_ (w241_4 hQ H1 H2 rfl (e'53.2.2 g'54))))))))))) (fun g'51=>gn_ (b:=false) rfl rfl (pf_ rfl rfl (s_mvB rfl (gn_ (b:=false) rfl rfl (pf_ rfl rfl (s_mvB rfl (e_ (w241_4 hQ H1 H2 rfl (e'50.2.2 g'51)))))))))))))) (fun g'48=>gn_ (b:=false) rfl rfl (pf_ rfl rfl (s_mvB rfl (gn_ (b:=false) rfl rfl (pf_ rfl rfl (s_mvB rfl (gn_ (b:=false) rfl rfl (pf_ rfl rfl (s_mvB rfl (e_ (w241_4 hQ H1 H2 rfl (e'47.2.2 g'48))))))))))))))))) (fun g'45=>gn_ (b:=false) rfl rfl (pf_ rfl rfl (s_mvB rfl (gn_ (b:=false) rfl rfl (pf_ rfl rfl (s_mvB rfl (gn_ (b:=false) rfl rfl (pf_ rfl rfl (s_mvB rfl (gn_ (b:=false) rfl rfl (pf_ rfl rfl (s_mvB rfl (e_ (w241_4 hQ H1 H2 rfl (e'44.2.2 g'45)))))))))))))))))))) (fun g'42=>gn_ (b:=false) rfl rfl (pf_ rfl rfl (s_mvB rfl (gn_ (b:=false) rfl rfl (pf_ rfl rfl (s_mvB rfl (gn_ (b:=false) rfl rfl (pf_ rfl rfl (s_mvB rfl (gn_ (b:=false) rfl rfl (pf_ rfl rfl (s_mvB rfl (gn_ (b:=false) rfl rfl (pf_ rfl rfl (s_mvB rfl (e_ (w241_4 hQ H1 H2 rfl (e'41.2.2 g'42))))))))))))))))))))))) (fun g'39=>gn_ (b:=false) rfl rfl (pf_ rfl rfl (s_mvB rfl (gn_ (b:=false) rfl rfl (pf_ rfl rfl (s_mvB rfl (gn_ (b:=false) rfl rfl (pf_ rfl rfl (s_mvB rfl (gn_ (b:=false) rfl rfl (pf_ rfl rfl (s_mvB rfl (gn_ (b:=false) rfl rfl (pf_ rfl rfl (s_mvB rfl (gn_ (b:=false) rfl rfl (pf_ rfl rfl (s_mvB rfl (e_ (w241_4 hQ H1 H2 rfl (e'38.2.2 g'39)))))))))))))))))))))))))) (fun g'36=>gn_ (b:=false) rfl rfl (pf_ rfl rfl (s_mvB rfl (gn_ (b:=false) rfl rfl (pf_ rfl rfl (s_mvB rfl (gn_ (b:=false) rfl rfl (pf_ rfl rfl (s_mvB rfl (gn_ (b:=false) rfl rfl (pf_ rfl rfl (s_mvB rfl (gn_ (b:=false) rfl rfl (pf_ rfl rfl (s_mvB rfl (gn_ (b:=false) rfl rfl (pf_ rfl rfl (s_mvB rfl (gn_ (b:=false) rfl rfl (pf_ rfl rfl (s_mvB rfl (e_ (w241_4 hQ H1 H2 rfl (e'35.2.2 g'36))))))))))))))))))))))))))))) (fun g'33=>gn_ (b:=false) rfl rfl (pf_ rfl rfl (s_mvB rfl (gn_ (b:=false) rfl rfl (pf_ rfl rfl (s_mvB rfl (gn_ (b:=false) rfl rfl (pf_ rfl rfl (s_mvB rfl (gn_ (b:=false) rfl rfl (pf_ rfl rfl (s_mvB rfl (gn_ (b:=false) rfl rfl (pf_ rfl rfl (s_mvB rfl (gn_ (b:=false) rfl rfl (pf_ rfl rfl (s_mvB rfl (gn_ (b:=false) rfl rfl (pf_ rfl rfl (s_mvB rfl (gn_ (b:=false) rfl rfl (pf_ rfl rfl (s_mvB rfl (e_ (w241_4 hQ H1 H2 rfl (e'32.2.2 g'33)))))))))))))))))))))))))))))))) (fun g'30=>gn_ (b:=false) rfl rfl (pf_ rfl rfl (s_mvB rfl (gn_ (b:=false) rfl rfl (pf_ rfl rfl (s_mvB rfl (gn_ (b:=false) rfl rfl (pf_ rfl rfl (s_mvB rfl (gn_ (b:=false) rfl rfl (pf_ rfl rfl (s_mvB rfl (gn_ (b:=false) rfl rfl (pf_ rfl rfl (s_mvB rfl (gn_ (b:=false) rfl rfl (pf_ rfl rfl (s_mvB rfl (gn_ (b:=false) rfl rfl (pf_ rfl rfl (s_mvB rfl (gn_ (b:=false) rfl rfl (pf_ rfl rfl (s_mvB rfl (gn_ (b:=false) rfl rfl (pf_ rfl rfl (s_mvB rfl (e_ (w241_4 hQ H1 H2 rfl (e'29.2.2 g'30))))))))))))))))))))))))))))))))))) (fun g'27=>gn_ (b:=false) rfl rfl (pf_ rfl rfl (s_mvB rfl (gn_ (b:=false) rfl rfl (pf_ rfl rfl (s_mvB rfl (gn_ (b:=false) rfl rfl (pf_ rfl rfl (s_mvB rfl (gn_ (b:=false) rfl rfl (pf_ rfl rfl (s_mvB rfl (gn_ (b:=false) rfl rfl (pf_ rfl rfl (s_mvB rfl (gn_ (b:=false) rfl rfl (pf_ rfl rfl (s_mvB rfl (gn_ (b:=false) rfl rfl (pf_ rfl rfl (s_mvB rfl (gn_ (b:=false) rfl rfl (pf_ rfl rfl (s_mvB rfl (gn_ (b:=false) rfl rfl (pf_ rfl rfl (s_mvB rfl (gn_ (b:=false) rfl rfl (pf_ rfl rfl (s_mvB rfl (e_ (w241_4 hQ H1 H2 rfl (e'26.2.2 g'27)))))))))))))))))))))))))))))))))))))) (fun g'24=>gn_ (b:=false) rfl rfl (pf_ rfl rfl (s_mvB rfl (gn_ (b:=false) rfl rfl (pf_ rfl rfl (s_mvB rfl (gn_ (b:=false) rfl rfl (pf_ rfl rfl (s_mvB rfl (gn_ (b:=false) rfl rfl (pf_ rfl rfl (s_mvB rfl (gn_ (b:=false) rfl rfl (pf_ rfl rfl (s_mvB rfl (gn_ (b:=false) rfl rfl (pf_ rfl rfl (s_mvB rfl (gn_ (b:=false) rfl rfl (pf_ rfl rfl (s_mvB rfl (gn_ (b:=false) rfl rfl (pf_ rfl rfl (s_mvB rfl (gn_ (b:=false) rfl rfl (pf_ rfl rfl (s_mvB rfl (gn_ (b:=false) rfl rfl (pf_ rfl rfl (s_mvB rfl (gn_ (b:=false) rfl rfl (pf_ rfl rfl (s_mvB rfl (e_ (w241_4 hQ H1 H2 rfl (e'23.2.2 g'24))))))))))))))))))))))))))))))))))))))))) (fun g'21=>gn_ (b:=false) rfl rfl (pf_ rfl rfl (s_mvB rfl (gn_ (b:=false) rfl rfl (pf_ rfl rfl (s_mvB rfl (gn_ (b:=false) rfl rfl (pf_ rfl rfl (s_mvB rfl (gn_ (b:=false) rfl rfl (pf_ rfl rfl (s_mvB rfl (gn_ (b:=false) rfl rfl (pf_ rfl rfl (s_mvB rfl (gn_ (b:=false) rfl rfl (pf_ rfl rfl (s_mvB rfl (gn_ (b:=false) rfl rfl (pf_ rfl rfl (s_mvB rfl (gn_ (b:=false) rfl rfl (pf_ rfl rfl (s_mvB rfl (gn_ (b:=false) rfl rfl (pf_ rfl rfl (s_mvB rfl (gn_ (b:=false) rfl rfl (pf_ rfl rfl (s_mvB rfl (gn_ (b:=false) rfl rfl (pf_ rfl rfl (s_mvB rfl (gn_ (b:=false) rfl rfl (pf_ rfl rfl (s_mvB rfl (e_ (w241_4 hQ H1 H2 rfl (e'20.2.2 g'21)))))))))))))))))))))))))))))))))))))))))))) (fun g'18=>gn_ (b:=false) rfl rfl (pf_ rfl rfl (s_mvB rfl (gn_ (b:=false) rfl rfl (pf_ rfl rfl (s_mvB rfl (gn_ (b:=false) rfl rfl (pf_ rfl rfl (s_mvB rfl (gn_ (b:=false) rfl rfl (pf_ rfl rfl (s_mvB rfl (gn_ (b:=false) rfl rfl (pf_ rfl rfl (s_mvB rfl (gn_ (b:=false) rfl rfl (pf_ rfl rfl (s_mvB rfl (gn_ (b:=false) rfl rfl (pf_ rfl rfl (s_mvB rfl (gn_ (b:=false) rfl rfl (pf_ rfl rfl (s_mvB rfl (gn_ (b:=false) rfl rfl (pf_ rfl rfl (s_mvB rfl (gn_ (b:=false) rfl rfl (pf_ rfl rfl (s_mvB rfl (gn_ (b:=false) rfl rfl (pf_ rfl rfl (s_mvB rfl (gn_ (b:=false) rfl rfl (pf_ rfl rfl (s_mvB rfl (gn_ (b:=false) rfl rfl (pf_ rfl rfl (s_mvB rfl (e_ (w241_4 hQ H1 H2 rfl (e'17.2.2 g'18))))))))))))))))))))))))))))))))))))))))))))))) (fun g'15=>gn_ (b:=false) rfl rfl (pf_ rfl rfl (s_mvB rfl (gn_ (b:=false) rfl rfl (pf_ rfl rfl (s_mvB rfl (gn_ (b:=false) rfl rfl (pf_ rfl rfl (s_mvB rfl (gn_ (b:=false) rfl rfl (pf_ rfl rfl (s_mvB rfl (gn_ (b:=false) rfl rfl (pf_ rfl rfl (s_mvB rfl (gn_ (b:=false) rfl rfl (pf_ rfl rfl (s_mvB rfl (gn_ (b:=false) rfl rfl (pf_ rfl rfl (s_mvB rfl (gn_ (b:=false) rfl rfl (pf_ rfl rfl (s_mvB rfl (gn_ (b:=false) rfl rfl (pf_ rfl rfl (s_mvB rfl (gn_ (b:=false) rfl rfl (pf_ rfl rfl (s_mvB rfl (gn_ (b:=false) rfl rfl (pf_ rfl rfl (s_mvB rfl (gn_ (b:=false) rfl rfl (pf_ rfl rfl (s_mvB rfl (gn_ (b:=false) rfl rfl (pf_ rfl rfl (s_mvB rfl (gn_ (b:=false) rfl rfl (pf_ rfl rfl (s_mvB rfl (e_ (w241_4 hQ H1 H2 rfl (e'14.2.2 g'15)))))))))))))))))))))))))))))))))))))))))))))))))) (fun g'12=>gn_ (b:=false) rfl rfl (pf_ rfl rfl (s_mvB rfl (gn_ (b:=false) rfl rfl (pf_ rfl rfl (s_mvB rfl (gn_ (b:=false) rfl rfl (pf_ rfl rfl (s_mvB rfl (gn_ (b:=false) rfl rfl (pf_ rfl rfl (s_mvB rfl (gn_ (b:=false) rfl rfl (pf_ rfl rfl (s_mvB rfl (gn_ (b:=false) rfl rfl (pf_ rfl rfl (s_mvB rfl (gn_ (b:=false) rfl rfl (pf_ rfl rfl (s_mvB rfl (gn_ (b:=false) rfl rfl (pf_ rfl rfl (s_mvB rfl (gn_ (b:=false) rfl rfl (pf_ rfl rfl (s_mvB rfl (gn_ (b:=false) rfl rfl (pf_ rfl rfl (s_mvB rfl (gn_ (b:=false) rfl rfl (pf_ rfl rfl (s_mvB rfl (gn_ (b:=false) rfl rfl (pf_ rfl rfl (s_mvB rfl (gn_ (b:=false) rfl rfl (pf_ rfl rfl (s_mvB rfl (gn_ (b:=false) rfl rfl (pf_ rfl rfl (s_mvB rfl (gn_ (b:=false) rfl rfl (pf_ rfl rfl (s_mvB rfl (e_ (w241_4 hQ H1 H2 rfl (e'11.2.2 g'12))))))))))))))))))))))))))))))))))))))))))))))))))))) (fun g'9=>gn_ (b:=false) rfl rfl (pf_ rfl rfl (s_mvB rfl (gn_ (b:=false) rfl rfl (pf_ rfl rfl (s_mvB rfl (gn_ (b:=false) rfl rfl (pf_ rfl rfl (s_mvB rfl (gn_ (b:=false) rfl rfl (pf_ rfl rfl (s_mvB rfl (gn_ (b:=false) rfl rfl (pf_ rfl rfl (s_mvB rfl (gn_ (b:=false) rfl rfl (pf_ rfl rfl (s_mvB rfl (gn_ (b:=false) rfl rfl (pf_ rfl rfl (s_mvB rfl (gn_ (b:=false) rfl rfl (pf_ rfl rfl (s_mvB rfl (gn_ (b:=false) rfl rfl (pf_ rfl rfl (s_mvB rfl (gn_ (b:=false) rfl rfl (pf_ rfl rfl (s_mvB rfl (gn_ (b:=false) rfl rfl (pf_ rfl rfl (s_mvB rfl (gn_ (b:=false) rfl rfl (pf_ rfl rfl (s_mvB rfl (gn_ (b:=false) rfl rfl (pf_ rfl rfl (s_mvB rfl (gn_ (b:=false) rfl rfl (pf_ rfl rfl (s_mvB rfl (gn_ (b:=false) rfl rfl (pf_ rfl rfl (s_mvB rfl (gn_ (b:=false) rfl rfl (pf_ rfl rfl (s_mvB rfl (e_ (w241_4 hQ H1 H2 rfl (e'8.2.2 g'9)))))))))))))))))))))))))))))))))))))))))))))))))))))))) (fun g'6=>gn_ (b:=false) rfl rfl (pf_ rfl rfl (s_mvB rfl (gn_ (b:=false) rfl rfl (pf_ rfl rfl (s_mvB rfl (gn_ (b:=false) rfl rfl (pf_ rfl rfl (s_mvB rfl (gn_ (b:=false) rfl rfl (pf_ rfl rfl (s_mvB rfl (gn_ (b:=false) rfl rfl (pf_ rfl rfl (s_mvB rfl (gn_ (b:=false) rfl rfl (pf_ rfl rfl (s_mvB rfl (gn_ (b:=false) rfl rfl (pf_ rfl rfl (s_mvB rfl (gn_ (b:=false) rfl rfl (pf_ rfl rfl (s_mvB rfl (gn_ (b:=false) rfl rfl (pf_ rfl rfl (s_mvB rfl (gn_ (b:=false) rfl rfl (pf_ rfl rfl (s_mvB rfl (gn_ (b:=false) rfl rfl (pf_ rfl rfl (s_mvB rfl (gn_ (b:=false) rfl rfl (pf_ rfl rfl (s_mvB rfl (gn_ (b:=false) rfl rfl (pf_ rfl rfl (s_mvB rfl (gn_ (b:=false) rfl rfl (pf_ rfl rfl (s_mvB rfl (gn_ (b:=false) rfl rfl (pf_ rfl rfl (s_mvB rfl (gn_ (b:=false) rfl rfl (pf_ rfl rfl (s_mvB rfl (gn_ (b:=false) rfl rfl (pf_ rfl rfl (s_mvB rfl (e_ (w241_4 hQ H1 H2 rfl (e'5.2.2 g'6))))))))))))))))))))))))))))))))))))))))))))))))))))))))))) (fun g'3=>gn_ (b:=false) rfl rfl (pf_ rfl rfl (s_mvB rfl (gn_ (b:=false) rfl rfl (pf_ rfl rfl (s_mvB rfl (gn_ (b:=false) rfl rfl (pf_ rfl rfl (s_mvB rfl (gn_ (b:=false) rfl rfl (pf_ rfl rfl (s_mvB rfl (gn_ (b:=false) rfl rfl (pf_ rfl rfl (s_mvB rfl (gn_ (b:=false) rfl rfl (pf_ rfl rfl (s_mvB rfl (gn_ (b:=false) rfl rfl (pf_ rfl rfl (s_mvB rfl (gn_ (b:=false) rfl rfl (pf_ rfl rfl (s_mvB rfl (gn_ (b:=false) rfl rfl (pf_ rfl rfl (s_mvB rfl (gn_ (b:=false) rfl rfl (pf_ rfl rfl (s_mvB rfl (gn_ (b:=false) rfl rfl (pf_ rfl rfl (s_mvB rfl (gn_ (b:=false) rfl rfl (pf_ rfl rfl (s_mvB rfl (gn_ (b:=false) rfl rfl (pf_ rfl rfl (s_mvB rfl (gn_ (b:=false) rfl rfl (pf_ rfl rfl (s_mvB rfl (gn_ (b:=false) rfl rfl (pf_ rfl rfl (s_mvB rfl (gn_ (b:=false) rfl rfl (pf_ rfl rfl (s_mvB rfl (gn_ (b:=false) rfl rfl (pf_ rfl rfl (s_mvB rfl (gn_ (b:=false) rfl rfl (pf_ rfl rfl (s_mvB rfl (e_ (w241_4 hQ H1 H2 rfl (e'2.2.2 g'3))))))))))))))))))))))))))))))))))))))))))))))))))))))))))))
set_option maxHeartbeats 2000000 in
theorem w241_2 {texts1:Bool}(H1:σ 1 = .b texts1)(h:T241_2 prog K texts1):W prog d c241_7 σ st Q:=
 q_ rfl (s_build f_nil (h.elim fun r'1 e'2=>ca_ (sc rfl rfl sn) e'2.1 (s_mvB rfl (eb_ (g:=46) rfl (fun g'3=>gy_ rfl (s_build (f_cons rfl rfl f_nil) (gy_ rfl ((e'2.2.1 g'3).elim fun r'4 e'5=>ca_ (sc rfl rfl sn) e'5.1 (pt_ rfl rfl (s_mvB rfl (eb_ (g:=50) rfl (fun g'6=>gy_ rfl (s_build (f_cons rfl rfl (f_cons rfl rfl f_nil)) (gy_ rfl ((e'5.2.1 g'6).elim fun r'7 e'8=>ca_ (sc rfl rfl sn) e'8.1 (pt_ rfl rfl (s_mvB rfl (eb_ (g:=54) rfl (fun g'9=>gy_ rfl (s_build (f_cons rfl rfl (f_cons rfl rfl f_nil)) (gy_ rfl ((e'8.2.1 g'9).elim fun r'10 e'11=>ca_ (sc rfl rfl sn) e'11.1 (pt_ rfl rfl (s_mvB rfl (eb_ (g:=58) rfl (fun g'12=>gy_ rfl (s_build (f_cons rfl rfl (f_cons rfl rfl f_nil)) (gy_ rfl ((e'11.2.1 g'12).elim fun r'13 e'14=>ca_ (sc rfl rfl sn) e'14.1 (pt_ rfl rfl (s_mvB rfl (eb_ (g:=62) rfl (fun g'15=>gy_ rfl (s_build (f_cons rfl rfl (f_cons rfl rfl f_nil)) (gy_ rfl ((e'14.2.1 g'15).elim fun r'16 e'17=>ca_ (sc rfl rfl sn) e'17.1 (pt_ rfl rfl (s_mvB rfl (eb_ (g:=66) rfl (fun g'18=>gy_ rfl (s_build (f_cons rfl rfl (f_cons rfl rfl f_nil)) (gy_ rfl ((e'17.2.1 g'18).elim fun r'19 e'20=>ca_ (sc rfl rfl sn) e'20.1 (pt_ rfl rfl (s_mvB rfl (eb_ (g:=70) rfl (fun g'21=>gy_ rfl (s_build (f_cons rfl rfl (f_cons rfl rfl f_nil)) (gy_ rfl ((e'20.2.1 g'21).elim fun r'22 e'23=>ca_ (sc rfl rfl sn) e'23.1 (pt_ rfl rfl (s_mvB rfl (eb_ (g:=74) rfl (fun g'24=>gy_ rfl (s_build (f_cons rfl rfl (f_cons rfl rfl f_nil)) (gy_ rfl ((e'23.2.1 g'24).elim fun r'25 e'26=>ca_ (sc rfl rfl sn) e'26.1 (pt_ rfl rfl (s_mvB rfl (eb_ (g:=78) rfl (fun g'27=>gy_ rfl (s_build (f_cons rfl rfl (f_cons rfl rfl f_nil)) (gy_ rfl ((e'26.2.1 g'27).elim fun r'28 e'29=>ca_ (sc rfl rfl sn) e'29.1 (pt_ rfl rfl (s_mvB rfl (eb_ (g:=82) rfl (fun g'30=>gy_ rfl (s_build (f_cons rfl rfl (f_cons rfl rfl f_nil)) (gy_ rfl ((e'29.2.1 g'30).elim fun r'31 e'32=>ca_ (sc rfl rfl sn) e'32.1 (pt_ rfl rfl (s_mvB rfl (eb_ (g:=86) rfl (fun g'33=>gy_ rfl (s_build (f_cons rfl rfl (f_cons rfl rfl f_nil)) (gy_ rfl ((e'32.2.1 g'33).elim fun r'34 e'35=>ca_ (sc rfl rfl sn) e'35.1 (pt_ rfl rfl (s_mvB rfl (e_ (w241_3 hQ H1 rfl e'35.2)))))))) (fun g'33=>gn_ (b:=false) rfl rfl (gn_ (b:=false) rfl rfl (pf_ rfl rfl (s_mvB rfl (e_ (w241_3 hQ H1 rfl (e'32.2.2 g'33)))))))))))))) (fun g'30=>gn_ (b:=false) rfl rfl (gn_ (b:=false) rfl rfl (pf_ rfl rfl (s_mvB rfl (gn_ (b:=false) rfl rfl (gn_ (b:=false) rfl rfl (pf_ rfl rfl (s_mvB rfl (e_ (w241_3 hQ H1 rfl (e'29.2.2 g'30)))))))))))))))))) (fun g'27=>gn_ (b:=false) rfl rfl (gn_ (b:=false) rfl rfl (pf_ rfl rfl (s_mvB rfl (gn_ (b:=false) rfl rfl (gn_ (b:=false) rfl rfl (pf_ rfl rfl (s_mvB rfl (gn_ (b:=false) rfl rfl (gn_ (b:=false) rfl rfl (pf_ rfl rfl (s_mvB rfl (e_ (w241_3 hQ H1 rfl (e'26.2.2 g'27)))))))))))))))))))))) (fun g'24=>gn_ (b:=false) rfl rfl (gn_ (b:=false) rfl rfl (pf_ rfl rfl (s_mvB rfl (gn_ (b:=false) rfl rfl (gn_ (b:=false) rfl rfl (pf_ rfl rfl (s_mvB rfl (gn_ (b:=false) rfl rfl (gn_ (b:=false) rfl rfl (pf_ rfl rfl (s_mvB rfl (gn_ (b:=false) rfl rfl (gn_ (b:=false) rfl rfl (pf_ rfl rfl (s_mvB rfl (e_ (w241_3 hQ H1 rfl (e'23.2.2 g'24)))))))))))))))))))))))))) (fun g'21=>gn_ (b:=false) rfl rfl (gn_ (b:=false) rfl rfl (pf_ rfl rfl (s_mvB rfl (gn_ (b:=false) rfl rfl (gn_ (b:=false) rfl rfl (pf_ rfl rfl (s_mvB rfl (gn_ (b:=false) rfl rfl (gn_ (b:=false) rfl rfl (pf_ rfl rfl (s_mvB rfl (gn_ (b:=false) rfl rfl (gn_ (b:=false) rfl rfl (pf_ rfl rfl (s_mvB rfl (gn_ (b:=false) rfl rfl (gn_ (b:=false) rfl rfl (pf_ rfl rfl (s_mvB rfl (e_ (w241_3 hQ H1 rfl (e'20.2.2 g'21)))))))))))))))))))))))))))))) (fun g'18=>gn_ (b:=false) rfl rfl (gn_ (b:=false) rfl rfl (pf_ rfl rfl (s_mvB rfl (gn_ (b:=false) rfl rfl (gn_ (b:=false) rfl rfl (pf_ rfl rfl (s_mvB rfl (gn_ (b:=false) rfl rfl (gn_ (b:=false) rfl rfl (pf_ rfl rfl (s_mvB rfl (gn_ (b:=false) rfl rfl (gn_ (b:=false) rfl rfl (pf_ rfl rfl (s_mvB rfl (gn_ (b:=false) rfl rfl (gn_ (b:=false) rfl rfl (pf_ rfl rfl (s_mvB rfl (gn_ (b:=false) rfl rfl (gn_ (b:=false) rfl rfl (pf_ rfl rfl (s_mvB rfl (e_ (w241_3 hQ H1 rfl (e'17.2.2 g'18)))))))))))))))))))))))))))))))))) (fun g'15=>gn_ (b:=false) rfl rfl (gn_ (b:=false) rfl rfl (pf_ rfl rfl (s_mvB rfl (gn_ (b:=false) rfl rfl (gn_ (b:=false) rfl rfl (pf_ rfl rfl (s_mvB rfl (gn_ (b:=false) rfl rfl (gn_ (b:=false) rfl rfl (pf_ rfl rfl (s_mvB rfl (gn_ (b:=false) rfl rfl (gn_ (b:=false) rfl rfl (pf_ rfl rfl (s_mvB rfl (gn_ (b:=false) rfl rfl (gn_ (b:=false) rfl rfl (pf_ rfl rfl (s_mvB rfl (gn_ (b:=false) rfl rfl (gn_ (b:=false) rfl rfl (pf_ rfl rfl (s_mvB rfl (gn_ (b:=false) rfl rfl (gn_ (b:=false) rfl rfl (pf_ rfl rfl (s_mvB rfl (e_ (w241_3 hQ H1 rfl (e'14.2.2 g'15)))))))))))))))))))))))))))))))))))))) (fun g'12=>gn_ (b:=false) rfl rfl (gn_ (b:=false) rfl rfl (pf_ rfl rfl (s_mvB rfl (gn_ (b:=false) rfl rfl (gn_ (b:=false) rfl rfl (pf_ rfl rfl (s_mvB rfl (gn_ (b:=false) rfl rfl (gn_ (b:=false) rfl rfl (pf_ rfl rfl (s_mvB rfl (gn_ (b:=false) rfl rfl (gn_ (b:=false) rfl rfl (pf_ rfl rfl (s_mvB rfl (gn_ (b:=false) rfl rfl (gn_ (b:=false) rfl rfl (pf_ rfl rfl (s_mvB rfl (gn_ (b:=false) rfl rfl (gn_ (b:=false) rfl rfl (pf_ rfl rfl (s_mvB rfl (gn_ (b:=false) rfl rfl (gn_ (b:=false) rfl rfl (pf_ rfl rfl (s_mvB rfl (gn_ (b:=false) rfl rfl (gn_ (b:=false) rfl rfl (pf_ rfl rfl (s_mvB rfl (e_ (w241_3 hQ H1 rfl (e'11.2.2 g'12)))))))))))))))))))))))))))))))))))))))))) (fun g'9=>gn_ (b:=false) rfl rfl (gn_ (b:=false) rfl rfl (pf_ rfl rfl (s_mvB rfl (gn_ (b:=false) rfl rfl (gn_ (b:=false) rfl rfl (pf_ rfl rfl (s_mvB rfl (gn_ (b:=false) rfl rfl (gn_ (b:=false) rfl rfl (pf_ rfl rfl (s_mvB rfl (gn_ (b:=false) rfl rfl (gn_ (b:=false) rfl rfl (pf_ rfl rfl (s_mvB rfl (gn_ (b:=false) rfl rfl (gn_ (b:=false) rfl rfl (pf_ rfl rfl (s_mvB rfl (gn_ (b:=false) rfl rfl (gn_ (b:=false) rfl rfl (pf_ rfl rfl (s_mvB rfl (gn_ (b:=false) rfl rfl (gn_ (b:=false) rfl rfl (pf_ rfl rfl (s_mvB rfl (gn_ (b:=false) rfl rfl (gn_ (b:=false) rfl rfl (pf_ rfl rfl (s_mvB rfl (gn_ (b:=false) rfl rfl (gn_ (b:=false) rfl rfl (pf_ rfl rfl (s_mvB rfl (e_ (w241_3 hQ H1 rfl (e'8.2.2 g'9)))))))))))))))))))))))))))))))))))))))))))))) (fun g'6=>gn_ (b:=false) rfl rfl (gn_ (b:=false) rfl rfl (pf_ rfl rfl (s_mvB rfl (gn_ (b:=false) rfl rfl (gn_ (b:=false) rfl rfl (pf_ rfl rfl (s_mvB rfl (gn_ (b:=false) rfl rfl (gn_ (b:=false) rfl rfl (pf_ rfl rfl (s_mvB rfl (gn_ (b:=false) rfl rfl (gn_ (b:=false) rfl rfl (pf_ rfl rfl (s_mvB rfl (gn_ (b:=false) rfl rfl (gn_ (b:=false) rfl rfl (pf_ rfl rfl (s_mvB rfl (gn_ (b:=false) rfl rfl (gn_ (b:=false) rfl rfl (pf_ rfl rfl (s_mvB rfl (gn_ (b:=false) rfl rfl (gn_ (b:=false) rfl rfl (pf_ rfl rfl (s_mvB rfl (gn_ (b:=false) rfl rfl (gn_ (b:=false) rfl rfl (pf_ rfl rfl (s_mvB rfl (gn_ (b:=false) rfl rfl (gn_ (b:=false) rfl rfl (pf_ rfl rfl (s_mvB rfl (gn_ (b:=false) rfl rfl (gn_ (b:=false) rfl rfl (pf_ rfl rfl (s_mvB rfl (e_ (w241_3 hQ H1 rfl (e'5.2.2 g'6)))))))))))))))))))))))))))))))))))))))))))))))))) (fun g'3=>gn_ (b:=false) rfl rfl (gn_ (b:=false) rfl rfl (pf_ rfl rfl (s_mvB rfl (gn_ (b:=false) rfl rfl (gn_ (b:=false) rfl rfl (pf_ rfl rfl (s_mvB rfl (gn_ (b:=false) rfl rfl (gn_ (b:=false) rfl rfl (pf_ rfl rfl (s_mvB rfl (gn_ (b:=false) rfl rfl (gn_ (b:=false) rfl rfl (pf_ rfl rfl (s_mvB rfl (gn_ (b:=false) rfl rfl (gn_ (b:=false) rfl rfl (pf_ rfl rfl (s_mvB rfl (gn_ (b:=false) rfl rfl (gn_ (b:=false) rfl rfl (pf_ rfl rfl (s_mvB rfl (gn_ (b:=false) rfl rfl (gn_ (b:=false) rfl rfl (pf_ rfl rfl (s_mvB rfl (gn_ (b:=false) rfl rfl (gn_ (b:=false) rfl rfl (pf_ rfl rfl (s_mvB rfl (gn_ (b:=false) rfl rfl (gn_ (b:=false) rfl rfl (pf_ rfl rfl (s_mvB rfl (gn_ (b:=false) rfl rfl (gn_ (b:=false) rfl rfl (pf_ rfl rfl (s_mvB rfl (gn_ (b:=false) rfl rfl (gn_ (b:=false) rfl rfl (pf_ rfl rfl (s_mvB rfl (e_ (w241_3 hQ H1 rfl (e'2.2.2 g'3)))))))))))))))))))))))))))))))))))))))))))))))))))
theorem w241_1 (h:T241_1 prog K ):W prog d c241_8 σ st Q:=
 q_ rfl (s_build (f_cons rfl rfl f_nil) (h.elim fun r'1 e'2=>ca_ (sc rfl rfl (sc rfl rfl sn)) e'2.1 (s_mvB rfl (eb_ (g:=16) rfl (fun g'3=>gy_ rfl (s_build (f_cons rfl rfl (f_cons rfl rfl f_nil)) (gy_ rfl ((e'2.2.1 g'3).elim fun r'4 e'5=>ca_ (sc rfl rfl (sc rfl rfl sn)) e'5.1 (pt_ rfl rfl (s_mvB rfl (eb_ (g:=20) rfl (fun g'6=>gy_ rfl (s_build (f_cons rfl rfl (f_cons rfl rfl (f_cons rfl rfl f_nil))) (gy_ rfl ((e'5.2.1 g'6).elim fun r'7 e'8=>ca_ (sc rfl rfl (sc rfl rfl sn)) e'8.1 (pt_ rfl rfl (s_mvB rfl (eb_ (g:=24) rfl (fun g'9=>gy_ rfl (s_build (f_cons rfl rfl f_nil) (gy_ rfl ((e'8.2.1 g'9).elim fun r'10 e'11=>ca_ (sc rfl rfl (sc rfl rfl sn)) e'11.1 (pt_ rfl rfl (s_mvB rfl (eb_ (g:=28) rfl (fun g'12=>gy_ rfl (s_build (f_cons rfl rfl (f_cons rfl rfl f_nil)) (gy_ rfl ((e'11.2.1 g'12).elim fun r'13 e'14=>ca_ (sc rfl rfl (sc rfl rfl sn)) e'14.1 (pt_ rfl rfl (s_mvB rfl (eb_ (g:=32) rfl (fun g'15=>gy_ rfl (s_build (f_cons rfl rfl (f_cons rfl rfl f_nil)) (gy_ rfl ((e'14.2.1 g'15).elim fun r'16 e'17=>ca_ (sc rfl rfl (sc rfl rfl sn)) e'17.1 (pt_ rfl rfl (s_mvB rfl (eb_ (g:=36) rfl (fun g'18=>gy_ rfl (s_build (f_cons rfl rfl f_nil) (gy_ rfl ((e'17.2.1 g'18).elim fun r'19 e'20=>ca_ (sc rfl rfl (sc rfl rfl sn)) e'20.1 (pt_ rfl rfl (s_mvB rfl (eb_ (g:=40) rfl (fun g'21=>gy_ rfl (s_build (f_cons rfl rfl (f_cons rfl rfl f_nil)) (gy_ rfl ((e'20.2.1 g'21).elim fun r'22 e'23=>ca_ (sc rfl rfl (sc rfl rfl sn)) e'23.1 (pt_ rfl rfl (s_mvB rfl (e_ (w241_2 hQ rfl e'23.2)))))))) (fun g'21=>gn_ (b:=false) rfl rfl (gn_ (b:=false) rfl rfl (pf_ rfl rfl (s_mvB rfl (e_ (w241_2 hQ rfl (e'20.2.2 g'21)))))))))))))) (fun g'18=>gn_ (b:=false) rfl rfl (gn_ (b:=false) rfl rfl (pf_ rfl rfl (s_mvB rfl (gn_ (b:=false) rfl rfl (gn_ (b:=false) rfl rfl (pf_ rfl rfl (s_mvB rfl (e_ (w241_2 hQ rfl (e'17.2.2 g'18)))))))))))))))))) (fun g'15=>gn_ (b:=false) rfl rfl (gn_ (b:=false) rfl rfl (pf_ rfl rfl (s_mvB rfl (gn_ (b:=false) rfl rfl (gn_ (b:=false) rfl rfl (pf_ rfl rfl (s_mvB rfl (gn_ (b:=false) rfl rfl (gn_ (b:=false) rfl rfl (pf_ rfl rfl (s_mvB rfl (e_ (w241_2 hQ rfl (e'14.2.2 g'15)))))))))))))))))))))) (fun g'12=>gn_ (b:=false) rfl rfl (gn_ (b:=false) rfl rfl (pf_ rfl rfl (s_mvB rfl (gn_ (b:=false) rfl rfl (gn_ (b:=false) rfl rfl (pf_ rfl rfl (s_mvB rfl (gn_ (b:=false) rfl rfl (gn_ (b:=false) rfl rfl (pf_ rfl rfl (s_mvB rfl (gn_ (b:=false) rfl rfl (gn_ (b:=false) rfl rfl (pf_ rfl rfl (s_mvB rfl (e_ (w241_2 hQ rfl (e'11.2.2 g'12)))))))))))))))))))))))))) (fun g'9=>gn_ (b:=false) rfl rfl (gn_ (b:=false) rfl rfl (pf_ rfl rfl (s_mvB rfl (gn_ (b:=false) rfl rfl (gn_ (b:=false) rfl rfl (pf_ rfl rfl (s_mvB rfl (gn_ (b:=false) rfl rfl (gn_ (b:=false) rfl rfl (pf_ rfl rfl (s_mvB rfl (gn_ (b:=false) rfl rfl (gn_ (b:=false) rfl rfl (pf_ rfl rfl (s_mvB rfl (gn_ (b:=false) rfl rfl (gn_ (b:=false) rfl rfl (pf_ rfl rfl (s_mvB rfl (e_ (w241_2 hQ rfl (e'8.2.2 g'9)))))))))))))))))))))))))))))) (fun g'6=>gn_ (b:=false) rfl rfl (gn_ (b:=false) rfl rfl (pf_ rfl rfl (s_mvB rfl (gn_ (b:=false) rfl rfl (gn_ (b:=false) rfl rfl (pf_ rfl rfl (s_mvB rfl (gn_ (b:=false) rfl rfl (gn_ (b:=false) rfl rfl (pf_ rfl rfl (s_mvB rfl (gn_ (b:=false) rfl rfl (gn_ (b:=false) rfl rfl (pf_ rfl rfl (s_mvB rfl (gn_ (b:=false) rfl rfl (gn_ (b:=false) rfl rfl (pf_ rfl rfl (s_mvB rfl (gn_ (b:=false) rfl rfl (gn_ (b:=false) rfl rfl (pf_ rfl rfl (s_mvB rfl (e_ (w241_2 hQ rfl (e'5.2.2 g'6)))))))))))))))))))))))))))))))))) (fun g'3=>gn_ (b:=false) rfl rfl (gn_ (b:=false) rfl rfl (pf_ rfl rfl (s_mvB rfl (gn_ (b:=false) rfl rfl (gn_ (b:=false) rfl rfl (pf_ rfl rfl (s_mvB rfl (gn_ (b:=false) rfl rfl (gn_ (b:=false) rfl rfl (pf_ rfl rfl (s_mvB rfl (gn_ (b:=false) rfl rfl (gn_ (b:=false) rfl rfl (pf_ rfl rfl (s_mvB rfl (gn_ (b:=false) rfl rfl (gn_ (b:=false) rfl rfl (pf_ rfl rfl (s_mvB rfl (gn_ (b:=false) rfl rfl (gn_ (b:=false) rfl rfl (pf_ rfl rfl (s_mvB rfl (gn_ (b:=false) rfl rfl (gn_ (b:=false) rfl rfl (pf_ rfl rfl (s_mvB rfl (e_ (w241_2 hQ rfl (e'2.2.2 g'3)))))))))))))))))))))))))))))))))))
theorem w241_0 (h:T241_0 prog K ):W prog d (.seq (.reg 0 r241_0) c241_8) σ st Q:=
 q_ rfl (m_ (e_ (w241_1 hQ h)))
end
theorem p241 {prog:Prog}(hf:prog.fn 241 = some pf241)  {K:Bool→Prop}(h:T241_0 prog K ) :∃res0:Bool,K res0∧Pus prog 241 [] (.b res0):=by
  obtain ⟨v,hv,res0,hk,rfl⟩:=Pus.of (K:=fun v=>∃res0:Bool,K res0∧v = .b res0) hf rfl (w241_0 (σ:=sl0 []) (fun σ st   res0 H0 hk=>⟨.b res0,by simp only [pf241,ares,aresL,H0,ares1,Option.map_some],_,rfl,res0,hk,rfl⟩)  h)
  exact ⟨res0,hk,hv⟩
end Go.AM

/- Parts of the proof. -/
namespace Go.AM
open Go Go.RowKit
def orcQ : Nat → List AV → Option AV := fun c args => if c = 257 then (match args with | [] => some (.mp wordL) | _ => none) else orcB c args
theorem orcQ_257 : orcQ 257 [] = some (.mp wordL) := rfl
theorem orcQ_48 (s : List UInt8) (c : UInt8) : orcQ 48 [.s s, .i .u8 (c.toNat : Int)] = some (.i .i64 (Lib.indexByte s c)) := by
  unfold orcQ
  rw [if_neg (by decide)]
  exact orcB_48 s c
theorem orcQ_146 (k : Key) (v : Nat) : orcQ 146 [.p k v 0] = some (.p k v 0) := rfl
theorem orcQ_105 (args : List AV) : orcQ 105 args = none := by
  unfold orcQ
  rw [if_neg (by decide)]
  exact orcB_105 args
variable {P : Program} {X : Cx}
theorem orcQ_ok {fs : List (Nat × AF)} {orc : Nat → List AV → St → Option (AV × St)} (hB : OracOk P X { fn := fnOf fs, orac := orcB, oracS := orc }) {f0 : Nat} (hf : ∀ f, X.fm f = some 257 → f = f0) (hw : ∀ w, (callFunc f0 #[]).run P w = .ok (.enter f0 #[]) w ∧ Calls P f0 #[] w (WordsR w)) :
    OracOk P X { fn := fnOf fs, orac := orcQ, oracS := orc } := by
  intro f c hfc hn args r hr G w0 st w vals d hG hR hV
  simp only [orcQ] at hr
  split at hr
  case isFalse => exact hB f c hfc hn args r hr G w0 st w vals d hG hR hV
  rename_i hc
  subst hc
  have := hf f hfc
  subst this
  split at hr
  case h_2 => cases hr
  cases hr
  have hv : vals = [] := by
    have := hV.1
    cases vals with
    | nil => rfl
    | cons => simp at this
  subst hv
  refine .inl ⟨(hw w).1, (hw w).2.mono fun e w' he => ?_⟩
  obtain ⟨b, rfl, hb, hge, hbel⟩ := he
  have hnone : ∀ l, G.M b ≠ some l := fun l h => by
    obtain ⟨es, clock, h1, _⟩ := hR.mp b l h
    have := (Array.getElem?_eq_some_iff.1 h1).1
    omega
  have hrel := hR.below hbel
  have hle : ∀ b' l, G.M b' = some l → (if b' = b then some wordL else G.M b') = some l := fun b' l h => by
    rw [if_neg (by rintro rfl; exact hnone l h)]
    exact h
  refine ⟨⟨G.H, G.ρ, G.ω, G.fm, fun b' => if b' = b then some wordL else G.M b'⟩, .mp wordL b (by show (if b = b then _ else _) = _; rw [if_pos rfl]), ⟨⟨fun _ _ _ h => h, fun _ _ _ h => h, fun _ _ _ h => h, rfl, hle⟩, hrel.setM hle fun b' l h => ?_, Nat.le_refl _, fun _ _ _ => ⟨rfl, rfl⟩, fun _ _ _ _ _ _ h => h, fun _ _ _ h => .inl h⟩⟩
  by_cases e : b' = b
  · subst e
    rw [if_pos rfl] at h
    cases h
    exact ⟨wordEs, 8, hb, wordEs_map⟩
  · rw [if_neg e] at h
    exact hrel.mp b' l h
end Go.AM

/- Parts of the proof. -/
namespace Go.AM
open Go Go.RowKit
def sA : Code → Code | .seq a _ => a | c => c
def sB : Code → Code | .seq _ b => b | c => c
def unB : Code → Code | .block _ c => c | .loop c => c | c => c
def unC : Code → Code | .cond _ c _ => c | c => c
def aA : AC → AC | .seq a _ => a | c => c
def aB : AC → AC | .seq _ b => b | c => c
def nog (ops : Array Oper) : Bool := ops.toList.all fun o => o.guard.isNone
theorem of_nog {ops : Array Oper} (h : nog ops = true) : ∀ o ∈ ops.toList, o.guard = none := fun o ho => Option.isNone_iff_eq_none.1 (List.all_eq_true.1 h o ho)
def regOps : Code → Array Oper | .region _ o _ => o | _ => #[]
def bodyOf (f : Func) : Code := f.body.getD .skip
def hndOf (h : Code) : Code :=
  .seq (.region 5 (regOps (sA h)) false) (.block 0 (.loop (.seq (.region 6 (regOps (sA (unB (unB (sB h))))) false) (.seq (.cond (.tmp 18) .skip (.exit 0)) (.block 1 (.seq (.region 7 (regOps (sA (unB (sB (sB (unB (unB (sB h)))))))) false) (.seq (.region 8 (regOps (sA (sB (unB (sB (sB (unB (unB (sB h))))))))) false) (.cond (.tmp 25) (.region 9 (regOps (unC (sB (sB (unB (sB (sB (unB (unB (sB h)))))))))) false) .skip))))))))
theorem good243 {P : Program} {X : Cx} {F : AF} {c : Code} {x1 x2 x4 x5 : AC} (hb : F.body = .seq x1 (.seq x2 (.seq x4 (.seq (.hand hw243) x5)))) (hc : c = .seq (sA c) (.seq (sA (sB c)) (.seq (sA (sB (sB c))) (.seq (hndOf (sA (sB (sB (sB c))))) (sB (sB (sB (sB c))))))))
    (h1 : cCode { X with fz := F.fz } F.nt (sA c) = some x1) (h2 : cCode { X with fz := F.fz } F.nt (sA (sB c)) = some x2) (h4 : cCode { X with fz := F.fz } F.nt (sA (sB (sB c))) = some x4) (h5 : cCode { X with fz := F.fz } F.nt (sB (sB (sB (sB c)))) = some x5)
    (hh : TTok P X.T → ∀ d, CodeOk P { X with fz := F.fz } F.nt d hw243 (hndOf (sA (sB (sB (sB c)))))) : GoodF P X F c := by
  intro hT hm C hC n d
  rw [hb, hc]
  have g1 : CodeOk P { X with fz := F.fz } F.nt d (acode C n d x1) (sA c) := code_ok (X := { X with fz := F.fz }) hT hC hm n d _ _ (Nat.lt_succ_self _) h1
  have g2 : CodeOk P { X with fz := F.fz } F.nt d (acode C n d x2) (sA (sB c)) := code_ok (X := { X with fz := F.fz }) hT hC hm n d _ _ (Nat.lt_succ_self _) h2
  have g4 : CodeOk P { X with fz := F.fz } F.nt d (acode C n d x4) (sA (sB (sB c))) := code_ok (X := { X with fz := F.fz }) hT hC hm n d _ _ (Nat.lt_succ_self _) h4
  have g5 : CodeOk P { X with fz := F.fz } F.nt d (acode C n d x5) (sB (sB (sB (sB c)))) := code_ok (X := { X with fz := F.fz }) hT hC hm n d _ _ (Nat.lt_succ_self _) h5
  have gh : CodeOk P { X with fz := F.fz } F.nt d (acode C n d (.hand hw243)) (hndOf (sA (sB (sB (sB c))))) := by
    intro σ st e σ' st' h
    exact @hh hT d σ st e σ' st' (show hw243 σ st = some (e, σ', st') from h)
  have k1 : CodeOk P { X with fz := F.fz } F.nt d (acode C n d (.seq (.hand hw243) x5)) _ := seq_ok gh g5
  have k2 : CodeOk P { X with fz := F.fz } F.nt d (acode C n d (.seq x4 (.seq (.hand hw243) x5))) _ := seq_ok g4 k1
  have k3 : CodeOk P { X with fz := F.fz } F.nt d (acode C n d (.seq x2 (.seq x4 (.seq (.hand hw243) x5)))) _ := seq_ok g2 k2
  have k4 : CodeOk P { X with fz := F.fz } F.nt d (acode C n d (.seq x1 (.seq x2 (.seq x4 (.seq (.hand hw243) x5))))) _ := seq_ok g1 k3
  intro σ st e σ' st' h
  exact k4 h
end Go.AM

/- MADE BY PROGRAM (seat2.py): the types of the program, and that its code is the machine's. -/
namespace Go.Proofs
open Go.Shelf
def Try.lays169_ren : Go.Shelf.Ren := ⟨fun | 169 => 87 | n => n, fun | 70 => 145 | 9 => 9 | 0 => 0 | 72 => 147 | 37 => 61 | 127 => 170 | 3 => 3 | 5 => 5 | n => n, fun | n => n⟩
theorem Try.lays169 : Go.Proofs.Lays.n169 Try.prog Try.lays169_ren := {
  mixed := by kernel_rfl
  f169 := Try.func87.trans (congrArg some (by kernel_rfl))
  t0 := Try.underlying0
  a0 := Try.isAgg0
  z0 := Try.sizeOf0
  v0 := Try.zeroValue0
  t3 := Try.underlying3
  a3 := Try.isAgg3
  z3 := Try.sizeOf3
  v3 := Try.zeroValue3
  t9 := Try.underlying9
  a9 := Try.isAgg9
  z9 := Try.sizeOf9
  v9 := Try.zeroValue9
  t37 := Try.underlying61
  a37 := Try.isAgg61
  z37 := Try.sizeOf61
  v37 := Try.zeroValue61
  t70 := Try.underlying145
  a70 := Try.isAgg145
  z70 := Try.sizeOf145
  v70 := Try.zeroValue145
  t72 := Try.underlying147
  a72 := Try.isAgg147
  z72 := Try.sizeOf147
  v72 := Try.zeroValue147
  t127 := Try.underlying170
  a127 := Try.isAgg170
  z127 := Try.sizeOf170
  v127 := Try.zeroValue170 }

theorem Try.extraB : Builder.Extra Try.prog Try.lays169_ren := {
  sizeBuilder := by kernel_rfl
  liesBuilder := by kernel_rfl
  t5 := Try.underlying5
  a5 := Try.isAgg5
  z5 := Try.sizeOf5
  v5 := Try.zeroValue5
  infoByte := by kernel_rfl
  cellsByte := by kernel_rfl
  sizeByte := by kernel_rfl
  neB5 := by decide }
end Go.Proofs
namespace Go.Proofs.Ytbcdfamilcmjnaa
open Go Go.AM

def tys : List (Nat × TI) := [
(2, ⟨.int .i64, 1, 8, [.i .i64 0]⟩),
  (3, ⟨.int .i64, 1, 8, [.i .i64 0]⟩),
  (4, ⟨.bool, 1, 1, [.b false]⟩),
  (5, ⟨.int .u8, 1, 1, [.i .u8 0]⟩),
  (9, ⟨.str, 1, 16, [.s []]⟩),
  (23, ⟨.st [(5, 0), (3, 1), (3, 2), (2, 3), (9, 4)], 5, 48, [.i .u8 0, .i .i64 0, .i .i64 0, .i .i64 0, .s []]⟩),
  (24, ⟨.int .i64, 1, 8, [.i .i64 0]⟩),
  (38, ⟨.sl 49, 1, 24, [.sl .full []]⟩),
  (40, ⟨.st [(5, 0), (3, 1), (3, 2), (38, 3)], 4, 48, [.i .u8 0, .i .i64 0, .i .i64 0, .sl .full []]⟩),
  (42, ⟨.sl 44, 1, 24, [.sl .full []]⟩),
  (44, ⟨.st [(5, 0), (2, 1), (9, 2), (42, 3), (4, 4)], 5, 64, [.i .u8 0, .i .i64 0, .s [], .sl .full [], .b false]⟩),
  (45, ⟨.sl 55, 1, 24, [.sl .full []]⟩),
  (46, ⟨.sl 57, 1, 24, [.sl .full []]⟩),
  (47, ⟨.sl 59, 1, 24, [.sl .full []]⟩),
  (49, ⟨.st [(5, 0), (2, 1), (45, 2), (46, 3), (47, 4)], 5, 88, [.i .u8 0, .i .i64 0, .sl .full [], .sl .full [], .sl .full []]⟩),
  (50, ⟨.int .u64, 1, 8, [.i .u64 0]⟩),
  (52, ⟨.st [(3, 0), (44, 1)], 6, 72, [.i .i64 0, .i .u8 0, .i .i64 0, .s [], .sl .full [], .b false]⟩),
  (53, ⟨.sl 52, 1, 24, [.sl .full []]⟩),
  (55, ⟨.st [(3, 0), (3, 1), (50, 2), (53, 3)], 4, 48, [.i .i64 0, .i .i64 0, .i .u64 0, .sl .full []]⟩),
  (57, ⟨.st [(3, 0), (3, 1), (4, 2), (44, 3)], 8, 88, [.i .i64 0, .i .i64 0, .b false, .i .u8 0, .i .i64 0, .s [], .sl .full [], .b false]⟩),
  (59, ⟨.st [(50, 0), (44, 1), (50, 6)], 7, 80, [.i .u64 0, .i .u8 0, .i .i64 0, .s [], .sl .full [], .b false, .i .u64 0]⟩),
  (61, ⟨.sl 5, 1, 24, [.sl .full []]⟩),
  (62, ⟨.sl 9, 1, 24, [.sl .full []]⟩),
  (65, ⟨.sl 189, 1, 24, [.sl .full []]⟩),
  (66, ⟨.sl 93, 1, 24, [.sl .full []]⟩),
  (68, ⟨.st [(65, 0), (62, 1), (66, 2)], 3, 72, [.sl .full [], .sl .full [], .sl .full []]⟩),
  (71, ⟨.mp, 1, 8, [.u]⟩),
  (89, ⟨.sl 191, 1, 24, [.sl .full []]⟩),
  (90, ⟨.sl 95, 1, 24, [.sl .full []]⟩),
  (91, ⟨.sl 193, 1, 24, [.sl .full []]⟩),
  (93, ⟨.st [(9, 0), (3, 1), (3, 2), (90, 3), (89, 4), (91, 5), (91, 6)], 7, 128, [.s [], .i .i64 0, .i .i64 0, .sl .full [], .sl .full [], .sl .full [], .sl .full []]⟩),
  (95, ⟨.st [(9, 0), (3, 1)], 2, 24, [.s [], .i .i64 0]⟩),
  (107, ⟨.ptr 109, 1, 8, [.np]⟩),
  (109, ⟨.st [(68, 0), (40, 3), (23, 7), (62, 12)], 13, 192, [.sl .full [], .sl .full [], .sl .full [], .i .u8 0, .i .i64 0, .i .i64 0, .sl .full [], .i .u8 0, .i .i64 0, .i .i64 0, .i .i64 0, .s [], .sl .full []]⟩),
  (112, ⟨.other, 1, 8, [.nf]⟩),
  (113, ⟨.arr 64 5, 64, 64, [.i .u8 0, .i .u8 0, .i .u8 0, .i .u8 0, .i .u8 0, .i .u8 0, .i .u8 0, .i .u8 0, .i .u8 0, .i .u8 0, .i .u8 0, .i .u8 0, .i .u8 0, .i .u8 0, .i .u8 0, .i .u8 0, .i .u8 0, .i .u8 0, .i .u8 0, .i .u8 0, .i .u8 0, .i .u8 0, .i .u8 0, .i .u8 0, .i .u8 0, .i .u8 0, .i .u8 0, .i .u8 0, .i .u8 0, .i .u8 0, .i .u8 0, .i .u8 0, .i .u8 0, .i .u8 0, .i .u8 0, .i .u8 0, .i .u8 0, .i .u8 0, .i .u8 0, .i .u8 0, .i .u8 0, .i .u8 0, .i .u8 0, .i .u8 0, .i .u8 0, .i .u8 0, .i .u8 0, .i .u8 0, .i .u8 0, .i .u8 0, .i .u8 0, .i .u8 0, .i .u8 0, .i .u8 0, .i .u8 0, .i .u8 0, .i .u8 0, .i .u8 0, .i .u8 0, .i .u8 0, .i .u8 0, .i .u8 0, .i .u8 0, .i .u8 0]⟩),
  (124, ⟨.other, 1, 8, [.nf]⟩),
  (135, ⟨.other, 1, 8, [.nf]⟩),
  (138, ⟨.other, 1, 8, [.nf]⟩),
  (141, ⟨.other, 1, 8, [.nf]⟩),
  (143, ⟨.arr 4 9, 4, 64, [.s [], .s [], .s [], .s []]⟩),
  (145, ⟨.ptr 147, 1, 8, [.np]⟩),
  (147, ⟨.st [(145, 0), (61, 1)], 2, 32, [.np, .sl .full []]⟩),
  (156, ⟨.other, 1, 8, [.nf]⟩),
  (159, ⟨.arr 5 5, 5, 5, [.i .u8 0, .i .u8 0, .i .u8 0, .i .u8 0, .i .u8 0]⟩),
  (165, ⟨.arr 8 9, 8, 128, [.s [], .s [], .s [], .s [], .s [], .s [], .s [], .s []]⟩),
  (167, ⟨.other, 1, 16, [.ni]⟩),
  (173, ⟨.uptr, 1, 8, [.np]⟩),
  (189, ⟨.st [(5, 0), (3, 1), (3, 2), (90, 3)], 4, 48, [.i .u8 0, .i .i64 0, .i .i64 0, .sl .full []]⟩),
  (191, ⟨.st [(5, 0), (3, 1), (3, 2), (3, 3)], 4, 32, [.i .u8 0, .i .i64 0, .i .i64 0, .i .i64 0]⟩),
  (193, ⟨.st [(3, 0), (50, 1)], 2, 16, [.i .i64 0, .i .u64 0]⟩)]
theorem ty2 : TOk Try.prog 2 (((2, ⟨.int .i64, 1, 8, [.i .i64 0]⟩) : Nat × TI).2) := TOk.of (ti := Try.t2) (by kernel_rfl) (by kernel_rfl) (by kernel_rfl) (show Try.prog.underlying 2 = some (.int .i64) from by kernel_rfl)
theorem ty3 : TOk Try.prog 3 (((3, ⟨.int .i64, 1, 8, [.i .i64 0]⟩) : Nat × TI).2) := TOk.of (ti := Try.t3) (by kernel_rfl) (by kernel_rfl) (by kernel_rfl) (show Try.prog.underlying 3 = some (.int .i64) from by kernel_rfl)
theorem ty4 : TOk Try.prog 4 (((4, ⟨.bool, 1, 1, [.b false]⟩) : Nat × TI).2) := TOk.of (ti := Try.t4) (by kernel_rfl) (by kernel_rfl) (by kernel_rfl) (show Try.prog.underlying 4 = some (.bool) from by kernel_rfl)
theorem ty5 : TOk Try.prog 5 (((5, ⟨.int .u8, 1, 1, [.i .u8 0]⟩) : Nat × TI).2) := TOk.of (ti := Try.t5) (by kernel_rfl) (by kernel_rfl) (by kernel_rfl) (show Try.prog.underlying 5 = some (.int .u8) from by kernel_rfl)
theorem ty9 : TOk Try.prog 9 (((9, ⟨.str, 1, 16, [.s []]⟩) : Nat × TI).2) := TOk.of (ti := Try.t9) (by kernel_rfl) (by kernel_rfl) (by kernel_rfl) (show Try.prog.underlying 9 = some (.string) from by kernel_rfl)
theorem ty23 : TOk Try.prog 23 (((23, ⟨.st [(5, 0), (3, 1), (3, 2), (2, 3), (9, 4)], 5, 48, [.i .u8 0, .i .i64 0, .i .i64 0, .i .i64 0, .s []]⟩) : Nat × TI).2) := TOk.of (ti := Try.t23) (by kernel_rfl) (by kernel_rfl) (by kernel_rfl) (TK.ok_st (by kernel_rfl))
theorem ty24 : TOk Try.prog 24 (((24, ⟨.int .i64, 1, 8, [.i .i64 0]⟩) : Nat × TI).2) := TOk.of (ti := Try.t24) (by kernel_rfl) (by kernel_rfl) (by kernel_rfl) (show Try.prog.underlying 24 = some (.int .i64) from by kernel_rfl)
theorem ty38 : TOk Try.prog 38 (((38, ⟨.sl 49, 1, 24, [.sl .full []]⟩) : Nat × TI).2) := TOk.of (ti := Try.t38) (by kernel_rfl) (by kernel_rfl) (by kernel_rfl) (show Try.prog.underlying 38 = some (.slice 49) from by kernel_rfl)
theorem ty40 : TOk Try.prog 40 (((40, ⟨.st [(5, 0), (3, 1), (3, 2), (38, 3)], 4, 48, [.i .u8 0, .i .i64 0, .i .i64 0, .sl .full []]⟩) : Nat × TI).2) := TOk.of (ti := Try.t40) (by kernel_rfl) (by kernel_rfl) (by kernel_rfl) (TK.ok_st (by kernel_rfl))
theorem ty42 : TOk Try.prog 42 (((42, ⟨.sl 44, 1, 24, [.sl .full []]⟩) : Nat × TI).2) := TOk.of (ti := Try.t42) (by kernel_rfl) (by kernel_rfl) (by kernel_rfl) (show Try.prog.underlying 42 = some (.slice 44) from by kernel_rfl)
theorem ty44 : TOk Try.prog 44 (((44, ⟨.st [(5, 0), (2, 1), (9, 2), (42, 3), (4, 4)], 5, 64, [.i .u8 0, .i .i64 0, .s [], .sl .full [], .b false]⟩) : Nat × TI).2) := TOk.of (ti := Try.t44) (by kernel_rfl) (by kernel_rfl) (by kernel_rfl) (TK.ok_st (by kernel_rfl))
theorem ty45 : TOk Try.prog 45 (((45, ⟨.sl 55, 1, 24, [.sl .full []]⟩) : Nat × TI).2) := TOk.of (ti := Try.t45) (by kernel_rfl) (by kernel_rfl) (by kernel_rfl) (show Try.prog.underlying 45 = some (.slice 55) from by kernel_rfl)
theorem ty46 : TOk Try.prog 46 (((46, ⟨.sl 57, 1, 24, [.sl .full []]⟩) : Nat × TI).2) := TOk.of (ti := Try.t46) (by kernel_rfl) (by kernel_rfl) (by kernel_rfl) (show Try.prog.underlying 46 = some (.slice 57) from by kernel_rfl)
theorem ty47 : TOk Try.prog 47 (((47, ⟨.sl 59, 1, 24, [.sl .full []]⟩) : Nat × TI).2) := TOk.of (ti := Try.t47) (by kernel_rfl) (by kernel_rfl) (by kernel_rfl) (show Try.prog.underlying 47 = some (.slice 59) from by kernel_rfl)
theorem ty49 : TOk Try.prog 49 (((49, ⟨.st [(5, 0), (2, 1), (45, 2), (46, 3), (47, 4)], 5, 88, [.i .u8 0, .i .i64 0, .sl .full [], .sl .full [], .sl .full []]⟩) : Nat × TI).2) := TOk.of (ti := Try.t49) (by kernel_rfl) (by kernel_rfl) (by kernel_rfl) (TK.ok_st (by kernel_rfl))
theorem ty50 : TOk Try.prog 50 (((50, ⟨.int .u64, 1, 8, [.i .u64 0]⟩) : Nat × TI).2) := TOk.of (ti := Try.t50) (by kernel_rfl) (by kernel_rfl) (by kernel_rfl) (show Try.prog.underlying 50 = some (.int .u64) from by kernel_rfl)
theorem ty52 : TOk Try.prog 52 (((52, ⟨.st [(3, 0), (44, 1)], 6, 72, [.i .i64 0, .i .u8 0, .i .i64 0, .s [], .sl .full [], .b false]⟩) : Nat × TI).2) := TOk.of (ti := Try.t52) (by kernel_rfl) (by kernel_rfl) (by kernel_rfl) (TK.ok_st (by kernel_rfl))
theorem ty53 : TOk Try.prog 53 (((53, ⟨.sl 52, 1, 24, [.sl .full []]⟩) : Nat × TI).2) := TOk.of (ti := Try.t53) (by kernel_rfl) (by kernel_rfl) (by kernel_rfl) (show Try.prog.underlying 53 = some (.slice 52) from by kernel_rfl)
theorem ty55 : TOk Try.prog 55 (((55, ⟨.st [(3, 0), (3, 1), (50, 2), (53, 3)], 4, 48, [.i .i64 0, .i .i64 0, .i .u64 0, .sl .full []]⟩) : Nat × TI).2) := TOk.of (ti := Try.t55) (by kernel_rfl) (by kernel_rfl) (by kernel_rfl) (TK.ok_st (by kernel_rfl))
theorem ty57 : TOk Try.prog 57 (((57, ⟨.st [(3, 0), (3, 1), (4, 2), (44, 3)], 8, 88, [.i .i64 0, .i .i64 0, .b false, .i .u8 0, .i .i64 0, .s [], .sl .full [], .b false]⟩) : Nat × TI).2) := TOk.of (ti := Try.t57) (by kernel_rfl) (by kernel_rfl) (by kernel_rfl) (TK.ok_st (by kernel_rfl))
theorem ty59 : TOk Try.prog 59 (((59, ⟨.st [(50, 0), (44, 1), (50, 6)], 7, 80, [.i .u64 0, .i .u8 0, .i .i64 0, .s [], .sl .full [], .b false, .i .u64 0]⟩) : Nat × TI).2) := TOk.of (ti := Try.t59) (by kernel_rfl) (by kernel_rfl) (by kernel_rfl) (TK.ok_st (by kernel_rfl))
theorem ty61 : TOk Try.prog 61 (((61, ⟨.sl 5, 1, 24, [.sl .full []]⟩) : Nat × TI).2) := TOk.of (ti := Try.t61) (by kernel_rfl) (by kernel_rfl) (by kernel_rfl) (show Try.prog.underlying 61 = some (.slice 5) from by kernel_rfl)
theorem ty62 : TOk Try.prog 62 (((62, ⟨.sl 9, 1, 24, [.sl .full []]⟩) : Nat × TI).2) := TOk.of (ti := Try.t62) (by kernel_rfl) (by kernel_rfl) (by kernel_rfl) (show Try.prog.underlying 62 = some (.slice 9) from by kernel_rfl)
theorem ty65 : TOk Try.prog 65 (((65, ⟨.sl 189, 1, 24, [.sl .full []]⟩) : Nat × TI).2) := TOk.of (ti := Try.t65) (by kernel_rfl) (by kernel_rfl) (by kernel_rfl) (show Try.prog.underlying 65 = some (.slice 189) from by kernel_rfl)
theorem ty66 : TOk Try.prog 66 (((66, ⟨.sl 93, 1, 24, [.sl .full []]⟩) : Nat × TI).2) := TOk.of (ti := Try.t66) (by kernel_rfl) (by kernel_rfl) (by kernel_rfl) (show Try.prog.underlying 66 = some (.slice 93) from by kernel_rfl)
theorem ty68 : TOk Try.prog 68 (((68, ⟨.st [(65, 0), (62, 1), (66, 2)], 3, 72, [.sl .full [], .sl .full [], .sl .full []]⟩) : Nat × TI).2) := TOk.of (ti := Try.t68) (by kernel_rfl) (by kernel_rfl) (by kernel_rfl) (TK.ok_st (by kernel_rfl))
theorem ty71 : TOk Try.prog 71 (((71, ⟨.mp, 1, 8, [.u]⟩) : Nat × TI).2) := TOk.of (ti := Try.t71) (by kernel_rfl) (by kernel_rfl) (by kernel_rfl) (Exists.intro 9 (Exists.intro 5 (And.intro (by kernel_rfl) (And.intro (by kernel_rfl) fun w => by kernel_rfl))))
theorem ty89 : TOk Try.prog 89 (((89, ⟨.sl 191, 1, 24, [.sl .full []]⟩) : Nat × TI).2) := TOk.of (ti := Try.t89) (by kernel_rfl) (by kernel_rfl) (by kernel_rfl) (show Try.prog.underlying 89 = some (.slice 191) from by kernel_rfl)
theorem ty90 : TOk Try.prog 90 (((90, ⟨.sl 95, 1, 24, [.sl .full []]⟩) : Nat × TI).2) := TOk.of (ti := Try.t90) (by kernel_rfl) (by kernel_rfl) (by kernel_rfl) (show Try.prog.underlying 90 = some (.slice 95) from by kernel_rfl)
theorem ty91 : TOk Try.prog 91 (((91, ⟨.sl 193, 1, 24, [.sl .full []]⟩) : Nat × TI).2) := TOk.of (ti := Try.t91) (by kernel_rfl) (by kernel_rfl) (by kernel_rfl) (show Try.prog.underlying 91 = some (.slice 193) from by kernel_rfl)
theorem ty93 : TOk Try.prog 93 (((93, ⟨.st [(9, 0), (3, 1), (3, 2), (90, 3), (89, 4), (91, 5), (91, 6)], 7, 128, [.s [], .i .i64 0, .i .i64 0, .sl .full [], .sl .full [], .sl .full [], .sl .full []]⟩) : Nat × TI).2) := TOk.of (ti := Try.t93) (by kernel_rfl) (by kernel_rfl) (by kernel_rfl) (TK.ok_st (by kernel_rfl))
theorem ty95 : TOk Try.prog 95 (((95, ⟨.st [(9, 0), (3, 1)], 2, 24, [.s [], .i .i64 0]⟩) : Nat × TI).2) := TOk.of (ti := Try.t95) (by kernel_rfl) (by kernel_rfl) (by kernel_rfl) (TK.ok_st (by kernel_rfl))
theorem ty107 : TOk Try.prog 107 (((107, ⟨.ptr 109, 1, 8, [.np]⟩) : Nat × TI).2) := TOk.of (ti := Try.t107) (by kernel_rfl) (by kernel_rfl) (by kernel_rfl) (And.intro (by kernel_rfl) (by kernel_rfl))
theorem ty109 : TOk Try.prog 109 (((109, ⟨.st [(68, 0), (40, 3), (23, 7), (62, 12)], 13, 192, [.sl .full [], .sl .full [], .sl .full [], .i .u8 0, .i .i64 0, .i .i64 0, .sl .full [], .i .u8 0, .i .i64 0, .i .i64 0, .i .i64 0, .s [], .sl .full []]⟩) : Nat × TI).2) := TOk.of (ti := Try.t109) (by kernel_rfl) (by kernel_rfl) (by kernel_rfl) (TK.ok_st (by kernel_rfl))
theorem ty112 : TOk Try.prog 112 (((112, ⟨.other, 1, 8, [.nf]⟩) : Nat × TI).2) := TOk.of (ti := Try.t112) (by kernel_rfl) (by kernel_rfl) (by kernel_rfl) (TK.ok_other (by kernel_rfl))
theorem ty113 : TOk Try.prog 113 (((113, ⟨.arr 64 5, 64, 64, [.i .u8 0, .i .u8 0, .i .u8 0, .i .u8 0, .i .u8 0, .i .u8 0, .i .u8 0, .i .u8 0, .i .u8 0, .i .u8 0, .i .u8 0, .i .u8 0, .i .u8 0, .i .u8 0, .i .u8 0, .i .u8 0, .i .u8 0, .i .u8 0, .i .u8 0, .i .u8 0, .i .u8 0, .i .u8 0, .i .u8 0, .i .u8 0, .i .u8 0, .i .u8 0, .i .u8 0, .i .u8 0, .i .u8 0, .i .u8 0, .i .u8 0, .i .u8 0, .i .u8 0, .i .u8 0, .i .u8 0, .i .u8 0, .i .u8 0, .i .u8 0, .i .u8 0, .i .u8 0, .i .u8 0, .i .u8 0, .i .u8 0, .i .u8 0, .i .u8 0, .i .u8 0, .i .u8 0, .i .u8 0, .i .u8 0, .i .u8 0, .i .u8 0, .i .u8 0, .i .u8 0, .i .u8 0, .i .u8 0, .i .u8 0, .i .u8 0, .i .u8 0, .i .u8 0, .i .u8 0, .i .u8 0, .i .u8 0, .i .u8 0, .i .u8 0]⟩) : Nat × TI).2) := TOk.of (ti := Try.t113) (by kernel_rfl) (by kernel_rfl) (by kernel_rfl) (show Try.prog.underlying 113 = some (.array 64 5) from by kernel_rfl)
theorem ty124 : TOk Try.prog 124 (((124, ⟨.other, 1, 8, [.nf]⟩) : Nat × TI).2) := TOk.of (ti := Try.t124) (by kernel_rfl) (by kernel_rfl) (by kernel_rfl) (TK.ok_other (by kernel_rfl))
theorem ty135 : TOk Try.prog 135 (((135, ⟨.other, 1, 8, [.nf]⟩) : Nat × TI).2) := TOk.of (ti := Try.t135) (by kernel_rfl) (by kernel_rfl) (by kernel_rfl) (TK.ok_other (by kernel_rfl))
theorem ty138 : TOk Try.prog 138 (((138, ⟨.other, 1, 8, [.nf]⟩) : Nat × TI).2) := TOk.of (ti := Try.t138) (by kernel_rfl) (by kernel_rfl) (by kernel_rfl) (TK.ok_other (by kernel_rfl))
theorem ty141 : TOk Try.prog 141 (((141, ⟨.other, 1, 8, [.nf]⟩) : Nat × TI).2) := TOk.of (ti := Try.t141) (by kernel_rfl) (by kernel_rfl) (by kernel_rfl) (TK.ok_other (by kernel_rfl))
theorem ty143 : TOk Try.prog 143 (((143, ⟨.arr 4 9, 4, 64, [.s [], .s [], .s [], .s []]⟩) : Nat × TI).2) := TOk.of (ti := Try.t143) (by kernel_rfl) (by kernel_rfl) (by kernel_rfl) (show Try.prog.underlying 143 = some (.array 4 9) from by kernel_rfl)
theorem ty145 : TOk Try.prog 145 (((145, ⟨.ptr 147, 1, 8, [.np]⟩) : Nat × TI).2) := TOk.of (ti := Try.t145) (by kernel_rfl) (by kernel_rfl) (by kernel_rfl) (And.intro (by kernel_rfl) (by kernel_rfl))
theorem ty147 : TOk Try.prog 147 (((147, ⟨.st [(145, 0), (61, 1)], 2, 32, [.np, .sl .full []]⟩) : Nat × TI).2) := TOk.of (ti := Try.t147) (by kernel_rfl) (by kernel_rfl) (by kernel_rfl) (TK.ok_st (by kernel_rfl))
theorem ty156 : TOk Try.prog 156 (((156, ⟨.other, 1, 8, [.nf]⟩) : Nat × TI).2) := TOk.of (ti := Try.t156) (by kernel_rfl) (by kernel_rfl) (by kernel_rfl) (TK.ok_other (by kernel_rfl))
theorem ty159 : TOk Try.prog 159 (((159, ⟨.arr 5 5, 5, 5, [.i .u8 0, .i .u8 0, .i .u8 0, .i .u8 0, .i .u8 0]⟩) : Nat × TI).2) := TOk.of (ti := Try.t159) (by kernel_rfl) (by kernel_rfl) (by kernel_rfl) (show Try.prog.underlying 159 = some (.array 5 5) from by kernel_rfl)
theorem ty165 : TOk Try.prog 165 (((165, ⟨.arr 8 9, 8, 128, [.s [], .s [], .s [], .s [], .s [], .s [], .s [], .s []]⟩) : Nat × TI).2) := TOk.of (ti := Try.t165) (by kernel_rfl) (by kernel_rfl) (by kernel_rfl) (show Try.prog.underlying 165 = some (.array 8 9) from by kernel_rfl)
theorem ty167 : TOk Try.prog 167 (((167, ⟨.other, 1, 16, [.ni]⟩) : Nat × TI).2) := TOk.of (ti := Try.t167) (by kernel_rfl) (by kernel_rfl) (by kernel_rfl) (TK.ok_other (by kernel_rfl))
theorem ty173 : TOk Try.prog 173 (((173, ⟨.uptr, 1, 8, [.np]⟩) : Nat × TI).2) := TOk.of (ti := Try.t173) (by kernel_rfl) (by kernel_rfl) (by kernel_rfl) (show Try.prog.underlying 173 = some (.unsafePointer) from by kernel_rfl)
theorem ty189 : TOk Try.prog 189 (((189, ⟨.st [(5, 0), (3, 1), (3, 2), (90, 3)], 4, 48, [.i .u8 0, .i .i64 0, .i .i64 0, .sl .full []]⟩) : Nat × TI).2) := TOk.of (ti := Try.t189) (by kernel_rfl) (by kernel_rfl) (by kernel_rfl) (TK.ok_st (by kernel_rfl))
theorem ty191 : TOk Try.prog 191 (((191, ⟨.st [(5, 0), (3, 1), (3, 2), (3, 3)], 4, 32, [.i .u8 0, .i .i64 0, .i .i64 0, .i .i64 0]⟩) : Nat × TI).2) := TOk.of (ti := Try.t191) (by kernel_rfl) (by kernel_rfl) (by kernel_rfl) (TK.ok_st (by kernel_rfl))
theorem ty193 : TOk Try.prog 193 (((193, ⟨.st [(3, 0), (50, 1)], 2, 16, [.i .i64 0, .i .u64 0]⟩) : Nat × TI).2) := TOk.of (ti := Try.t193) (by kernel_rfl) (by kernel_rfl) (by kernel_rfl) (TK.ok_st (by kernel_rfl))
theorem tys_ok : ∀ x ∈ tys, TOk Try.prog x.1 x.2 := by
  unfold tys
  simp only [List.mem_cons, List.not_mem_nil, or_false, forall_eq_or_imp, forall_eq]
  exact ⟨ty2, ty3, ty4, ty5, ty9, ty23, ty24, ty38, ty40, ty42, ty44, ty45, ty46, ty47, ty49, ty50, ty52, ty53, ty55, ty57, ty59, ty61, ty62, ty65, ty66, ty68, ty71, ty89, ty90, ty91, ty93, ty95, ty107, ty109, ty112, ty113, ty124, ty135, ty138, ty141, ty143, ty145, ty147, ty156, ty159, ty165, ty167, ty173, ty189, ty191, ty193⟩
def fms : List (Nat × Nat) := [(2, 2), (3, 240), (4, 241), (5, 242), (6, 243), (7, 244), (8, 245), (9, 246), (10, 247), (11, 248), (12, 249), (13, 250), (14, 251), (15, 252), (16, 253), (17, 254), (18, 255), (19, 256), (20, 257), (21, 258), (22, 15), (23, 11), (24, 259), (25, 260), (26, 261), (27, 262), (28, 263), (29, 22), (30, 26), (31, 264), (32, 29), (33, 34), (34, 30), (35, 265), (36, 16), (37, 31), (38, 266), (39, 267), (40, 21), (41, 25), (42, 38), (43, 40), (44, 213), (45, 268), (46, 269), (47, 270), (48, 271), (49, 272), (50, 273), (51, 274), (52, 275), (53, 35), (54, 41), (55, 197), (56, 36), (57, 37), (58, 39), (59, 44), (60, 224), (61, 225), (62, 219), (63, 207), (64, 276), (65, 72), (66, 47), (68, 199), (69, 200), (70, 42), (71, 43), (72, 45), (73, 236), (74, 227), (75, 228), (76, 86), (77, 229), (78, 230), (79, 231), (80, 232), (81, 233), (82, 158), (83, 220), (84, 216), (85, 76), (86, 104), (87, 105), (88, 48), (89, 201), (90, 46), (91, 237), (92, 122), (93, 123), (94, 238), (95, 239), (96, 183), (97, 82), (98, 234), (99, 154), (100, 109), (101, 126), (102, 144), (103, 111), (104, 112), (105, 113), (106, 178), (107, 145), (108, 146), (1000000000000, 1000000147), (1000000000001, 1000000005), (1000000000003, 1000000109)]
def X : Cx := ⟨tabOf tys, fmOf fms, fun c => [30, 89, 104, 105, 107, 115, 116, 117, 120, 122, 123, 126, 128, 129, 130, 131, 139, 140, 144, 145, 146, 184, 217, 224, 225, 227, 228, 229, 230, 232, 233, 236, 237, 238, 239, 252, 268, 269, 270, 271, 272, 273, 274, 275, 276].contains c, []⟩
theorem ok42 : FnOk Try.prog X 70 pf42 := FnOk.of Try.func70 (by kernel_rfl) (by kernel_rfl) (by kernel_rfl) (by kernel_rfl) (by kernel_rfl)
theorem ok46 : FnOk Try.prog X 90 pf46 := FnOk.of Try.func90 (by kernel_rfl) (by kernel_rfl) (by kernel_rfl) (by kernel_rfl) (by kernel_rfl)
theorem ok36 : FnOk Try.prog X 56 pf36 := FnOk.of Try.func56 (by kernel_rfl) (by kernel_rfl) (by kernel_rfl) (by kernel_rfl) (by kernel_rfl)
theorem ok43 : FnOk Try.prog X 71 pf43 := FnOk.of Try.func71 (by kernel_rfl) (by kernel_rfl) (by kernel_rfl) (by kernel_rfl) (by kernel_rfl)
theorem ok47 : FnOk Try.prog X 66 pf47 := FnOk.of Try.func66 (by kernel_rfl) (by kernel_rfl) (by kernel_rfl) (by kernel_rfl) (by kernel_rfl)
theorem ok11 : FnOk Try.prog X 23 pf11 := FnOk.of Try.func23 (by kernel_rfl) (by kernel_rfl) (by kernel_rfl) (by kernel_rfl) (by kernel_rfl)
theorem ok15 : FnOk Try.prog X 22 pf15 := FnOk.of Try.func22 (by kernel_rfl) (by kernel_rfl) (by kernel_rfl) (by kernel_rfl) (by kernel_rfl)
theorem ok21 : FnOk Try.prog X 40 pf21 := FnOk.of Try.func40 (by kernel_rfl) (by kernel_rfl) (by kernel_rfl) (by kernel_rfl) (by kernel_rfl)
theorem ok25 : FnOk Try.prog X 41 pf25 := FnOk.of Try.func41 (by kernel_rfl) (by kernel_rfl) (by kernel_rfl) (by kernel_rfl) (by kernel_rfl)
theorem ok30 : FnOk Try.prog X 34 pf30 := FnOk.of Try.func34 (by kernel_rfl) (by kernel_rfl) (by kernel_rfl) (by kernel_rfl) (by kernel_rfl)
theorem ok34 : FnOk Try.prog X 33 pf34 := FnOk.of Try.func33 (by kernel_rfl) (by kernel_rfl) (by kernel_rfl) (by kernel_rfl) (by kernel_rfl)
theorem ok37 : FnOk Try.prog X 57 pf37 := FnOk.of Try.func57 (by kernel_rfl) (by kernel_rfl) (by kernel_rfl) (by kernel_rfl) (by kernel_rfl)
theorem ok39 : FnOk Try.prog X 58 pf39 := FnOk.of Try.func58 (by kernel_rfl) (by kernel_rfl) (by kernel_rfl) (by kernel_rfl) (by kernel_rfl)
theorem ok45 : FnOk Try.prog X 72 pf45 := FnOk.of Try.func72 (by kernel_rfl) (by kernel_rfl) (by kernel_rfl) (by kernel_rfl) (by kernel_rfl)
theorem ok29 : FnOk Try.prog X 32 pf29 := FnOk.of Try.func32 (by kernel_rfl) (by kernel_rfl) (by kernel_rfl) (by kernel_rfl) (by kernel_rfl)
theorem ok197 : FnOk Try.prog X 55 pf197 := FnOk.of Try.func55 (by kernel_rfl) (by kernel_rfl) (by kernel_rfl) (by kernel_rfl) (by kernel_rfl)

theorem words_enter (w : World) : (callFunc 20 #[]).run Try.prog w = .ok (.enter 20 #[]) w ∧ Calls Try.prog 20 #[] w (WordsR w) := ⟨callFunc_enter Try.func20 (by kernel_rfl) (code := .seq (.region 0 (regOps (sA (bodyOf Try.f20))) false) (.seq (.region 1 (regOps (sA (sB (bodyOf Try.f20)))) false) .ret)) (by kernel_rfl) #[], words_calls Try.func20 (ops0 := regOps (sA (bodyOf Try.f20))) (ops1 := regOps (sA (sB (bodyOf Try.f20)))) (by kernel_rfl) (by kernel_rfl) (by kernel_rfl) (show Try.prog.underlying 71 = some (.map 9 5) from by kernel_rfl) (show Try.prog.underlying 9 = some .string from by kernel_rfl) ⟨by kernel_rfl, of_nog (by kernel_rfl)⟩ ⟨by kernel_rfl, of_nog (by kernel_rfl)⟩ w⟩
theorem good243 : GoodF Try.prog X pf243 (bodyOf Try.f6) := Go.AM.good243 (x1 := aA b243) (x2 := aA (aB b243)) (x4 := aA (aB (aB b243))) (x5 := aB (aB (aB (aB b243)))) rfl (by kernel_rfl) (by kernel_rfl) (by kernel_rfl) (by kernel_rfl) (by kernel_rfl) fun hT d =>
  range_hand (fw := 20) (tm := 71) (ts := 23) (t5 := 5) (k := 9) (e := 5) (Nat.le_of_ble_eq_true rfl) (show Try.prog.underlying 71 = some (.map 9 5) from by kernel_rfl) hT (ty23 : TOk Try.prog 23 _).kind rfl rfl rfl rfl words_enter ⟨by kernel_rfl, of_nog (by kernel_rfl)⟩ ⟨by kernel_rfl, of_nog (by kernel_rfl)⟩ ⟨by kernel_rfl, of_nog (by kernel_rfl)⟩ ⟨by kernel_rfl, of_nog (by kernel_rfl)⟩ ⟨by kernel_rfl, of_nog (by kernel_rfl)⟩
theorem ok243 : FnOk Try.prog X 6 pf243 := FnOk.ofG Try.func6 (by kernel_rfl) (by kernel_rfl) good243 (by kernel_rfl) (by kernel_rfl) (by kernel_rfl)
theorem ok245 : FnOk Try.prog X 8 pf245 := FnOk.of Try.func8 (by kernel_rfl) (by kernel_rfl) (by kernel_rfl) (by kernel_rfl) (by kernel_rfl)
theorem ok247 : FnOk Try.prog X 10 pf247 := FnOk.of Try.func10 (by kernel_rfl) (by kernel_rfl) (by kernel_rfl) (by kernel_rfl) (by kernel_rfl)
theorem ok258 : FnOk Try.prog X 21 pf258 := FnOk.of Try.func21 (by kernel_rfl) (by kernel_rfl) (by kernel_rfl) (by kernel_rfl) (by kernel_rfl)
theorem ok260 : FnOk Try.prog X 25 pf260 := FnOk.of Try.func25 (by kernel_rfl) (by kernel_rfl) (by kernel_rfl) (by kernel_rfl) (by kernel_rfl)
theorem ok261 : FnOk Try.prog X 26 pf261 := FnOk.of Try.func26 (by kernel_rfl) (by kernel_rfl) (by kernel_rfl) (by kernel_rfl) (by kernel_rfl)
theorem ok266 : FnOk Try.prog X 38 pf266 := FnOk.of Try.func38 (by kernel_rfl) (by kernel_rfl) (by kernel_rfl) (by kernel_rfl) (by kernel_rfl)
theorem ok267 : FnOk Try.prog X 39 pf267 := FnOk.of Try.func39 (by kernel_rfl) (by kernel_rfl) (by kernel_rfl) (by kernel_rfl) (by kernel_rfl)
theorem ok145 : FnOk Try.prog X 107 pf145 := FnOk.of Try.func107 (by kernel_rfl) (by kernel_rfl) (by kernel_rfl) (by kernel_rfl) (by kernel_rfl)
theorem ok126 : FnOk Try.prog X 101 pf126 := FnOk.of Try.func101 (by kernel_rfl) (by kernel_rfl) (by kernel_rfl) (by kernel_rfl) (by kernel_rfl)
theorem ok72 : FnOk Try.prog X 65 pf72 := FnOk.of Try.func65 (by kernel_rfl) (by kernel_rfl) (by kernel_rfl) (by kernel_rfl) (by kernel_rfl)
theorem ok76 : FnOk Try.prog X 85 pf76 := FnOk.of Try.func85 (by kernel_rfl) (by kernel_rfl) (by kernel_rfl) (by kernel_rfl) (by kernel_rfl)
theorem ok104 : FnOk Try.prog X 86 pf104 := FnOk.of Try.func86 (by kernel_rfl) (by kernel_rfl) (by kernel_rfl) (by kernel_rfl) (by kernel_rfl)
theorem ok109 : FnOk Try.prog X 100 pf109 := FnOk.of Try.func100 (by kernel_rfl) (by kernel_rfl) (by kernel_rfl) (by kernel_rfl) (by kernel_rfl)
theorem ok154 : FnOk Try.prog X 99 pf154 := FnOk.of Try.func99 (by kernel_rfl) (by kernel_rfl) (by kernel_rfl) (by kernel_rfl) (by kernel_rfl)
theorem ok158 : FnOk Try.prog X 82 pf158 := FnOk.of Try.func82 (by kernel_rfl) (by kernel_rfl) (by kernel_rfl) (by kernel_rfl) (by kernel_rfl)
theorem ok178 : FnOk Try.prog X 106 pf178 := FnOk.of Try.func106 (by kernel_rfl) (by kernel_rfl) (by kernel_rfl) (by kernel_rfl) (by kernel_rfl)
theorem ok183 : FnOk Try.prog X 96 pf183 := FnOk.of Try.func96 (by kernel_rfl) (by kernel_rfl) (by kernel_rfl) (by kernel_rfl) (by kernel_rfl)
theorem ok82 : FnOk Try.prog X 97 pf82 := FnOk.of Try.func97 (by kernel_rfl) (by kernel_rfl) (by kernel_rfl) (by kernel_rfl) (by kernel_rfl)
theorem ok86 : FnOk Try.prog X 76 pf86 := FnOk.of Try.func76 (by kernel_rfl) (by kernel_rfl) (by kernel_rfl) (by kernel_rfl) (by kernel_rfl)
theorem ok111 : FnOk Try.prog X 103 pf111 := FnOk.of Try.func103 (by kernel_rfl) (by kernel_rfl) (by kernel_rfl) (by kernel_rfl) (by kernel_rfl)
theorem ok112 : FnOk Try.prog X 104 pf112 := FnOk.of Try.func104 (by kernel_rfl) (by kernel_rfl) (by kernel_rfl) (by kernel_rfl) (by kernel_rfl)
theorem ok113 : FnOk Try.prog X 105 pf113 := FnOk.of Try.func105 (by kernel_rfl) (by kernel_rfl) (by kernel_rfl) (by kernel_rfl) (by kernel_rfl)
theorem ok122 : FnOk Try.prog X 92 pf122 := FnOk.of Try.func92 (by kernel_rfl) (by kernel_rfl) (by kernel_rfl) (by kernel_rfl) (by kernel_rfl)
theorem ok123 : FnOk Try.prog X 93 pf123 := FnOk.of Try.func93 (by kernel_rfl) (by kernel_rfl) (by kernel_rfl) (by kernel_rfl) (by kernel_rfl)
theorem ok144 : FnOk Try.prog X 102 pf144 := FnOk.of Try.func102 (by kernel_rfl) (by kernel_rfl) (by kernel_rfl) (by kernel_rfl) (by kernel_rfl)
theorem ok207 : FnOk Try.prog X 63 pf207 := FnOk.of Try.func63 (by kernel_rfl) (by kernel_rfl) (by kernel_rfl) (by kernel_rfl) (by kernel_rfl)
theorem ok213 : FnOk Try.prog X 44 pf213 := FnOk.of Try.func44 (by kernel_rfl) (by kernel_rfl) (by kernel_rfl) (by kernel_rfl) (by kernel_rfl)
theorem ok216 : FnOk Try.prog X 84 pf216 := FnOk.of Try.func84 (by kernel_rfl) (by kernel_rfl) (by kernel_rfl) (by kernel_rfl) (by kernel_rfl)
theorem ok219 : FnOk Try.prog X 62 pf219 := FnOk.of Try.func62 (by kernel_rfl) (by kernel_rfl) (by kernel_rfl) (by kernel_rfl) (by kernel_rfl)
theorem ok220 : FnOk Try.prog X 83 pf220 := FnOk.of Try.func83 (by kernel_rfl) (by kernel_rfl) (by kernel_rfl) (by kernel_rfl) (by kernel_rfl)
theorem ok224 : FnOk Try.prog X 60 pf224 := FnOk.of Try.func60 (by kernel_rfl) (by kernel_rfl) (by kernel_rfl) (by kernel_rfl) (by kernel_rfl)
theorem ok225 : FnOk Try.prog X 61 pf225 := FnOk.of Try.func61 (by kernel_rfl) (by kernel_rfl) (by kernel_rfl) (by kernel_rfl) (by kernel_rfl)
theorem ok227 : FnOk Try.prog X 74 pf227 := FnOk.of Try.func74 (by kernel_rfl) (by kernel_rfl) (by kernel_rfl) (by kernel_rfl) (by kernel_rfl)
theorem ok228 : FnOk Try.prog X 75 pf228 := FnOk.of Try.func75 (by kernel_rfl) (by kernel_rfl) (by kernel_rfl) (by kernel_rfl) (by kernel_rfl)
theorem ok229 : FnOk Try.prog X 77 pf229 := FnOk.of Try.func77 (by kernel_rfl) (by kernel_rfl) (by kernel_rfl) (by kernel_rfl) (by kernel_rfl)
theorem ok230 : FnOk Try.prog X 78 pf230 := FnOk.of Try.func78 (by kernel_rfl) (by kernel_rfl) (by kernel_rfl) (by kernel_rfl) (by kernel_rfl)
theorem ok231 : FnOk Try.prog X 79 pf231 := FnOk.of Try.func79 (by kernel_rfl) (by kernel_rfl) (by kernel_rfl) (by kernel_rfl) (by kernel_rfl)
theorem ok232 : FnOk Try.prog X 80 pf232 := FnOk.of Try.func80 (by kernel_rfl) (by kernel_rfl) (by kernel_rfl) (by kernel_rfl) (by kernel_rfl)
theorem ok233 : FnOk Try.prog X 81 pf233 := FnOk.of Try.func81 (by kernel_rfl) (by kernel_rfl) (by kernel_rfl) (by kernel_rfl) (by kernel_rfl)
theorem ok234 : FnOk Try.prog X 98 pf234 := FnOk.of Try.func98 (by kernel_rfl) (by kernel_rfl) (by kernel_rfl) (by kernel_rfl) (by kernel_rfl)
theorem ok236 : FnOk Try.prog X 73 pf236 := FnOk.of Try.func73 (by kernel_rfl) (by kernel_rfl) (by kernel_rfl) (by kernel_rfl) (by kernel_rfl)
theorem ok237 : FnOk Try.prog X 91 pf237 := FnOk.of Try.func91 (by kernel_rfl) (by kernel_rfl) (by kernel_rfl) (by kernel_rfl) (by kernel_rfl)
theorem ok238 : FnOk Try.prog X 94 pf238 := FnOk.of Try.func94 (by kernel_rfl) (by kernel_rfl) (by kernel_rfl) (by kernel_rfl) (by kernel_rfl)
theorem ok239 : FnOk Try.prog X 95 pf239 := FnOk.of Try.func95 (by kernel_rfl) (by kernel_rfl) (by kernel_rfl) (by kernel_rfl) (by kernel_rfl)
theorem ok264 : FnOk Try.prog X 31 pf264 := FnOk.of Try.func31 (by kernel_rfl) (by kernel_rfl) (by kernel_rfl) (by kernel_rfl) (by kernel_rfl)
theorem ok268 : FnOk Try.prog X 45 pf268 := FnOk.of Try.func45 (by kernel_rfl) (by kernel_rfl) (by kernel_rfl) (by kernel_rfl) (by kernel_rfl)
theorem ok269 : FnOk Try.prog X 46 pf269 := FnOk.of Try.func46 (by kernel_rfl) (by kernel_rfl) (by kernel_rfl) (by kernel_rfl) (by kernel_rfl)
theorem ok270 : FnOk Try.prog X 47 pf270 := FnOk.of Try.func47 (by kernel_rfl) (by kernel_rfl) (by kernel_rfl) (by kernel_rfl) (by kernel_rfl)
theorem ok271 : FnOk Try.prog X 48 pf271 := FnOk.of Try.func48 (by kernel_rfl) (by kernel_rfl) (by kernel_rfl) (by kernel_rfl) (by kernel_rfl)
theorem ok272 : FnOk Try.prog X 49 pf272 := FnOk.of Try.func49 (by kernel_rfl) (by kernel_rfl) (by kernel_rfl) (by kernel_rfl) (by kernel_rfl)
theorem ok273 : FnOk Try.prog X 50 pf273 := FnOk.of Try.func50 (by kernel_rfl) (by kernel_rfl) (by kernel_rfl) (by kernel_rfl) (by kernel_rfl)
theorem ok274 : FnOk Try.prog X 51 pf274 := FnOk.of Try.func51 (by kernel_rfl) (by kernel_rfl) (by kernel_rfl) (by kernel_rfl) (by kernel_rfl)
theorem ok275 : FnOk Try.prog X 52 pf275 := FnOk.of Try.func52 (by kernel_rfl) (by kernel_rfl) (by kernel_rfl) (by kernel_rfl) (by kernel_rfl)
theorem ok276 : FnOk Try.prog X 64 pf276 := FnOk.of Try.func64 (by kernel_rfl) (by kernel_rfl) (by kernel_rfl) (by kernel_rfl) (by kernel_rfl)
theorem ok249 : FnOk Try.prog X 12 pf249 := FnOk.of Try.func12 (by kernel_rfl) (by kernel_rfl) (by kernel_rfl) (by kernel_rfl) (by kernel_rfl)
theorem ok250 : FnOk Try.prog X 13 pf250 := FnOk.of Try.func13 (by kernel_rfl) (by kernel_rfl) (by kernel_rfl) (by kernel_rfl) (by kernel_rfl)
theorem ok251 : FnOk Try.prog X 14 pf251 := FnOk.of Try.func14 (by kernel_rfl) (by kernel_rfl) (by kernel_rfl) (by kernel_rfl) (by kernel_rfl)
theorem ok252 : FnOk Try.prog X 15 pf252 := FnOk.of Try.func15 (by kernel_rfl) (by kernel_rfl) (by kernel_rfl) (by kernel_rfl) (by kernel_rfl)
theorem ok253 : FnOk Try.prog X 16 pf253 := FnOk.of Try.func16 (by kernel_rfl) (by kernel_rfl) (by kernel_rfl) (by kernel_rfl) (by kernel_rfl)
theorem ok254 : FnOk Try.prog X 17 pf254 := FnOk.of Try.func17 (by kernel_rfl) (by kernel_rfl) (by kernel_rfl) (by kernel_rfl) (by kernel_rfl)
theorem ok255 : FnOk Try.prog X 18 pf255 := FnOk.of Try.func18 (by kernel_rfl) (by kernel_rfl) (by kernel_rfl) (by kernel_rfl) (by kernel_rfl)
theorem ok256 : FnOk Try.prog X 19 pf256 := FnOk.of Try.func19 (by kernel_rfl) (by kernel_rfl) (by kernel_rfl) (by kernel_rfl) (by kernel_rfl)
theorem tyVal : TyVal X.T 44 := ⟨5, 2, 9, 42, 4, ⟨_, rfl, rfl, rfl⟩, ⟨_, rfl, rfl, rfl⟩, ⟨_, rfl, rfl, rfl⟩, ⟨_, rfl, rfl, rfl⟩, ⟨_, rfl, rfl, rfl⟩, ⟨_, rfl, rfl, rfl⟩⟩
theorem tyFld : TyFld X.T 95 := ⟨9, 3, ⟨_, rfl, rfl, rfl⟩, ⟨_, rfl, rfl, rfl⟩, ⟨_, rfl, rfl, rfl⟩⟩
theorem tyIns : TyIns X.T 191 := ⟨5, 3, 3, 3, ⟨_, rfl, rfl, rfl⟩, ⟨_, rfl, rfl, rfl⟩, ⟨_, rfl, rfl, rfl⟩, ⟨_, rfl, rfl, rfl⟩, ⟨_, rfl, rfl, rfl⟩⟩
theorem tyRnn : TyRnn X.T 193 := ⟨3, 50, ⟨_, rfl, rfl, rfl⟩, ⟨_, rfl, rfl, rfl⟩, ⟨_, rfl, rfl, rfl⟩⟩
theorem tyTyp : TyTyp X.T 189 := ⟨5, 3, 3, 90, 95, ⟨_, rfl, rfl, rfl⟩, ⟨_, rfl, rfl, rfl⟩, ⟨_, rfl, rfl, rfl⟩, ⟨_, rfl, rfl, rfl⟩, ⟨_, rfl, rfl, rfl⟩, tyFld⟩
theorem tyFun : TyFun X.T 93 := ⟨9, 3, 3, 90, 89, 91, 91, 95, 191, 193, 193, ⟨_, rfl, rfl, rfl⟩, ⟨_, rfl, rfl, rfl⟩, ⟨_, rfl, rfl, rfl⟩, ⟨_, rfl, rfl, rfl⟩, ⟨_, rfl, rfl, rfl⟩, tyFld, ⟨_, rfl, rfl, rfl⟩, tyIns, ⟨_, rfl, rfl, rfl⟩, tyRnn, ⟨_, rfl, rfl, rfl⟩, tyRnn⟩
theorem tyImg : TyImg X.T 68 := ⟨65, 62, 66, 189, 9, 93, ⟨_, rfl, rfl, rfl⟩, ⟨_, rfl, rfl, rfl⟩, tyTyp, ⟨_, rfl, rfl, rfl⟩, ⟨_, rfl, rfl, rfl⟩, ⟨_, rfl, rfl, rfl⟩, tyFun⟩
theorem tyLoc : TyLoc X.T 52 := ⟨3, 44, ⟨_, rfl, rfl, rfl⟩, ⟨_, rfl, rfl, rfl⟩, tyVal⟩
theorem tyFrm : TyFrm X.T 55 := ⟨3, 3, 50, 53, 52, ⟨_, rfl, rfl, rfl⟩, ⟨_, rfl, rfl, rfl⟩, ⟨_, rfl, rfl, rfl⟩, ⟨_, rfl, rfl, rfl⟩, ⟨_, rfl, rfl, rfl⟩, tyLoc⟩
theorem tyPan : TyPan X.T 59 := ⟨50, 44, 50, ⟨_, rfl, rfl, rfl⟩, ⟨_, rfl, rfl, rfl⟩, tyVal, ⟨_, rfl, rfl, rfl⟩⟩
theorem tyDfr : TyDfr X.T 57 := ⟨3, 3, 4, 44, ⟨_, rfl, rfl, rfl⟩, ⟨_, rfl, rfl, rfl⟩, ⟨_, rfl, rfl, rfl⟩, ⟨_, rfl, rfl, rfl⟩, tyVal⟩
theorem tyRou : TyRou X.T 49 := ⟨5, 2, 45, 46, 47, 55, 57, 59, ⟨_, rfl, rfl, rfl⟩, ⟨_, rfl, rfl, rfl⟩, ⟨_, rfl, rfl, rfl⟩, ⟨_, rfl, rfl, rfl⟩, tyFrm, ⟨_, rfl, rfl, rfl⟩, tyDfr, ⟨_, rfl, rfl, rfl⟩, tyPan⟩
theorem tySta : TySta X.T 40 := ⟨5, 3, 3, 38, 49, ⟨_, rfl, rfl, rfl⟩, ⟨_, rfl, rfl, rfl⟩, ⟨_, rfl, rfl, rfl⟩, ⟨_, rfl, rfl, rfl⟩, ⟨_, rfl, rfl, rfl⟩, tyRou⟩
theorem tyQry : TyQry X.T 23 := ⟨5, 3, 3, 2, 9, ⟨_, rfl, rfl, rfl⟩, ⟨_, rfl, rfl, rfl⟩, ⟨_, rfl, rfl, rfl⟩, ⟨_, rfl, rfl, rfl⟩, ⟨_, rfl, rfl, rfl⟩, ⟨_, rfl, rfl, rfl⟩⟩
end Go.Proofs.Ytbcdfamilcmjnaa

/- Parts of the proof. -/
namespace Go.AM
open Go
structure Has03 (prog : Prog) : Prop where
  f42 : prog.fn 42 = some pf42
  f46 : prog.fn 46 = some pf46
  f36 : prog.fn 36 = some pf36
  f43 : prog.fn 43 = some pf43
  f47 : prog.fn 47 = some pf47
  f11 : prog.fn 11 = some pf11
  f15 : prog.fn 15 = some pf15
  f21 : prog.fn 21 = some pf21
  f25 : prog.fn 25 = some pf25
  f30 : prog.fn 30 = some pf30
  f34 : prog.fn 34 = some pf34
  f37 : prog.fn 37 = some pf37
  f39 : prog.fn 39 = some pf39
  f45 : prog.fn 45 = some pf45
  f29 : prog.fn 29 = some pf29
  f48 : prog.fn 48 = none
  o48 : ∀ (s : Bytes) (c : UInt8), prog.orac 48 [.s s, .i .u8 (c.toNat : Int)] = some (.i .i64 (Lib.indexByte s c))
section
variable {prog : Prog} (H : Has03 prog)
include H
theorem c30 {s b : Bytes} (hs : s.length ≤ 10000000) (hb : b.length ≤ 1000000000) : PuA prog 30 (b.map row8) [.s s] ((b ++ quo s).map row8) := by
  refine PuAK.to ?_
  have hp := p30 H.f30 (b0 := b) (s1 := s) (K := fun x => x = b ++ quo s) (by
    unfold T30_0 T30_1
    refine ⟨⟨by simp only [List.length_cons, List.length_nil, maxBytes_eq]; omega, by simp only [List.length_cons, List.length_nil, maxBytes_eq]; omega⟩, fun P hP => ?_⟩
    refine loop_up (fun i => b ++ 34 :: chrs (s.take i)) s.length ?_ ?_
    · apply hP
      unfold T30_2 T30_4
      have h1 := chrs_len (s.take s.length)
      simp only [List.take_length] at h1 ⊢
      refine ⟨fun h => absurd h (by omega), fun _ => ⟨⟨?_, ?_⟩, ?_⟩⟩
      · simp only [List.length_append, List.length_cons, List.length_nil, maxBytes_eq]; omega
      · simp only [List.length_append, List.length_cons, List.length_nil, maxBytes_eq]; omega
      · simp only [quo, List.append_assoc, List.cons_append]
    · intro i hi ih
      apply hP
      have h1 := chrs_len (s.take i)
      have hc := s[i].toNat_lt
      rw [chrs_take hi] at ih
      rw [← List.cons_append, ← List.append_assoc] at ih
      generalize hx : s[i] = c at ih hc
      have w1 : bShr .u8 (c.toNat : Int) 4 = ((c.toNat / 16 : Nat) : Int) := by
        show (c.toNat : Int).fdiv 16 = _
        rw [Int.fdiv_eq_ediv_of_nonneg _ (by omega)]; omega
      have w2 : bAnd .u8 (c.toNat : Int) 15 = ((c.toNat % 16 : Nat) : Int) := by
        unfold bAnd
        have hx : (BitVec.ofInt IntKind.u8.bits (c.toNat : Int) &&& BitVec.ofInt IntKind.u8.bits 15).toNat = c.toNat % 16 := by
          show (BitVec.ofInt 8 (c.toNat : Int) &&& BitVec.ofInt 8 15).toNat = c.toNat % 16
          rw [BitVec.toNat_and]
          have h1 : (BitVec.ofInt 8 (c.toNat : Int)).toNat = c.toNat := by
            simp
          rw [h1]
          exact Nat.and_two_pow_sub_one_eq_mod c.toNat 4
        rw [hx]
        exact wr_u8 (by omega) (by omega)
      have fit : ∀ x : Bytes, x.length ≤ 4 → Fit ((b ++ 34 :: chrs (s.take i)).length + x.length) 1 := by
        intro x hx
        simp only [List.length_take] at h1
        refine ⟨?_, ?_⟩ <;> (simp only [List.length_append, List.length_cons, maxBytes_eq]; omega)
      unfold T30_2 T30_3
      rw [wr_succ (by omega)]
      refine ⟨fun _ => ⟨by omega, c, by rw [toNat_cast, List.getElem?_eq_getElem hi, hx], ?_⟩, fun h => absurd (show (i : Int) < s.length by omega) h⟩
      simp only [w1, w2, toNat_cast, hexd_get (show c.toNat / 16 < 16 by omega), hexd_get (show c.toNat % 16 < 16 by omega), Option.some.injEq, exists_eq_left']
      unfold chr at ih
      refine ⟨fun h2 => ⟨fit _ (by simp), ?_⟩, fun h2 => ⟨fun h3 => ⟨fit _ (by simp), ?_⟩, fun h3 => ⟨fun h4 => ⟨fit _ (by simp), ?_⟩, fun h4 => ⟨fun h5 => ⟨by omega, by omega, fit _ (by simp), ?_⟩, fun h5 => ⟨fun h6 => ⟨by omega, by omega, fit _ (by simp), ?_⟩, fun h6 => ⟨fit _ (by simp), ?_⟩⟩⟩⟩⟩⟩
      · rwa [if_pos (by omega)] at ih
      · rwa [if_pos (by omega)] at ih
      · rwa [if_neg (by omega), if_pos (by omega)] at ih
      · rwa [if_neg (by omega), if_neg (by omega), if_pos (by omega)] at ih
      · rwa [if_neg (by omega), if_neg (by omega), if_pos (by omega)] at ih
      · rwa [if_neg (by omega), if_neg (by omega), if_neg (by omega)] at ih)
  intro d st o ha
  obtain ⟨o', st', rows', ⟨x, rfl, rfl⟩, h1, h2⟩ := hp d st o ha
  exact ⟨o', st', _, rfl, h1, h2⟩
theorem c11 (s : Bytes) : Pus prog 11 [.s s] (.tup [.s (quoR s).1, .i .i64 (quoR s).2]) := by
  obtain ⟨x, y, ⟨rfl, rfl⟩, h⟩ := p11 H.f11 (s0 := s) (K := fun x y => x = (quoR s).1 ∧ y = (quoR s).2) (by
    unfold T11_0 quoR
    refine ⟨fun h => ?_, fun h => ⟨_, c30 H (b := []) (s := s) (by omega) (by simp), ?_⟩⟩
    · rw [if_pos (by omega)]; exact ⟨rfl, rfl⟩
    · rw [if_neg (by omega)]; exact ⟨rfl, rfl⟩)
  exact h
theorem c34 {n b : Nat} (hb : 2 ≤ b) (hb' : b ≤ 16) (hn : n < 18446744073709551616) : Pus prog 34 [.i .u64 (n : Int), .i .u64 (b : Int)] (.s (digs b n)) := by
  obtain ⟨x, rfl, h⟩ := p34 H.f34 (n0 := (n : Int)) (base1 := (b : Int)) (K := fun x => x = digs b n) (by
    unfold T34_0
    intro P hP
    have key : ∀ f n', n' < b ^ f → 0 < f → n' < 18446744073709551616 → ∀ a : Nat, f ≤ a → a ≤ 64 → ∀ m : Bytes, m.length = 64 → (ds b f n' ++ m.drop a = digs b n) → P (n' : Int) (a : Int) m := by
      intro f
      induction f with
      | zero => intro _ _ h; exact absurd h (Nat.lt_irrefl _)
      | succ f ih =>
        intro n' hf _ hn' a ha ha' m hm hd
        apply hP
        have e1 : (n' : Int).tmod (b : Int) = ((n' % b : Nat) : Int) := by rw [Int.tmod_eq_emod_of_nonneg (by omega)]; omega
        have e2 : (n' : Int).tdiv (b : Int) = ((n' / b : Nat) : Int) := by rw [Int.tdiv_eq_ediv_of_nonneg (by omega)]; omega
        have e3 : IntKind.i64.wrap ((a : Int) - 1) = ((a - 1 : Nat) : Int) := by rw [wr_i64 (by omega) (by omega)]; omega
        have hq : n' / b ≤ n' := Nat.div_le_self _ _
        have hr : n' % b < b := Nat.mod_lt _ (by omega)
        have e4 : IntKind.u64.wrap ((n' / b : Nat) : Int) = ((n' / b : Nat) : Int) := wr_u64_nat (by omega)
        have hset : ∀ c : UInt8, (m.set (a - 1) c).drop (a - 1) = c :: m.drop a := by
          intro c
          rw [List.drop_eq_getElem_cons (by simp; omega), List.getElem_set_self, List.drop_set_of_lt (by omega), show a - 1 + 1 = a by omega]
        unfold T34_1
        simp only [e1, e2, e3, e4, toNat_cast, hset]
        refine ⟨by omega, by omega, hexd (n' % b), hexd_get (by omega), by omega, by omega, by omega, by omega, fun h => ⟨by simp [hm], by omega, by omega, ?_⟩, fun h => ?_⟩
        · rw [← hd]
          unfold ds
          have hz : n' / b = 0 := by omega
          have hlt : n' < b := by
            rcases Nat.lt_or_ge n' b with h | h
            · exact h
            · have := Nat.div_pos h (by omega); omega
          rw [if_pos hlt, Nat.mod_eq_of_lt hlt]
          rfl
        · have hz : n' / b ≠ 0 := by omega
          have hlt : ¬ n' < b := fun h => hz (Nat.div_eq_of_lt h)
          have h1 : n' / b < b ^ f := by
            rw [Nat.div_lt_iff_lt_mul (by omega)]
            rw [Nat.pow_succ] at hf
            exact hf
          have h2 : 0 < f := by
            rcases Nat.eq_zero_or_pos f with rfl | h
            · simp at h1; omega
            · exact h
          refine ih (n' / b) h1 h2 (by omega) (a - 1) (by omega) (by omega) _ (by simp [hm]) ?_
          rw [hset, ← hd]
          conv => rhs; unfold ds
          rw [if_neg hlt, List.append_assoc]
          rfl
    refine key 64 n ?_ (by omega) hn 64 (by omega) (by omega) _ (by simp) ?_
    · calc n < 2 ^ 64 := hn
        _ ≤ b ^ 64 := Nat.pow_le_pow_left hb 64
    · simp [digs])
  exact h
theorem c15 {n : Int} (h1 : -9223372036854775808 ≤ n) (h2 : n < 9223372036854775808) : Pus prog 15 [.i .i64 n] (.s (num n)) := by
  obtain ⟨x, rfl, h⟩ := p15 H.f15 (n0 := n) (K := fun x => x = num n) (by
    unfold T15_0
    refine ⟨fun h => ?_, fun h => ?_⟩
    · have e : IntKind.u64.wrap (0 - (IntKind.u64.wrap n)) = (((-n).toNat : Nat) : Int) := by rw [IntKind.wrap_u64, IntKind.wrap_u64]; omega
      rw [e]
      refine ⟨_, c34 H (b := 10) (by omega) (by omega) (by omega), ?_, ?_⟩
      · have := ds_len 10 64 (-n).toNat
        simp only [digs, List.length_cons, List.length_nil, maxStr_eq]; omega
      · unfold num; rw [if_pos h]; rfl
    · have e : IntKind.u64.wrap n = ((n.toNat : Nat) : Int) := by rw [IntKind.wrap_u64]; omega
      rw [e]
      refine ⟨_, c34 H (b := 10) (by omega) (by omega) (by omega), ?_⟩
      unfold num; rw [if_neg h])
  exact h
end
end Go.AM

/- Parts of the proof. -/
namespace Go.AM
open Go
def cutp (p s : Bytes) : Bytes × Bool := if s.take p.length = p then (s.drop p.length, true) else (s, false)
def EscK (s : Bytes) (c : Int) (r : Bytes) (ok : Bool) : Prop := match esc s with | some (x, y) => c = (x.toNat : Int) ∧ r = y ∧ ok = true | none => ok = false
theorem EscK.yes {s : Bytes} {x : UInt8} {y : Bytes} {c : Int} (h : esc s = some (x, y)) (hc : c = (x.toNat : Int)) : EscK s c y true := by
  unfold EscK; rw [h]; exact ⟨hc, rfl, rfl⟩
theorem EscK.no {s : Bytes} {c : Int} {y : Bytes} (h : esc s = none) : EscK s c y false := by
  unfold EscK; rw [h]
section
variable {prog : Prog} (H : Has03 prog)
include H
theorem c46 (s p : Bytes) : Pus prog 46 [.s s, .s p] (.b (decide (s.take p.length = p))) := by
  obtain ⟨x, rfl, h⟩ := p46 H.f46 (s0 := s) (prefix1 := p) (K := fun x => x = decide (s.take p.length = p)) (by
    unfold T46_0
    refine ⟨fun h => ⟨by omega, by omega, rfl⟩, fun h => ?_⟩
    refine (decide_eq_false fun h1 => ?_).symm
    have := congrArg List.length h1
    simp only [List.length_take] at this
    omega)
  exact h
theorem c42 (s p : Bytes) : Pus prog 42 [.s s, .s p] (.tup [.s (cutp p s).1, .b (cutp p s).2]) := by
  obtain ⟨x, y, ⟨rfl, rfl⟩, h⟩ := p42 H.f42 (s0 := s) (prefix1 := p) (K := fun x y => x = (cutp p s).1 ∧ y = (cutp p s).2) (by
    unfold T42_0 cutp
    refine ⟨_, c46 H s p, fun h => ?_, fun h => ?_⟩
    · have h1 : ¬ s.take p.length = p := by simpa using h
      rw [if_neg h1]; exact ⟨rfl, rfl⟩
    · have h1 : s.take p.length = p := by simpa using h
      have h2 := congrArg List.length h1
      simp only [List.length_take] at h2
      rw [if_pos h1]; exact ⟨by omega, by omega, rfl, rfl⟩)
  exact h
theorem c36 (s p : Bytes) : Pus prog 36 [.s s, .s p] (.tup [.s (cutp p s).1, .b (cutp p s).2]) := by
  obtain ⟨x, y, ⟨rfl, rfl⟩, h⟩ := p36 H.f36 (s0 := s) (prefix1 := p) (K := fun x y => x = (cutp p s).1 ∧ y = (cutp p s).2) (by
    unfold T36_0
    exact ⟨_, _, c42 H s p, rfl, rfl⟩)
  exact h
theorem c47 (s : Bytes) (c : UInt8) : Pus prog 47 [.s s, .i .u8 (c.toNat : Int)] (.i .i64 (Lib.indexByte s c)) := by
  obtain ⟨x, rfl, h⟩ := p47 H.f47 (s0 := s) (c1 := (c.toNat : Int)) (K := fun x => x = Lib.indexByte s c) (by
    unfold T47_0
    exact ⟨_, Pus.orac H.f48 (H.o48 s c) rfl, rfl⟩)
  exact h
theorem c43 (s : Bytes) (c : UInt8) : Pus prog 43 [.s s, .i .u8 (c.toNat : Int)] (.i .i64 (Lib.indexByte s c)) := by
  obtain ⟨x, rfl, h⟩ := p43 H.f43 (s0 := s) (c1 := (c.toNat : Int)) (K := fun x => x = Lib.indexByte s c) (by
    unfold T43_0
    exact ⟨_, c47 H s c, rfl⟩)
  exact h
theorem c37 {b most : Nat} (hb : 2 ≤ b) (hb' : b ≤ 16) (hm : 16 ≤ most) (hm' : most < 18446744073709551616) {s : Bytes} (hs : s.length ≤ 10000000) : Pus prog 37 [.s s, .i .u64 (b : Int), .i .u64 (most : Int)] (.tup [.i .u64 ((rd b most s).1 : Int), .i .i64 (rd b most s).2]) := by
  obtain ⟨x, y, ⟨rfl, rfl⟩, h⟩ := p37 H.f37 (s0 := s) (base1 := (b : Int)) (most2 := (most : Int)) (K := fun x y => x = ((rd b most s).1 : Int) ∧ y = (rd b most s).2) (by
    unfold T37_0 T37_1 T37_2
    intro P hP
    have key : ∀ m i : Nat, i + m = s.length → okd b (s.take i) = true → (2 ≤ i → s.head? ≠ some 48) → ∀ (n : Nat) (far : Bool), (far = false → n = vals b (s.take i) ∧ n ≤ most) → (far = true → most < vals b (s.take i)) → P (n : Int) far (i : Int) := by
      intro m
      induction m with
      | zero =>
        intro i hi ho h48 n far h0 h1
        simp only [Nat.add_zero] at hi
        subst hi
        rw [List.take_length] at ho h0 h1
        apply hP
        unfold T37_3 T37_5
        refine ⟨fun h => absurd h (by omega), fun _ => ⟨fun h => ?_, fun h => ?_⟩⟩
        · subst h; exact ⟨rfl, rfl⟩
        · have hbad : badn b s = false := by
            unfold badn
            rw [decide_eq_false h, ho]
            simp only [Bool.false_or, Bool.not_true]
            by_cases h2 : 1 < s.length
            · rw [decide_eq_false (h48 h2), Bool.and_false]
            · rw [decide_eq_false h2, Bool.false_and]
          refine ⟨fun hf => ?_, fun hf => ?_⟩
          · unfold rd
            rw [if_neg (by rw [hbad]; decide), if_pos (h1 hf)]
            exact ⟨rfl, rfl⟩
          · obtain ⟨h2, h3⟩ := h0 hf
            unfold rd
            rw [if_neg (by rw [hbad]; decide), if_neg (by omega), h2]
            exact ⟨rfl, rfl⟩
      | succ m ih =>
        intro i hi ho h48 n far h0 h1
        have hil : i < s.length := by omega
        have hd := dv_lt hb' s[i]
        have hv := vals_take (b := b) hil
        have hk := okd_take (b := b) hil
        have bad12 : badn b s = true → (0 : Int) = ((rd b most s).1 : Int) ∧ (12 : Int) = (rd b most s).2 := by
          intro h
          unfold rd
          rw [if_pos h]
          exact ⟨rfl, rfl⟩
        apply hP
        unfold T37_3 T37_4
        refine ⟨fun _ => ⟨by omega, by rw [toNat_cast]; exact hb', by omega, s[i], by rw [toNat_cast, List.getElem?_eq_getElem hil], dv b s[i], c43 H _ _, fun h => ?_, fun h => ?_⟩, fun h => absurd h (by omega)⟩
        · refine bad12 ?_
          unfold badn
          rw [okd_of hil h]
          simp
        · have hd0 : 0 ≤ dv b s[i] := by omega
          rw [ho, decide_eq_true hd0, Bool.and_true] at hk
          generalize hdd : (dv b s[i]).toNat = d at hv
          have hdi : dv b s[i] = (d : Int) := by omega
          have e1 : IntKind.u64.wrap (dv b s[i]) = (d : Int) := by rw [hdi]; exact wr_u64_nat (by omega)
          have e2 : IntKind.u64.wrap ((most : Int) - (d : Int)) = ((most - d : Nat) : Int) := by rw [wr_u64 (by omega) (by omega)]; omega
          have e3 : (((most - d : Nat) : Int)).tdiv (b : Int) = (((most - d) / b : Nat) : Int) := by rw [Int.tdiv_eq_ediv_of_nonneg (by omega)]; omega
          have hq : (most - d) / b ≤ most - d := Nat.div_le_self _ _
          have e4 : IntKind.u64.wrap (((most - d) / b : Nat) : Int) = (((most - d) / b : Nat) : Int) := wr_u64_nat (by omega)
          have hfi := far_iff (n := n) (show 0 < b by omega) (show d ≤ most by omega)
          rw [wr_succ (by omega)]
          simp only [e1, e2, e3, e4]
          have go : (2 ≤ i + 1 → s.head? ≠ some 48) → (far = true → P (n : Int) true ((i + 1 : Nat) : Int)) ∧ (far = false → (b : Int) ≠ 0 ∧ (¬((n : Int) > (((most - d) / b : Nat) : Int)) → P (IntKind.u64.wrap ((IntKind.u64.wrap ((n : Int) * (b : Int))) + (d : Int))) (decide ((n : Int) > (((most - d) / b : Nat) : Int))) ((i + 1 : Nat) : Int)) ∧ (¬(¬((n : Int) > (((most - d) / b : Nat) : Int))) → P (n : Int) (decide ((n : Int) > (((most - d) / b : Nat) : Int))) ((i + 1 : Nat) : Int))) := by
            intro h2
            refine ⟨fun hf => ?_, fun hf => ⟨by omega, fun h3 => ?_, fun h3 => ?_⟩⟩
            · refine ih (i + 1) (by omega) hk h2 n true (fun h => by cases h) fun _ => ?_
              rw [hv]
              have h4 := h1 hf
              have : vals b (s.take i) ≤ vals b (s.take i) * b := Nat.le_mul_of_pos_right _ (by omega)
              omega
            · obtain ⟨h4, h5⟩ := h0 hf
              have h6 : n * b + d ≤ most := by
                have : ¬ (most - d) / b < n := by omega
                rw [hfi] at this
                omega
              have hnb : (n : Int) * (b : Int) = ((n * b : Nat) : Int) := by rw [Int.natCast_mul]
              have e5 : IntKind.u64.wrap ((n : Int) * (b : Int)) = ((n * b : Nat) : Int) := by rw [hnb]; exact wr_u64_nat (by omega)
              have e6 : IntKind.u64.wrap (((n * b : Nat) : Int) + (d : Int)) = ((n * b + d : Nat) : Int) := by rw [wr_u64 (by omega) (by omega)]; omega
              rw [e5, e6, decide_eq_false h3]
              refine ih (i + 1) (by omega) hk h2 _ false (fun _ => ⟨?_, h6⟩) fun h => by cases h
              rw [hv, h4]
            · have h3' : (n : Int) > (((most - d) / b : Nat) : Int) := by omega
              obtain ⟨h4, h5⟩ := h0 hf
              rw [decide_eq_true h3']
              refine ih (i + 1) (by omega) hk h2 n true (fun h => by cases h) fun _ => ?_
              rw [hv, ← h4]
              exact hfi.1 (Int.ofNat_lt.1 h3')
          have hd0 : s.head? = s[0]? := List.head?_eq_getElem?
          refine ⟨fun hi1 => ?_, fun hi1 => ?_⟩
          · have h0s : s[0]? = some s[0] := List.getElem?_eq_getElem (by omega)
            refine ⟨s[0], h0s, fun h2 => ?_, fun h2 => ?_⟩
            · refine bad12 ?_
              have h3 : s[0] = 48 := u8_eq (by have e : (48 : UInt8).toNat = 48 := rfl; omega)
              unfold badn
              rw [decide_eq_true (show 1 < s.length by omega), decide_eq_true (show s.head? = some 48 by rw [hd0, h0s, h3])]
              simp
            · refine go fun _ => ?_
              rw [hd0, h0s]
              intro h3
              injection h3 with h3
              exact h2 (by rw [h3]; rfl)
          · refine go fun h2 => ?_
            have h3 : i ≠ 1 := by omega
            have h4 : i ≠ 0 := by omega
            exact h48 (by omega)
    exact key s.length 0 (by omega) rfl (by omega) 0 false (fun _ => ⟨rfl, by omega⟩) fun h => by cases h)
  exact h
theorem c21 (s : Bytes) : Pus prog 21 [.s s] (.tup [.i .i64 (unnum s).1, .i .i64 (unnum s).2]) := by
  obtain ⟨x, y, ⟨rfl, rfl⟩, h⟩ := p21 H.f21 (s0 := s) (K := fun x y => x = (unnum s).1 ∧ y = (unnum s).2) (by
    unfold T21_0 T21_1
    refine ⟨fun h => by unfold unnum; rw [if_pos (by omega)]; exact ⟨rfl, rfl⟩, fun hs => ⟨_, _, c36 H s [45], ?_⟩⟩
    unfold unnum
    rw [if_neg (by omega)]
    by_cases hm : s.take 1 = [45]
    · have ec : cutp [45] s = (s.drop 1, true) := by unfold cutp; rw [if_pos (by exact hm)]; rfl
      rw [ec, if_pos hm]
      refine ⟨fun h => by simp at h, fun _ => ?_⟩
      have hl := rd_le 10 9223372036854775808 (s.drop 1)
      refine ⟨_, _, c37 H (b := 10) (most := 9223372036854775808) (by omega) (by omega) (by omega) (by omega) (s := s.drop 1) (by simp; omega), fun h => ⟨fun h0 => ?_, fun h0 => ?_⟩, fun h => ?_⟩
      · have e : (rd 10 9223372036854775808 (s.drop 1)).1 = 0 := by omega
        rw [if_pos ⟨h, e⟩, e]
        exact ⟨rfl, rfl⟩
      · rw [if_neg (fun hh => h0 (by rw [hh.2]; rfl))]
        refine ⟨?_, rfl⟩
        rw [IntKind.wrap_u64, IntKind.wrap_i64]
        simp only
        omega
      · have e := rd_err h
        rw [if_neg (fun hh => h hh.1), e]
        exact ⟨rfl, rfl⟩
    · have ec : cutp [45] s = (s, false) := by unfold cutp; rw [if_neg (by exact hm)]
      rw [ec, if_neg hm]
      refine ⟨fun _ => ?_, fun h => by simp at h⟩
      have hl := rd_le 10 9223372036854775807 s
      exact ⟨_, _, c37 H (b := 10) (most := 9223372036854775807) (by omega) (by omega) (by omega) (by omega) (s := s) (by omega), wr_i64 (by omega) (by omega), rfl⟩)
  exact h
theorem c45 (s : Bytes) : ∃ c r ok, EscK s c r ok ∧ Pus prog 45 [.s s] (.tup [.i .u8 c, .s r, .b ok]) := by
  refine p45 H.f45 (s0 := s) (K := EscK s) ?_
  unfold T45_0 T45_1
  refine ⟨fun h => by subst h; exact EscK.no rfl, fun h => ?_⟩
  cases s with
  | nil => exact absurd rfl h
  | cons c r =>
    have lit : ∀ {n : Nat} (_ : n < 256), (UInt8.ofNat n).toNat = n := by intro n hn; simp; omega
    unfold T45_2
    refine ⟨c, rfl, ?_⟩
    have t4 : T45_4 prog (EscK (c :: r)) (c :: r) (c.toNat : Int) (decide (c.toNat = 34 ∨ c.toNat = 92)) := by
      unfold T45_4
      refine ⟨fun h1 => ⟨c, rfl, by simp, ?_⟩, fun h1 => ?_⟩
      · have h1 := of_decide_eq_true h1
        exact EscK.yes (show (if c.toNat = 34 ∨ c.toNat = 92 then some (c, r) else _) = some (c, r) from if_pos h1) rfl
      · have h1 := of_decide_eq_false h1
        have e0 : esc (c :: r) = if c.toNat = 110 then some (10, r) else if c.toNat = 120 then esx r else none := by
          show (if c.toNat = 34 ∨ c.toNat = 92 then some (c, r) else if c.toNat = 110 then some (10, r) else if c.toNat = 120 then esx r else none) = _
          rw [if_neg h1]
        refine ⟨fun h2 => ⟨by simp, ?_⟩, fun h2 => ⟨fun h3 => ?_, fun h3 => ?_⟩⟩
        · exact EscK.yes (by rw [e0, if_pos (by omega)]; rfl) rfl
        · have e : esc (c :: r) = esx r := by rw [e0, if_neg (by omega), if_pos (by omega)]
          refine ⟨fun h4 => ?_, fun h4 => ?_⟩
          · refine EscK.no ?_
            rw [e]
            match r, h4 with
            | [], _ => rfl
            | [a], _ => rfl
            | a :: b :: r', h4 => simp at h4; omega
          · match r, h4, e with
            | [], h4, _ => exact absurd (by simp) h4
            | [a], h4, _ => exact absurd (by simp) h4
            | a :: b :: r', _, e =>
              have la := dv_lt (b := 16) (by omega) a
              have lb := dv_lt (b := 16) (by omega) b
              have ca : Pus prog 43 [.s DIG, .i .u8 (a.toNat : Int)] (.i .i64 (dv 16 a)) := c43 H DIG a
              have cb : Pus prog 43 [.s DIG, .i .u8 (b.toNat : Int)] (.i .i64 (dv 16 b)) := c43 H DIG b
              refine ⟨a, rfl, _, ca, b, rfl, _, cb, by simp, ?_⟩
              simp only [esx] at e
              by_cases hv : 0 ≤ dv 16 a ∧ 0 ≤ dv 16 b
              · have hw : IntKind.u8.wrap (IntKind.i64.wrap ((IntKind.i64.wrap (16 * dv 16 a)) + dv 16 b)) = 16 * dv 16 a + dv 16 b := by
                  rw [wr_i64 (z := 16 * dv 16 a) (by omega) (by omega), wr_i64 (by omega) (by omega), wr_u8 (by omega) (by omega)]
                have en := lit (n := (16 * dv 16 a + dv 16 b).toNat) (by omega)
                rw [hw]
                refine ⟨fun _ => ⟨fun _ => ⟨fun h5 => ⟨fun h6 => ?_, fun h6 => ?_⟩, fun h5 => ?_⟩, fun h5 => absurd hv.2 h5⟩, fun h5 => absurd hv.1 h5⟩
                · rw [if_pos ⟨hv.1, hv.2, by omega, by omega⟩] at e
                  exact EscK.yes e (by rw [en]; omega)
                · by_cases h7 : 126 < 16 * dv 16 a + dv 16 b
                  · rw [if_pos ⟨hv.1, hv.2, by omega, by omega⟩] at e
                    rw [decide_eq_true h7]
                    exact EscK.yes e (by rw [en]; omega)
                  · rw [if_neg (by omega)] at e
                    rw [decide_eq_false h7]
                    exact EscK.no e
                · rw [if_neg (by omega)] at e
                  exact EscK.no e
              · rw [if_neg (by omega)] at e
                exact ⟨fun h5 => ⟨fun h6 => absurd ⟨h5, h6⟩ hv, fun _ => EscK.no e⟩, fun _ => EscK.no e⟩
        · exact EscK.no (by rw [e0, if_neg (by omega), if_neg (by omega)])
    unfold T45_3
    refine ⟨fun h1 => ?_, fun h1 => ?_⟩
    · rw [show decide ((c.toNat : Int) = 34) = decide (c.toNat = 34 ∨ c.toNat = 92) from decide_eq_decide.2 (by omega)]
      exact t4
    · rw [show decide ((c.toNat : Int) = 92) = decide (c.toNat = 34 ∨ c.toNat = 92) from decide_eq_decide.2 (by omega)]
      exact t4
theorem c39 {s : Bytes} (hs : s.length ≤ 10000000) : Pus prog 39 [.s s] (.tup [.s (nxtR s).1, .s (nxtR s).2.1, .b (nxtR s).2.2]) := by
  obtain ⟨x, y, z, ⟨rfl, rfl, rfl⟩, h⟩ := p39 H.f39 (s0 := s) (K := fun x y z => x = (nxtR s).1 ∧ y = (nxtR s).2.1 ∧ z = (nxtR s).2.2) (by
    have no : nxt s = none → ([] : Bytes) = (nxtR s).1 ∧ ([] : Bytes) = (nxtR s).2.1 ∧ false = (nxtR s).2.2 := by
      intro h
      unfold nxtR
      rw [h]
      exact ⟨rfl, rfl, rfl⟩
    unfold T39_0 T39_1
    refine ⟨_, _, c36 H s [34], ?_⟩
    cases s with
    | nil =>
      rw [show cutp [34] [] = ([], false) from rfl]
      exact ⟨fun _ => no rfl, fun h => by simp at h⟩
    | cons q s =>
      by_cases hq : q.toNat = 34
      · have hq' : q = 34 := u8_eq hq
        subst hq'
        have ec : cutp [34] (34 :: s) = (s, true) := by unfold cutp; rw [if_pos (show List.take ([34] : Bytes).length (34 :: s) = [34] from rfl)]; rfl
        rw [ec]
        refine ⟨fun h => by simp at h, fun _ P hP => ?_⟩
        have hn : nxt (34 :: s) = nxtB (s.length + 1) [] s := by
          simp only [nxt]
          rw [if_pos hq]
        have key : ∀ n b r, r.length < n → b.length + r.length ≤ 10000000 → nxtB n b r = nxt (34 :: s) → P r b := by
          intro n
          induction n with
          | zero => intro b r h; exact absurd h (Nat.not_lt_zero _)
          | succ n ih =>
            intro b r hr hb hx
            apply hP
            unfold T39_2
            cases r with
            | nil => exact ⟨fun h => absurd rfl h, fun _ => no (by rw [← hx]; rfl)⟩
            | cons c r =>
              simp only [nxtB] at hx
              refine ⟨fun _ => ⟨c, rfl, by simp, fun h1 => ?_, fun h1 => ⟨fun h2 => ?_, fun h2 => ⟨fun h3 => ?_, fun h3 => ⟨fun h4 => ?_, fun h4 => ?_⟩⟩⟩⟩, fun h => absurd (by simp) h⟩
              · rw [if_pos (by omega)] at hx
                unfold nxtR
                rw [← hx]
                exact ⟨rfl, rfl, rfl⟩
              · refine no ?_
                rw [← hx, if_neg (by omega), show one (c :: r) = none by simp only [one]; rw [if_pos (by omega)]]
              · refine no ?_
                rw [← hx, if_neg (by omega), show one (c :: r) = none by simp only [one]; rw [if_pos (by omega)]]
              · rw [if_neg (by omega), show one (c :: r) = esc r by simp only [one]; rw [if_neg (by omega), if_pos (by omega)]] at hx
                obtain ⟨a, r', ok, hk, hp⟩ := c45 H r
                refine ⟨a, r', ok, hp, fun h5 => ?_, fun h5 => ?_⟩
                · unfold EscK at hk
                  cases he : esc r with
                  | none => rw [he] at hx; exact no hx.symm
                  | some p =>
                    rw [he] at hk
                    obtain ⟨_, _, hk⟩ := hk
                    rw [hk] at h5
                    exact absurd h5 (by decide)
                · unfold EscK at hk
                  cases he : esc r with
                  | none =>
                    rw [he] at hk
                    simp only at hk
                    rw [hk] at h5
                    exact absurd h5 (by decide)
                  | some p =>
                    obtain ⟨u, v⟩ := p
                    rw [he] at hk hx
                    obtain ⟨h6, h7, h8⟩ := hk
                    simp only at hx h6 h7
                    subst h6; subst h7
                    have hl : r'.length < (c :: r).length := one_len (c := u) (by simp only [one]; rw [if_neg (by omega), if_pos (by omega)]; exact he)
                    simp only [List.length_cons] at hl hb hr
                    unfold T39_3
                    refine ⟨u, rfl, ⟨?_, ?_⟩, ih _ _ (by omega) ?_ hx⟩
                    · simp only [List.length_cons, List.length_nil, maxBytes_eq]; omega
                    · simp only [List.length_cons, List.length_nil, maxBytes_eq]; omega
                    · simp only [List.length_append, List.length_cons, List.length_nil]; omega
              · rw [if_neg (by omega), show one (c :: r) = some (c, r) by simp only [one]; rw [if_neg (by omega), if_neg (by omega)]] at hx
                simp only [List.length_cons] at hb hr
                unfold T39_3
                refine ⟨c, rfl, ⟨?_, ?_⟩, ih _ _ (show r.length < n by omega) ?_ hx⟩
                · simp only [List.length_cons, List.length_nil, maxBytes_eq]; omega
                · simp only [List.length_cons, List.length_nil, maxBytes_eq]; omega
                · simp only [List.drop_succ_cons, List.drop_zero, List.length_append, List.length_cons, List.length_nil]; omega
        exact key (s.length + 1) [] s (by omega) (by simp at hs ⊢; omega) hn.symm
      · have ec : cutp [34] (q :: s) = (q :: s, false) := by
          unfold cutp
          rw [if_neg ?_]
          intro h
          injection h with h
          exact hq (by rw [h]; rfl)
        rw [ec]
        refine ⟨fun _ => no ?_, fun h => by simp at h⟩
        simp only [nxt]
        rw [if_neg hq])
  exact h
theorem c25 (s : Bytes) : Pus prog 25 [.s s] (.tup [.s (unquo s).1, .i .i64 (unquo s).2]) := by
  obtain ⟨x, y, ⟨rfl, rfl⟩, h⟩ := p25 H.f25 (s0 := s) (K := fun x y => x = (unquo s).1 ∧ y = (unquo s).2) (by
    unfold T25_0 unquo
    refine ⟨fun h => by rw [if_pos (by omega)]; exact ⟨rfl, rfl⟩, fun hs => ⟨_, _, _, c39 H (by omega), ?_⟩⟩
    rw [if_neg (by omega)]
    unfold nxtR
    cases nxt s with
    | none => exact ⟨fun _ => ⟨rfl, rfl⟩, fun h => by simp at h⟩
    | some p =>
      obtain ⟨x, r⟩ := p
      refine ⟨fun h => by simp at h, fun _ => ⟨fun h => ?_, fun h => ?_⟩⟩
      · cases r with
        | nil => exact absurd rfl h
        | cons c r => exact ⟨rfl, rfl⟩
      · have h : r = [] := Classical.not_not.1 h
        subst h
        refine ⟨fun h => ?_, fun h => ?_⟩
        · simp only at h ⊢
          rw [if_pos (by omega)]; exact ⟨rfl, rfl⟩
        · simp only at h ⊢
          rw [if_neg (by omega)]; exact ⟨rfl, rfl⟩)
  exact h
theorem c29 {a b : List Bytes} (ha : a.length ≤ 1000000000) : Pus prog 29 [.sl .ext (a.map rowS), .sl .ext (b.map rowS)] (.b (decide (a = b))) := by
  obtain ⟨x, rfl, h⟩ := p29 H.f29 (a0 := a) (b1 := b) (K := fun x => x = decide (a = b)) (by
    unfold T29_0
    refine ⟨fun h => (decide_eq_false fun e => h (by rw [e])).symm, fun hl P hP => ?_⟩
    have hlen : a.length = b.length := by omega
    have key : ∀ m i : Nat, i + m = a.length → (∀ j, j < i → a[j]? = b[j]?) → P (i : Int) := by
      intro m
      induction m with
      | zero =>
        intro i hi hj
        apply hP
        unfold T29_1 T29_2
        refine ⟨fun h => absurd h (by omega), fun _ => (decide_eq_true ?_).symm⟩
        apply List.ext_getElem?
        intro j
        rcases Nat.lt_or_ge j i with h | h
        · exact hj j h
        · rw [List.getElem?_eq_none (by omega), List.getElem?_eq_none (by omega)]
      | succ m ih =>
        intro i hi hj
        have h1 : i < a.length := by omega
        have h2 : i < b.length := by omega
        apply hP
        unfold T29_1
        refine ⟨fun _ => ⟨by omega, a[i], by rw [toNat_cast, List.getElem?_eq_getElem h1], by omega, b[i], by rw [toNat_cast, List.getElem?_eq_getElem h2], fun h => ?_, fun h => ?_⟩, fun h => absurd h (by omega)⟩
        · refine (decide_eq_false fun e => h ?_).symm
          subst e
          rfl
        · rw [wr_succ (by omega)]
          refine ih (i + 1) (by omega) fun j hj' => ?_
          rcases Nat.lt_or_ge j i with h3 | h3
          · exact hj j h3
          · have : j = i := by omega
            subst this
            rw [List.getElem?_eq_getElem h1, List.getElem?_eq_getElem h2, Classical.not_not.1 h]
    exact key a.length 0 (by omega) (by simp))
  exact h
end
end Go.AM

/- Parts of the proof. -/
namespace Go.AM
open Go
def isD (c : UInt8) : Bool := decide (48 ≤ c.toNat) && decide (c.toNat ≤ 57)
theorem unnum_rng (s : Bytes) : -9223372036854775808 ≤ (unnum s).1 ∧ (unnum s).1 < 9223372036854775808 := by
  have h1 := rd_le 10 9223372036854775808 (s.drop 1)
  have h2 := rd_le 10 9223372036854775807 s
  unfold unnum
  split
  · exact ⟨by decide, by decide⟩
  split
  · split
    · exact ⟨by decide, by decide⟩
    · dsimp only
      omega
  · dsimp only
    omega
theorem hexd_isD : ∀ n : Fin 10, isD (hexd n.val) = true := by decide
theorem ds_isD : ∀ (f n : Nat), ∀ c ∈ ds 10 f n, isD c = true
  | 0, n, c, h => by simp [ds] at h
  | f + 1, n, c, h => by
    rw [ds] at h
    split at h
    · rename_i hn
      rw [List.mem_singleton.1 h]
      exact hexd_isD ⟨n, hn⟩
    · rcases List.mem_append.1 h with h | h
      · exact ds_isD f _ c h
      · rw [List.mem_singleton.1 h]
        exact hexd_isD ⟨n % 10, Nat.mod_lt _ (by decide)⟩
end Go.AM

/- Parts of the proof. -/
namespace Go.AM
open Go
def eqQ (a b : Qry) : Bool := (a.kind == b.kind && (a.g == b.g && (a.k == b.k && (a.key == b.key && (a.name == b.name && true)))))
theorem eqQ_iff {a b : Qry} : eqQ a b = true ↔ a = b := by
  unfold eqQ
  simp only [Bool.and_eq_true, beq_iff_eq, Bool.and_true]
  constructor
  · rintro ⟨h1, h2, h3, h4, h5⟩
    cases a; cases b
    simp only [Qry.mk.injEq]
    exact ⟨h1, h2, h3, h4, h5⟩
  · rintro rfl; exact ⟨rfl, rfl, rfl, rfl, rfl⟩
def bareQ (q : Qry) : Qry := if q.kind = 1 then ⟨q.kind, 0, 0, 0, []⟩ else if q.kind = 3 then ⟨q.kind, q.g, q.k, 0, []⟩ else if q.kind = 2 ∨ q.kind = 4 ∨ q.kind = 5 then ⟨q.kind, q.g, 0, 0, []⟩ else if q.kind = 6 then ⟨q.kind, 0, 0, q.key, []⟩ else ⟨q.kind, 0, 0, 0, q.name⟩
def rngQ (q : Qry) : Bool := decide (0 ≤ q.g ∧ q.g < 16) && decide (0 ≤ q.k ∧ q.k < 170) && decide (q.name.length ≤ 16)
def okQ (q : Qry) : Bool := decide (1 ≤ q.kind ∧ q.kind ≤ 8) && eqQ q (bareQ q) && rngQ q
def chkQ (q : Qry) : Int := if okQ q = true then 0 else 8
theorem chkQ_iff {q : Qry} : chkQ q = 0 ↔ okQ q = true := by unfold chkQ; cases okQ q <;> decide
def shownQ (q : Qry) : Bytes := if q.kind = 1 then wordM q.kind else if q.kind = 3 then wordM q.kind ++ (([32] ++ num q.g ++ [32]) ++ num q.k) else if q.kind = 6 then wordM q.kind ++ ([32] ++ num q.key) else if q.kind = 7 ∨ q.kind = 8 then wordM q.kind ++ ([32] ++ quo q.name) else wordM q.kind ++ ([32] ++ num q.g)
def txtQ (q : Qry) : Bytes × Int := if okQ q = true then (shownQ q, 0) else ([], 8)
structure OkQ (q : Qry) : Prop where
  k1 : 1 ≤ q.kind
  k8 : q.kind ≤ 8
  b : q = bareQ q
  g : 0 ≤ q.g ∧ q.g < 16
  k : 0 ≤ q.k ∧ q.k < 170
  n : q.name.length ≤ 16
theorem okQ_iff {q : Qry} : okQ q = true ↔ OkQ q := by
  unfold okQ rngQ
  simp only [Bool.and_eq_true, decide_eq_true_eq, eqQ_iff]
  exact ⟨fun ⟨⟨⟨h1, h2⟩, h3⟩, ⟨h4, h5⟩, h6⟩ => ⟨h1, h2, h3, h4, h5, h6⟩, fun h => ⟨⟨⟨h.k1, h.k8⟩, h.b⟩, ⟨h.g, h.k⟩, h.n⟩⟩
def cutS (s : Bytes) : Bytes × Bytes × Bool := if 0 ≤ Lib.indexByte s 32 then (s.take (Lib.indexByte s 32).toNat, s.drop (Lib.indexByte s 32 + 1).toNat, true) else (s, [], false)
theorem ib_no {s : Bytes} (h : ∀ c ∈ s, c ≠ (32 : UInt8)) : Lib.indexByte s 32 = -1 := by
  induction s with
  | nil => rfl
  | cons c s ih =>
    rw [Lib.indexByte, if_neg (by simpa using h c List.mem_cons_self), ih fun d hd => h d (List.mem_cons_of_mem _ hd)]
    rfl
theorem ib_at {a r : Bytes} (h : ∀ c ∈ a, c ≠ (32 : UInt8)) : Lib.indexByte (a ++ 32 :: r) 32 = (a.length : Int) := by
  induction a with
  | nil => rfl
  | cons c a ih =>
    rw [List.cons_append, Lib.indexByte, if_neg (by simpa using h c List.mem_cons_self), ih fun d hd => h d (List.mem_cons_of_mem _ hd), if_neg (by simp <;> omega), List.length_cons]
    omega
theorem cutS_no {s : Bytes} (h : ∀ c ∈ s, c ≠ (32 : UInt8)) : cutS s = (s, [], false) := by unfold cutS; rw [ib_no h, if_neg (by decide)]
theorem cutS_at {a r : Bytes} (h : ∀ c ∈ a, c ≠ (32 : UInt8)) : cutS (a ++ 32 :: r) = (a, r, true) := by
  unfold cutS
  rw [ib_at h, if_pos (by omega)]
  have e : ((a.length : Int) + 1).toNat = a.length + 1 := by omega
  rw [e, show (a.length : Int).toNat = a.length from rfl]
  simp
theorem num_nosp (n : Int) : ∀ c ∈ num n, c ≠ (32 : UInt8) := by
  have hd : ∀ k, ∀ c ∈ digs 10 k, c ≠ (32 : UInt8) := fun k c hc => by
    have := ds_isD _ _ c hc
    rintro rfl
    revert this
    decide
  intro c hc
  unfold num at hc
  split at hc
  · rcases List.mem_cons.1 hc with rfl | hc
    · decide
    · exact hd _ c hc
  · exact hd _ c hc
theorem word_nosp {k : Int} (h1 : 1 ≤ k) (h8 : k ≤ 8) : ∀ c ∈ wordM k, c ≠ (32 : UInt8) := by
  obtain ⟨j, rfl⟩ := Int.eq_ofNat_of_zero_le (by omega : 0 ≤ k)
  have h1 : 1 ≤ j := by omega
  have h8 : j ≤ 8 := by omega
  match j, h1, h8 with
  | 1, _, _ | 2, _, _ | 3, _, _ | 4, _, _ | 5, _, _ | 6, _, _ | 7, _, _ | 8, _, _ => decide
theorem mpAt_word {k : Int} (h1 : 1 ≤ k) (h8 : k ≤ 8) : mpAt wordL (wordM k) = k := by
  obtain ⟨j, rfl⟩ := Int.eq_ofNat_of_zero_le (by omega : 0 ≤ k)
  have h1 : 1 ≤ j := by omega
  have h8 : j ≤ 8 := by omega
  match j, h1, h8 with
  | 1, _, _ | 2, _, _ | 3, _, _ | 4, _, _ | 5, _, _ | 6, _, _ | 7, _, _ | 8, _, _ => rfl
theorem word_len {k : Int} : (wordM k).length ≤ 10 := by
  by_cases h : 1 ≤ k ∧ k ≤ 8
  · obtain ⟨h1, h8⟩ := h
    obtain ⟨j, rfl⟩ := Int.eq_ofNat_of_zero_le (by omega : 0 ≤ k)
    have h1 : 1 ≤ j := by omega
    have h8 : j ≤ 8 := by omega
    match j, h1, h8 with
    | 1, _, _ | 2, _, _ | 3, _, _ | 4, _, _ | 5, _, _ | 6, _, _ | 7, _, _ | 8, _, _ => decide
  · rw [wordM_no h]; decide
def numQ (s : Bytes) : Int × Bool := ((unnum s).1, decide ((unnum s).2 = 0) && (decide (0 ≤ (unnum s).1) && decide ((unnum s).1 < 1000)))
def rdQ (kind : Int) (rest : Bytes) : Qry × Bool :=
  if kind = 1 then (⟨1, 0, 0, 0, []⟩, decide (rest = [])) else
  if kind = 3 then (⟨3, (numQ (cutS rest).1).1, (numQ (cutS rest).2.1).1, 0, []⟩, (numQ (cutS rest).1).2 && ((numQ (cutS rest).2.1).2 && (cutS rest).2.2)) else
  if kind = 6 then (⟨6, 0, 0, (unnum rest).1, []⟩, decide ((unnum rest).2 = 0)) else
  if kind = 7 ∨ kind = 8 then (⟨kind, 0, 0, 0, (unquo rest).1⟩, decide ((unquo rest).2 = 0)) else (⟨kind, (numQ rest).1, 0, 0, []⟩, (numQ rest).2)
def refQ (kind : Int) (rest : Bytes) : Qry :=
  if kind = 2 ∨ kind = 4 ∨ kind = 5 then ⟨kind, (unnum (cutS rest).1).1, 0, 0, []⟩ else
  if kind = 3 then ⟨kind, (unnum (cutS rest).1).1, (unnum (cutS rest).2.1).1, 0, []⟩ else
  if kind = 6 then ⟨kind, 0, 0, (unnum rest).1, []⟩ else
  if kind = 7 ∨ kind = 8 then ⟨kind, 0, 0, 0, (unquo rest).1⟩ else ⟨kind, 0, 0, 0, []⟩
abbrev qz : Qry := ⟨0, 0, 0, 0, []⟩
def gotQ (s : Bytes) : Qry × Bool := rdQ (mpAt wordL (cutS s).1) (cutS s).2.1
def rdTQ (s : Bytes) : Qry × Int := if 2000 < s.length then (qz, 4) else if (gotQ s).2 = true ∧ okQ (gotQ s).1 = true ∧ shownQ (gotQ s).1 = s then ((gotQ s).1, 0) else (qz, 12)
theorem numQ_num {n : Int} (h : 0 ≤ n ∧ n < 1000) : numQ (num n) = (n, true) := by
  unfold numQ
  rw [unnum_num (by omega) (by omega)]
  simp only [decide_eq_true h.1, decide_eq_true h.2]
  rfl
theorem back_Q {q : Qry} (h : OkQ q) (hk : -9223372036854775808 ≤ q.key ∧ q.key < 9223372036854775808) : gotQ (shownQ q) = (q, true) ∧ (cutS (shownQ q)).1 = wordM q.kind ∧ refQ q.kind (cutS (shownQ q)).2.1 = q := by
  obtain ⟨k1, k8, b, g, k, n⟩ := h
  have hw := word_nosp k1 k8
  unfold bareQ at b
  by_cases e1 : q.kind = 1
  · rw [if_pos e1] at b
    have es : cutS (shownQ q) = (wordM q.kind, [], false) := by unfold shownQ; rw [if_pos e1]; exact cutS_no hw
    unfold gotQ
    rw [es]
    simp only
    rw [mpAt_word k1 k8]
    unfold rdQ refQ
    rw [if_pos e1, if_neg (by omega), if_neg (by omega), if_neg (by omega), if_neg (by omega)]
    rw [e1] at b
    rw [e1]
    exact ⟨by rw [← b]; rfl, trivial, b.symm⟩
  rw [if_neg e1] at b
  by_cases e3 : q.kind = 3
  · rw [if_pos e3] at b
    have es : cutS (shownQ q) = (wordM q.kind, num q.g ++ 32 :: num q.k, true) := by
      unfold shownQ
      rw [if_neg e1, if_pos e3, ← cutS_at (r := num q.g ++ 32 :: num q.k) hw]
      simp
    have er : cutS (num q.g ++ 32 :: num q.k) = (num q.g, num q.k, true) := cutS_at (num_nosp _)
    unfold gotQ
    rw [es]
    simp only
    rw [mpAt_word k1 k8]
    unfold rdQ refQ
    rw [if_neg e1, if_pos e3, if_neg (by omega), if_pos e3, er]
    simp only
    rw [numQ_num (by omega), numQ_num (by omega), unnum_num (by omega) (by omega), unnum_num (by omega) (by omega)]
    rw [e3] at b
    rw [e3]
    exact ⟨by rw [← b]; rfl, trivial, b.symm⟩
  rw [if_neg e3] at b
  by_cases e2 : q.kind = 2 ∨ q.kind = 4 ∨ q.kind = 5
  · rw [if_pos e2] at b
    have es : cutS (shownQ q) = (wordM q.kind, num q.g, true) := by
      unfold shownQ
      rw [if_neg e1, if_neg e3, if_neg (by omega), if_neg (by omega), ← cutS_at (r := num q.g) hw]
      simp
    have er : cutS (num q.g) = (num q.g, [], false) := cutS_no (num_nosp _)
    unfold gotQ
    rw [es]
    simp only
    rw [mpAt_word k1 k8]
    unfold rdQ refQ
    rw [if_neg e1, if_neg e3, if_neg (by omega), if_neg (by omega), if_pos e2, er]
    simp only
    rw [numQ_num (by omega), unnum_num (by omega) (by omega)]
    exact ⟨by rw [← b], trivial, b.symm⟩
  rw [if_neg e2] at b
  by_cases e6 : q.kind = 6
  · rw [if_pos e6] at b
    have es : cutS (shownQ q) = (wordM q.kind, num q.key, true) := by
      unfold shownQ
      rw [if_neg e1, if_neg e3, if_pos e6, ← cutS_at (r := num q.key) hw]
      simp
    unfold gotQ
    rw [es]
    simp only
    rw [mpAt_word k1 k8]
    unfold rdQ refQ
    rw [if_neg e1, if_neg e3, if_pos e6, if_neg e2, if_neg e3, if_pos e6, unnum_num hk.1 hk.2]
    rw [e6] at b
    rw [e6]
    exact ⟨by rw [← b]; rfl, trivial, b.symm⟩
  · rw [if_neg e6] at b
    have e7 : q.kind = 7 ∨ q.kind = 8 := by omega
    have es : cutS (shownQ q) = (wordM q.kind, quo q.name, true) := by
      unfold shownQ
      rw [if_neg e1, if_neg e3, if_neg e6, if_pos e7, ← cutS_at (r := quo q.name) hw]
      simp
    unfold gotQ
    rw [es]
    simp only
    rw [mpAt_word k1 k8]
    unfold rdQ refQ
    rw [if_neg e1, if_neg e3, if_neg e6, if_pos e7, if_neg e2, if_neg e3, if_neg e6, if_pos e7, unquo_quo (by omega)]
    exact ⟨by rw [← b]; rfl, trivial, b.symm⟩
theorem gotQ_key (s : Bytes) : -9223372036854775808 ≤ (gotQ s).1.key ∧ (gotQ s).1.key < 9223372036854775808 := by
  have := unnum_rng (cutS s).2.1
  unfold gotQ rdQ
  repeat' split
  all_goals (simp only; omega)
theorem ref_found {s : Bytes} (hs : ¬2000 < s.length) {q : Qry} (h : okQ q = true) (hk : -9223372036854775808 ≤ q.key ∧ q.key < 9223372036854775808) (e : shownQ q = s) : rdTQ s = (q, 0) := by
  obtain ⟨h1, _, _⟩ := back_Q (okQ_iff.1 h) hk
  unfold rdTQ
  rw [if_neg hs, ← e, h1, if_pos ⟨rfl, h, rfl⟩]
theorem shownQ_len {q : Qry} (h : q.name.length ≤ 100) : (shownQ q).length ≤ 700 := by
  have h1 := word_len (k := q.kind)
  have h2 := num_len q.g
  have h3 := num_len q.k
  have h4 := num_len q.key
  have h5 := quo_len q.name
  unfold shownQ
  repeat' split
  all_goals first | omega | (simp only [List.length_append, List.length_cons, List.length_nil]; omega)
end Go.AM

/- Parts of the proof. -/
namespace Go.AM
open Go
structure HasU (prog:Prog):Prop extends Has03 prog where
  f197:prog.fn 197 = some pf197
  f243:prog.fn 243 = some pf243
  f245:prog.fn 245 = some pf245
  f247:prog.fn 247 = some pf247
  f257:prog.fn 257 = none
  f258:prog.fn 258 = some pf258
  f260:prog.fn 260 = some pf260
  f261:prog.fn 261 = some pf261
  f266:prog.fn 266 = some pf266
  f267:prog.fn 267 = some pf267
  o257:prog.orac 257 [] = some (.mp wordL)
theorem ib_le (s:Bytes) (c:UInt8):Lib.indexByte s c < (s.length:Int)∨s = []:=by
  induction s with
  | nil=>exact .inr rfl
  | cons b s ih=>
    left
    rw [Lib.indexByte]
    have:(((b :: s).length:Nat):Int) = (s.length:Int) + 1:=by rw [List.length_cons]; omega
    split
    · omega
    · split
      · omega
      · rename_i h1 h2
        rcases ih with h | h
        · omega
        · subst h; exact absurd rfl h2
section
variable {prog:Prog} (H:HasU prog)
include H
theorem c257:Pus prog 257 [] (.mp wordL):=⟨.mp wordL,⟨st0,1,by simp only [acall,H.f257,H.o257]⟩,by simp [AV.strip]⟩
theorem c258 {n:Int} (h1:-9223372036854775808≤n) (h2:n < 9223372036854775808):Pus prog 258 [.i .i64 n] (.s (num n)):=by
  obtain ⟨x,rfl,h⟩:=p258 H.f258 (n0:=n) (K:=fun x=>x = num n) (by
    unfold T258_0
    exact ⟨_,c15 H.toHas03 h1 h2,rfl⟩)
  exact h
theorem c197 (s:Bytes) (c:UInt8):Pus prog 197 [.s s,.s [c]] (.i .i64 (Lib.indexByte s c)):=by
  obtain ⟨x,rfl,h⟩:=p197 H.f197 (s0:=s) (substr1:=[c]) (K:=fun x=>x = Lib.indexByte s c) (by
    have t3 :∀b,(b = true→s = [c])→T197_3 prog (fun x=>x = Lib.indexByte s c) s [c] (([c]:Bytes).length:Int) b:=fun b hb=>by
      unfold T197_3
      refine ⟨fun h=>?_,fun _=>⟨fun _=>⟨c,rfl,_,c47 H.toHas03 s c,rfl⟩,fun h=>absurd rfl h⟩⟩
      rw [hb h,Lib.indexByte,if_pos (by simp)]
    unfold T197_0 T197_1 T197_2
    exact ⟨fun h=>absurd h (by simp),fun _=>t3 _ fun h=>(of_decide_eq_true h).symm⟩)
  exact h
theorem c266 {s:Bytes} (hs:s.length≤1000000000):Pus prog 266 [.s s,.s [32]] (.tup [.s (cutS s).1,.s (cutS s).2.1,.b (cutS s).2.2]):=by
  obtain ⟨x,y,z,⟨rfl,rfl,rfl⟩,h⟩:=p266 H.f266 (s0:=s) (sep1:=[32]) (K:=fun x y z=>x = (cutS s).1∧y = (cutS s).2.1∧z = (cutS s).2.2) (by
    have hl:=ib_le s 32
    have hg:=Lib.indexByte_ge s 32
    unfold T266_0
    refine ⟨_,c197 H s 32,fun h=>?_,fun h=>?_⟩
    · have hlt:Lib.indexByte s 32 < (s.length:Int):=by
        rcases hl with h' | rfl
        · exact h'
        · exact absurd h (by decide)
      have e1:(([32]:Bytes).length:Int) = 1:=rfl
      rw [e1,wr_i64 (by omega) (by omega)]
      unfold cutS
      rw [if_pos (by omega)]
      exact ⟨by omega,by omega,by omega,by omega,rfl,rfl,rfl⟩
    · unfold cutS
      rw [if_neg (by omega)]
      exact ⟨rfl,rfl,rfl⟩)
  exact h
theorem c260 {s:Bytes} (hs:s.length≤1000000000):Pus prog 260 [.s s,.s [32]] (.tup [.s (cutS s).1,.s (cutS s).2.1,.b (cutS s).2.2]):=by
  obtain ⟨x,y,z,⟨rfl,rfl,rfl⟩,h⟩:=p260 H.f260 (s0:=s) (sep1:=[32]) (K:=fun x y z=>x = (cutS s).1∧y = (cutS s).2.1∧z = (cutS s).2.2) (by
    unfold T260_0
    exact ⟨_,_,_,c266 H hs,rfl,rfl,rfl⟩)
  exact h
theorem c267 (s:Bytes):Pus prog 267 [.s s] (.tup [.i .i64 (numQ s).1,.b (numQ s).2]):=by
  obtain ⟨x,y,⟨rfl,rfl⟩,h⟩:=p267 H.f267 (s0:=s) (K:=fun x y=>x = (numQ s).1∧y = (numQ s).2) (by
    unfold T267_0 numQ
    refine ⟨_,_,c21 H.toHas03 s,fun h=>⟨fun h1=>⟨rfl,?_⟩,fun h1=>⟨rfl,?_⟩⟩,fun h=>⟨rfl,?_⟩⟩
    · rw [decide_eq_true h,decide_eq_true (p:=0≤(unnum s).1) (by omega)]; rfl
    · rw [decide_eq_true h,decide_eq_false (p:=0≤(unnum s).1) (by omega)]; rfl
    · rw [decide_eq_false h]; rfl)
  exact h
theorem c261 {kind:Int} {rest:Bytes} (hr:rest.length≤1000000000):Pus prog 261 [.i .u8 kind,.s rest] (.tup [(rdQ kind rest).1.av,.b (rdQ kind rest).2]):=by
  obtain ⟨x,y,⟨rfl,rfl⟩,h⟩:=p261 H.f261 (kind0:=kind) (rest1:=rest) (K:=fun x y=>x = (rdQ kind rest).1∧y = (rdQ kind rest).2) (by
    have t7 :∀(K:Qry→Bool→Prop) (ok is:Bool) (e:Int) (m q:Qry),K q (ok && (is && decide (e = 0)))→T261_7 prog K ok is e m q:=fun K ok is e m q hk=>by
      unfold T261_7
      refine ⟨fun h=>⟨fun h'=>?_,fun h'=>?_⟩,fun h=>?_⟩
      · rw [h,h'] at hk; exact hk
      · rw [h,h'] at hk; exact hk
      · rw [h] at hk; exact hk
    unfold T261_0 T261_1 T261_2 T261_3 T261_4 T261_5 T261_6
    refine ⟨fun h=>?_,fun h1=>⟨fun h=>?_,fun h3=>⟨fun h=>?_,fun h6=>⟨fun h=>?_,fun h7=>?_⟩⟩⟩⟩
    · have h:=of_decide_eq_true h
      refine t7 _ _ _ _ _ _ ?_
      unfold rdQ
      rw [if_pos h,h]
      exact ⟨rfl,by simp⟩
    · have h1:=of_decide_eq_false h1
      have hc1:(cutS rest).1.length≤1000000000:=by unfold cutS; split <;> simp <;> omega
      refine ⟨_,_,_,c260 H hr,_,_,c267 H _,_,_,c267 H _,fun hi=>t7 _ _ _ _ _ _ ?_,fun hi=>t7 _ _ _ _ _ _ ?_⟩
      · unfold rdQ
        rw [if_neg h1,if_pos h,h,hi]
        exact ⟨rfl,by simp⟩
      · unfold rdQ
        rw [if_neg h1,if_pos h,h,hi]
        exact ⟨rfl,by simp⟩
    · have h1:=of_decide_eq_false h1
      refine ⟨_,_,c21 H.toHas03 rest,t7 _ _ _ _ _ _ ?_⟩
      unfold rdQ
      rw [if_neg h1,if_neg h3,if_pos h,h]
      exact ⟨rfl,by simp⟩
    · have h1:=of_decide_eq_false h1
      unfold T261_8
      refine ⟨fun _=>⟨_,_,c25 H.toHas03 rest,t7 _ _ _ _ _ _ ?_⟩,fun h'=>absurd h (of_decide_eq_false h')⟩
      unfold rdQ
      rw [if_neg h1,if_neg h3,if_neg h6,if_pos (.inl h)]
      exact ⟨rfl,by simp⟩
    · have h1:=of_decide_eq_false h1
      unfold T261_8
      refine ⟨fun h=>⟨_,_,c25 H.toHas03 rest,t7 _ _ _ _ _ _ ?_⟩,fun h=>⟨_,_,c267 H rest,t7 _ _ _ _ _ _ ?_⟩⟩
      · have h:=of_decide_eq_true h
        unfold rdQ
        rw [if_neg h1,if_neg h3,if_neg h6,if_pos (.inr h)]
        exact ⟨rfl,by simp⟩
      · have h:=of_decide_eq_false h
        unfold rdQ
        rw [if_neg h1,if_neg h3,if_neg h6,if_neg (by omega)]
        exact ⟨rfl,by simp⟩)
  exact h
theorem fin_chk {q b:Qry} {K:Int→Prop} (hb:bareQ q = b) (hk:1≤q.kind∧q.kind≤8) (h:K (chkQ q)) :
    ((!(eqQ q b)) = true→K 8)∧((!(eqQ q b)) = false→(q.g < 0→K 8)∧(¬(q.g < 0)→(q.g ≥ 16→K 8)∧(¬(q.g ≥ 16)→(q.k < 0→K 8)∧(¬(q.k < 0)→(q.k ≥ 170→K 8)∧(¬(q.k ≥ 170)→((q.name.length:Int) > 16→K 8)∧(¬((q.name.length:Int) > 16)→K 0)))))):=by
  have e:okQ q = (eqQ q b && rngQ q):=by unfold okQ; rw [decide_eq_true hk,hb]; rfl
  have no:okQ q = false→K 8:=fun h'=>by unfold chkQ at h; rw [h'] at h; exact h
  refine ⟨fun h1=>no ?_,fun h1=>?_⟩
  · rw [e,show eqQ q b = false by simpa using h1]; rfl
  have h1:eqQ q b = true:=by simpa using h1
  rw [h1,Bool.true_and] at e
  unfold rngQ at e
  refine ⟨fun h2=>no ?_,fun h2=>⟨fun h3=>no ?_,fun h3=>⟨fun h4=>no ?_,fun h4=>⟨fun h5=>no ?_,fun h5=>⟨fun h6=>no ?_,fun h6=>?_⟩⟩⟩⟩⟩
  · rw [e,decide_eq_false (by omega)]; rfl
  · rw [e,decide_eq_false (by omega)]; rfl
  · rw [e,decide_eq_false (p:=0≤q.k∧_) (by omega)]; simp
  · rw [e,decide_eq_false (p:=0≤q.k∧_) (by omega)]; simp
  · rw [e,decide_eq_false (p:=q.name.length≤16) (by omega)]; simp
  · rw [decide_eq_true (by omega),decide_eq_true (by omega),decide_eq_true (by omega)] at e
    unfold chkQ at h
    rw [e] at h
    exact h
end
end Go.AM

/- Parts of the proof. -/
namespace Go.AM
open Go
theorem bare_1 {q:Qry} (h:q.kind = 1):bareQ q = ⟨q.kind,0,0,0,[]⟩:=by unfold bareQ; rw [if_pos h]
theorem bare_3 {q:Qry} (h:q.kind = 3):bareQ q = ⟨q.kind,q.g,q.k,0,[]⟩:=by unfold bareQ; rw [if_neg (by omega),if_pos h]
theorem bare_g {q:Qry} (h:q.kind = 2∨q.kind = 4∨q.kind = 5):bareQ q = ⟨q.kind,q.g,0,0,[]⟩:=by unfold bareQ; rw [if_neg (by omega),if_neg (by omega),if_pos h]
theorem bare_6 {q:Qry} (h:q.kind = 6):bareQ q = ⟨q.kind,0,0,q.key,[]⟩:=by unfold bareQ; rw [if_neg (by omega),if_neg (by omega),if_neg (by omega),if_pos h]
theorem bare_n {q:Qry} (h:q.kind = 7∨q.kind = 8):bareQ q = ⟨q.kind,0,0,0,q.name⟩:=by unfold bareQ; rw [if_neg (by omega),if_neg (by omega),if_neg (by omega),if_neg (by omega)]
theorem chk_no {q:Qry} (h:¬(1≤q.kind∧q.kind≤8)):chkQ q = 8:=by unfold chkQ okQ; rw [decide_eq_false h]; rfl
section
variable {prog:Prog} (H:HasU prog)
include H
theorem c247 (q:Qry):Pus prog 247 [q.av] (.i .i64 (chkQ q)):=by
  obtain ⟨x,rfl,h⟩:=p247 H.f247 (q0:=q) (K:=fun x=>x = chkQ q) (by
    have fin :∀b,bareQ q = b→1≤q.kind∧q.kind≤8→T247_3 prog (fun x=>x = chkQ q) q b:=fun b hb hk=>by
      unfold T247_3
      exact fin_chk H (K:=fun x=>x = chkQ q) hb hk rfl
    have t4 :∀t,(t = true ↔ q.kind = 2∨q.kind = 4∨q.kind = 5)→q.kind≠1→q.kind≠3→T247_4 prog (fun x=>x = chkQ q) q.kind t q ⟨q.kind,0,0,0,[]⟩:=fun t ht h1 h3=>by
      unfold T247_4 T247_5
      refine ⟨fun h=>fin _ (bare_g (ht.1 h)) (by have:=ht.1 h; omega),fun h=>?_⟩
      have hg:¬(q.kind = 2∨q.kind = 4∨q.kind = 5):=fun h'=>by rw [ht.2 h'] at h; cases h
      refine ⟨fun h6=>fin _ (bare_6 h6) (by omega),fun h6=>⟨fun h7=>⟨fun _=>fin _ (bare_n (.inl h7)) (by omega),fun h'=>absurd h7 (of_decide_eq_false h')⟩,fun h7=>⟨fun h'=>fin _ (bare_n (.inr (of_decide_eq_true h'))) (by have:=of_decide_eq_true h'; omega),fun h'=>?_⟩⟩⟩
      have h8:=of_decide_eq_false h'
      exact (chk_no (by omega)).symm
    unfold T247_0 T247_1 T247_2
    refine ⟨fun h=>fin _ (bare_1 h) (by omega),fun h1=>⟨fun h=>fin _ (bare_3 h) (by omega),fun h3=>⟨fun h=>t4 _ (by rw [decide_eq_true_eq]; omega) h1 h3,fun h2=>⟨fun h=>t4 _ (by rw [decide_eq_true_eq]; omega) h1 h3,fun h4=>t4 _ (by rw [decide_eq_true_eq]; omega) h1 h3⟩⟩⟩⟩)
  exact h
theorem c243 {q:Qry} (hk:-9223372036854775808≤q.key∧q.key < 9223372036854775808):Pus prog 243 [q.av] (.tup [.s (txtQ q).1,.i .i64 (txtQ q).2]):=by
  obtain ⟨x,y,⟨rfl,rfl⟩,h⟩:=p243 H.f243 (q0:=q) (K:=fun x y=>x = (txtQ q).1∧y = (txtQ q).2) (by
    unfold T243_0 T243_1
    refine ⟨_,c247 H q,fun h=>?_,fun h=>?_⟩
    · have h':¬okQ q = true:=fun e=>h (chkQ_iff.2 e)
      unfold txtQ chkQ
      rw [if_neg h',if_neg h']
      exact ⟨rfl,rfl⟩
    have ho:okQ q = true:=chkQ_iff.1 (Decidable.not_not.1 h)
    have et:txtQ q = (shownQ q,0):=by unfold txtQ; rw [if_pos ho]
    rw [et]
    obtain ⟨k1,k8,_,hg,hk',hn⟩:=okQ_iff.1 ho
    have l1:=word_len (k:=q.kind)
    have l2:=num_len q.g
    have l3:=num_len q.k
    have l4:=num_len q.key
    have l5:=quo_len q.name
    have t4 :∀t,q.kind≠1→q.kind≠3→q.kind≠6→(t = true ↔ q.kind = 7∨q.kind = 8)→T243_4 prog (fun x y=>x = shownQ q∧y = 0) (wordM q.kind) t q:=fun t h1 h3 h6 ht=>by
      unfold T243_4 T243_3
      have eq:quoR q.name = (quo q.name,0):=by unfold quoR; rw [if_neg (by omega)]
      refine ⟨fun h=>⟨_,_,c11 H.toHas03 q.name,fun h'=>?_,fun _=>⟨?_,?_,?_,rfl⟩⟩,fun h=>⟨_,c258 H (by omega) (by omega),?_,?_,?_,rfl⟩⟩
      case refine_1=>rw [eq] at h'; exact absurd rfl h'
      case refine_4=>
        have:=ht.1 h
        unfold shownQ
        rw [if_neg h1,if_neg h3,if_neg h6,if_pos this,eq]
      case refine_7=>
        have:¬(q.kind = 7∨q.kind = 8):=fun h'=>by rw [ht.2 h'] at h; cases h
        unfold shownQ
        rw [if_neg h1,if_neg h3,if_neg h6,if_neg this]
      all_goals (rw [maxStr_eq]; (try rw [eq]); simp only [List.length_append,List.length_cons,List.length_nil]; omega)
    unfold T243_2
    refine ⟨fun h1=>?_,fun h1=>⟨fun h3=>⟨_,c258 H (by omega) (by omega),?_,?_,_,c258 H (by omega) (by omega),?_,?_,?_⟩,fun h3=>⟨fun h6=>⟨_,c15 H.toHas03 hk.1 hk.2,?_,?_,?_⟩,fun h6=>⟨fun h7=>t4 _ h1 h3 h6 (by rw [decide_eq_true_eq]; omega),fun h7=>t4 _ h1 h3 h6 (by rw [decide_eq_true_eq]; omega)⟩⟩⟩⟩
    case refine_1=>
      unfold T243_3 shownQ
      rw [if_pos h1]
      exact ⟨rfl,rfl⟩
    case refine_6=>
      unfold T243_3 shownQ
      rw [if_neg h1,if_pos h3]
      exact ⟨rfl,rfl⟩
    case refine_9=>
      unfold T243_3 shownQ
      rw [if_neg h1,if_neg h3,if_pos h6]
      exact ⟨rfl,rfl⟩
    all_goals (rw [maxStr_eq]; simp only [List.length_append,List.length_cons,List.length_nil]; omega))
  exact h
theorem c245 (s:Bytes):Pus prog 245 [.s s] (.tup [(rdTQ s).1.av,.i .i64 (rdTQ s).2]):=by
  obtain ⟨x,y,⟨rfl,rfl⟩,h⟩:=p245 H.f245 (s0:=s) (K:=fun x y=>x = (rdTQ s).1∧y = (rdTQ s).2) (by
    unfold T245_0
    refine ⟨fun h=>?_,fun h=>?_⟩
    · unfold rdTQ
      rw [if_pos (by omega)]
      exact ⟨rfl,rfl⟩
    have hl:¬2000 < s.length:=by omega
    have hr:(cutS s).2.1.length≤1000000000:=by unfold cutS; split <;> simp <;> omega
    have no:¬((gotQ s).2 = true∧okQ (gotQ s).1 = true∧shownQ (gotQ s).1 = s)→rdTQ s = (qz,12):=fun h=>by
      unfold rdTQ
      rw [if_neg hl,if_neg h]
    refine ⟨_,_,_,c260 H (by omega),_,c257 H,_,_,c261 H hr,fun h=>?_,fun h=>⟨_,_,c243 H (gotQ_key s),fun h'=>?_,fun h'=>⟨fun h2=>?_,fun h2=>?_⟩⟩⟩
    · have h:(!(gotQ s).2) = true:=h
      rw [no fun h'=>by rw [h'.1] at h; cases h]
      exact ⟨rfl,rfl⟩
    · have h':(txtQ (gotQ s).1).2≠0:=h'
      rw [no fun h2=>by unfold txtQ at h'; rw [if_pos h2.2.1] at h'; exact h' rfl]
      exact ⟨rfl,rfl⟩
    · have h':¬(txtQ (gotQ s).1).2≠0:=h'
      have h2:(txtQ (gotQ s).1).1≠s:=h2
      rw [no fun h3=>by unfold txtQ at h2; rw [if_pos h3.2.1] at h2; exact h2 h3.2.2]
      exact ⟨rfl,rfl⟩
    · have h:(!(gotQ s).2) = false:=h
      have h':¬(txtQ (gotQ s).1).2≠0:=h'
      have h2:¬(txtQ (gotQ s).1).1≠s:=h2
      have ho:okQ (gotQ s).1 = true:=by
        rcases Bool.eq_false_or_eq_true (okQ (gotQ s).1) with e | e
        · exact e
        · unfold txtQ at h'
          rw [e] at h'
          exact absurd (show (8:Int)≠0 by decide) h'
      unfold txtQ at h2
      rw [if_pos ho] at h2
      unfold rdTQ
      rw [if_neg hl,if_pos ⟨by simpa using h,ho,Decidable.not_not.1 h2⟩]
      exact ⟨rfl,rfl⟩)
  exact h
end
end Go.AM

/- Parts of the proof. -/
namespace Go.AM
open Go
section
variable {f : Bytes → Val × Bool × Bytes} {kind : Int} {e : UInt8}
end
theorem fine_ok {v : Val} (h : fine v = true) : okv 130 v = true ∧ v.nodes ≤ 5000 := by
  simpa [fine] using h
end Go.AM

/- Parts of the proof. -/
namespace Go.AM
open Go
theorem bv_split {x m c : BitVec 64} (h : x &&& ~~~m = c) : x = c ||| (x &&& m) := by
  subst h
  apply BitVec.eq_of_getLsbD_eq
  intro i hi
  simp only [BitVec.getLsbD_or, BitVec.getLsbD_and, BitVec.getLsbD_not, hi, decide_true, Bool.true_and]
  cases x.getLsbD i <;> cases m.getLsbD i <;> rfl
theorem bv_two (x : BitVec 64) (i : Nat) : x &&& BitVec.twoPow 64 i = BitVec.twoPow 64 i ∨ x &&& BitVec.twoPow 64 i = 0#64 := by
  rw [BitVec.and_twoPow]
  split
  · exact .inl rfl
  · exact .inr rfl
theorem wrap_toNat (x : BitVec 64) : IntKind.u64.wrap (x.toNat : Int) = (x.toNat : Int) := wr_u64_nat x.isLt
theorem ofInt_toNat {f : Int} (h : 0 ≤ f ∧ f < 18446744073709551616) : f = ((BitVec.ofInt 64 f).toNat : Int) := by
  rw [BitVec.toNat_ofInt]; omega
theorem flag2 {f : Int} (h : 0 ≤ f ∧ f < 18446744073709551616) : bAndNot .u64 f 4 = 2 ↔ f = 2 ∨ f = 6 := by
  constructor
  · intro h1
    have h1 : IntKind.u64.wrap ((BitVec.ofInt 64 f &&& ~~~(BitVec.ofInt 64 4)).toNat : Int) = 2 := h1
    rw [wrap_toNat] at h1
    have h2 : BitVec.ofInt 64 f &&& ~~~(BitVec.ofInt 64 4) = 2#64 := BitVec.eq_of_toNat_eq (by rw [show (2#64).toNat = 2 from rfl]; omega)
    have h3 := bv_split h2
    rw [show BitVec.ofInt 64 4 = BitVec.twoPow 64 2 from by decide] at h3
    rcases bv_two (BitVec.ofInt 64 f) 2 with h4 | h4 <;> rw [h4] at h3 <;> have h5 := ofInt_toNat h <;> rw [h3] at h5
    · exact .inr h5
    · exact .inl h5
  · rintro (rfl | rfl) <;> decide
theorem flag0 {f : Int} (h : 0 ≤ f ∧ f < 18446744073709551616) : bAndNot .u64 f 5 = 0 ↔ f = 0 ∨ f = 1 ∨ f = 4 ∨ f = 5 := by
  constructor
  · intro h1
    have h1 : IntKind.u64.wrap ((BitVec.ofInt 64 f &&& ~~~(BitVec.ofInt 64 5)).toNat : Int) = 0 := h1
    rw [wrap_toNat] at h1
    have h2 : BitVec.ofInt 64 f &&& ~~~(BitVec.ofInt 64 5) = 0#64 := BitVec.eq_of_toNat_eq (by rw [show (0#64).toNat = 0 from rfl]; omega)
    have h3 := bv_split h2
    have e : BitVec.ofInt 64 f &&& BitVec.ofInt 64 5 = (BitVec.ofInt 64 f &&& BitVec.twoPow 64 2) ||| (BitVec.ofInt 64 f &&& BitVec.twoPow 64 0) := by
      rw [show BitVec.ofInt 64 5 = BitVec.twoPow 64 2 ||| BitVec.twoPow 64 0 from by decide]
      apply BitVec.eq_of_getLsbD_eq
      intro i hi
      simp only [BitVec.getLsbD_or, BitVec.getLsbD_and]
      cases (BitVec.ofInt 64 f).getLsbD i <;> rfl
    rw [e] at h3
    have h5 := ofInt_toNat h
    rcases bv_two (BitVec.ofInt 64 f) 2 with h4 | h4 <;> rcases bv_two (BitVec.ofInt 64 f) 0 with h6 | h6 <;> rw [h4, h6] at h3 <;> rw [h3] at h5
    · exact .inr (.inr (.inr h5))
    · exact .inr (.inr (.inl h5))
    · exact .inr (.inl h5)
    · exact .inl h5
  · rintro (rfl | rfl | rfl | rfl) <;> decide
def tExit : Bytes := [101, 120, 105, 116]
def tPan : Bytes := [112, 97, 110, 105, 99, 32]
def tRec : Bytes := [32, 114, 101, 99, 111, 118, 101, 114, 101, 100]
def tAb : Bytes := [32, 97, 98, 111, 114, 116, 101, 100]
def tF1 : Bytes := [102, 97, 117, 108, 116, 32, 49, 58, 32, 100, 105, 118, 105, 115, 105, 111, 110, 32, 98, 121, 32, 122, 101, 114, 111]
def tF2 : Bytes := [102, 97, 117, 108, 116, 32, 50, 58, 32, 110, 105, 108, 32, 112, 111, 105, 110, 116, 101, 114]
def tF3 : Bytes := [102, 97, 117, 108, 116, 32, 51, 58, 32, 111, 117, 116, 32, 111, 102, 32, 114, 97, 110, 103, 101]
def faultT (n : Int) : Bytes := if n = 1 then tF1 else if n = 2 then tF2 else if n = 3 then tF3 else []
def kindT (t : Int) : Int := if t = 1 then 2 else if t = 2 then 1 else if t = 3 then 3 else if t = 4 then 2 else 0
structure WfP (p : Pan) : Prop where
  t : 0 ≤ p.tag ∧ p.tag < 18446744073709551616
  v : Wf p.value
  f : 0 ≤ p.flags ∧ p.flags < 18446744073709551616
def isZ (v : Val) : Bool := decide (v.kind = 0) && decide (v.int = 0) && decide (v.text = []) && decide (v.list.length = 0) && !v.cut
theorem isZ_true {v : Val} : isZ v = true ↔ v = vz := by
  unfold isZ
  simp only [Bool.and_eq_true, decide_eq_true_eq, Bool.not_eq_true', and_assoc, List.length_eq_zero_iff]
  cases v with
  | mk k n s l c => simp
def okP (p : Pan) : Bool := decide (p.tag ≤ 4) && decide (p.value.kind = kindT p.tag) && (if p.tag = 0 then isZ p.value && decide (p.flags = 2 ∨ p.flags = 6)
  else decide (p.flags = 0 ∨ p.flags = 1 ∨ p.flags = 4 ∨ p.flags = 5) && decide (p.tag = 4 → 1 ≤ p.value.int ∧ p.value.int ≤ 3) && fine p.value)
def chkP (p : Pan) : Int := if okP p = true then 0 else 8
def baseP (p : Pan) : Bytes := if p.tag = 0 then tExit else if p.tag = 4 then faultT p.value.int else tPan ++ txt p.value
def sufP (f : Int) : Bytes := (if f % 2 = 1 then tRec else []) ++ (if 4 ≤ f then tAb else [])
def shown (p : Pan) : Bytes := baseP p ++ sufP p.flags
def lnP (p : Pan) : Bytes × Int := if okP p = true then (shown p, 0) else ([], 8)
end Go.AM

/- Parts of the proof. -/
namespace Go.AM
open Go
theorem okP_flags {p : Pan} (h : okP p = true) : (p.tag = 0 ∧ p.value = vz ∧ (p.flags = 2 ∨ p.flags = 6)) ∨ (p.tag ≠ 0 ∧ fine p.value = true ∧ (p.flags = 0 ∨ p.flags = 1 ∨ p.flags = 4 ∨ p.flags = 5)) := by
  unfold okP at h
  simp only [Bool.and_eq_true, decide_eq_true_eq] at h
  obtain ⟨⟨h1, h2⟩, h3⟩ := h
  by_cases t0 : p.tag = 0
  · rw [if_pos t0] at h3
    simp only [Bool.and_eq_true, decide_eq_true_eq] at h3
    exact .inl ⟨t0, isZ_true.1 h3.1, h3.2⟩
  · rw [if_neg t0] at h3
    simp only [Bool.and_eq_true, decide_eq_true_eq] at h3
    exact .inr ⟨t0, h3.2, h3.1.1⟩
theorem txt_small {v : Val} (h : fine v = true) (hk : v.kind = 1 ∨ v.kind = 2 ∨ v.kind = 3) : (txt v).length ≤ 300 := by
  have h7 := okv_head (fine_ok h).1
  unfold Val.okh Okh at h7
  have h8 := num_len v.int
  have h9 := quo_len v.text
  rw [txt_eq]
  rcases hk with h | h | h <;> rw [h]
  · rw [if_pos rfl]; split <;> decide
  · show (num v.int).length ≤ 300; omega
  · show (quo v.text).length ≤ 300; omega
theorem okP_kind {p : Pan} (h : okP p = true) (h0 : p.tag ≠ 0) : p.value.kind = 1 ∨ p.value.kind = 2 ∨ p.value.kind = 3 := by
  have hf : fine p.value = true := by rcases okP_flags h with h | h; exact absurd h.1 h0; exact h.2.1
  unfold okP at h
  simp only [Bool.and_eq_true, decide_eq_true_eq] at h
  have h2 := h.1.2
  have h7 := okv_head (fine_ok hf).1
  unfold Val.okh Okh at h7
  unfold kindT at h2
  repeat' split at h2
  all_goals omega
theorem shown_len {p : Pan} (h : okP p = true) : (shown p).length ≤ 400 := by
  have hs : (sufP p.flags).length ≤ 18 := by unfold sufP; split <;> split <;> decide
  have hb : (baseP p).length ≤ 310 := by
    unfold baseP
    by_cases t0 : p.tag = 0
    · rw [if_pos t0]; decide
    rw [if_neg t0]
    split
    · unfold faultT; repeat' split
      all_goals decide
    · have hf : fine p.value = true := by rcases okP_flags h with h | h; exact absurd h.1 t0; exact h.2.1
      have := txt_small hf (okP_kind h t0)
      rw [List.length_append, show tPan.length = 6 from rfl]; omega
  unfold shown
  rw [List.length_append]; omega
end Go.AM

/- Parts of the proof. -/
namespace Go.AM
open Go
structure Has38 (prog : Prog) : Prop extends Has03 prog, HasB prog where
  f72 : prog.fn 72 = some pf72
  f76 : prog.fn 76 = some pf76
  f104 : prog.fn 104 = some pf104
  f109 : prog.fn 109 = some pf109
section
variable {prog : Prog} (H : Has38 prog)
include H
end
end Go.AM

/- Parts of the proof. -/
namespace Go.AM
open Go
theorem bAnd1 (n : Int) : bAnd .i64 n 1 = n % 2 := by
  unfold bAnd
  have h1 : (BitVec.ofInt IntKind.i64.bits n &&& BitVec.ofInt IntKind.i64.bits 1).toNat = (n % 2).toNat := by
    show (BitVec.ofInt 64 n &&& BitVec.ofInt 64 1).toNat = _
    rw [BitVec.toNat_and]
    have h2 : (BitVec.ofInt 64 1).toNat = 2 ^ 1 - 1 := by decide
    rw [h2, Nat.and_two_pow_sub_one_eq_mod, BitVec.toNat_ofInt]
    omega
  rw [h1, wr_i64 (by omega) (by omega)]
  omega
theorem cut_cases (v : Val) : (v.cut = true ∧ v.cut.toNat = 1) ∨ (v.cut = false ∧ v.cut.toNat = 0) := by cases v.cut <;> simp
theorem okv_succ (d : Nat) (v : Val) : okv (d + 1) v = (decide v.okh && v.list.all (okv d)) := rfl
theorem okv_no {d : Nat} {v : Val} (h : ¬v.okh) : okv (d + 1) v = false := by rw [okv_succ, decide_eq_false h]; rfl
theorem okv_yes {d : Nat} {v : Val} (h : v.okh) : okv (d + 1) v = v.list.all (okv d) := by rw [okv_succ, decide_eq_true h]; rfl
section
variable {prog : Prog} (H : Has38 prog)
include H
end
end Go.AM

/- Parts of the proof. -/
namespace Go.AM
open Go
section
variable {prog : Prog} (H : Has38 prog)
include H
set_option maxHeartbeats 1000000 in
theorem c109 : ∀ (d : Nat) {v : Val}, Wf v → d ≤ 1000 → Pus prog 109 [v.av, .i .i64 (d : Int)] (.tup [.i .i64 (cntR d v).1, .b (cntR d v).2])
  | 0, v, hw, hd => by
    obtain ⟨x, y, ⟨rfl, rfl⟩, h⟩ := p109 H.f109 (v0 := v) (nest1 := ((0 : Nat) : Int)) (K := fun x y => x = (cntR 0 v).1 ∧ y = (cntR 0 v).2) (by
      unfold T109_0 T109_1 T109_2 T109_3 T109_4
      have : cntR 0 v = (0, false) := by unfold cntR; rw [if_neg (by rintro ⟨h, _⟩; cases h)]
      rw [this]
      repeat' first | exact ⟨rfl, rfl⟩ | refine ⟨fun _ => ?_, fun _ => ?_⟩ | (intro h)
      all_goals exact absurd rfl ‹¬((0 : Nat) : Int) = 0›)
    exact h
  | d + 1, v, hw, hd => by
    have ih := @c109 d
    obtain ⟨x, y, ⟨rfl, rfl⟩, h⟩ := p109 H.f109 (v0 := v) (nest1 := ((d + 1 : Nat) : Int)) (K := fun x y => x = (cntR (d + 1) v).1 ∧ y = (cntR (d + 1) v).2) (by
      have hm : IntKind.i64.wrap (((d + 1 : Nat) : Int) - 1) = (d : Int) := by rw [wr_i64 (by omega) (by omega)]; omega
      have ht : v.text = [] ↔ v.text.length = 0 := List.length_eq_zero_iff.symm
      have ht' : [] = v.text ↔ v.text.length = 0 := by rw [← ht]; exact eq_comm
      have cno : ¬(okv (d + 1) v = true ∧ v.nodes ≤ 5000) → cntR (d + 1) v = (0, false) := fun h => by unfold cntR; rw [if_neg h]
      have no : ¬v.okh → (0 : Int) = (cntR (d + 1) v).1 ∧ false = (cntR (d + 1) v).2 := fun h => by
        rw [cno (by rw [okv_no h]; rintro ⟨h, _⟩; cases h)]; exact ⟨rfl, rfl⟩
      have hl := hw.l
      have hn := nodes_eq v
      have lp : v.okh → ∀ P : Int → Int → Prop, (∀ (sum10 : Int) (t103 : Int), T109_5 prog (fun x y => x = (cntR (d + 1) v).1 ∧ y = (cntR (d + 1) v).2) P ((d + 1 : Nat) : Int) sum10 v.list (v.list.length : Int) t103 → P sum10 t103) → P 1 0 := by
        intro ho P hP
        have e := okv_yes (d := d) ho
        refine loop_inv (P := fun s i => P s i) (fun i => ((1 + Val.nodesL (v.list.take i) : Nat) : Int)) v.list.length (fun i => (v.list.take i).all (okv d) = true ∧ 1 + Val.nodesL (v.list.take i) ≤ 5000) (by simp [Val.nodesL]) (fun hI => ?_) (fun i hi hI ihP => ?_)
        · apply hP
          unfold T109_5 T109_6
          refine ⟨fun h => absurd h (by omega), fun _ => ?_⟩
          rw [List.take_length] at hI ⊢
          unfold cntR
          rw [if_pos ⟨by rw [e]; exact hI.1, by omega⟩, hn]
          exact ⟨rfl, rfl⟩
        · apply hP
          unfold T109_5
          have hnt := nodesL_take hi
          have hle := nodesL_le (l := v.list) (i + 1)
          refine ⟨fun _ => ⟨by omega, _, get_at hi, _, _, by rw [hm]; exact ih (hw.e _ (List.getElem_mem hi)) (by omega), ?_⟩, fun h => absurd (show (i : Int) < v.list.length by omega) h⟩
          by_cases hc : okv d v.list[i] = true ∧ v.list[i].nodes ≤ 5000
          · rw [show cntR d v.list[i] = ((v.list[i].nodes : Int), true) by unfold cntR; rw [if_pos hc]]
            refine ⟨fun h => (by cases h), fun _ => ⟨fun h => ?_, fun h => ?_⟩⟩
            · rw [wr_i64 (by omega) (by omega)] at h
              rw [cno (by omega)]
              exact ⟨rfl, rfl⟩
            · rw [wr_i64 (by omega) (by omega)] at h ⊢
              rw [wr_i64 (by omega) (by omega)]
              have := ihP ⟨by rw [List.take_succ_eq_append_getElem hi, List.all_append, hI.1]; simpa using hc.1, by omega⟩
              rw [hnt] at this
              rw [show ((1 + Val.nodesL (v.list.take i) : Nat) : Int) + (v.list[i].nodes : Int) = ((1 + (Val.nodesL (v.list.take i) + v.list[i].nodes) : Nat) : Int) by omega]
              exact this
          · rw [show cntR d v.list[i] = (0, false) by unfold cntR; rw [if_neg hc]]
            refine ⟨fun _ => ?_, fun h => (by cases h)⟩
            rw [cno (fun h => hc ⟨okv_sub h.1 _ (List.getElem_mem hi), by have := nodes_mem (List.getElem_mem hi); omega⟩)]
            exact ⟨rfl, rfl⟩
      unfold T109_0 T109_1 T109_2 T109_3 T109_4
      simp only [Val.int_mk, Val.text_mk, Val.cut_mk, Val.kind_mk, Val.list_mk, bAnd1, ht', ne_eq, not_true_eq_false, false_imp_iff, true_imp_iff, true_and, not_false_eq_true]
      rcases cut_cases v with ⟨hc, hcn⟩ | ⟨hc, hcn⟩
      all_goals simp only [hc, reduceCtorEq, false_imp_iff, true_imp_iff, not_true_eq_false, not_false_eq_true, true_and, and_true]
      all_goals repeat' first | refine ⟨fun _ => ?_, fun _ => ?_⟩ | (intro h)
      all_goals first
        | exact no (by unfold Val.okh Okh; omega)
        | exact lp (by unfold Val.okh Okh; omega) _ ‹_›
        | (exfalso; omega))
    exact h
theorem c76 {v : Val} (hw : Wf v) : Pus prog 76 [v.av] (.i .i64 (chkR v)) := by
  obtain ⟨x, rfl, h⟩ := p76 H.f76 (v0 := v) (K := fun x => x = chkR v) (by
    unfold T76_0 chkR
    refine ⟨_, _, c109 H 130 hw (by decide), ?_⟩
    unfold cntR fine
    by_cases h : okv 130 v = true ∧ v.nodes ≤ 5000
    · rw [if_pos h, if_pos (by simpa using h)]
      exact ⟨fun h => (by cases h), fun _ => rfl⟩
    · rw [if_neg h, if_neg (by simpa using h)]
      exact ⟨fun _ => rfl, fun h => (by cases h)⟩)
  exact h
end
end Go.AM
