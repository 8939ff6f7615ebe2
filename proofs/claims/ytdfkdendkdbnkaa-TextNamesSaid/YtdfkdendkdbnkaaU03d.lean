/- MADE BY PROGRAM (tl.py). -/
import Derived.Test.YtdfkdendkdbnkaaS0
set_option linter.all false
namespace Go.AM
open Go
set_option linter.unusedVariables false
set_option linter.unusedSimpArgs false
set_option maxRecDepth 4000
attribute [local irreducible] WO fillCells fillRows

/-! wreckage/wreckagelaw03.TextNames -/
def r7_0 : List AI := [⟨(some 0), .mv (.c (.b false)), none⟩]
def r7_1 : List AI := [⟨(some 56), .bslice [.s []] 11 [(0, (.c (.s []))), (1, (.c (.s [45]))), (2, (.c (.s [43, 49]))), (3, (.c (.s [48, 48]))), (4, (.c (.s [45, 48, 48]))), (5, (.c (.s [45, 48, 49]))), (6, (.c (.s [49, 32]))), (7, (.c (.s [32, 49]))), (8, (.c (.s [48, 120, 49]))), (9, (.c (.s [49, 101, 51]))), (10, (.c (.s [49, 50, 97])))], none⟩,
  ⟨(some 1), .mv (.t 56), none⟩]
def r7_2 : List AI := [⟨(some 57), .bslice [.s []] 8 [(0, (.c (.s []))), (1, (.c (.s [48, 120]))), (2, (.c (.s [48, 120, 48, 48]))), (3, (.c (.s [48, 120, 70, 70]))), (4, (.c (.s [48, 88, 49]))), (5, (.c (.s [49]))), (6, (.c (.s [48, 120, 45, 49]))), (7, (.c (.s [48, 120, 48, 103])))], none⟩,
  ⟨(some 2), .mv (.t 57), none⟩]
def r7_3 : List AI := [⟨(some 58), .bslice [.s []] 15 [(0, (.c (.s []))), (1, (.c (.s [34]))), (2, (.c (.s [97]))), (3, (.c (.s [34, 97]))), (4, (.c (.s [34, 92]))), (5, (.c (.s [34, 92, 97, 34]))), (6, (.c (.s [34, 92, 120, 48, 34]))), (7, (.c (.s [34, 92, 120, 54, 49, 34]))), (8, (.c (.s [34, 92, 120, 48, 97, 34]))), (9, (.c (.s [34, 92, 120, 70, 70, 34]))), (10, (.c (.s [34, 10, 34]))), (11, (.c (.s [34, 92, 110]))), (12, (.c (.s [34, 34, 34]))), (13, (.c (.s [34, 97, 34, 32]))), (14, (.c (.s [34, 127, 34])))], none⟩,
  ⟨(some 3), .mv (.t 58), none⟩]
def r7_4 : List AI := [⟨(some 59), .bslice [.s []] 10 [(0, (.c (.s []))), (1, (.c (.s [91]))), (2, (.c (.s [93]))), (3, (.c (.s [91, 34, 97, 34]))), (4, (.c (.s [91, 34, 97, 34, 44, 34, 98, 34, 93]))), (5, (.c (.s [91, 34, 97, 34, 44, 32, 93]))), (6, (.c (.s [91, 44, 32, 34, 97, 34, 93]))), (7, (.c (.s [91, 34, 97, 34, 93, 32]))), (8, (.c (.s [91, 32, 93]))), (9, (.c (.s [91, 34, 97, 34, 32, 34, 98, 34, 93])))], none⟩,
  ⟨(some 4), .mv (.t 59), none⟩]
def r7_5 : List AI := [⟨(some 5), .mv (.c (.i .i64 0)), none⟩]
def r7_6 : List AI := [⟨(some 60), .mv (.t 5), none⟩,
  ⟨(some 61), .mv (.t 1), none⟩,
  ⟨(some 62), .len false (.t 61), none⟩,
  ⟨(some 63), .bin .lss (.t 60) (.t 62), none⟩]
def r7_7 : List AI := [⟨(some 67), .mv (.t 1), none⟩,
  ⟨(some 68), .mv (.t 5), none⟩,
  ⟨(some 69), .iaL 1 (.t 67) (.t 68), none⟩,
  ⟨(some 70), .load 1 false (.t 69), none⟩,
  ⟨(some 71), .call false 21 [(.t 70)], none⟩,
  ⟨(some 66), .mv (.t 71), none⟩,
  ⟨(some 72), .ext 0 (.t 66), none⟩,
  ⟨(some 73), .ext 1 (.t 66), none⟩,
  ⟨(some 6), .mv (.t 72), none⟩,
  ⟨(some 7), .mv (.t 73), none⟩]
def r7_8 : List AI := [⟨(some 74), .mv (.t 7), none⟩,
  ⟨(some 75), .bin .neq (.t 74) (.c (.i .i64 12)), none⟩]
def r7_9 : List AI := [⟨(some 0), .mv (.c (.b false)), none⟩]
def r7_10 : List AI := [⟨(some 64), .mv (.t 5), none⟩,
  ⟨(some 65), .bin .add (.t 64) (.c (.i .i64 1)), none⟩,
  ⟨(some 5), .mv (.t 65), none⟩]
def r7_11 : List AI := [⟨(some 8), .mv (.c (.i .i64 0)), none⟩]
def r7_12 : List AI := [⟨(some 76), .mv (.t 8), none⟩,
  ⟨(some 77), .mv (.t 2), none⟩,
  ⟨(some 78), .len false (.t 77), none⟩,
  ⟨(some 79), .bin .lss (.t 76) (.t 78), none⟩]
def r7_13 : List AI := [⟨(some 83), .mv (.t 2), none⟩,
  ⟨(some 84), .mv (.t 8), none⟩,
  ⟨(some 85), .iaL 1 (.t 83) (.t 84), none⟩,
  ⟨(some 86), .load 1 false (.t 85), none⟩,
  ⟨(some 87), .call false 23 [(.t 86)], none⟩,
  ⟨(some 82), .mv (.t 87), none⟩,
  ⟨(some 88), .ext 0 (.t 82), none⟩,
  ⟨(some 89), .ext 1 (.t 82), none⟩,
  ⟨(some 9), .mv (.t 88), none⟩,
  ⟨(some 10), .mv (.t 89), none⟩]
def r7_14 : List AI := [⟨(some 90), .mv (.t 10), none⟩,
  ⟨(some 91), .bin .neq (.t 90) (.c (.i .i64 12)), none⟩]
def r7_15 : List AI := [⟨(some 0), .mv (.c (.b false)), none⟩]
def r7_16 : List AI := [⟨(some 80), .mv (.t 8), none⟩,
  ⟨(some 81), .bin .add (.t 80) (.c (.i .i64 1)), none⟩,
  ⟨(some 8), .mv (.t 81), none⟩]
def r7_17 : List AI := [⟨(some 11), .mv (.c (.i .i64 0)), none⟩]
def r7_18 : List AI := [⟨(some 92), .mv (.t 11), none⟩,
  ⟨(some 93), .mv (.t 3), none⟩,
  ⟨(some 94), .len false (.t 93), none⟩,
  ⟨(some 95), .bin .lss (.t 92) (.t 94), none⟩]
def r7_19 : List AI := [⟨(some 99), .mv (.t 3), none⟩,
  ⟨(some 100), .mv (.t 11), none⟩,
  ⟨(some 101), .iaL 1 (.t 99) (.t 100), none⟩,
  ⟨(some 102), .load 1 false (.t 101), none⟩,
  ⟨(some 103), .call false 25 [(.t 102)], none⟩,
  ⟨(some 98), .mv (.t 103), none⟩,
  ⟨(some 104), .ext 0 (.t 98), none⟩,
  ⟨(some 105), .ext 1 (.t 98), none⟩,
  ⟨(some 12), .mv (.t 104), none⟩,
  ⟨(some 13), .mv (.t 105), none⟩]
def r7_20 : List AI := [⟨(some 106), .mv (.t 13), none⟩,
  ⟨(some 107), .bin .neq (.t 106) (.c (.i .i64 12)), none⟩]
def r7_21 : List AI := [⟨(some 0), .mv (.c (.b false)), none⟩]
def r7_22 : List AI := [⟨(some 96), .mv (.t 11), none⟩,
  ⟨(some 97), .bin .add (.t 96) (.c (.i .i64 1)), none⟩,
  ⟨(some 11), .mv (.t 97), none⟩]
def r7_23 : List AI := [⟨(some 14), .mv (.c (.i .i64 0)), none⟩]
def r7_24 : List AI := [⟨(some 108), .mv (.t 14), none⟩,
  ⟨(some 109), .mv (.t 4), none⟩,
  ⟨(some 110), .len false (.t 109), none⟩,
  ⟨(some 111), .bin .lss (.t 108) (.t 110), none⟩]
def r7_25 : List AI := [⟨(some 115), .mv (.t 4), none⟩,
  ⟨(some 116), .mv (.t 14), none⟩,
  ⟨(some 117), .iaL 1 (.t 115) (.t 116), none⟩,
  ⟨(some 118), .load 1 false (.t 117), none⟩,
  ⟨(some 119), .call false 27 [(.t 118)], none⟩,
  ⟨(some 114), .mv (.t 119), none⟩,
  ⟨(some 120), .ext 0 (.t 114), none⟩,
  ⟨(some 121), .ext 1 (.t 114), none⟩,
  ⟨(some 15), .mv (.t 120), none⟩,
  ⟨(some 16), .mv (.t 121), none⟩]
def r7_26 : List AI := [⟨(some 122), .mv (.t 16), none⟩,
  ⟨(some 123), .bin .neq (.t 122) (.c (.i .i64 12)), none⟩]
def r7_27 : List AI := [⟨(some 0), .mv (.c (.b false)), none⟩]
def r7_28 : List AI := [⟨(some 112), .mv (.t 14), none⟩,
  ⟨(some 113), .bin .add (.t 112) (.c (.i .i64 1)), none⟩,
  ⟨(some 14), .mv (.t 113), none⟩]
def r7_29 : List AI := [⟨(some 125), .call false 21 [(.c (.s [57, 50, 50, 51, 51, 55, 50, 48, 51, 54, 56, 53, 52, 55, 55, 53, 56, 48, 55]))], none⟩,
  ⟨(some 124), .mv (.t 125), none⟩,
  ⟨(some 126), .ext 0 (.t 124), none⟩,
  ⟨(some 127), .ext 1 (.t 124), none⟩,
  ⟨(some 17), .mv (.t 126), none⟩,
  ⟨(some 18), .mv (.t 127), none⟩]
def r7_30 : List AI := [⟨(some 129), .call false 21 [(.c (.s [45, 57, 50, 50, 51, 51, 55, 50, 48, 51, 54, 56, 53, 52, 55, 55, 53, 56, 48, 56]))], none⟩,
  ⟨(some 128), .mv (.t 129), none⟩,
  ⟨(some 130), .ext 0 (.t 128), none⟩,
  ⟨(some 131), .ext 1 (.t 128), none⟩,
  ⟨(some 19), .mv (.t 130), none⟩,
  ⟨(some 20), .mv (.t 131), none⟩]
def r7_31 : List AI := [⟨(some 133), .call false 21 [(.c (.s [57, 50, 50, 51, 51, 55, 50, 48, 51, 54, 56, 53, 52, 55, 55, 53, 56, 48, 56]))], none⟩,
  ⟨(some 132), .mv (.t 133), none⟩,
  ⟨(some 134), .ext 0 (.t 132), none⟩,
  ⟨(some 135), .ext 1 (.t 132), none⟩,
  ⟨(some 21), .mv (.t 134), none⟩,
  ⟨(some 22), .mv (.t 135), none⟩]
def r7_32 : List AI := [⟨(some 137), .call false 21 [(.c (.s [45, 57, 50, 50, 51, 51, 55, 50, 48, 51, 54, 56, 53, 52, 55, 55, 53, 56, 48, 57]))], none⟩,
  ⟨(some 136), .mv (.t 137), none⟩,
  ⟨(some 138), .ext 0 (.t 136), none⟩,
  ⟨(some 139), .ext 1 (.t 136), none⟩,
  ⟨(some 23), .mv (.t 138), none⟩,
  ⟨(some 24), .mv (.t 139), none⟩]
def r7_33 : List AI := [⟨(some 141), .call false 23 [(.c (.s [48, 120, 102, 102, 102, 102, 102, 102, 102, 102, 102, 102, 102, 102, 102, 102, 102, 102]))], none⟩,
  ⟨(some 140), .mv (.t 141), none⟩,
  ⟨(some 142), .ext 0 (.t 140), none⟩,
  ⟨(some 143), .ext 1 (.t 140), none⟩,
  ⟨(some 25), .mv (.t 142), none⟩,
  ⟨(some 26), .mv (.t 143), none⟩]
def r7_34 : List AI := [⟨(some 145), .call false 23 [(.c (.s [48, 120, 49, 48, 48, 48, 48, 48, 48, 48, 48, 48, 48, 48, 48, 48, 48, 48, 48]))], none⟩,
  ⟨(some 144), .mv (.t 145), none⟩,
  ⟨(some 146), .ext 0 (.t 144), none⟩,
  ⟨(some 147), .ext 1 (.t 144), none⟩,
  ⟨(some 27), .mv (.t 146), none⟩,
  ⟨(some 28), .mv (.t 147), none⟩]
def r7_35 : List AI := [⟨(some 148), .mks [.i .u8 0] 1 (.c (.i .i64 2001)) (.c (.i .i64 2001)), none⟩,
  ⟨(some 149), .b2s (.t 148), none⟩,
  ⟨(some 29), .mv (.t 149), none⟩]
def r7_36 : List AI := [⟨(some 151), .mv (.t 29), none⟩,
  ⟨(some 152), .call false 21 [(.t 151)], none⟩,
  ⟨(some 150), .mv (.t 152), none⟩,
  ⟨(some 153), .ext 0 (.t 150), none⟩,
  ⟨(some 154), .ext 1 (.t 150), none⟩,
  ⟨(some 30), .mv (.t 153), none⟩,
  ⟨(some 31), .mv (.t 154), none⟩]
def r7_37 : List AI := [⟨(some 156), .mv (.t 29), none⟩,
  ⟨(some 157), .call false 23 [(.t 156)], none⟩,
  ⟨(some 155), .mv (.t 157), none⟩,
  ⟨(some 158), .ext 0 (.t 155), none⟩,
  ⟨(some 159), .ext 1 (.t 155), none⟩,
  ⟨(some 32), .mv (.t 158), none⟩,
  ⟨(some 33), .mv (.t 159), none⟩]
def r7_38 : List AI := [⟨(some 161), .mv (.t 29), none⟩,
  ⟨(some 162), .call false 25 [(.t 161)], none⟩,
  ⟨(some 160), .mv (.t 162), none⟩,
  ⟨(some 163), .ext 0 (.t 160), none⟩,
  ⟨(some 164), .ext 1 (.t 160), none⟩,
  ⟨(some 34), .mv (.t 163), none⟩,
  ⟨(some 35), .mv (.t 164), none⟩]
def r7_39 : List AI := [⟨(some 166), .mv (.t 29), none⟩,
  ⟨(some 167), .slS (.t 166) none (some (.c (.i .i64 401))), none⟩,
  ⟨(some 168), .call false 11 [(.t 167)], none⟩,
  ⟨(some 165), .mv (.t 168), none⟩,
  ⟨(some 169), .ext 0 (.t 165), none⟩,
  ⟨(some 170), .ext 1 (.t 165), none⟩,
  ⟨(some 36), .mv (.t 169), none⟩,
  ⟨(some 37), .mv (.t 170), none⟩]
def r7_40 : List AI := [⟨(some 172), .mv (.t 29), none⟩,
  ⟨(some 173), .slS (.t 172) none (some (.c (.i .i64 400))), none⟩,
  ⟨(some 174), .call false 11 [(.t 173)], none⟩,
  ⟨(some 171), .mv (.t 174), none⟩,
  ⟨(some 175), .ext 0 (.t 171), none⟩,
  ⟨(some 176), .ext 1 (.t 171), none⟩,
  ⟨(some 38), .mv (.t 175), none⟩,
  ⟨(some 39), .mv (.t 176), none⟩]
def r7_41 : List AI := [⟨(some 178), .mv (.t 38), none⟩,
  ⟨(some 179), .call false 25 [(.t 178)], none⟩,
  ⟨(some 177), .mv (.t 179), none⟩,
  ⟨(some 180), .ext 0 (.t 177), none⟩,
  ⟨(some 181), .ext 1 (.t 177), none⟩,
  ⟨(some 40), .mv (.t 180), none⟩,
  ⟨(some 41), .mv (.t 181), none⟩]
def r7_42 : List AI := [⟨(some 183), .mks [.s []] 16 (.c (.i .i64 65)) (.c (.i .i64 65)), none⟩,
  ⟨(some 184), .call false 13 [(.t 183)], none⟩,
  ⟨(some 182), .mv (.t 184), none⟩,
  ⟨(some 185), .ext 0 (.t 182), none⟩,
  ⟨(some 186), .ext 1 (.t 182), none⟩,
  ⟨(some 42), .mv (.t 185), none⟩,
  ⟨(some 43), .mv (.t 186), none⟩]
def r7_43 : List AI := [⟨(some 188), .mv (.t 29), none⟩,
  ⟨(some 189), .slS (.t 188) none (some (.c (.i .i64 401))), none⟩,
  ⟨(some 190), .bslice [.s []] 1 [(0, (.t 189))], none⟩,
  ⟨(some 191), .call false 13 [(.t 190)], none⟩,
  ⟨(some 187), .mv (.t 191), none⟩,
  ⟨(some 192), .ext 0 (.t 187), none⟩,
  ⟨(some 193), .ext 1 (.t 187), none⟩,
  ⟨(some 44), .mv (.t 192), none⟩,
  ⟨(some 45), .mv (.t 193), none⟩]
def r7_44 : List AI := [⟨(some 195), .mks [.s []] 16 (.c (.i .i64 64)) (.c (.i .i64 64)), none⟩,
  ⟨(some 196), .call false 13 [(.t 195)], none⟩,
  ⟨(some 194), .mv (.t 196), none⟩,
  ⟨(some 197), .ext 0 (.t 194), none⟩,
  ⟨(some 198), .ext 1 (.t 194), none⟩,
  ⟨(some 46), .mv (.t 197), none⟩,
  ⟨(some 47), .mv (.t 198), none⟩]
def r7_45 : List AI := [⟨(some 199), .mv (.t 46), none⟩,
  ⟨(some 200), .len true (.t 199), none⟩,
  ⟨(some 201), .bin .lss (.t 200) (.c (.i .i64 2)), none⟩]
def r7_46 : List AI := [⟨(some 0), .mv (.c (.b false)), none⟩]
def r7_47 : List AI := [⟨(some 203), .mv (.t 46), none⟩,
  ⟨(some 204), .call false 27 [(.t 203)], none⟩,
  ⟨(some 202), .mv (.t 204), none⟩,
  ⟨(some 205), .ext 0 (.t 202), none⟩,
  ⟨(some 206), .ext 1 (.t 202), none⟩,
  ⟨(some 48), .mv (.t 205), none⟩,
  ⟨(some 49), .mv (.t 206), none⟩]
def r7_48 : List AI := [⟨(some 208), .mks [.i .u8 0] 1 (.c (.i .i64 200001)) (.c (.i .i64 200001)), none⟩,
  ⟨(some 209), .b2s (.t 208), none⟩,
  ⟨(some 210), .call false 27 [(.t 209)], none⟩,
  ⟨(some 207), .mv (.t 210), none⟩,
  ⟨(some 211), .ext 0 (.t 207), none⟩,
  ⟨(some 212), .ext 1 (.t 207), none⟩,
  ⟨(some 50), .mv (.t 211), none⟩,
  ⟨(some 51), .mv (.t 212), none⟩]
def r7_49 : List AI := [⟨(some 214), .mv (.t 46), none⟩,
  ⟨(some 215), .mv (.t 46), none⟩,
  ⟨(some 216), .len true (.t 215), none⟩,
  ⟨(some 217), .bin .sub (.t 216) (.c (.i .i64 1)), none⟩,
  ⟨(some 218), .slS (.t 214) none (some (.t 217)), none⟩,
  ⟨(some 219), .bin .add (.t 218) (.c (.s [44, 32, 34, 34, 93])), none⟩,
  ⟨(some 220), .call false 27 [(.t 219)], none⟩,
  ⟨(some 213), .mv (.t 220), none⟩,
  ⟨(some 221), .ext 0 (.t 213), none⟩,
  ⟨(some 222), .ext 1 (.t 213), none⟩,
  ⟨(some 52), .mv (.t 221), none⟩,
  ⟨(some 53), .mv (.t 222), none⟩]
def r7_50 : List AI := [⟨(some 223), .mv (.t 18), none⟩,
  ⟨(some 224), .bin .eql (.t 223) (.c (.i .i64 0)), none⟩,
  ⟨(some 225), .mv (.t 224), none⟩,
  ⟨(some 226), .mv (.t 17), (some (225, true))⟩,
  ⟨(some 227), .bin .eql (.t 226) (.c (.i .i64 9223372036854775807)), (some (225, true))⟩,
  ⟨(some 228), .pick (.t 225) (.t 227) (.c (.b false)), none⟩,
  ⟨(some 229), .mv (.t 228), none⟩,
  ⟨(some 230), .mv (.t 20), (some (229, true))⟩,
  ⟨(some 231), .bin .eql (.t 230) (.c (.i .i64 0)), (some (229, true))⟩,
  ⟨(some 232), .pick (.t 229) (.t 231) (.c (.b false)), none⟩,
  ⟨(some 233), .mv (.t 232), none⟩,
  ⟨(some 234), .mv (.t 19), (some (233, true))⟩,
  ⟨(some 235), .bin .eql (.t 234) (.c (.i .i64 (-9223372036854775808))), (some (233, true))⟩,
  ⟨(some 236), .pick (.t 233) (.t 235) (.c (.b false)), none⟩,
  ⟨(some 237), .mv (.t 236), none⟩,
  ⟨(some 238), .mv (.t 22), (some (237, true))⟩,
  ⟨(some 239), .bin .eql (.t 238) (.c (.i .i64 16)), (some (237, true))⟩,
  ⟨(some 240), .pick (.t 237) (.t 239) (.c (.b false)), none⟩,
  ⟨(some 241), .mv (.t 240), none⟩,
  ⟨(some 242), .mv (.t 24), (some (241, true))⟩,
  ⟨(some 243), .bin .eql (.t 242) (.c (.i .i64 16)), (some (241, true))⟩,
  ⟨(some 244), .pick (.t 241) (.t 243) (.c (.b false)), none⟩,
  ⟨(some 245), .mv (.t 244), none⟩,
  ⟨(some 246), .mv (.t 26), (some (245, true))⟩,
  ⟨(some 247), .bin .eql (.t 246) (.c (.i .i64 0)), (some (245, true))⟩,
  ⟨(some 248), .pick (.t 245) (.t 247) (.c (.b false)), none⟩,
  ⟨(some 249), .mv (.t 248), none⟩,
  ⟨(some 250), .mv (.t 25), (some (249, true))⟩,
  ⟨(some 251), .bin .eql (.t 250) (.c (.i .u64 18446744073709551615)), (some (249, true))⟩,
  ⟨(some 252), .pick (.t 249) (.t 251) (.c (.b false)), none⟩,
  ⟨(some 253), .mv (.t 252), none⟩,
  ⟨(some 254), .mv (.t 28), (some (253, true))⟩,
  ⟨(some 255), .bin .eql (.t 254) (.c (.i .i64 16)), (some (253, true))⟩,
  ⟨(some 256), .pick (.t 253) (.t 255) (.c (.b false)), none⟩,
  ⟨(some 54), .mv (.t 256), none⟩]
def r7_51 : List AI := [⟨(some 257), .mv (.t 31), none⟩,
  ⟨(some 258), .bin .eql (.t 257) (.c (.i .i64 4)), none⟩,
  ⟨(some 259), .mv (.t 258), none⟩,
  ⟨(some 260), .mv (.t 33), (some (259, true))⟩,
  ⟨(some 261), .bin .eql (.t 260) (.c (.i .i64 4)), (some (259, true))⟩,
  ⟨(some 262), .pick (.t 259) (.t 261) (.c (.b false)), none⟩,
  ⟨(some 263), .mv (.t 262), none⟩,
  ⟨(some 264), .mv (.t 35), (some (263, true))⟩,
  ⟨(some 265), .bin .eql (.t 264) (.c (.i .i64 4)), (some (263, true))⟩,
  ⟨(some 266), .pick (.t 263) (.t 265) (.c (.b false)), none⟩,
  ⟨(some 267), .mv (.t 266), none⟩,
  ⟨(some 268), .mv (.t 37), (some (267, true))⟩,
  ⟨(some 269), .bin .eql (.t 268) (.c (.i .i64 4)), (some (267, true))⟩,
  ⟨(some 270), .pick (.t 267) (.t 269) (.c (.b false)), none⟩,
  ⟨(some 271), .mv (.t 270), none⟩,
  ⟨(some 272), .mv (.t 39), (some (271, true))⟩,
  ⟨(some 273), .bin .eql (.t 272) (.c (.i .i64 0)), (some (271, true))⟩,
  ⟨(some 274), .pick (.t 271) (.t 273) (.c (.b false)), none⟩,
  ⟨(some 275), .mv (.t 274), none⟩,
  ⟨(some 276), .mv (.t 38), (some (275, true))⟩,
  ⟨(some 277), .len true (.t 276), (some (275, true))⟩,
  ⟨(some 278), .bin .eql (.t 277) (.c (.i .i64 1602)), (some (275, true))⟩,
  ⟨(some 279), .pick (.t 275) (.t 278) (.c (.b false)), none⟩,
  ⟨(some 280), .mv (.t 279), none⟩,
  ⟨(some 281), .mv (.t 41), (some (280, true))⟩,
  ⟨(some 282), .bin .eql (.t 281) (.c (.i .i64 0)), (some (280, true))⟩,
  ⟨(some 283), .pick (.t 280) (.t 282) (.c (.b false)), none⟩,
  ⟨(some 284), .mv (.t 283), none⟩,
  ⟨(some 285), .mv (.t 40), (some (284, true))⟩,
  ⟨(some 286), .len true (.t 285), (some (284, true))⟩,
  ⟨(some 287), .bin .eql (.t 286) (.c (.i .i64 400)), (some (284, true))⟩,
  ⟨(some 288), .pick (.t 284) (.t 287) (.c (.b false)), none⟩,
  ⟨(some 289), .mv (.t 288), none⟩,
  ⟨(some 290), .mv (.t 43), (some (289, true))⟩,
  ⟨(some 291), .bin .eql (.t 290) (.c (.i .i64 4)), (some (289, true))⟩,
  ⟨(some 292), .pick (.t 289) (.t 291) (.c (.b false)), none⟩,
  ⟨(some 293), .mv (.t 292), none⟩,
  ⟨(some 294), .mv (.t 45), (some (293, true))⟩,
  ⟨(some 295), .bin .eql (.t 294) (.c (.i .i64 4)), (some (293, true))⟩,
  ⟨(some 296), .pick (.t 293) (.t 295) (.c (.b false)), none⟩,
  ⟨(some 297), .mv (.t 296), none⟩,
  ⟨(some 298), .mv (.t 47), (some (297, true))⟩,
  ⟨(some 299), .bin .eql (.t 298) (.c (.i .i64 0)), (some (297, true))⟩,
  ⟨(some 300), .pick (.t 297) (.t 299) (.c (.b false)), none⟩,
  ⟨(some 301), .mv (.t 300), none⟩,
  ⟨(some 302), .mv (.t 49), (some (301, true))⟩,
  ⟨(some 303), .bin .eql (.t 302) (.c (.i .i64 0)), (some (301, true))⟩,
  ⟨(some 304), .pick (.t 301) (.t 303) (.c (.b false)), none⟩,
  ⟨(some 305), .mv (.t 304), none⟩,
  ⟨(some 306), .mv (.t 51), (some (305, true))⟩,
  ⟨(some 307), .bin .eql (.t 306) (.c (.i .i64 4)), (some (305, true))⟩,
  ⟨(some 308), .pick (.t 305) (.t 307) (.c (.b false)), none⟩,
  ⟨(some 309), .mv (.t 308), none⟩,
  ⟨(some 310), .mv (.t 53), (some (309, true))⟩,
  ⟨(some 311), .bin .eql (.t 310) (.c (.i .i64 4)), (some (309, true))⟩,
  ⟨(some 312), .pick (.t 309) (.t 311) (.c (.b false)), none⟩,
  ⟨(some 55), .mv (.t 312), none⟩]
def r7_52 : List AI := [⟨(some 313), .mv (.c (.b true)), none⟩,
  ⟨(some 314), .mv (.t 54), (some (313, true))⟩,
  ⟨(some 315), .pick (.t 313) (.t 314) (.c (.b false)), none⟩,
  ⟨(some 316), .mv (.t 315), none⟩,
  ⟨(some 317), .mv (.t 55), (some (316, true))⟩,
  ⟨(some 318), .pick (.t 316) (.t 317) (.c (.b false)), none⟩,
  ⟨(some 319), .mv (.t 318), none⟩,
  ⟨(some 320), .call false 19 [], (some (319, true))⟩,
  ⟨(some 321), .pick (.t 319) (.t 320) (.c (.b false)), none⟩,
  ⟨(some 0), .mv (.t 321), none⟩]
abbrev l7_0 : AC := (.seq (.seq (.reg 6 r7_6) (.cond (.t 63) .skip (.exit 0))) (.seq (.block 1 (.seq (.reg 8 r7_7) (.seq (.reg 9 r7_8) (.cond (.t 75) (.seq (.reg 10 r7_9) .ret) .skip)))) (.reg 7 r7_10)))
abbrev l7_1 : AC := (.seq (.seq (.reg 12 r7_12) (.cond (.t 79) .skip (.exit 2))) (.seq (.block 3 (.seq (.reg 14 r7_13) (.seq (.reg 15 r7_14) (.cond (.t 91) (.seq (.reg 16 r7_15) .ret) .skip)))) (.reg 13 r7_16)))
abbrev l7_2 : AC := (.seq (.seq (.reg 18 r7_18) (.cond (.t 95) .skip (.exit 4))) (.seq (.block 5 (.seq (.reg 20 r7_19) (.seq (.reg 21 r7_20) (.cond (.t 107) (.seq (.reg 22 r7_21) .ret) .skip)))) (.reg 19 r7_22)))
abbrev l7_3 : AC := (.seq (.seq (.reg 24 r7_24) (.cond (.t 111) .skip (.exit 6))) (.seq (.block 7 (.seq (.reg 26 r7_25) (.seq (.reg 27 r7_26) (.cond (.t 123) (.seq (.reg 28 r7_27) .ret) .skip)))) (.reg 25 r7_28)))
abbrev c7_4 : AC := (.seq (.reg 51 r7_51) (.seq (.reg 52 r7_52) .ret))
abbrev c7_5 : AC := (.seq (.reg 50 r7_50) c7_4)
abbrev c7_6 : AC := (.seq (.reg 49 r7_49) c7_5)
abbrev c7_7 : AC := (.seq (.reg 48 r7_48) c7_6)
abbrev c7_8 : AC := (.seq (.reg 47 r7_47) c7_7)
abbrev c7_9 : AC := (.seq (.seq (.reg 45 r7_45) (.cond (.t 201) (.seq (.reg 46 r7_46) .ret) .skip)) c7_8)
abbrev c7_10 : AC := (.seq (.reg 44 r7_44) c7_9)
abbrev c7_11 : AC := (.seq (.reg 43 r7_43) c7_10)
abbrev c7_12 : AC := (.seq (.reg 42 r7_42) c7_11)
abbrev c7_13 : AC := (.seq (.reg 41 r7_41) c7_12)
abbrev c7_14 : AC := (.seq (.reg 40 r7_40) c7_13)
abbrev c7_15 : AC := (.seq (.reg 39 r7_39) c7_14)
abbrev c7_16 : AC := (.seq (.reg 38 r7_38) c7_15)
abbrev c7_17 : AC := (.seq (.reg 37 r7_37) c7_16)
abbrev c7_18 : AC := (.seq (.reg 36 r7_36) c7_17)
abbrev c7_19 : AC := (.seq (.reg 35 r7_35) c7_18)
abbrev c7_20 : AC := (.seq (.reg 34 r7_34) c7_19)
abbrev c7_21 : AC := (.seq (.reg 33 r7_33) c7_20)
abbrev c7_22 : AC := (.seq (.reg 32 r7_32) c7_21)
abbrev c7_23 : AC := (.seq (.reg 31 r7_31) c7_22)
abbrev c7_24 : AC := (.seq (.reg 30 r7_30) c7_23)
abbrev c7_25 : AC := (.seq (.reg 29 r7_29) c7_24)
abbrev c7_26 : AC := (.seq (.seq (.reg 23 r7_23) (.block 6 (.loop l7_3))) c7_25)
abbrev c7_27 : AC := (.seq (.seq (.reg 17 r7_17) (.block 4 (.loop l7_2))) c7_26)
abbrev c7_28 : AC := (.seq (.seq (.reg 11 r7_11) (.block 2 (.loop l7_1))) c7_27)
abbrev c7_29 : AC := (.seq (.seq (.reg 5 r7_5) (.block 0 (.loop l7_0))) c7_28)
abbrev c7_30 : AC := (.seq (.reg 4 r7_4) c7_29)
abbrev c7_31 : AC := (.seq (.reg 3 r7_3) c7_30)
abbrev c7_32 : AC := (.seq (.reg 2 r7_2) c7_31)
abbrev c7_33 : AC := (.seq (.reg 1 r7_1) c7_32)
abbrev b7 : AC := (.seq (.reg 0 r7_0) c7_33)
def pf7 : AF := { nt := 322, res := [.tmp 0], body := b7 }
abbrev I7_0 (prog : Prog) (d : Nat) (Q : AE → Sl → St → Prop) (forms1 : List (List UInt8)) (hexes2 : List (List UInt8)) (quotes3 : List (List UInt8)) (lists4 : List (List UInt8)) (i5 : Int) : Prop :=
  ∀ (σ : Sl) (st : St) (o_forms1 o_hexes2 o_quotes3 o_lists4 : Own), σ 1 = .sl o_forms1 (List.map rowS forms1) → σ 2 = .sl o_hexes2 (List.map rowS hexes2) → σ 3 = .sl o_quotes3 (List.map rowS quotes3) → σ 4 = .sl o_lists4 (List.map rowS lists4) → σ 5 = .i .i64 i5 → App st.ow o_forms1 forms1.length → App st.ow o_hexes2 hexes2.length → App st.ow o_quotes3 quotes3.length → App st.ow o_lists4 lists4.length → W prog d (.loop l7_0) σ st (blockW 0 (thenW prog d c7_28 Q))
abbrev I7_1 (prog : Prog) (d : Nat) (Q : AE → Sl → St → Prop) (hexes2 : List (List UInt8)) (quotes3 : List (List UInt8)) (lists4 : List (List UInt8)) (i8 : Int) : Prop :=
  ∀ (σ : Sl) (st : St) (o_hexes2 o_quotes3 o_lists4 : Own), σ 2 = .sl o_hexes2 (List.map rowS hexes2) → σ 3 = .sl o_quotes3 (List.map rowS quotes3) → σ 4 = .sl o_lists4 (List.map rowS lists4) → σ 8 = .i .i64 i8 → App st.ow o_hexes2 hexes2.length → App st.ow o_quotes3 quotes3.length → App st.ow o_lists4 lists4.length → W prog d (.loop l7_1) σ st (blockW 2 (thenW prog d c7_27 Q))
abbrev I7_2 (prog : Prog) (d : Nat) (Q : AE → Sl → St → Prop) (quotes3 : List (List UInt8)) (lists4 : List (List UInt8)) (i11 : Int) : Prop :=
  ∀ (σ : Sl) (st : St) (o_quotes3 o_lists4 : Own), σ 3 = .sl o_quotes3 (List.map rowS quotes3) → σ 4 = .sl o_lists4 (List.map rowS lists4) → σ 11 = .i .i64 i11 → App st.ow o_quotes3 quotes3.length → App st.ow o_lists4 lists4.length → W prog d (.loop l7_2) σ st (blockW 4 (thenW prog d c7_26 Q))
abbrev I7_3 (prog : Prog) (d : Nat) (Q : AE → Sl → St → Prop) (lists4 : List (List UInt8)) (i14 : Int) : Prop :=
  ∀ (σ : Sl) (st : St) (o_lists4 : Own), σ 4 = .sl o_lists4 (List.map rowS lists4) → σ 14 = .i .i64 i14 → App st.ow o_lists4 lists4.length → W prog d (.loop l7_3) σ st (blockW 6 (thenW prog d c7_25 Q))
def T7_34 (prog : Prog) (K : Bool → Prop) (g31 : Int) (h33 : Int) (i35 : Int) (j37 : Int) (zeros38 : List UInt8) (k39 : Int) (back40 : List UInt8) (l41 : Int) (m43 : Int) (n45 : Int) (o47 : Int) (p49 : Int) (q51 : Int) (r53 : Int) (edges54 : Bool) : Prop :=
  (g31 = 4 → (h33 = 4 → (i35 = 4 → (j37 = 4 → (k39 = 0 → ((zeros38.length : Int) = 1602 → (l41 = 0 → ((back40.length : Int) = 400 → (m43 = 4 → (n45 = 4 → (o47 = 0 → (p49 = 0 → (q51 = 4 → (edges54 = true → (r53 = 4 → ∃ r'16 : Bool, Pus prog 19 [] (.b r'16) ∧ K r'16) ∧ (¬(r53 = 4) → K false)) ∧ (edges54 = false → K false)) ∧ (¬(q51 = 4) → (edges54 = true → K false) ∧ (edges54 = false → K false))) ∧ (¬(p49 = 0) → (edges54 = true → K false) ∧ (edges54 = false → K false))) ∧ (¬(o47 = 0) → (edges54 = true → K false) ∧ (edges54 = false → K false))) ∧ (¬(n45 = 4) → (edges54 = true → K false) ∧ (edges54 = false → K false))) ∧ (¬(m43 = 4) → (edges54 = true → K false) ∧ (edges54 = false → K false))) ∧ (¬((back40.length : Int) = 400) → (edges54 = true → K false) ∧ (edges54 = false → K false))) ∧ (¬(l41 = 0) → (edges54 = true → K false) ∧ (edges54 = false → K false))) ∧ (¬((zeros38.length : Int) = 1602) → (edges54 = true → K false) ∧ (edges54 = false → K false))) ∧ (¬(k39 = 0) → (edges54 = true → K false) ∧ (edges54 = false → K false))) ∧ (¬(j37 = 4) → (edges54 = true → K false) ∧ (edges54 = false → K false))) ∧ (¬(i35 = 4) → (edges54 = true → K false) ∧ (edges54 = false → K false))) ∧ (¬(h33 = 4) → (edges54 = true → K false) ∧ (edges54 = false → K false))) ∧ (¬(g31 = 4) → (edges54 = true → K false) ∧ (edges54 = false → K false))
theorem w7_34 {prog : Prog} {d : Nat} {Q : AE → Sl → St → Prop} {K : Bool → Prop} (hQ : ∀ (σ : Sl) (st : St) (x0 : Bool), σ 0 = .b x0 → K x0 → Q .ret σ st) {g31 : Int} {h33 : Int} {i35 : Int} {j37 : Int} {zeros38 : List UInt8} {k39 : Int} {back40 : List UInt8} {l41 : Int} {m43 : Int} {n45 : Int} {o47 : Int} {p49 : Int} {q51 : Int} {r53 : Int} {edges54 : Bool}   {σ : Sl} {st : St} (H31 : σ 31 = .i .i64 g31) (H33 : σ 33 = .i .i64 h33) (H35 : σ 35 = .i .i64 i35) (H37 : σ 37 = .i .i64 j37) (H38 : σ 38 = .s zeros38) (H39 : σ 39 = .i .i64 k39) (H40 : σ 40 = .s back40) (H41 : σ 41 = .i .i64 l41) (H43 : σ 43 = .i .i64 m43) (H45 : σ 45 = .i .i64 n45) (H47 : σ 47 = .i .i64 o47) (H49 : σ 49 = .i .i64 p49) (H51 : σ 51 = .i .i64 q51) (H53 : σ 53 = .i .i64 r53) (H54 : σ 54 = .b edges54) (h : T7_34 prog K g31 h33 i35 j37 zeros38 k39 back40 l41 m43 n45 o47 p49 q51 r53 edges54) : W prog d c7_4 σ st Q :=
  W.seq (W.reg0 rfl fun _ _ => s_mvI H31 (s_bin rfl rfl (abin_eql _ _ _) (s_mvB rfl (s_em (g := 259) rfl (fun g'1 => s_gy rfl (s_mvI H33 (s_gy rfl (s_bin rfl rfl (abin_eql _ _ _) (s_pickTB rfl rfl (s_mvB rfl (s_em (g := 263) rfl (fun g'2 => s_gy rfl (s_mvI H35 (s_gy rfl (s_bin rfl rfl (abin_eql _ _ _) (s_pickTB rfl rfl (s_mvB rfl (s_em (g := 267) rfl (fun g'3 => s_gy rfl (s_mvI H37 (s_gy rfl (s_bin rfl rfl (abin_eql _ _ _) (s_pickTB rfl rfl (s_mvB rfl (s_em (g := 271) rfl (fun g'4 => s_gy rfl (s_mvI H39 (s_gy rfl (s_bin rfl rfl (abin_eql _ _ _) (s_pickTB rfl rfl (s_mvB rfl (s_em (g := 275) rfl (fun g'5 => s_gy rfl (s_mvS H38 (s_gy rfl (s_lenS rfl (s_gy rfl (s_bin rfl rfl (abin_eql _ _ _) (s_pickTB rfl rfl (s_mvB rfl (s_em (g := 280) rfl (fun g'6 => s_gy rfl (s_mvI H41 (s_gy rfl (s_bin rfl rfl (abin_eql _ _ _) (s_pickTB rfl rfl (s_mvB rfl (s_em (g := 284) rfl (fun g'7 => s_gy rfl (s_mvS H40 (s_gy rfl (s_lenS rfl (s_gy rfl (s_bin rfl rfl (abin_eql _ _ _) (s_pickTB rfl rfl (s_mvB rfl (s_em (g := 289) rfl (fun g'8 => s_gy rfl (s_mvI H43 (s_gy rfl (s_bin rfl rfl (abin_eql _ _ _) (s_pickTB rfl rfl (s_mvB rfl (s_em (g := 293) rfl (fun g'9 => s_gy rfl (s_mvI H45 (s_gy rfl (s_bin rfl rfl (abin_eql _ _ _) (s_pickTB rfl rfl (s_mvB rfl (s_em (g := 297) rfl (fun g'10 => s_gy rfl (s_mvI H47 (s_gy rfl (s_bin rfl rfl (abin_eql _ _ _) (s_pickTB rfl rfl (s_mvB rfl (s_em (g := 301) rfl (fun g'11 => s_gy rfl (s_mvI H49 (s_gy rfl (s_bin rfl rfl (abin_eql _ _ _) (s_pickTB rfl rfl (s_mvB rfl (s_em (g := 305) rfl (fun g'12 => s_gy rfl (s_mvI H51 (s_gy rfl (s_bin rfl rfl (abin_eql _ _ _) (s_pickTB rfl rfl (s_mvB rfl (s_em (g := 309) rfl (fun g'13 => s_gy rfl (s_mvI H53 (s_gy rfl (s_bin rfl rfl (abin_eql _ _ _) (s_pickTB rfl rfl (s_mvB rfl (s_nil (W.seq (W.reg0 rfl fun _ _ => s_mvB rfl (s_gy rfl (s_mvB H54 (s_pickTB rfl rfl (s_mvB rfl (s_emb (g := 316) rfl (fun g'14 => s_gy rfl (s_mvB rfl (s_pickTB rfl rfl (s_mvB rfl (s_em (g := 319) rfl (fun g'15 => s_gy rfl ((((((((((((((((h.1 g'1).1 g'2).1 g'3).1 g'4).1 g'5).1 g'6).1 g'7).1 g'8).1 g'9).1 g'10).1 g'11).1 g'12).1 g'13).1 g'14).1 g'15).elim fun r'16 e'17 => s_call sn e'17.1 (s_pickTB rfl rfl (s_mvB rfl (s_nil (W.ret (hQ _ _  _ rfl  e'17.2))))))) (fun g'15 => s_gn (b := false) rfl rfl (s_pickFB rfl rfl (s_mvB rfl (s_nil (W.ret (hQ _ _  _ rfl  (((((((((((((((h.1 g'1).1 g'2).1 g'3).1 g'4).1 g'5).1 g'6).1 g'7).1 g'8).1 g'9).1 g'10).1 g'11).1 g'12).1 g'13).1 g'14).2 g'15)))))))))))) (fun g'14 => s_gn (b := false) rfl rfl (s_pickFB rfl rfl (s_mvB rfl (s_gn (b := false) rfl rfl (s_pickFB rfl rfl (s_mvB rfl (s_nil (W.ret (hQ _ _  _ rfl  ((((((((((((((h.1 g'1).1 g'2).1 g'3).1 g'4).1 g'5).1 g'6).1 g'7).1 g'8).1 g'9).1 g'10).1 g'11).1 g'12).1 g'13).2 g'14)))))))))))))))))))))))) (fun g'13 => s_gn (b := false) rfl rfl (s_gn (b := false) rfl rfl (s_pickFB rfl rfl (s_mvB rfl (s_nil (W.seq (W.reg0 rfl fun _ _ => s_mvB rfl (s_gy rfl (s_mvB H54 (s_pickTB rfl rfl (s_mvB rfl (s_emb (g := 316) rfl (fun g'18 => s_gy rfl (s_mvB rfl (s_pickTB rfl rfl (s_mvB rfl (s_gn (b := false) rfl rfl (s_pickFB rfl rfl (s_mvB rfl (s_nil (W.ret (hQ _ _  _ rfl  ((((((((((((((h.1 g'1).1 g'2).1 g'3).1 g'4).1 g'5).1 g'6).1 g'7).1 g'8).1 g'9).1 g'10).1 g'11).1 g'12).2 g'13).1 g'18))))))))))) (fun g'18 => s_gn (b := false) rfl rfl (s_pickFB rfl rfl (s_mvB rfl (s_gn (b := false) rfl rfl (s_pickFB rfl rfl (s_mvB rfl (s_nil (W.ret (hQ _ _  _ rfl  ((((((((((((((h.1 g'1).1 g'2).1 g'3).1 g'4).1 g'5).1 g'6).1 g'7).1 g'8).1 g'9).1 g'10).1 g'11).1 g'12).2 g'13).2 g'18))))))))))))))))))))))))))))) (fun g'12 => s_gn (b := false) rfl rfl (s_gn (b := false) rfl rfl (s_pickFB rfl rfl (s_mvB rfl (s_gn (b := false) rfl rfl (s_gn (b := false) rfl rfl (s_pickFB rfl rfl (s_mvB rfl (s_nil (W.seq (W.reg0 rfl fun _ _ => s_mvB rfl (s_gy rfl (s_mvB H54 (s_pickTB rfl rfl (s_mvB rfl (s_emb (g := 316) rfl (fun g'19 => s_gy rfl (s_mvB rfl (s_pickTB rfl rfl (s_mvB rfl (s_gn (b := false) rfl rfl (s_pickFB rfl rfl (s_mvB rfl (s_nil (W.ret (hQ _ _  _ rfl  (((((((((((((h.1 g'1).1 g'2).1 g'3).1 g'4).1 g'5).1 g'6).1 g'7).1 g'8).1 g'9).1 g'10).1 g'11).2 g'12).1 g'19))))))))))) (fun g'19 => s_gn (b := false) rfl rfl (s_pickFB rfl rfl (s_mvB rfl (s_gn (b := false) rfl rfl (s_pickFB rfl rfl (s_mvB rfl (s_nil (W.ret (hQ _ _  _ rfl  (((((((((((((h.1 g'1).1 g'2).1 g'3).1 g'4).1 g'5).1 g'6).1 g'7).1 g'8).1 g'9).1 g'10).1 g'11).2 g'12).2 g'19))))))))))))))))))))))))))))))))) (fun g'11 => s_gn (b := false) rfl rfl (s_gn (b := false) rfl rfl (s_pickFB rfl rfl (s_mvB rfl (s_gn (b := false) rfl rfl (s_gn (b := false) rfl rfl (s_pickFB rfl rfl (s_mvB rfl (s_gn (b := false) rfl rfl (s_gn (b := false) rfl rfl (s_pickFB rfl rfl (s_mvB rfl (s_nil (W.seq (W.reg0 rfl fun _ _ => s_mvB rfl (s_gy rfl (s_mvB H54 (s_pickTB rfl rfl (s_mvB rfl (s_emb (g := 316) rfl (fun g'20 => s_gy rfl (s_mvB rfl (s_pickTB rfl rfl (s_mvB rfl (s_gn (b := false) rfl rfl (s_pickFB rfl rfl (s_mvB rfl (s_nil (W.ret (hQ _ _  _ rfl  ((((((((((((h.1 g'1).1 g'2).1 g'3).1 g'4).1 g'5).1 g'6).1 g'7).1 g'8).1 g'9).1 g'10).2 g'11).1 g'20))))))))))) (fun g'20 => s_gn (b := false) rfl rfl (s_pickFB rfl rfl (s_mvB rfl (s_gn (b := false) rfl rfl (s_pickFB rfl rfl (s_mvB rfl (s_nil (W.ret (hQ _ _  _ rfl  ((((((((((((h.1 g'1).1 g'2).1 g'3).1 g'4).1 g'5).1 g'6).1 g'7).1 g'8).1 g'9).1 g'10).2 g'11).2 g'20))))))))))))))))))))))))))))))))))))) (fun g'10 => s_gn (b := false) rfl rfl (s_gn (b := false) rfl rfl (s_pickFB rfl rfl (s_mvB rfl (s_gn (b := false) rfl rfl (s_gn (b := false) rfl rfl (s_pickFB rfl rfl (s_mvB rfl (s_gn (b := false) rfl rfl (s_gn (b := false) rfl rfl (s_pickFB rfl rfl (s_mvB rfl (s_gn (b := false) rfl rfl (s_gn (b := false) rfl rfl (s_pickFB rfl rfl (s_mvB rfl (s_nil (W.seq (W.reg0 rfl fun _ _ => s_mvB rfl (s_gy rfl (s_mvB H54 (s_pickTB rfl rfl (s_mvB rfl (s_emb (g := 316) rfl (fun g'21 => s_gy rfl (s_mvB rfl (s_pickTB rfl rfl (s_mvB rfl (s_gn (b := false) rfl rfl (s_pickFB rfl rfl (s_mvB rfl (s_nil (W.ret (hQ _ _  _ rfl  (((((((((((h.1 g'1).1 g'2).1 g'3).1 g'4).1 g'5).1 g'6).1 g'7).1 g'8).1 g'9).2 g'10).1 g'21))))))))))) (fun g'21 => s_gn (b := false) rfl rfl (s_pickFB rfl rfl (s_mvB rfl (s_gn (b := false) rfl rfl (s_pickFB rfl rfl (s_mvB rfl (s_nil (W.ret (hQ _ _  _ rfl  (((((((((((h.1 g'1).1 g'2).1 g'3).1 g'4).1 g'5).1 g'6).1 g'7).1 g'8).1 g'9).2 g'10).2 g'21))))))))))))))))))))))))))))))))))))))))) (fun g'9 => s_gn (b := false) rfl rfl (s_gn (b := false) rfl rfl (s_pickFB rfl rfl (s_mvB rfl (s_gn (b := false) rfl rfl (s_gn (b := false) rfl rfl (s_pickFB rfl rfl (s_mvB rfl (s_gn (b := false) rfl rfl (s_gn (b := false) rfl rfl (s_pickFB rfl rfl (s_mvB rfl (s_gn (b := false) rfl rfl (s_gn (b := false) rfl rfl (s_pickFB rfl rfl (s_mvB rfl (s_gn (b := false) rfl rfl (s_gn (b := false) rfl rfl (s_pickFB rfl rfl (s_mvB rfl (s_nil (W.seq (W.reg0 rfl fun _ _ => s_mvB rfl (s_gy rfl (s_mvB H54 (s_pickTB rfl rfl (s_mvB rfl (s_emb (g := 316) rfl (fun g'22 => s_gy rfl (s_mvB rfl (s_pickTB rfl rfl (s_mvB rfl (s_gn (b := false) rfl rfl (s_pickFB rfl rfl (s_mvB rfl (s_nil (W.ret (hQ _ _  _ rfl  ((((((((((h.1 g'1).1 g'2).1 g'3).1 g'4).1 g'5).1 g'6).1 g'7).1 g'8).2 g'9).1 g'22))))))))))) (fun g'22 => s_gn (b := false) rfl rfl (s_pickFB rfl rfl (s_mvB rfl (s_gn (b := false) rfl rfl (s_pickFB rfl rfl (s_mvB rfl (s_nil (W.ret (hQ _ _  _ rfl  ((((((((((h.1 g'1).1 g'2).1 g'3).1 g'4).1 g'5).1 g'6).1 g'7).1 g'8).2 g'9).2 g'22))))))))))))))))))))))))))))))))))))))))))))) (fun g'8 => s_gn (b := false) rfl rfl (s_gn (b := false) rfl rfl (s_pickFB rfl rfl (s_mvB rfl (s_gn (b := false) rfl rfl (s_gn (b := false) rfl rfl (s_pickFB rfl rfl (s_mvB rfl (s_gn (b := false) rfl rfl (s_gn (b := false) rfl rfl (s_pickFB rfl rfl (s_mvB rfl (s_gn (b := false) rfl rfl (s_gn (b := false) rfl rfl (s_pickFB rfl rfl (s_mvB rfl (s_gn (b := false) rfl rfl (s_gn (b := false) rfl rfl (s_pickFB rfl rfl (s_mvB rfl (s_gn (b := false) rfl rfl (s_gn (b := false) rfl rfl (s_pickFB rfl rfl (s_mvB rfl (s_nil (W.seq (W.reg0 rfl fun _ _ => s_mvB rfl (s_gy rfl (s_mvB H54 (s_pickTB rfl rfl (s_mvB rfl (s_emb (g := 316) rfl (fun g'23 => s_gy rfl (s_mvB rfl (s_pickTB rfl rfl (s_mvB rfl (s_gn (b := false) rfl rfl (s_pickFB rfl rfl (s_mvB rfl (s_nil (W.ret (hQ _ _  _ rfl  (((((((((h.1 g'1).1 g'2).1 g'3).1 g'4).1 g'5).1 g'6).1 g'7).2 g'8).1 g'23))))))))))) (fun g'23 => s_gn (b := false) rfl rfl (s_pickFB rfl rfl (s_mvB rfl (s_gn (b := false) rfl rfl (s_pickFB rfl rfl (s_mvB rfl (s_nil (W.ret (hQ _ _  _ rfl  (((((((((h.1 g'1).1 g'2).1 g'3).1 g'4).1 g'5).1 g'6).1 g'7).2 g'8).2 g'23))))))))))))))))))))))))))))))))))))))))))))))))))) (fun g'7 => s_gn (b := false) rfl rfl (s_gn (b := false) rfl rfl (s_gn (b := false) rfl rfl (s_pickFB rfl rfl (s_mvB rfl (s_gn (b := false) rfl rfl (s_gn (b := false) rfl rfl (s_pickFB rfl rfl (s_mvB rfl (s_gn (b := false) rfl rfl (s_gn (b := false) rfl rfl (s_pickFB rfl rfl (s_mvB rfl (s_gn (b := false) rfl rfl (s_gn (b := false) rfl rfl (s_pickFB rfl rfl (s_mvB rfl (s_gn (b := false) rfl rfl (s_gn (b := false) rfl rfl (s_pickFB rfl rfl (s_mvB rfl (s_gn (b := false) rfl rfl (s_gn (b := false) rfl rfl (s_pickFB rfl rfl (s_mvB rfl (s_gn (b := false) rfl rfl (s_gn (b := false) rfl rfl (s_pickFB rfl rfl (s_mvB rfl (s_nil (W.seq (W.reg0 rfl fun _ _ => s_mvB rfl (s_gy rfl (s_mvB H54 (s_pickTB rfl rfl (s_mvB rfl (s_emb (g := 316) rfl (fun g'24 => s_gy rfl (s_mvB rfl (s_pickTB rfl rfl (s_mvB rfl (s_gn (b := false) rfl rfl (s_pickFB rfl rfl (s_mvB rfl (s_nil (W.ret (hQ _ _  _ rfl  ((((((((h.1 g'1).1 g'2).1 g'3).1 g'4).1 g'5).1 g'6).2 g'7).1 g'24))))))))))) (fun g'24 => s_gn (b := false) rfl rfl (s_pickFB rfl rfl (s_mvB rfl (s_gn (b := false) rfl rfl (s_pickFB rfl rfl (s_mvB rfl (s_nil (W.ret (hQ _ _  _ rfl  ((((((((h.1 g'1).1 g'2).1 g'3).1 g'4).1 g'5).1 g'6).2 g'7).2 g'24)))))))))))))))))))))))))))))))))))))))))))))))))))))) (fun g'6 => s_gn (b := false) rfl rfl (s_gn (b := false) rfl rfl (s_pickFB rfl rfl (s_mvB rfl (s_gn (b := false) rfl rfl (s_gn (b := false) rfl rfl (s_gn (b := false) rfl rfl (s_pickFB rfl rfl (s_mvB rfl (s_gn (b := false) rfl rfl (s_gn (b := false) rfl rfl (s_pickFB rfl rfl (s_mvB rfl (s_gn (b := false) rfl rfl (s_gn (b := false) rfl rfl (s_pickFB rfl rfl (s_mvB rfl (s_gn (b := false) rfl rfl (s_gn (b := false) rfl rfl (s_pickFB rfl rfl (s_mvB rfl (s_gn (b := false) rfl rfl (s_gn (b := false) rfl rfl (s_pickFB rfl rfl (s_mvB rfl (s_gn (b := false) rfl rfl (s_gn (b := false) rfl rfl (s_pickFB rfl rfl (s_mvB rfl (s_gn (b := false) rfl rfl (s_gn (b := false) rfl rfl (s_pickFB rfl rfl (s_mvB rfl (s_nil (W.seq (W.reg0 rfl fun _ _ => s_mvB rfl (s_gy rfl (s_mvB H54 (s_pickTB rfl rfl (s_mvB rfl (s_emb (g := 316) rfl (fun g'25 => s_gy rfl (s_mvB rfl (s_pickTB rfl rfl (s_mvB rfl (s_gn (b := false) rfl rfl (s_pickFB rfl rfl (s_mvB rfl (s_nil (W.ret (hQ _ _  _ rfl  (((((((h.1 g'1).1 g'2).1 g'3).1 g'4).1 g'5).2 g'6).1 g'25))))))))))) (fun g'25 => s_gn (b := false) rfl rfl (s_pickFB rfl rfl (s_mvB rfl (s_gn (b := false) rfl rfl (s_pickFB rfl rfl (s_mvB rfl (s_nil (W.ret (hQ _ _  _ rfl  (((((((h.1 g'1).1 g'2).1 g'3).1 g'4).1 g'5).2 g'6).2 g'25)))))))))))))))))))))))))))))))))))))))))))))))))))))))))))) (fun g'5 => s_gn (b := false) rfl rfl (s_gn (b := false) rfl rfl (s_gn (b := false) rfl rfl (s_pickFB rfl rfl (s_mvB rfl (s_gn (b := false) rfl rfl (s_gn (b := false) rfl rfl (s_pickFB rfl rfl (s_mvB rfl (s_gn (b := false) rfl rfl (s_gn (b := false) rfl rfl (s_gn (b := false) rfl rfl (s_pickFB rfl rfl (s_mvB rfl (s_gn (b := false) rfl rfl (s_gn (b := false) rfl rfl (s_pickFB rfl rfl (s_mvB rfl (s_gn (b := false) rfl rfl (s_gn (b := false) rfl rfl (s_pickFB rfl rfl (s_mvB rfl (s_gn (b := false) rfl rfl (s_gn (b := false) rfl rfl (s_pickFB rfl rfl (s_mvB rfl (s_gn (b := false) rfl rfl (s_gn (b := false) rfl rfl (s_pickFB rfl rfl (s_mvB rfl (s_gn (b := false) rfl rfl (s_gn (b := false) rfl rfl (s_pickFB rfl rfl (s_mvB rfl (s_gn (b := false) rfl rfl (s_gn (b := false) rfl rfl (s_pickFB rfl rfl (s_mvB rfl (s_nil (W.seq (W.reg0 rfl fun _ _ => s_mvB rfl (s_gy rfl (s_mvB H54 (s_pickTB rfl rfl (s_mvB rfl (s_emb (g := 316) rfl (fun g'26 => s_gy rfl (s_mvB rfl (s_pickTB rfl rfl (s_mvB rfl (s_gn (b := false) rfl rfl (s_pickFB rfl rfl (s_mvB rfl (s_nil (W.ret (hQ _ _  _ rfl  ((((((h.1 g'1).1 g'2).1 g'3).1 g'4).2 g'5).1 g'26))))))))))) (fun g'26 => s_gn (b := false) rfl rfl (s_pickFB rfl rfl (s_mvB rfl (s_gn (b := false) rfl rfl (s_pickFB rfl rfl (s_mvB rfl (s_nil (W.ret (hQ _ _  _ rfl  ((((((h.1 g'1).1 g'2).1 g'3).1 g'4).2 g'5).2 g'26))))))))))))))))))))))))))))))))))))))))))))))))))))))))))))))) (fun g'4 => s_gn (b := false) rfl rfl (s_gn (b := false) rfl rfl (s_pickFB rfl rfl (s_mvB rfl (s_gn (b := false) rfl rfl (s_gn (b := false) rfl rfl (s_gn (b := false) rfl rfl (s_pickFB rfl rfl (s_mvB rfl (s_gn (b := false) rfl rfl (s_gn (b := false) rfl rfl (s_pickFB rfl rfl (s_mvB rfl (s_gn (b := false) rfl rfl (s_gn (b := false) rfl rfl (s_gn (b := false) rfl rfl (s_pickFB rfl rfl (s_mvB rfl (s_gn (b := false) rfl rfl (s_gn (b := false) rfl rfl (s_pickFB rfl rfl (s_mvB rfl (s_gn (b := false) rfl rfl (s_gn (b := false) rfl rfl (s_pickFB rfl rfl (s_mvB rfl (s_gn (b := false) rfl rfl (s_gn (b := false) rfl rfl (s_pickFB rfl rfl (s_mvB rfl (s_gn (b := false) rfl rfl (s_gn (b := false) rfl rfl (s_pickFB rfl rfl (s_mvB rfl (s_gn (b := false) rfl rfl (s_gn (b := false) rfl rfl (s_pickFB rfl rfl (s_mvB rfl (s_gn (b := false) rfl rfl (s_gn (b := false) rfl rfl (s_pickFB rfl rfl (s_mvB rfl (s_nil (W.seq (W.reg0 rfl fun _ _ => s_mvB rfl (s_gy rfl (s_mvB H54 (s_pickTB rfl rfl (s_mvB rfl (s_emb (g := 316) rfl (fun g'27 => s_gy rfl (s_mvB rfl (s_pickTB rfl rfl (s_mvB rfl (s_gn (b := false) rfl rfl (s_pickFB rfl rfl (s_mvB rfl (s_nil (W.ret (hQ _ _  _ rfl  (((((h.1 g'1).1 g'2).1 g'3).2 g'4).1 g'27))))))))))) (fun g'27 => s_gn (b := false) rfl rfl (s_pickFB rfl rfl (s_mvB rfl (s_gn (b := false) rfl rfl (s_pickFB rfl rfl (s_mvB rfl (s_nil (W.ret (hQ _ _  _ rfl  (((((h.1 g'1).1 g'2).1 g'3).2 g'4).2 g'27))))))))))))))))))))))))))))))))))))))))))))))))))))))))))))))))))) (fun g'3 => s_gn (b := false) rfl rfl (s_gn (b := false) rfl rfl (s_pickFB rfl rfl (s_mvB rfl (s_gn (b := false) rfl rfl (s_gn (b := false) rfl rfl (s_pickFB rfl rfl (s_mvB rfl (s_gn (b := false) rfl rfl (s_gn (b := false) rfl rfl (s_gn (b := false) rfl rfl (s_pickFB rfl rfl (s_mvB rfl (s_gn (b := false) rfl rfl (s_gn (b := false) rfl rfl (s_pickFB rfl rfl (s_mvB rfl (s_gn (b := false) rfl rfl (s_gn (b := false) rfl rfl (s_gn (b := false) rfl rfl (s_pickFB rfl rfl (s_mvB rfl (s_gn (b := false) rfl rfl (s_gn (b := false) rfl rfl (s_pickFB rfl rfl (s_mvB rfl (s_gn (b := false) rfl rfl (s_gn (b := false) rfl rfl (s_pickFB rfl rfl (s_mvB rfl (s_gn (b := false) rfl rfl (s_gn (b := false) rfl rfl (s_pickFB rfl rfl (s_mvB rfl (s_gn (b := false) rfl rfl (s_gn (b := false) rfl rfl (s_pickFB rfl rfl (s_mvB rfl (s_gn (b := false) rfl rfl (s_gn (b := false) rfl rfl (s_pickFB rfl rfl (s_mvB rfl (s_gn (b := false) rfl rfl (s_gn (b := false) rfl rfl (s_pickFB rfl rfl (s_mvB rfl (s_nil (W.seq (W.reg0 rfl fun _ _ => s_mvB rfl (s_gy rfl (s_mvB H54 (s_pickTB rfl rfl (s_mvB rfl (s_emb (g := 316) rfl (fun g'28 => s_gy rfl (s_mvB rfl (s_pickTB rfl rfl (s_mvB rfl (s_gn (b := false) rfl rfl (s_pickFB rfl rfl (s_mvB rfl (s_nil (W.ret (hQ _ _  _ rfl  ((((h.1 g'1).1 g'2).2 g'3).1 g'28))))))))))) (fun g'28 => s_gn (b := false) rfl rfl (s_pickFB rfl rfl (s_mvB rfl (s_gn (b := false) rfl rfl (s_pickFB rfl rfl (s_mvB rfl (s_nil (W.ret (hQ _ _  _ rfl  ((((h.1 g'1).1 g'2).2 g'3).2 g'28))))))))))))))))))))))))))))))))))))))))))))))))))))))))))))))))))))))) (fun g'2 => s_gn (b := false) rfl rfl (s_gn (b := false) rfl rfl (s_pickFB rfl rfl (s_mvB rfl (s_gn (b := false) rfl rfl (s_gn (b := false) rfl rfl (s_pickFB rfl rfl (s_mvB rfl (s_gn (b := false) rfl rfl (s_gn (b := false) rfl rfl (s_pickFB rfl rfl (s_mvB rfl (s_gn (b := false) rfl rfl (s_gn (b := false) rfl rfl (s_gn (b := false) rfl rfl (s_pickFB rfl rfl (s_mvB rfl (s_gn (b := false) rfl rfl (s_gn (b := false) rfl rfl (s_pickFB rfl rfl (s_mvB rfl (s_gn (b := false) rfl rfl (s_gn (b := false) rfl rfl (s_gn (b := false) rfl rfl (s_pickFB rfl rfl (s_mvB rfl (s_gn (b := false) rfl rfl (s_gn (b := false) rfl rfl (s_pickFB rfl rfl (s_mvB rfl (s_gn (b := false) rfl rfl (s_gn (b := false) rfl rfl (s_pickFB rfl rfl (s_mvB rfl (s_gn (b := false) rfl rfl (s_gn (b := false) rfl rfl (s_pickFB rfl rfl (s_mvB rfl (s_gn (b := false) rfl rfl (s_gn (b := false) rfl rfl (s_pickFB rfl rfl (s_mvB rfl (s_gn (b := false) rfl rfl (s_gn (b := false) rfl rfl (s_pickFB rfl rfl (s_mvB rfl (s_gn (b := false) rfl rfl (s_gn (b := false) rfl rfl (s_pickFB rfl rfl (s_mvB rfl (s_nil (W.seq (W.reg0 rfl fun _ _ => s_mvB rfl (s_gy rfl (s_mvB H54 (s_pickTB rfl rfl (s_mvB rfl (s_emb (g := 316) rfl (fun g'29 => s_gy rfl (s_mvB rfl (s_pickTB rfl rfl (s_mvB rfl (s_gn (b := false) rfl rfl (s_pickFB rfl rfl (s_mvB rfl (s_nil (W.ret (hQ _ _  _ rfl  (((h.1 g'1).2 g'2).1 g'29))))))))))) (fun g'29 => s_gn (b := false) rfl rfl (s_pickFB rfl rfl (s_mvB rfl (s_gn (b := false) rfl rfl (s_pickFB rfl rfl (s_mvB rfl (s_nil (W.ret (hQ _ _  _ rfl  (((h.1 g'1).2 g'2).2 g'29))))))))))))))))))))))))))))))))))))))))))))))))))))))))))))))))))))))))))) (fun g'1 => s_gn (b := false) rfl rfl (s_gn (b := false) rfl rfl (s_pickFB rfl rfl (s_mvB rfl (s_gn (b := false) rfl rfl (s_gn (b := false) rfl rfl (s_pickFB rfl rfl (s_mvB rfl (s_gn (b := false) rfl rfl (s_gn (b := false) rfl rfl (s_pickFB rfl rfl (s_mvB rfl (s_gn (b := false) rfl rfl (s_gn (b := false) rfl rfl (s_pickFB rfl rfl (s_mvB rfl (s_gn (b := false) rfl rfl (s_gn (b := false) rfl rfl (s_gn (b := false) rfl rfl (s_pickFB rfl rfl (s_mvB rfl (s_gn (b := false) rfl rfl (s_gn (b := false) rfl rfl (s_pickFB rfl rfl (s_mvB rfl (s_gn (b := false) rfl rfl (s_gn (b := false) rfl rfl (s_gn (b := false) rfl rfl (s_pickFB rfl rfl (s_mvB rfl (s_gn (b := false) rfl rfl (s_gn (b := false) rfl rfl (s_pickFB rfl rfl (s_mvB rfl (s_gn (b := false) rfl rfl (s_gn (b := false) rfl rfl (s_pickFB rfl rfl (s_mvB rfl (s_gn (b := false) rfl rfl (s_gn (b := false) rfl rfl (s_pickFB rfl rfl (s_mvB rfl (s_gn (b := false) rfl rfl (s_gn (b := false) rfl rfl (s_pickFB rfl rfl (s_mvB rfl (s_gn (b := false) rfl rfl (s_gn (b := false) rfl rfl (s_pickFB rfl rfl (s_mvB rfl (s_gn (b := false) rfl rfl (s_gn (b := false) rfl rfl (s_pickFB rfl rfl (s_mvB rfl (s_nil (W.seq (W.reg0 rfl fun _ _ => s_mvB rfl (s_gy rfl (s_mvB H54 (s_pickTB rfl rfl (s_mvB rfl (s_emb (g := 316) rfl (fun g'30 => s_gy rfl (s_mvB rfl (s_pickTB rfl rfl (s_mvB rfl (s_gn (b := false) rfl rfl (s_pickFB rfl rfl (s_mvB rfl (s_nil (W.ret (hQ _ _  _ rfl  ((h.2 g'1).1 g'30))))))))))) (fun g'30 => s_gn (b := false) rfl rfl (s_pickFB rfl rfl (s_mvB rfl (s_gn (b := false) rfl rfl (s_pickFB rfl rfl (s_mvB rfl (s_nil (W.ret (hQ _ _  _ rfl  ((h.2 g'1).2 g'30))))))))))))))))))))))))))))))))))))))))))))))))))))))))))))))))))))))))))))
def T7_33 (prog : Prog) (K : Bool → Prop) (most17 : Int) (a18 : Int) (least19 : Int) (b20 : Int) (c22 : Int) (d24 : Int) (top25 : Int) (e26 : Int) (f28 : Int) (g31 : Int) (h33 : Int) (i35 : Int) (j37 : Int) (zeros38 : List UInt8) (k39 : Int) (back40 : List UInt8) (l41 : Int) (m43 : Int) (n45 : Int) (o47 : Int) (p49 : Int) (q51 : Int) (r53 : Int) : Prop :=
  (a18 = 0 → (most17 = 9223372036854775807 → (b20 = 0 → (least19 = (-9223372036854775808) → (c22 = 16 → (d24 = 16 → (e26 = 0 → (top25 = 18446744073709551615 → T7_34 prog K g31 h33 i35 j37 zeros38 k39 back40 l41 m43 n45 o47 p49 q51 r53 (decide (f28 = 16))) ∧ (¬(top25 = 18446744073709551615) → T7_34 prog K g31 h33 i35 j37 zeros38 k39 back40 l41 m43 n45 o47 p49 q51 r53 false)) ∧ (¬(e26 = 0) → T7_34 prog K g31 h33 i35 j37 zeros38 k39 back40 l41 m43 n45 o47 p49 q51 r53 false)) ∧ (¬(d24 = 16) → T7_34 prog K g31 h33 i35 j37 zeros38 k39 back40 l41 m43 n45 o47 p49 q51 r53 false)) ∧ (¬(c22 = 16) → T7_34 prog K g31 h33 i35 j37 zeros38 k39 back40 l41 m43 n45 o47 p49 q51 r53 false)) ∧ (¬(least19 = (-9223372036854775808)) → T7_34 prog K g31 h33 i35 j37 zeros38 k39 back40 l41 m43 n45 o47 p49 q51 r53 false)) ∧ (¬(b20 = 0) → T7_34 prog K g31 h33 i35 j37 zeros38 k39 back40 l41 m43 n45 o47 p49 q51 r53 false)) ∧ (¬(most17 = 9223372036854775807) → T7_34 prog K g31 h33 i35 j37 zeros38 k39 back40 l41 m43 n45 o47 p49 q51 r53 false)) ∧ (¬(a18 = 0) → T7_34 prog K g31 h33 i35 j37 zeros38 k39 back40 l41 m43 n45 o47 p49 q51 r53 false)
theorem w7_33 {prog : Prog} {d : Nat} {Q : AE → Sl → St → Prop} {K : Bool → Prop} (hQ : ∀ (σ : Sl) (st : St) (x0 : Bool), σ 0 = .b x0 → K x0 → Q .ret σ st) {most17 : Int} {a18 : Int} {least19 : Int} {b20 : Int} {c22 : Int} {d24 : Int} {top25 : Int} {e26 : Int} {f28 : Int} {g31 : Int} {h33 : Int} {i35 : Int} {j37 : Int} {zeros38 : List UInt8} {k39 : Int} {back40 : List UInt8} {l41 : Int} {m43 : Int} {n45 : Int} {o47 : Int} {p49 : Int} {q51 : Int} {r53 : Int}   {σ : Sl} {st : St} (H17 : σ 17 = .i .i64 most17) (H18 : σ 18 = .i .i64 a18) (H19 : σ 19 = .i .i64 least19) (H20 : σ 20 = .i .i64 b20) (H22 : σ 22 = .i .i64 c22) (H24 : σ 24 = .i .i64 d24) (H25 : σ 25 = .i .u64 top25) (H26 : σ 26 = .i .i64 e26) (H28 : σ 28 = .i .i64 f28) (H31 : σ 31 = .i .i64 g31) (H33 : σ 33 = .i .i64 h33) (H35 : σ 35 = .i .i64 i35) (H37 : σ 37 = .i .i64 j37) (H38 : σ 38 = .s zeros38) (H39 : σ 39 = .i .i64 k39) (H40 : σ 40 = .s back40) (H41 : σ 41 = .i .i64 l41) (H43 : σ 43 = .i .i64 m43) (H45 : σ 45 = .i .i64 n45) (H47 : σ 47 = .i .i64 o47) (H49 : σ 49 = .i .i64 p49) (H51 : σ 51 = .i .i64 q51) (H53 : σ 53 = .i .i64 r53) (h : T7_33 prog K most17 a18 least19 b20 c22 d24 top25 e26 f28 g31 h33 i35 j37 zeros38 k39 back40 l41 m43 n45 o47 p49 q51 r53) : W prog d c7_5 σ st Q :=
  W.seq (W.reg0 rfl fun _ _ => s_mvI H18 (s_bin rfl rfl (abin_eql _ _ _) (s_mvB rfl (s_em (g := 225) rfl (fun g'1 => s_gy rfl (s_mvI H17 (s_gy rfl (s_bin rfl rfl (abin_eql _ _ _) (s_pickTB rfl rfl (s_mvB rfl (s_em (g := 229) rfl (fun g'2 => s_gy rfl (s_mvI H20 (s_gy rfl (s_bin rfl rfl (abin_eql _ _ _) (s_pickTB rfl rfl (s_mvB rfl (s_em (g := 233) rfl (fun g'3 => s_gy rfl (s_mvI H19 (s_gy rfl (s_bin rfl rfl (abin_eql _ _ _) (s_pickTB rfl rfl (s_mvB rfl (s_em (g := 237) rfl (fun g'4 => s_gy rfl (s_mvI H22 (s_gy rfl (s_bin rfl rfl (abin_eql _ _ _) (s_pickTB rfl rfl (s_mvB rfl (s_em (g := 241) rfl (fun g'5 => s_gy rfl (s_mvI H24 (s_gy rfl (s_bin rfl rfl (abin_eql _ _ _) (s_pickTB rfl rfl (s_mvB rfl (s_em (g := 245) rfl (fun g'6 => s_gy rfl (s_mvI H26 (s_gy rfl (s_bin rfl rfl (abin_eql _ _ _) (s_pickTB rfl rfl (s_mvB rfl (s_em (g := 249) rfl (fun g'7 => s_gy rfl (s_mvI H25 (s_gy rfl (s_bin rfl rfl (abin_eql _ _ _) (s_pickTB rfl rfl (s_mvB rfl (s_em (g := 253) rfl (fun g'8 => s_gy rfl (s_mvI H28 (s_gy rfl (s_bin rfl rfl (abin_eql _ _ _) (s_pickTB rfl rfl (s_mvB rfl (s_nil (w7_34 hQ  H31 H33 H35 H37 H38 H39 H40 H41 H43 H45 H47 H49 H51 H53 rfl ((((((((h.1 g'1).1 g'2).1 g'3).1 g'4).1 g'5).1 g'6).1 g'7).1 g'8))))))))) (fun g'8 => s_gn (b := false) rfl rfl (s_gn (b := false) rfl rfl (s_pickFB rfl rfl (s_mvB rfl (s_nil (w7_34 hQ  H31 H33 H35 H37 H38 H39 H40 H41 H43 H45 H47 H49 H51 H53 rfl ((((((((h.1 g'1).1 g'2).1 g'3).1 g'4).1 g'5).1 g'6).1 g'7).2 g'8)))))))))))))) (fun g'7 => s_gn (b := false) rfl rfl (s_gn (b := false) rfl rfl (s_pickFB rfl rfl (s_mvB rfl (s_gn (b := false) rfl rfl (s_gn (b := false) rfl rfl (s_pickFB rfl rfl (s_mvB rfl (s_nil (w7_34 hQ  H31 H33 H35 H37 H38 H39 H40 H41 H43 H45 H47 H49 H51 H53 rfl (((((((h.1 g'1).1 g'2).1 g'3).1 g'4).1 g'5).1 g'6).2 g'7)))))))))))))))))) (fun g'6 => s_gn (b := false) rfl rfl (s_gn (b := false) rfl rfl (s_pickFB rfl rfl (s_mvB rfl (s_gn (b := false) rfl rfl (s_gn (b := false) rfl rfl (s_pickFB rfl rfl (s_mvB rfl (s_gn (b := false) rfl rfl (s_gn (b := false) rfl rfl (s_pickFB rfl rfl (s_mvB rfl (s_nil (w7_34 hQ  H31 H33 H35 H37 H38 H39 H40 H41 H43 H45 H47 H49 H51 H53 rfl ((((((h.1 g'1).1 g'2).1 g'3).1 g'4).1 g'5).2 g'6)))))))))))))))))))))) (fun g'5 => s_gn (b := false) rfl rfl (s_gn (b := false) rfl rfl (s_pickFB rfl rfl (s_mvB rfl (s_gn (b := false) rfl rfl (s_gn (b := false) rfl rfl (s_pickFB rfl rfl (s_mvB rfl (s_gn (b := false) rfl rfl (s_gn (b := false) rfl rfl (s_pickFB rfl rfl (s_mvB rfl (s_gn (b := false) rfl rfl (s_gn (b := false) rfl rfl (s_pickFB rfl rfl (s_mvB rfl (s_nil (w7_34 hQ  H31 H33 H35 H37 H38 H39 H40 H41 H43 H45 H47 H49 H51 H53 rfl (((((h.1 g'1).1 g'2).1 g'3).1 g'4).2 g'5)))))))))))))))))))))))))) (fun g'4 => s_gn (b := false) rfl rfl (s_gn (b := false) rfl rfl (s_pickFB rfl rfl (s_mvB rfl (s_gn (b := false) rfl rfl (s_gn (b := false) rfl rfl (s_pickFB rfl rfl (s_mvB rfl (s_gn (b := false) rfl rfl (s_gn (b := false) rfl rfl (s_pickFB rfl rfl (s_mvB rfl (s_gn (b := false) rfl rfl (s_gn (b := false) rfl rfl (s_pickFB rfl rfl (s_mvB rfl (s_gn (b := false) rfl rfl (s_gn (b := false) rfl rfl (s_pickFB rfl rfl (s_mvB rfl (s_nil (w7_34 hQ  H31 H33 H35 H37 H38 H39 H40 H41 H43 H45 H47 H49 H51 H53 rfl ((((h.1 g'1).1 g'2).1 g'3).2 g'4)))))))))))))))))))))))))))))) (fun g'3 => s_gn (b := false) rfl rfl (s_gn (b := false) rfl rfl (s_pickFB rfl rfl (s_mvB rfl (s_gn (b := false) rfl rfl (s_gn (b := false) rfl rfl (s_pickFB rfl rfl (s_mvB rfl (s_gn (b := false) rfl rfl (s_gn (b := false) rfl rfl (s_pickFB rfl rfl (s_mvB rfl (s_gn (b := false) rfl rfl (s_gn (b := false) rfl rfl (s_pickFB rfl rfl (s_mvB rfl (s_gn (b := false) rfl rfl (s_gn (b := false) rfl rfl (s_pickFB rfl rfl (s_mvB rfl (s_gn (b := false) rfl rfl (s_gn (b := false) rfl rfl (s_pickFB rfl rfl (s_mvB rfl (s_nil (w7_34 hQ  H31 H33 H35 H37 H38 H39 H40 H41 H43 H45 H47 H49 H51 H53 rfl (((h.1 g'1).1 g'2).2 g'3)))))))))))))))))))))))))))))))))) (fun g'2 => s_gn (b := false) rfl rfl (s_gn (b := false) rfl rfl (s_pickFB rfl rfl (s_mvB rfl (s_gn (b := false) rfl rfl (s_gn (b := false) rfl rfl (s_pickFB rfl rfl (s_mvB rfl (s_gn (b := false) rfl rfl (s_gn (b := false) rfl rfl (s_pickFB rfl rfl (s_mvB rfl (s_gn (b := false) rfl rfl (s_gn (b := false) rfl rfl (s_pickFB rfl rfl (s_mvB rfl (s_gn (b := false) rfl rfl (s_gn (b := false) rfl rfl (s_pickFB rfl rfl (s_mvB rfl (s_gn (b := false) rfl rfl (s_gn (b := false) rfl rfl (s_pickFB rfl rfl (s_mvB rfl (s_gn (b := false) rfl rfl (s_gn (b := false) rfl rfl (s_pickFB rfl rfl (s_mvB rfl (s_nil (w7_34 hQ  H31 H33 H35 H37 H38 H39 H40 H41 H43 H45 H47 H49 H51 H53 rfl ((h.1 g'1).2 g'2)))))))))))))))))))))))))))))))))))))) (fun g'1 => s_gn (b := false) rfl rfl (s_gn (b := false) rfl rfl (s_pickFB rfl rfl (s_mvB rfl (s_gn (b := false) rfl rfl (s_gn (b := false) rfl rfl (s_pickFB rfl rfl (s_mvB rfl (s_gn (b := false) rfl rfl (s_gn (b := false) rfl rfl (s_pickFB rfl rfl (s_mvB rfl (s_gn (b := false) rfl rfl (s_gn (b := false) rfl rfl (s_pickFB rfl rfl (s_mvB rfl (s_gn (b := false) rfl rfl (s_gn (b := false) rfl rfl (s_pickFB rfl rfl (s_mvB rfl (s_gn (b := false) rfl rfl (s_gn (b := false) rfl rfl (s_pickFB rfl rfl (s_mvB rfl (s_gn (b := false) rfl rfl (s_gn (b := false) rfl rfl (s_pickFB rfl rfl (s_mvB rfl (s_gn (b := false) rfl rfl (s_gn (b := false) rfl rfl (s_pickFB rfl rfl (s_mvB rfl (s_nil (w7_34 hQ  H31 H33 H35 H37 H38 H39 H40 H41 H43 H45 H47 H49 H51 H53 rfl (h.2 g'1)))))))))))))))))))))))))))))))))))))))
def T7_32 (prog : Prog) (K : Bool → Prop) (most17 : Int) (a18 : Int) (least19 : Int) (b20 : Int) (c22 : Int) (d24 : Int) (top25 : Int) (e26 : Int) (f28 : Int) (g31 : Int) (h33 : Int) (i35 : Int) (j37 : Int) (zeros38 : List UInt8) (k39 : Int) (back40 : List UInt8) (l41 : Int) (m43 : Int) (n45 : Int) (full46 : List UInt8) (o47 : Int) (p49 : Int) (q51 : Int) : Prop :=
  0 ≤ (IntKind.i64.wrap ((full46.length : Int) - 1)) ∧ (IntKind.i64.wrap ((full46.length : Int) - 1)).toNat ≤ full46.length ∧ (full46.take (IntKind.i64.wrap ((full46.length : Int) - 1)).toNat).length + ([44, 32, 34, 34, 93] : List UInt8).length ≤ maxStr ∧ ∃ r'1 : List (List UInt8), ∃ r'2 : Int, Pus prog 27 [.s ((full46.take (IntKind.i64.wrap ((full46.length : Int) - 1)).toNat) ++ ([44, 32, 34, 34, 93] : List UInt8))] (.tup [.sl .ext (List.map rowS r'1), .i .i64 r'2]) ∧ T7_33 prog K most17 a18 least19 b20 c22 d24 top25 e26 f28 g31 h33 i35 j37 zeros38 k39 back40 l41 m43 n45 o47 p49 q51 r'2
theorem w7_32 {prog : Prog} {d : Nat} {Q : AE → Sl → St → Prop} {K : Bool → Prop} (hQ : ∀ (σ : Sl) (st : St) (x0 : Bool), σ 0 = .b x0 → K x0 → Q .ret σ st) {most17 : Int} {a18 : Int} {least19 : Int} {b20 : Int} {c22 : Int} {d24 : Int} {top25 : Int} {e26 : Int} {f28 : Int} {g31 : Int} {h33 : Int} {i35 : Int} {j37 : Int} {zeros38 : List UInt8} {k39 : Int} {back40 : List UInt8} {l41 : Int} {m43 : Int} {n45 : Int} {full46 : List UInt8} {o47 : Int} {p49 : Int} {q51 : Int}   {σ : Sl} {st : St} (H17 : σ 17 = .i .i64 most17) (H18 : σ 18 = .i .i64 a18) (H19 : σ 19 = .i .i64 least19) (H20 : σ 20 = .i .i64 b20) (H22 : σ 22 = .i .i64 c22) (H24 : σ 24 = .i .i64 d24) (H25 : σ 25 = .i .u64 top25) (H26 : σ 26 = .i .i64 e26) (H28 : σ 28 = .i .i64 f28) (H31 : σ 31 = .i .i64 g31) (H33 : σ 33 = .i .i64 h33) (H35 : σ 35 = .i .i64 i35) (H37 : σ 37 = .i .i64 j37) (H38 : σ 38 = .s zeros38) (H39 : σ 39 = .i .i64 k39) (H40 : σ 40 = .s back40) (H41 : σ 41 = .i .i64 l41) (H43 : σ 43 = .i .i64 m43) (H45 : σ 45 = .i .i64 n45) (H46 : σ 46 = .s full46) (H47 : σ 47 = .i .i64 o47) (H49 : σ 49 = .i .i64 p49) (H51 : σ 51 = .i .i64 q51) (h : T7_32 prog K most17 a18 least19 b20 c22 d24 top25 e26 f28 g31 h33 i35 j37 zeros38 k39 back40 l41 m43 n45 full46 o47 p49 q51) : W prog d c7_6 σ st Q :=
  W.seq (W.reg0 rfl fun _ _ => s_mvS H46 (s_mvS H46 (s_lenS rfl (s_bin rfl rfl (abin_sub _ _ _) (s_slS_hi rfl rfl h.1 h.2.1 (s_bin rfl rfl (abin_cat' h.2.2.1) (h.2.2.2.elim fun r'1 e'4 => e'4.elim fun r'2 e'3 => s_call (sc rfl rfl sn) e'3.1 (s_mvT rfl (s_ext rfl rfl (s_ext rfl rfl (s_mvL rfl (s_mvI rfl (s_nil (w7_33 hQ  H17 H18 H19 H20 H22 H24 H25 H26 H28 H31 H33 H35 H37 H38 H39 H40 H41 H43 H45 H47 H49 H51 rfl e'3.2))))))))))))))
def T7_31 (prog : Prog) (K : Bool → Prop) (most17 : Int) (a18 : Int) (least19 : Int) (b20 : Int) (c22 : Int) (d24 : Int) (top25 : Int) (e26 : Int) (f28 : Int) (g31 : Int) (h33 : Int) (i35 : Int) (j37 : Int) (zeros38 : List UInt8) (k39 : Int) (back40 : List UInt8) (l41 : Int) (m43 : Int) (n45 : Int) (full46 : List UInt8) (o47 : Int) (p49 : Int) : Prop :=
  ∃ r'1 : List (List UInt8), ∃ r'2 : Int, Pus prog 27 [.s (rep 200001 0)] (.tup [.sl .ext (List.map rowS r'1), .i .i64 r'2]) ∧ T7_32 prog K most17 a18 least19 b20 c22 d24 top25 e26 f28 g31 h33 i35 j37 zeros38 k39 back40 l41 m43 n45 full46 o47 p49 r'2
theorem w7_31 {prog : Prog} {d : Nat} {Q : AE → Sl → St → Prop} {K : Bool → Prop} (hQ : ∀ (σ : Sl) (st : St) (x0 : Bool), σ 0 = .b x0 → K x0 → Q .ret σ st) {most17 : Int} {a18 : Int} {least19 : Int} {b20 : Int} {c22 : Int} {d24 : Int} {top25 : Int} {e26 : Int} {f28 : Int} {g31 : Int} {h33 : Int} {i35 : Int} {j37 : Int} {zeros38 : List UInt8} {k39 : Int} {back40 : List UInt8} {l41 : Int} {m43 : Int} {n45 : Int} {full46 : List UInt8} {o47 : Int} {p49 : Int}   {σ : Sl} {st : St} (H17 : σ 17 = .i .i64 most17) (H18 : σ 18 = .i .i64 a18) (H19 : σ 19 = .i .i64 least19) (H20 : σ 20 = .i .i64 b20) (H22 : σ 22 = .i .i64 c22) (H24 : σ 24 = .i .i64 d24) (H25 : σ 25 = .i .u64 top25) (H26 : σ 26 = .i .i64 e26) (H28 : σ 28 = .i .i64 f28) (H31 : σ 31 = .i .i64 g31) (H33 : σ 33 = .i .i64 h33) (H35 : σ 35 = .i .i64 i35) (H37 : σ 37 = .i .i64 j37) (H38 : σ 38 = .s zeros38) (H39 : σ 39 = .i .i64 k39) (H40 : σ 40 = .s back40) (H41 : σ 41 = .i .i64 l41) (H43 : σ 43 = .i .i64 m43) (H45 : σ 45 = .i .i64 n45) (H46 : σ 46 = .s full46) (H47 : σ 47 = .i .i64 o47) (H49 : σ 49 = .i .i64 p49) (h : T7_31 prog K most17 a18 least19 b20 c22 d24 top25 e26 f28 g31 h33 i35 j37 zeros38 k39 back40 l41 m43 n45 full46 o47 p49) : W prog d c7_7 σ st Q :=
  W.seq (W.reg0 rfl fun _ _ => s_mks (n := 200001) (m := 200001) (f := row8) (a := 0) rfl rfl rfl rfl rfl (by decide) rfl ⟨by decide, by decide⟩ (s_b2s rfl (h.elim fun r'1 e'4 => e'4.elim fun r'2 e'3 => s_call (sc rfl rfl sn) e'3.1 (s_mvT rfl (s_ext rfl rfl (s_ext rfl rfl (s_mvL rfl (s_mvI rfl (s_nil (w7_32 hQ  H17 H18 H19 H20 H22 H24 H25 H26 H28 H31 H33 H35 H37 H38 H39 H40 H41 H43 H45 H46 H47 H49 rfl e'3.2))))))))))
def T7_30 (prog : Prog) (K : Bool → Prop) (most17 : Int) (a18 : Int) (least19 : Int) (b20 : Int) (c22 : Int) (d24 : Int) (top25 : Int) (e26 : Int) (f28 : Int) (g31 : Int) (h33 : Int) (i35 : Int) (j37 : Int) (zeros38 : List UInt8) (k39 : Int) (back40 : List UInt8) (l41 : Int) (m43 : Int) (n45 : Int) (full46 : List UInt8) (o47 : Int) : Prop :=
  ∃ r'1 : List (List UInt8), ∃ r'2 : Int, Pus prog 27 [.s full46] (.tup [.sl .ext (List.map rowS r'1), .i .i64 r'2]) ∧ T7_31 prog K most17 a18 least19 b20 c22 d24 top25 e26 f28 g31 h33 i35 j37 zeros38 k39 back40 l41 m43 n45 full46 o47 r'2
theorem w7_30 {prog : Prog} {d : Nat} {Q : AE → Sl → St → Prop} {K : Bool → Prop} (hQ : ∀ (σ : Sl) (st : St) (x0 : Bool), σ 0 = .b x0 → K x0 → Q .ret σ st) {most17 : Int} {a18 : Int} {least19 : Int} {b20 : Int} {c22 : Int} {d24 : Int} {top25 : Int} {e26 : Int} {f28 : Int} {g31 : Int} {h33 : Int} {i35 : Int} {j37 : Int} {zeros38 : List UInt8} {k39 : Int} {back40 : List UInt8} {l41 : Int} {m43 : Int} {n45 : Int} {full46 : List UInt8} {o47 : Int}   {σ : Sl} {st : St} (H17 : σ 17 = .i .i64 most17) (H18 : σ 18 = .i .i64 a18) (H19 : σ 19 = .i .i64 least19) (H20 : σ 20 = .i .i64 b20) (H22 : σ 22 = .i .i64 c22) (H24 : σ 24 = .i .i64 d24) (H25 : σ 25 = .i .u64 top25) (H26 : σ 26 = .i .i64 e26) (H28 : σ 28 = .i .i64 f28) (H31 : σ 31 = .i .i64 g31) (H33 : σ 33 = .i .i64 h33) (H35 : σ 35 = .i .i64 i35) (H37 : σ 37 = .i .i64 j37) (H38 : σ 38 = .s zeros38) (H39 : σ 39 = .i .i64 k39) (H40 : σ 40 = .s back40) (H41 : σ 41 = .i .i64 l41) (H43 : σ 43 = .i .i64 m43) (H45 : σ 45 = .i .i64 n45) (H46 : σ 46 = .s full46) (H47 : σ 47 = .i .i64 o47) (h : T7_30 prog K most17 a18 least19 b20 c22 d24 top25 e26 f28 g31 h33 i35 j37 zeros38 k39 back40 l41 m43 n45 full46 o47) : W prog d c7_8 σ st Q :=
  W.seq (W.reg0 rfl fun _ _ => s_mvS H46 (h.elim fun r'1 e'4 => e'4.elim fun r'2 e'3 => s_call (sc rfl rfl sn) e'3.1 (s_mvT rfl (s_ext rfl rfl (s_ext rfl rfl (s_mvL rfl (s_mvI rfl (s_nil (w7_31 hQ  H17 H18 H19 H20 H22 H24 H25 H26 H28 H31 H33 H35 H37 H38 H39 H40 H41 H43 H45 H46 H47 rfl e'3.2)))))))))
def T7_29 (prog : Prog) (K : Bool → Prop) (most17 : Int) (a18 : Int) (least19 : Int) (b20 : Int) (c22 : Int) (d24 : Int) (top25 : Int) (e26 : Int) (f28 : Int) (g31 : Int) (h33 : Int) (i35 : Int) (j37 : Int) (zeros38 : List UInt8) (k39 : Int) (back40 : List UInt8) (l41 : Int) (m43 : Int) (n45 : Int) (full46 : List UInt8) (o47 : Int) : Prop :=
  ((full46.length : Int) < 2 → K false) ∧ (¬((full46.length : Int) < 2) → T7_30 prog K most17 a18 least19 b20 c22 d24 top25 e26 f28 g31 h33 i35 j37 zeros38 k39 back40 l41 m43 n45 full46 o47)
theorem w7_29 {prog : Prog} {d : Nat} {Q : AE → Sl → St → Prop} {K : Bool → Prop} (hQ : ∀ (σ : Sl) (st : St) (x0 : Bool), σ 0 = .b x0 → K x0 → Q .ret σ st) {most17 : Int} {a18 : Int} {least19 : Int} {b20 : Int} {c22 : Int} {d24 : Int} {top25 : Int} {e26 : Int} {f28 : Int} {g31 : Int} {h33 : Int} {i35 : Int} {j37 : Int} {zeros38 : List UInt8} {k39 : Int} {back40 : List UInt8} {l41 : Int} {m43 : Int} {n45 : Int} {full46 : List UInt8} {o47 : Int}   {σ : Sl} {st : St} (H17 : σ 17 = .i .i64 most17) (H18 : σ 18 = .i .i64 a18) (H19 : σ 19 = .i .i64 least19) (H20 : σ 20 = .i .i64 b20) (H22 : σ 22 = .i .i64 c22) (H24 : σ 24 = .i .i64 d24) (H25 : σ 25 = .i .u64 top25) (H26 : σ 26 = .i .i64 e26) (H28 : σ 28 = .i .i64 f28) (H31 : σ 31 = .i .i64 g31) (H33 : σ 33 = .i .i64 h33) (H35 : σ 35 = .i .i64 i35) (H37 : σ 37 = .i .i64 j37) (H38 : σ 38 = .s zeros38) (H39 : σ 39 = .i .i64 k39) (H40 : σ 40 = .s back40) (H41 : σ 41 = .i .i64 l41) (H43 : σ 43 = .i .i64 m43) (H45 : σ 45 = .i .i64 n45) (H46 : σ 46 = .s full46) (H47 : σ 47 = .i .i64 o47) (h : T7_29 prog K most17 a18 least19 b20 c22 d24 top25 e26 f28 g31 h33 i35 j37 zeros38 k39 back40 l41 m43 n45 full46 o47) : W prog d c7_9 σ st Q :=
  W.seq (W.seq (W.reg0 rfl fun _ _ => s_mvS H46 (s_lenS rfl (s_bin rfl rfl (abin_lss _ _ _) (s_nil (c_split rfl (fun g'1 => W.seq (W.reg0 rfl fun _ _ => s_mvB rfl (s_nil (W.ret (hQ _ _  _ rfl  (h.1 g'1)))))) (fun g'1 => W.skip (w7_30 hQ  H17 H18 H19 H20 H22 H24 H25 H26 H28 H31 H33 H35 H37 H38 H39 H40 H41 H43 H45 H46 H47 (h.2 g'1)))))))))
def T7_28 (prog : Prog) (K : Bool → Prop) (most17 : Int) (a18 : Int) (least19 : Int) (b20 : Int) (c22 : Int) (d24 : Int) (top25 : Int) (e26 : Int) (f28 : Int) (g31 : Int) (h33 : Int) (i35 : Int) (j37 : Int) (zeros38 : List UInt8) (k39 : Int) (back40 : List UInt8) (l41 : Int) (m43 : Int) (n45 : Int) : Prop :=
  ∃ r'1 : List UInt8, ∃ r'2 : Int, Pus prog 13 [.sl .ext (List.map rowS (rep 64 []))] (.tup [.s r'1, .i .i64 r'2]) ∧ T7_29 prog K most17 a18 least19 b20 c22 d24 top25 e26 f28 g31 h33 i35 j37 zeros38 k39 back40 l41 m43 n45 r'1 r'2
theorem w7_28 {prog : Prog} {d : Nat} {Q : AE → Sl → St → Prop} {K : Bool → Prop} (hQ : ∀ (σ : Sl) (st : St) (x0 : Bool), σ 0 = .b x0 → K x0 → Q .ret σ st) {most17 : Int} {a18 : Int} {least19 : Int} {b20 : Int} {c22 : Int} {d24 : Int} {top25 : Int} {e26 : Int} {f28 : Int} {g31 : Int} {h33 : Int} {i35 : Int} {j37 : Int} {zeros38 : List UInt8} {k39 : Int} {back40 : List UInt8} {l41 : Int} {m43 : Int} {n45 : Int}   {σ : Sl} {st : St} (H17 : σ 17 = .i .i64 most17) (H18 : σ 18 = .i .i64 a18) (H19 : σ 19 = .i .i64 least19) (H20 : σ 20 = .i .i64 b20) (H22 : σ 22 = .i .i64 c22) (H24 : σ 24 = .i .i64 d24) (H25 : σ 25 = .i .u64 top25) (H26 : σ 26 = .i .i64 e26) (H28 : σ 28 = .i .i64 f28) (H31 : σ 31 = .i .i64 g31) (H33 : σ 33 = .i .i64 h33) (H35 : σ 35 = .i .i64 i35) (H37 : σ 37 = .i .i64 j37) (H38 : σ 38 = .s zeros38) (H39 : σ 39 = .i .i64 k39) (H40 : σ 40 = .s back40) (H41 : σ 41 = .i .i64 l41) (H43 : σ 43 = .i .i64 m43) (H45 : σ 45 = .i .i64 n45) (h : T7_28 prog K most17 a18 least19 b20 c22 d24 top25 e26 f28 g31 h33 i35 j37 zeros38 k39 back40 l41 m43 n45) : W prog d c7_10 σ st Q :=
  W.seq (W.reg0 rfl fun _ _ => s_mks (n := 64) (m := 64) (f := rowS) (a := []) rfl rfl rfl rfl rfl (by decide) rfl ⟨by decide, by decide⟩ (h.elim fun r'1 e'4 => e'4.elim fun r'2 e'3 => s_call (sc rfl rfl sn) e'3.1 (s_mvT rfl (s_ext rfl rfl (s_ext rfl rfl (s_mvS rfl (s_mvI rfl (s_nil (w7_29 hQ  H17 H18 H19 H20 H22 H24 H25 H26 H28 H31 H33 H35 H37 H38 H39 H40 H41 H43 H45 rfl rfl e'3.2)))))))))
def T7_27 (prog : Prog) (K : Bool → Prop) (most17 : Int) (a18 : Int) (least19 : Int) (b20 : Int) (c22 : Int) (d24 : Int) (top25 : Int) (e26 : Int) (f28 : Int) (long29 : List UInt8) (g31 : Int) (h33 : Int) (i35 : Int) (j37 : Int) (zeros38 : List UInt8) (k39 : Int) (back40 : List UInt8) (l41 : Int) (m43 : Int) : Prop :=
  401 ≤ long29.length ∧ ∃ r'1 : List UInt8, ∃ r'2 : Int, Pus prog 13 [.sl .ext (List.map rowS [(long29.take 401)])] (.tup [.s r'1, .i .i64 r'2]) ∧ T7_28 prog K most17 a18 least19 b20 c22 d24 top25 e26 f28 g31 h33 i35 j37 zeros38 k39 back40 l41 m43 r'2
theorem w7_27 {prog : Prog} {d : Nat} {Q : AE → Sl → St → Prop} {K : Bool → Prop} (hQ : ∀ (σ : Sl) (st : St) (x0 : Bool), σ 0 = .b x0 → K x0 → Q .ret σ st) {most17 : Int} {a18 : Int} {least19 : Int} {b20 : Int} {c22 : Int} {d24 : Int} {top25 : Int} {e26 : Int} {f28 : Int} {long29 : List UInt8} {g31 : Int} {h33 : Int} {i35 : Int} {j37 : Int} {zeros38 : List UInt8} {k39 : Int} {back40 : List UInt8} {l41 : Int} {m43 : Int}   {σ : Sl} {st : St} (H17 : σ 17 = .i .i64 most17) (H18 : σ 18 = .i .i64 a18) (H19 : σ 19 = .i .i64 least19) (H20 : σ 20 = .i .i64 b20) (H22 : σ 22 = .i .i64 c22) (H24 : σ 24 = .i .i64 d24) (H25 : σ 25 = .i .u64 top25) (H26 : σ 26 = .i .i64 e26) (H28 : σ 28 = .i .i64 f28) (H29 : σ 29 = .s long29) (H31 : σ 31 = .i .i64 g31) (H33 : σ 33 = .i .i64 h33) (H35 : σ 35 = .i .i64 i35) (H37 : σ 37 = .i .i64 j37) (H38 : σ 38 = .s zeros38) (H39 : σ 39 = .i .i64 k39) (H40 : σ 40 = .s back40) (H41 : σ 41 = .i .i64 l41) (H43 : σ 43 = .i .i64 m43) (h : T7_27 prog K most17 a18 least19 b20 c22 d24 top25 e26 f28 long29 g31 h33 i35 j37 zeros38 k39 back40 l41 m43) : W prog d c7_11 σ st Q :=
  W.seq (W.reg0 rfl fun _ _ => s_mvS H29 (s_slS_hi rfl rfl (by decide) h.1 (s_bslM (f := rowS) (l := [(long29.take 401)]) rfl rfl (g_cons rfl rfl rfl g_nil) rfl (h.2.elim fun r'1 e'4 => e'4.elim fun r'2 e'3 => s_call (sc rfl rfl sn) e'3.1 (s_mvT rfl (s_ext rfl rfl (s_ext rfl rfl (s_mvS rfl (s_mvI rfl (s_nil (w7_28 hQ  H17 H18 H19 H20 H22 H24 H25 H26 H28 H31 H33 H35 H37 H38 H39 H40 H41 H43 rfl e'3.2)))))))))))
def T7_26 (prog : Prog) (K : Bool → Prop) (most17 : Int) (a18 : Int) (least19 : Int) (b20 : Int) (c22 : Int) (d24 : Int) (top25 : Int) (e26 : Int) (f28 : Int) (long29 : List UInt8) (g31 : Int) (h33 : Int) (i35 : Int) (j37 : Int) (zeros38 : List UInt8) (k39 : Int) (back40 : List UInt8) (l41 : Int) : Prop :=
  ∃ r'1 : List UInt8, ∃ r'2 : Int, Pus prog 13 [.sl .ext (List.map rowS (rep 65 []))] (.tup [.s r'1, .i .i64 r'2]) ∧ T7_27 prog K most17 a18 least19 b20 c22 d24 top25 e26 f28 long29 g31 h33 i35 j37 zeros38 k39 back40 l41 r'2
theorem w7_26 {prog : Prog} {d : Nat} {Q : AE → Sl → St → Prop} {K : Bool → Prop} (hQ : ∀ (σ : Sl) (st : St) (x0 : Bool), σ 0 = .b x0 → K x0 → Q .ret σ st) {most17 : Int} {a18 : Int} {least19 : Int} {b20 : Int} {c22 : Int} {d24 : Int} {top25 : Int} {e26 : Int} {f28 : Int} {long29 : List UInt8} {g31 : Int} {h33 : Int} {i35 : Int} {j37 : Int} {zeros38 : List UInt8} {k39 : Int} {back40 : List UInt8} {l41 : Int}   {σ : Sl} {st : St} (H17 : σ 17 = .i .i64 most17) (H18 : σ 18 = .i .i64 a18) (H19 : σ 19 = .i .i64 least19) (H20 : σ 20 = .i .i64 b20) (H22 : σ 22 = .i .i64 c22) (H24 : σ 24 = .i .i64 d24) (H25 : σ 25 = .i .u64 top25) (H26 : σ 26 = .i .i64 e26) (H28 : σ 28 = .i .i64 f28) (H29 : σ 29 = .s long29) (H31 : σ 31 = .i .i64 g31) (H33 : σ 33 = .i .i64 h33) (H35 : σ 35 = .i .i64 i35) (H37 : σ 37 = .i .i64 j37) (H38 : σ 38 = .s zeros38) (H39 : σ 39 = .i .i64 k39) (H40 : σ 40 = .s back40) (H41 : σ 41 = .i .i64 l41) (h : T7_26 prog K most17 a18 least19 b20 c22 d24 top25 e26 f28 long29 g31 h33 i35 j37 zeros38 k39 back40 l41) : W prog d c7_12 σ st Q :=
  W.seq (W.reg0 rfl fun _ _ => s_mks (n := 65) (m := 65) (f := rowS) (a := []) rfl rfl rfl rfl rfl (by decide) rfl ⟨by decide, by decide⟩ (h.elim fun r'1 e'4 => e'4.elim fun r'2 e'3 => s_call (sc rfl rfl sn) e'3.1 (s_mvT rfl (s_ext rfl rfl (s_ext rfl rfl (s_mvS rfl (s_mvI rfl (s_nil (w7_27 hQ  H17 H18 H19 H20 H22 H24 H25 H26 H28 H29 H31 H33 H35 H37 H38 H39 H40 H41 rfl e'3.2)))))))))
def T7_25 (prog : Prog) (K : Bool → Prop) (most17 : Int) (a18 : Int) (least19 : Int) (b20 : Int) (c22 : Int) (d24 : Int) (top25 : Int) (e26 : Int) (f28 : Int) (long29 : List UInt8) (g31 : Int) (h33 : Int) (i35 : Int) (j37 : Int) (zeros38 : List UInt8) (k39 : Int) : Prop :=
  ∃ r'1 : List UInt8, ∃ r'2 : Int, Pus prog 25 [.s zeros38] (.tup [.s r'1, .i .i64 r'2]) ∧ T7_26 prog K most17 a18 least19 b20 c22 d24 top25 e26 f28 long29 g31 h33 i35 j37 zeros38 k39 r'1 r'2
theorem w7_25 {prog : Prog} {d : Nat} {Q : AE → Sl → St → Prop} {K : Bool → Prop} (hQ : ∀ (σ : Sl) (st : St) (x0 : Bool), σ 0 = .b x0 → K x0 → Q .ret σ st) {most17 : Int} {a18 : Int} {least19 : Int} {b20 : Int} {c22 : Int} {d24 : Int} {top25 : Int} {e26 : Int} {f28 : Int} {long29 : List UInt8} {g31 : Int} {h33 : Int} {i35 : Int} {j37 : Int} {zeros38 : List UInt8} {k39 : Int}   {σ : Sl} {st : St} (H17 : σ 17 = .i .i64 most17) (H18 : σ 18 = .i .i64 a18) (H19 : σ 19 = .i .i64 least19) (H20 : σ 20 = .i .i64 b20) (H22 : σ 22 = .i .i64 c22) (H24 : σ 24 = .i .i64 d24) (H25 : σ 25 = .i .u64 top25) (H26 : σ 26 = .i .i64 e26) (H28 : σ 28 = .i .i64 f28) (H29 : σ 29 = .s long29) (H31 : σ 31 = .i .i64 g31) (H33 : σ 33 = .i .i64 h33) (H35 : σ 35 = .i .i64 i35) (H37 : σ 37 = .i .i64 j37) (H38 : σ 38 = .s zeros38) (H39 : σ 39 = .i .i64 k39) (h : T7_25 prog K most17 a18 least19 b20 c22 d24 top25 e26 f28 long29 g31 h33 i35 j37 zeros38 k39) : W prog d c7_13 σ st Q :=
  W.seq (W.reg0 rfl fun _ _ => s_mvS H38 (h.elim fun r'1 e'4 => e'4.elim fun r'2 e'3 => s_call (sc rfl rfl sn) e'3.1 (s_mvT rfl (s_ext rfl rfl (s_ext rfl rfl (s_mvS rfl (s_mvI rfl (s_nil (w7_26 hQ  H17 H18 H19 H20 H22 H24 H25 H26 H28 H29 H31 H33 H35 H37 H38 H39 rfl rfl e'3.2)))))))))
def T7_24 (prog : Prog) (K : Bool → Prop) (most17 : Int) (a18 : Int) (least19 : Int) (b20 : Int) (c22 : Int) (d24 : Int) (top25 : Int) (e26 : Int) (f28 : Int) (long29 : List UInt8) (g31 : Int) (h33 : Int) (i35 : Int) (j37 : Int) : Prop :=
  400 ≤ long29.length ∧ ∃ r'1 : List UInt8, ∃ r'2 : Int, Pus prog 11 [.s (long29.take 400)] (.tup [.s r'1, .i .i64 r'2]) ∧ T7_25 prog K most17 a18 least19 b20 c22 d24 top25 e26 f28 long29 g31 h33 i35 j37 r'1 r'2
theorem w7_24 {prog : Prog} {d : Nat} {Q : AE → Sl → St → Prop} {K : Bool → Prop} (hQ : ∀ (σ : Sl) (st : St) (x0 : Bool), σ 0 = .b x0 → K x0 → Q .ret σ st) {most17 : Int} {a18 : Int} {least19 : Int} {b20 : Int} {c22 : Int} {d24 : Int} {top25 : Int} {e26 : Int} {f28 : Int} {long29 : List UInt8} {g31 : Int} {h33 : Int} {i35 : Int} {j37 : Int}   {σ : Sl} {st : St} (H17 : σ 17 = .i .i64 most17) (H18 : σ 18 = .i .i64 a18) (H19 : σ 19 = .i .i64 least19) (H20 : σ 20 = .i .i64 b20) (H22 : σ 22 = .i .i64 c22) (H24 : σ 24 = .i .i64 d24) (H25 : σ 25 = .i .u64 top25) (H26 : σ 26 = .i .i64 e26) (H28 : σ 28 = .i .i64 f28) (H29 : σ 29 = .s long29) (H31 : σ 31 = .i .i64 g31) (H33 : σ 33 = .i .i64 h33) (H35 : σ 35 = .i .i64 i35) (H37 : σ 37 = .i .i64 j37) (h : T7_24 prog K most17 a18 least19 b20 c22 d24 top25 e26 f28 long29 g31 h33 i35 j37) : W prog d c7_14 σ st Q :=
  W.seq (W.reg0 rfl fun _ _ => s_mvS H29 (s_slS_hi rfl rfl (by decide) h.1 (h.2.elim fun r'1 e'4 => e'4.elim fun r'2 e'3 => s_call (sc rfl rfl sn) e'3.1 (s_mvT rfl (s_ext rfl rfl (s_ext rfl rfl (s_mvS rfl (s_mvI rfl (s_nil (w7_25 hQ  H17 H18 H19 H20 H22 H24 H25 H26 H28 H29 H31 H33 H35 H37 rfl rfl e'3.2))))))))))
def T7_23 (prog : Prog) (K : Bool → Prop) (most17 : Int) (a18 : Int) (least19 : Int) (b20 : Int) (c22 : Int) (d24 : Int) (top25 : Int) (e26 : Int) (f28 : Int) (long29 : List UInt8) (g31 : Int) (h33 : Int) (i35 : Int) : Prop :=
  401 ≤ long29.length ∧ ∃ r'1 : List UInt8, ∃ r'2 : Int, Pus prog 11 [.s (long29.take 401)] (.tup [.s r'1, .i .i64 r'2]) ∧ T7_24 prog K most17 a18 least19 b20 c22 d24 top25 e26 f28 long29 g31 h33 i35 r'2
theorem w7_23 {prog : Prog} {d : Nat} {Q : AE → Sl → St → Prop} {K : Bool → Prop} (hQ : ∀ (σ : Sl) (st : St) (x0 : Bool), σ 0 = .b x0 → K x0 → Q .ret σ st) {most17 : Int} {a18 : Int} {least19 : Int} {b20 : Int} {c22 : Int} {d24 : Int} {top25 : Int} {e26 : Int} {f28 : Int} {long29 : List UInt8} {g31 : Int} {h33 : Int} {i35 : Int}   {σ : Sl} {st : St} (H17 : σ 17 = .i .i64 most17) (H18 : σ 18 = .i .i64 a18) (H19 : σ 19 = .i .i64 least19) (H20 : σ 20 = .i .i64 b20) (H22 : σ 22 = .i .i64 c22) (H24 : σ 24 = .i .i64 d24) (H25 : σ 25 = .i .u64 top25) (H26 : σ 26 = .i .i64 e26) (H28 : σ 28 = .i .i64 f28) (H29 : σ 29 = .s long29) (H31 : σ 31 = .i .i64 g31) (H33 : σ 33 = .i .i64 h33) (H35 : σ 35 = .i .i64 i35) (h : T7_23 prog K most17 a18 least19 b20 c22 d24 top25 e26 f28 long29 g31 h33 i35) : W prog d c7_15 σ st Q :=
  W.seq (W.reg0 rfl fun _ _ => s_mvS H29 (s_slS_hi rfl rfl (by decide) h.1 (h.2.elim fun r'1 e'4 => e'4.elim fun r'2 e'3 => s_call (sc rfl rfl sn) e'3.1 (s_mvT rfl (s_ext rfl rfl (s_ext rfl rfl (s_mvS rfl (s_mvI rfl (s_nil (w7_24 hQ  H17 H18 H19 H20 H22 H24 H25 H26 H28 H29 H31 H33 H35 rfl e'3.2))))))))))
def T7_22 (prog : Prog) (K : Bool → Prop) (most17 : Int) (a18 : Int) (least19 : Int) (b20 : Int) (c22 : Int) (d24 : Int) (top25 : Int) (e26 : Int) (f28 : Int) (long29 : List UInt8) (g31 : Int) (h33 : Int) : Prop :=
  ∃ r'1 : List UInt8, ∃ r'2 : Int, Pus prog 25 [.s long29] (.tup [.s r'1, .i .i64 r'2]) ∧ T7_23 prog K most17 a18 least19 b20 c22 d24 top25 e26 f28 long29 g31 h33 r'2
theorem w7_22 {prog : Prog} {d : Nat} {Q : AE → Sl → St → Prop} {K : Bool → Prop} (hQ : ∀ (σ : Sl) (st : St) (x0 : Bool), σ 0 = .b x0 → K x0 → Q .ret σ st) {most17 : Int} {a18 : Int} {least19 : Int} {b20 : Int} {c22 : Int} {d24 : Int} {top25 : Int} {e26 : Int} {f28 : Int} {long29 : List UInt8} {g31 : Int} {h33 : Int}   {σ : Sl} {st : St} (H17 : σ 17 = .i .i64 most17) (H18 : σ 18 = .i .i64 a18) (H19 : σ 19 = .i .i64 least19) (H20 : σ 20 = .i .i64 b20) (H22 : σ 22 = .i .i64 c22) (H24 : σ 24 = .i .i64 d24) (H25 : σ 25 = .i .u64 top25) (H26 : σ 26 = .i .i64 e26) (H28 : σ 28 = .i .i64 f28) (H29 : σ 29 = .s long29) (H31 : σ 31 = .i .i64 g31) (H33 : σ 33 = .i .i64 h33) (h : T7_22 prog K most17 a18 least19 b20 c22 d24 top25 e26 f28 long29 g31 h33) : W prog d c7_16 σ st Q :=
  W.seq (W.reg0 rfl fun _ _ => s_mvS H29 (h.elim fun r'1 e'4 => e'4.elim fun r'2 e'3 => s_call (sc rfl rfl sn) e'3.1 (s_mvT rfl (s_ext rfl rfl (s_ext rfl rfl (s_mvS rfl (s_mvI rfl (s_nil (w7_23 hQ  H17 H18 H19 H20 H22 H24 H25 H26 H28 H29 H31 H33 rfl e'3.2)))))))))
def T7_21 (prog : Prog) (K : Bool → Prop) (most17 : Int) (a18 : Int) (least19 : Int) (b20 : Int) (c22 : Int) (d24 : Int) (top25 : Int) (e26 : Int) (f28 : Int) (long29 : List UInt8) (g31 : Int) : Prop :=
  ∃ r'1 : Int, ∃ r'2 : Int, Pus prog 23 [.s long29] (.tup [.i .u64 r'1, .i .i64 r'2]) ∧ T7_22 prog K most17 a18 least19 b20 c22 d24 top25 e26 f28 long29 g31 r'2
theorem w7_21 {prog : Prog} {d : Nat} {Q : AE → Sl → St → Prop} {K : Bool → Prop} (hQ : ∀ (σ : Sl) (st : St) (x0 : Bool), σ 0 = .b x0 → K x0 → Q .ret σ st) {most17 : Int} {a18 : Int} {least19 : Int} {b20 : Int} {c22 : Int} {d24 : Int} {top25 : Int} {e26 : Int} {f28 : Int} {long29 : List UInt8} {g31 : Int}   {σ : Sl} {st : St} (H17 : σ 17 = .i .i64 most17) (H18 : σ 18 = .i .i64 a18) (H19 : σ 19 = .i .i64 least19) (H20 : σ 20 = .i .i64 b20) (H22 : σ 22 = .i .i64 c22) (H24 : σ 24 = .i .i64 d24) (H25 : σ 25 = .i .u64 top25) (H26 : σ 26 = .i .i64 e26) (H28 : σ 28 = .i .i64 f28) (H29 : σ 29 = .s long29) (H31 : σ 31 = .i .i64 g31) (h : T7_21 prog K most17 a18 least19 b20 c22 d24 top25 e26 f28 long29 g31) : W prog d c7_17 σ st Q :=
  W.seq (W.reg0 rfl fun _ _ => s_mvS H29 (h.elim fun r'1 e'4 => e'4.elim fun r'2 e'3 => s_call (sc rfl rfl sn) e'3.1 (s_mvT rfl (s_ext rfl rfl (s_ext rfl rfl (s_mvI rfl (s_mvI rfl (s_nil (w7_22 hQ  H17 H18 H19 H20 H22 H24 H25 H26 H28 H29 H31 rfl e'3.2)))))))))
def T7_20 (prog : Prog) (K : Bool → Prop) (most17 : Int) (a18 : Int) (least19 : Int) (b20 : Int) (c22 : Int) (d24 : Int) (top25 : Int) (e26 : Int) (f28 : Int) (long29 : List UInt8) : Prop :=
  ∃ r'1 : Int, ∃ r'2 : Int, Pus prog 21 [.s long29] (.tup [.i .i64 r'1, .i .i64 r'2]) ∧ T7_21 prog K most17 a18 least19 b20 c22 d24 top25 e26 f28 long29 r'2
theorem w7_20 {prog : Prog} {d : Nat} {Q : AE → Sl → St → Prop} {K : Bool → Prop} (hQ : ∀ (σ : Sl) (st : St) (x0 : Bool), σ 0 = .b x0 → K x0 → Q .ret σ st) {most17 : Int} {a18 : Int} {least19 : Int} {b20 : Int} {c22 : Int} {d24 : Int} {top25 : Int} {e26 : Int} {f28 : Int} {long29 : List UInt8}   {σ : Sl} {st : St} (H17 : σ 17 = .i .i64 most17) (H18 : σ 18 = .i .i64 a18) (H19 : σ 19 = .i .i64 least19) (H20 : σ 20 = .i .i64 b20) (H22 : σ 22 = .i .i64 c22) (H24 : σ 24 = .i .i64 d24) (H25 : σ 25 = .i .u64 top25) (H26 : σ 26 = .i .i64 e26) (H28 : σ 28 = .i .i64 f28) (H29 : σ 29 = .s long29) (h : T7_20 prog K most17 a18 least19 b20 c22 d24 top25 e26 f28 long29) : W prog d c7_18 σ st Q :=
  W.seq (W.reg0 rfl fun _ _ => s_mvS H29 (h.elim fun r'1 e'4 => e'4.elim fun r'2 e'3 => s_call (sc rfl rfl sn) e'3.1 (s_mvT rfl (s_ext rfl rfl (s_ext rfl rfl (s_mvI rfl (s_mvI rfl (s_nil (w7_21 hQ  H17 H18 H19 H20 H22 H24 H25 H26 H28 H29 rfl e'3.2)))))))))
def T7_19 (prog : Prog) (K : Bool → Prop) (most17 : Int) (a18 : Int) (least19 : Int) (b20 : Int) (c22 : Int) (d24 : Int) (top25 : Int) (e26 : Int) (f28 : Int) : Prop :=
  T7_20 prog K most17 a18 least19 b20 c22 d24 top25 e26 f28 (rep 2001 0)
theorem w7_19 {prog : Prog} {d : Nat} {Q : AE → Sl → St → Prop} {K : Bool → Prop} (hQ : ∀ (σ : Sl) (st : St) (x0 : Bool), σ 0 = .b x0 → K x0 → Q .ret σ st) {most17 : Int} {a18 : Int} {least19 : Int} {b20 : Int} {c22 : Int} {d24 : Int} {top25 : Int} {e26 : Int} {f28 : Int}   {σ : Sl} {st : St} (H17 : σ 17 = .i .i64 most17) (H18 : σ 18 = .i .i64 a18) (H19 : σ 19 = .i .i64 least19) (H20 : σ 20 = .i .i64 b20) (H22 : σ 22 = .i .i64 c22) (H24 : σ 24 = .i .i64 d24) (H25 : σ 25 = .i .u64 top25) (H26 : σ 26 = .i .i64 e26) (H28 : σ 28 = .i .i64 f28) (h : T7_19 prog K most17 a18 least19 b20 c22 d24 top25 e26 f28) : W prog d c7_19 σ st Q :=
  W.seq (W.reg0 rfl fun _ _ => s_mks (n := 2001) (m := 2001) (f := row8) (a := 0) rfl rfl rfl rfl rfl (by decide) rfl ⟨by decide, by decide⟩ (s_b2s rfl (s_mvS rfl (s_nil (w7_20 hQ  H17 H18 H19 H20 H22 H24 H25 H26 H28 rfl h)))))
def T7_18 (prog : Prog) (K : Bool → Prop) (most17 : Int) (a18 : Int) (least19 : Int) (b20 : Int) (c22 : Int) (d24 : Int) (top25 : Int) (e26 : Int) : Prop :=
  ∃ r'1 : Int, ∃ r'2 : Int, Pus prog 23 [.s ([48, 120, 49, 48, 48, 48, 48, 48, 48, 48, 48, 48, 48, 48, 48, 48, 48, 48, 48] : List UInt8)] (.tup [.i .u64 r'1, .i .i64 r'2]) ∧ T7_19 prog K most17 a18 least19 b20 c22 d24 top25 e26 r'2
theorem w7_18 {prog : Prog} {d : Nat} {Q : AE → Sl → St → Prop} {K : Bool → Prop} (hQ : ∀ (σ : Sl) (st : St) (x0 : Bool), σ 0 = .b x0 → K x0 → Q .ret σ st) {most17 : Int} {a18 : Int} {least19 : Int} {b20 : Int} {c22 : Int} {d24 : Int} {top25 : Int} {e26 : Int}   {σ : Sl} {st : St} (H17 : σ 17 = .i .i64 most17) (H18 : σ 18 = .i .i64 a18) (H19 : σ 19 = .i .i64 least19) (H20 : σ 20 = .i .i64 b20) (H22 : σ 22 = .i .i64 c22) (H24 : σ 24 = .i .i64 d24) (H25 : σ 25 = .i .u64 top25) (H26 : σ 26 = .i .i64 e26) (h : T7_18 prog K most17 a18 least19 b20 c22 d24 top25 e26) : W prog d c7_20 σ st Q :=
  W.seq (W.reg0 rfl fun _ _ => h.elim fun r'1 e'4 => e'4.elim fun r'2 e'3 => s_call (sc rfl rfl sn) e'3.1 (s_mvT rfl (s_ext rfl rfl (s_ext rfl rfl (s_mvI rfl (s_mvI rfl (s_nil (w7_19 hQ  H17 H18 H19 H20 H22 H24 H25 H26 rfl e'3.2))))))))
def T7_17 (prog : Prog) (K : Bool → Prop) (most17 : Int) (a18 : Int) (least19 : Int) (b20 : Int) (c22 : Int) (d24 : Int) : Prop :=
  ∃ r'1 : Int, ∃ r'2 : Int, Pus prog 23 [.s ([48, 120, 102, 102, 102, 102, 102, 102, 102, 102, 102, 102, 102, 102, 102, 102, 102, 102] : List UInt8)] (.tup [.i .u64 r'1, .i .i64 r'2]) ∧ T7_18 prog K most17 a18 least19 b20 c22 d24 r'1 r'2
theorem w7_17 {prog : Prog} {d : Nat} {Q : AE → Sl → St → Prop} {K : Bool → Prop} (hQ : ∀ (σ : Sl) (st : St) (x0 : Bool), σ 0 = .b x0 → K x0 → Q .ret σ st) {most17 : Int} {a18 : Int} {least19 : Int} {b20 : Int} {c22 : Int} {d24 : Int}   {σ : Sl} {st : St} (H17 : σ 17 = .i .i64 most17) (H18 : σ 18 = .i .i64 a18) (H19 : σ 19 = .i .i64 least19) (H20 : σ 20 = .i .i64 b20) (H22 : σ 22 = .i .i64 c22) (H24 : σ 24 = .i .i64 d24) (h : T7_17 prog K most17 a18 least19 b20 c22 d24) : W prog d c7_21 σ st Q :=
  W.seq (W.reg0 rfl fun _ _ => h.elim fun r'1 e'4 => e'4.elim fun r'2 e'3 => s_call (sc rfl rfl sn) e'3.1 (s_mvT rfl (s_ext rfl rfl (s_ext rfl rfl (s_mvI rfl (s_mvI rfl (s_nil (w7_18 hQ  H17 H18 H19 H20 H22 H24 rfl rfl e'3.2))))))))
def T7_16 (prog : Prog) (K : Bool → Prop) (most17 : Int) (a18 : Int) (least19 : Int) (b20 : Int) (c22 : Int) : Prop :=
  ∃ r'1 : Int, ∃ r'2 : Int, Pus prog 21 [.s ([45, 57, 50, 50, 51, 51, 55, 50, 48, 51, 54, 56, 53, 52, 55, 55, 53, 56, 48, 57] : List UInt8)] (.tup [.i .i64 r'1, .i .i64 r'2]) ∧ T7_17 prog K most17 a18 least19 b20 c22 r'2
theorem w7_16 {prog : Prog} {d : Nat} {Q : AE → Sl → St → Prop} {K : Bool → Prop} (hQ : ∀ (σ : Sl) (st : St) (x0 : Bool), σ 0 = .b x0 → K x0 → Q .ret σ st) {most17 : Int} {a18 : Int} {least19 : Int} {b20 : Int} {c22 : Int}   {σ : Sl} {st : St} (H17 : σ 17 = .i .i64 most17) (H18 : σ 18 = .i .i64 a18) (H19 : σ 19 = .i .i64 least19) (H20 : σ 20 = .i .i64 b20) (H22 : σ 22 = .i .i64 c22) (h : T7_16 prog K most17 a18 least19 b20 c22) : W prog d c7_22 σ st Q :=
  W.seq (W.reg0 rfl fun _ _ => h.elim fun r'1 e'4 => e'4.elim fun r'2 e'3 => s_call (sc rfl rfl sn) e'3.1 (s_mvT rfl (s_ext rfl rfl (s_ext rfl rfl (s_mvI rfl (s_mvI rfl (s_nil (w7_17 hQ  H17 H18 H19 H20 H22 rfl e'3.2))))))))
def T7_15 (prog : Prog) (K : Bool → Prop) (most17 : Int) (a18 : Int) (least19 : Int) (b20 : Int) : Prop :=
  ∃ r'1 : Int, ∃ r'2 : Int, Pus prog 21 [.s ([57, 50, 50, 51, 51, 55, 50, 48, 51, 54, 56, 53, 52, 55, 55, 53, 56, 48, 56] : List UInt8)] (.tup [.i .i64 r'1, .i .i64 r'2]) ∧ T7_16 prog K most17 a18 least19 b20 r'2
theorem w7_15 {prog : Prog} {d : Nat} {Q : AE → Sl → St → Prop} {K : Bool → Prop} (hQ : ∀ (σ : Sl) (st : St) (x0 : Bool), σ 0 = .b x0 → K x0 → Q .ret σ st) {most17 : Int} {a18 : Int} {least19 : Int} {b20 : Int}   {σ : Sl} {st : St} (H17 : σ 17 = .i .i64 most17) (H18 : σ 18 = .i .i64 a18) (H19 : σ 19 = .i .i64 least19) (H20 : σ 20 = .i .i64 b20) (h : T7_15 prog K most17 a18 least19 b20) : W prog d c7_23 σ st Q :=
  W.seq (W.reg0 rfl fun _ _ => h.elim fun r'1 e'4 => e'4.elim fun r'2 e'3 => s_call (sc rfl rfl sn) e'3.1 (s_mvT rfl (s_ext rfl rfl (s_ext rfl rfl (s_mvI rfl (s_mvI rfl (s_nil (w7_16 hQ  H17 H18 H19 H20 rfl e'3.2))))))))
def T7_14 (prog : Prog) (K : Bool → Prop) (most17 : Int) (a18 : Int) : Prop :=
  ∃ r'1 : Int, ∃ r'2 : Int, Pus prog 21 [.s ([45, 57, 50, 50, 51, 51, 55, 50, 48, 51, 54, 56, 53, 52, 55, 55, 53, 56, 48, 56] : List UInt8)] (.tup [.i .i64 r'1, .i .i64 r'2]) ∧ T7_15 prog K most17 a18 r'1 r'2
theorem w7_14 {prog : Prog} {d : Nat} {Q : AE → Sl → St → Prop} {K : Bool → Prop} (hQ : ∀ (σ : Sl) (st : St) (x0 : Bool), σ 0 = .b x0 → K x0 → Q .ret σ st) {most17 : Int} {a18 : Int}   {σ : Sl} {st : St} (H17 : σ 17 = .i .i64 most17) (H18 : σ 18 = .i .i64 a18) (h : T7_14 prog K most17 a18) : W prog d c7_24 σ st Q :=
  W.seq (W.reg0 rfl fun _ _ => h.elim fun r'1 e'4 => e'4.elim fun r'2 e'3 => s_call (sc rfl rfl sn) e'3.1 (s_mvT rfl (s_ext rfl rfl (s_ext rfl rfl (s_mvI rfl (s_mvI rfl (s_nil (w7_15 hQ  H17 H18 rfl rfl e'3.2))))))))
def T7_13 (prog : Prog) (K : Bool → Prop)  : Prop :=
  ∃ r'1 : Int, ∃ r'2 : Int, Pus prog 21 [.s ([57, 50, 50, 51, 51, 55, 50, 48, 51, 54, 56, 53, 52, 55, 55, 53, 56, 48, 55] : List UInt8)] (.tup [.i .i64 r'1, .i .i64 r'2]) ∧ T7_14 prog K r'1 r'2
theorem w7_13 {prog : Prog} {d : Nat} {Q : AE → Sl → St → Prop} {K : Bool → Prop} (hQ : ∀ (σ : Sl) (st : St) (x0 : Bool), σ 0 = .b x0 → K x0 → Q .ret σ st)    {σ : Sl} {st : St}  (h : T7_13 prog K ) : W prog d c7_25 σ st Q :=
  W.seq (W.reg0 rfl fun _ _ => h.elim fun r'1 e'4 => e'4.elim fun r'2 e'3 => s_call (sc rfl rfl sn) e'3.1 (s_mvT rfl (s_ext rfl rfl (s_ext rfl rfl (s_mvI rfl (s_mvI rfl (s_nil (w7_14 hQ  rfl rfl e'3.2))))))))
def T7_12 (prog : Prog) (K : Bool → Prop) (P3 : Int → Prop) (lists4 : List (List UInt8)) (i14 : Int) : Prop :=
  (i14 < (lists4.length : Int) → 0 ≤ i14 ∧ ∃ c'2 : List UInt8, lists4[(i14).toNat]? = some c'2 ∧ ∃ r'4 : List (List UInt8), ∃ r'5 : Int, Pus prog 27 [.s c'2] (.tup [.sl .ext (List.map rowS r'4), .i .i64 r'5]) ∧ (r'5 ≠ 12 → K false) ∧ (¬(r'5 ≠ 12) → P3 (IntKind.i64.wrap (i14 + 1)))) ∧ (¬(i14 < (lists4.length : Int)) → T7_13 prog K )
theorem w7_12 {prog : Prog} {d : Nat} {Q : AE → Sl → St → Prop} {K : Bool → Prop} (hQ : ∀ (σ : Sl) (st : St) (x0 : Bool), σ 0 = .b x0 → K x0 → Q .ret σ st) {lists4 : List (List UInt8)} {i14 : Int} {P3 : Int → Prop} (kP3 : ∀ (i14 : Int), P3 i14 → I7_3 prog d Q lists4 i14) {σ : Sl} {st : St} {o_lists4 : Own} (H4 : σ 4 = .sl o_lists4 (List.map rowS lists4)) (H14 : σ 14 = .i .i64 i14) (A4 : App st.ow o_lists4 lists4.length) (h : T7_12 prog K P3 lists4 i14) : W prog d l7_3 σ st (thenW prog d (.loop l7_3) (blockW 6 (thenW prog d c7_25 Q))) :=
  W.seq (W.seq (W.reg0 rfl fun _ _ => s_mvI H14 (s_mvL H4 (s_lenL rfl (s_bin rfl rfl (abin_lss _ _ _) (s_nil (c_split rfl (fun g'1 => W.skip (W.seq (W.block (W.seq (W.reg0 rfl fun _ _ => s_mvL H4 (s_mvI H14 ((h.1 g'1).2.elim fun c'2 e'3 => s_iaL rfl rfl (h.1 g'1).1 e'3.1 rfl rfl (s_loadF rfl rfl rfl (e'3.2.elim fun r'4 e'8 => e'8.elim fun r'5 e'6 => s_call (sc rfl rfl sn) e'6.1 (s_mvT rfl (s_ext rfl rfl (s_ext rfl rfl (s_mvL rfl (s_mvI rfl (s_nil (W.seq (W.reg0 rfl fun _ _ => s_mvI rfl (s_bin rfl rfl (abin_neq _ _ _) (s_nil (c_split rfl (fun g'7 => W.seq (W.reg0 rfl fun _ _ => s_mvB rfl (s_nil (W.ret (hQ _ _  _ rfl  (e'6.2.1 g'7)))))) (fun g'7 => W.skip (W.reg0 rfl fun _ _ => s_mvI H14 (s_bin rfl rfl (abin_add _ _ _) (s_mvI rfl (s_nil (kP3 _ (e'6.2.2 g'7) _ _ _ H4 rfl A4)))))))))))))))))))))))))) (fun g'1 => W.exit (w7_13 hQ   (h.2 g'1))))))))))
def T7_11 (prog : Prog) (K : Bool → Prop) (lists4 : List (List UInt8)) : Prop :=
  ∀ P3 : Int → Prop, (∀ (i14 : Int), T7_12 prog K P3 lists4 i14 → P3 i14) → P3 0
theorem w7_11 {prog : Prog} {d : Nat} {Q : AE → Sl → St → Prop} {K : Bool → Prop} (hQ : ∀ (σ : Sl) (st : St) (x0 : Bool), σ 0 = .b x0 → K x0 → Q .ret σ st) {lists4 : List (List UInt8)}   {σ : Sl} {st : St} {o_lists4 : Own} (H4 : σ 4 = .sl o_lists4 (List.map rowS lists4)) (A4 : App st.ow o_lists4 lists4.length) (h : T7_11 prog K lists4) : W prog d c7_26 σ st Q :=
  W.seq (W.seq (W.reg0 rfl fun _ _ => s_mvI rfl (s_nil (W.block (h (I7_3 prog d Q lists4) (fun _ hb _ _ _ H4 H14 A4 => W.loop (w7_12 hQ (fun _ x => x) H4 H14 A4 hb)) _ _ _ H4 rfl A4)))))
def T7_10 (prog : Prog) (K : Bool → Prop) (P2 : Int → Prop) (quotes3 : List (List UInt8)) (lists4 : List (List UInt8)) (i11 : Int) : Prop :=
  (i11 < (quotes3.length : Int) → 0 ≤ i11 ∧ ∃ c'2 : List UInt8, quotes3[(i11).toNat]? = some c'2 ∧ ∃ r'4 : List UInt8, ∃ r'5 : Int, Pus prog 25 [.s c'2] (.tup [.s r'4, .i .i64 r'5]) ∧ (r'5 ≠ 12 → K false) ∧ (¬(r'5 ≠ 12) → P2 (IntKind.i64.wrap (i11 + 1)))) ∧ (¬(i11 < (quotes3.length : Int)) → T7_11 prog K lists4)
theorem w7_10 {prog : Prog} {d : Nat} {Q : AE → Sl → St → Prop} {K : Bool → Prop} (hQ : ∀ (σ : Sl) (st : St) (x0 : Bool), σ 0 = .b x0 → K x0 → Q .ret σ st) {quotes3 : List (List UInt8)} {lists4 : List (List UInt8)} {i11 : Int} {P2 : Int → Prop} (kP2 : ∀ (i11 : Int), P2 i11 → I7_2 prog d Q quotes3 lists4 i11) {σ : Sl} {st : St} {o_quotes3 o_lists4 : Own} (H3 : σ 3 = .sl o_quotes3 (List.map rowS quotes3)) (H4 : σ 4 = .sl o_lists4 (List.map rowS lists4)) (H11 : σ 11 = .i .i64 i11) (A3 : App st.ow o_quotes3 quotes3.length) (A4 : App st.ow o_lists4 lists4.length) (h : T7_10 prog K P2 quotes3 lists4 i11) : W prog d l7_2 σ st (thenW prog d (.loop l7_2) (blockW 4 (thenW prog d c7_26 Q))) :=
  W.seq (W.seq (W.reg0 rfl fun _ _ => s_mvI H11 (s_mvL H3 (s_lenL rfl (s_bin rfl rfl (abin_lss _ _ _) (s_nil (c_split rfl (fun g'1 => W.skip (W.seq (W.block (W.seq (W.reg0 rfl fun _ _ => s_mvL H3 (s_mvI H11 ((h.1 g'1).2.elim fun c'2 e'3 => s_iaL rfl rfl (h.1 g'1).1 e'3.1 rfl rfl (s_loadF rfl rfl rfl (e'3.2.elim fun r'4 e'8 => e'8.elim fun r'5 e'6 => s_call (sc rfl rfl sn) e'6.1 (s_mvT rfl (s_ext rfl rfl (s_ext rfl rfl (s_mvS rfl (s_mvI rfl (s_nil (W.seq (W.reg0 rfl fun _ _ => s_mvI rfl (s_bin rfl rfl (abin_neq _ _ _) (s_nil (c_split rfl (fun g'7 => W.seq (W.reg0 rfl fun _ _ => s_mvB rfl (s_nil (W.ret (hQ _ _  _ rfl  (e'6.2.1 g'7)))))) (fun g'7 => W.skip (W.reg0 rfl fun _ _ => s_mvI H11 (s_bin rfl rfl (abin_add _ _ _) (s_mvI rfl (s_nil (kP2 _ (e'6.2.2 g'7) _ _ _ _ H3 H4 rfl A3 A4)))))))))))))))))))))))))) (fun g'1 => W.exit (w7_11 hQ  H4 A4 (h.2 g'1))))))))))
def T7_9 (prog : Prog) (K : Bool → Prop) (quotes3 : List (List UInt8)) (lists4 : List (List UInt8)) : Prop :=
  ∀ P2 : Int → Prop, (∀ (i11 : Int), T7_10 prog K P2 quotes3 lists4 i11 → P2 i11) → P2 0
theorem w7_9 {prog : Prog} {d : Nat} {Q : AE → Sl → St → Prop} {K : Bool → Prop} (hQ : ∀ (σ : Sl) (st : St) (x0 : Bool), σ 0 = .b x0 → K x0 → Q .ret σ st) {quotes3 : List (List UInt8)} {lists4 : List (List UInt8)}   {σ : Sl} {st : St} {o_quotes3 o_lists4 : Own} (H3 : σ 3 = .sl o_quotes3 (List.map rowS quotes3)) (H4 : σ 4 = .sl o_lists4 (List.map rowS lists4)) (A3 : App st.ow o_quotes3 quotes3.length) (A4 : App st.ow o_lists4 lists4.length) (h : T7_9 prog K quotes3 lists4) : W prog d c7_27 σ st Q :=
  W.seq (W.seq (W.reg0 rfl fun _ _ => s_mvI rfl (s_nil (W.block (h (I7_2 prog d Q quotes3 lists4) (fun _ hb _ _ _ _ H3 H4 H11 A3 A4 => W.loop (w7_10 hQ (fun _ x => x) H3 H4 H11 A3 A4 hb)) _ _ _ _ H3 H4 rfl A3 A4)))))
def T7_8 (prog : Prog) (K : Bool → Prop) (P1 : Int → Prop) (hexes2 : List (List UInt8)) (quotes3 : List (List UInt8)) (lists4 : List (List UInt8)) (i8 : Int) : Prop :=
  (i8 < (hexes2.length : Int) → 0 ≤ i8 ∧ ∃ c'2 : List UInt8, hexes2[(i8).toNat]? = some c'2 ∧ ∃ r'4 : Int, ∃ r'5 : Int, Pus prog 23 [.s c'2] (.tup [.i .u64 r'4, .i .i64 r'5]) ∧ (r'5 ≠ 12 → K false) ∧ (¬(r'5 ≠ 12) → P1 (IntKind.i64.wrap (i8 + 1)))) ∧ (¬(i8 < (hexes2.length : Int)) → T7_9 prog K quotes3 lists4)
theorem w7_8 {prog : Prog} {d : Nat} {Q : AE → Sl → St → Prop} {K : Bool → Prop} (hQ : ∀ (σ : Sl) (st : St) (x0 : Bool), σ 0 = .b x0 → K x0 → Q .ret σ st) {hexes2 : List (List UInt8)} {quotes3 : List (List UInt8)} {lists4 : List (List UInt8)} {i8 : Int} {P1 : Int → Prop} (kP1 : ∀ (i8 : Int), P1 i8 → I7_1 prog d Q hexes2 quotes3 lists4 i8) {σ : Sl} {st : St} {o_hexes2 o_quotes3 o_lists4 : Own} (H2 : σ 2 = .sl o_hexes2 (List.map rowS hexes2)) (H3 : σ 3 = .sl o_quotes3 (List.map rowS quotes3)) (H4 : σ 4 = .sl o_lists4 (List.map rowS lists4)) (H8 : σ 8 = .i .i64 i8) (A2 : App st.ow o_hexes2 hexes2.length) (A3 : App st.ow o_quotes3 quotes3.length) (A4 : App st.ow o_lists4 lists4.length) (h : T7_8 prog K P1 hexes2 quotes3 lists4 i8) : W prog d l7_1 σ st (thenW prog d (.loop l7_1) (blockW 2 (thenW prog d c7_27 Q))) :=
  W.seq (W.seq (W.reg0 rfl fun _ _ => s_mvI H8 (s_mvL H2 (s_lenL rfl (s_bin rfl rfl (abin_lss _ _ _) (s_nil (c_split rfl (fun g'1 => W.skip (W.seq (W.block (W.seq (W.reg0 rfl fun _ _ => s_mvL H2 (s_mvI H8 ((h.1 g'1).2.elim fun c'2 e'3 => s_iaL rfl rfl (h.1 g'1).1 e'3.1 rfl rfl (s_loadF rfl rfl rfl (e'3.2.elim fun r'4 e'8 => e'8.elim fun r'5 e'6 => s_call (sc rfl rfl sn) e'6.1 (s_mvT rfl (s_ext rfl rfl (s_ext rfl rfl (s_mvI rfl (s_mvI rfl (s_nil (W.seq (W.reg0 rfl fun _ _ => s_mvI rfl (s_bin rfl rfl (abin_neq _ _ _) (s_nil (c_split rfl (fun g'7 => W.seq (W.reg0 rfl fun _ _ => s_mvB rfl (s_nil (W.ret (hQ _ _  _ rfl  (e'6.2.1 g'7)))))) (fun g'7 => W.skip (W.reg0 rfl fun _ _ => s_mvI H8 (s_bin rfl rfl (abin_add _ _ _) (s_mvI rfl (s_nil (kP1 _ (e'6.2.2 g'7) _ _ _ _ _ H2 H3 H4 rfl A2 A3 A4)))))))))))))))))))))))))) (fun g'1 => W.exit (w7_9 hQ  H3 H4 A3 A4 (h.2 g'1))))))))))
def T7_7 (prog : Prog) (K : Bool → Prop) (hexes2 : List (List UInt8)) (quotes3 : List (List UInt8)) (lists4 : List (List UInt8)) : Prop :=
  ∀ P1 : Int → Prop, (∀ (i8 : Int), T7_8 prog K P1 hexes2 quotes3 lists4 i8 → P1 i8) → P1 0
theorem w7_7 {prog : Prog} {d : Nat} {Q : AE → Sl → St → Prop} {K : Bool → Prop} (hQ : ∀ (σ : Sl) (st : St) (x0 : Bool), σ 0 = .b x0 → K x0 → Q .ret σ st) {hexes2 : List (List UInt8)} {quotes3 : List (List UInt8)} {lists4 : List (List UInt8)}   {σ : Sl} {st : St} {o_hexes2 o_quotes3 o_lists4 : Own} (H2 : σ 2 = .sl o_hexes2 (List.map rowS hexes2)) (H3 : σ 3 = .sl o_quotes3 (List.map rowS quotes3)) (H4 : σ 4 = .sl o_lists4 (List.map rowS lists4)) (A2 : App st.ow o_hexes2 hexes2.length) (A3 : App st.ow o_quotes3 quotes3.length) (A4 : App st.ow o_lists4 lists4.length) (h : T7_7 prog K hexes2 quotes3 lists4) : W prog d c7_28 σ st Q :=
  W.seq (W.seq (W.reg0 rfl fun _ _ => s_mvI rfl (s_nil (W.block (h (I7_1 prog d Q hexes2 quotes3 lists4) (fun _ hb _ _ _ _ _ H2 H3 H4 H8 A2 A3 A4 => W.loop (w7_8 hQ (fun _ x => x) H2 H3 H4 H8 A2 A3 A4 hb)) _ _ _ _ _ H2 H3 H4 rfl A2 A3 A4)))))
def T7_6 (prog : Prog) (K : Bool → Prop) (P0 : Int → Prop) (forms1 : List (List UInt8)) (hexes2 : List (List UInt8)) (quotes3 : List (List UInt8)) (lists4 : List (List UInt8)) (i5 : Int) : Prop :=
  (i5 < (forms1.length : Int) → 0 ≤ i5 ∧ ∃ c'2 : List UInt8, forms1[(i5).toNat]? = some c'2 ∧ ∃ r'4 : Int, ∃ r'5 : Int, Pus prog 21 [.s c'2] (.tup [.i .i64 r'4, .i .i64 r'5]) ∧ (r'5 ≠ 12 → K false) ∧ (¬(r'5 ≠ 12) → P0 (IntKind.i64.wrap (i5 + 1)))) ∧ (¬(i5 < (forms1.length : Int)) → T7_7 prog K hexes2 quotes3 lists4)
theorem w7_6 {prog : Prog} {d : Nat} {Q : AE → Sl → St → Prop} {K : Bool → Prop} (hQ : ∀ (σ : Sl) (st : St) (x0 : Bool), σ 0 = .b x0 → K x0 → Q .ret σ st) {forms1 : List (List UInt8)} {hexes2 : List (List UInt8)} {quotes3 : List (List UInt8)} {lists4 : List (List UInt8)} {i5 : Int} {P0 : Int → Prop} (kP0 : ∀ (i5 : Int), P0 i5 → I7_0 prog d Q forms1 hexes2 quotes3 lists4 i5) {σ : Sl} {st : St} {o_forms1 o_hexes2 o_quotes3 o_lists4 : Own} (H1 : σ 1 = .sl o_forms1 (List.map rowS forms1)) (H2 : σ 2 = .sl o_hexes2 (List.map rowS hexes2)) (H3 : σ 3 = .sl o_quotes3 (List.map rowS quotes3)) (H4 : σ 4 = .sl o_lists4 (List.map rowS lists4)) (H5 : σ 5 = .i .i64 i5) (A1 : App st.ow o_forms1 forms1.length) (A2 : App st.ow o_hexes2 hexes2.length) (A3 : App st.ow o_quotes3 quotes3.length) (A4 : App st.ow o_lists4 lists4.length) (h : T7_6 prog K P0 forms1 hexes2 quotes3 lists4 i5) : W prog d l7_0 σ st (thenW prog d (.loop l7_0) (blockW 0 (thenW prog d c7_28 Q))) :=
  W.seq (W.seq (W.reg0 rfl fun _ _ => s_mvI H5 (s_mvL H1 (s_lenL rfl (s_bin rfl rfl (abin_lss _ _ _) (s_nil (c_split rfl (fun g'1 => W.skip (W.seq (W.block (W.seq (W.reg0 rfl fun _ _ => s_mvL H1 (s_mvI H5 ((h.1 g'1).2.elim fun c'2 e'3 => s_iaL rfl rfl (h.1 g'1).1 e'3.1 rfl rfl (s_loadF rfl rfl rfl (e'3.2.elim fun r'4 e'8 => e'8.elim fun r'5 e'6 => s_call (sc rfl rfl sn) e'6.1 (s_mvT rfl (s_ext rfl rfl (s_ext rfl rfl (s_mvI rfl (s_mvI rfl (s_nil (W.seq (W.reg0 rfl fun _ _ => s_mvI rfl (s_bin rfl rfl (abin_neq _ _ _) (s_nil (c_split rfl (fun g'7 => W.seq (W.reg0 rfl fun _ _ => s_mvB rfl (s_nil (W.ret (hQ _ _  _ rfl  (e'6.2.1 g'7)))))) (fun g'7 => W.skip (W.reg0 rfl fun _ _ => s_mvI H5 (s_bin rfl rfl (abin_add _ _ _) (s_mvI rfl (s_nil (kP0 _ (e'6.2.2 g'7) _ _ _ _ _ _ H1 H2 H3 H4 rfl A1 A2 A3 A4)))))))))))))))))))))))))) (fun g'1 => W.exit (w7_7 hQ  H2 H3 H4 A2 A3 A4 (h.2 g'1))))))))))
def T7_5 (prog : Prog) (K : Bool → Prop) (forms1 : List (List UInt8)) (hexes2 : List (List UInt8)) (quotes3 : List (List UInt8)) (lists4 : List (List UInt8)) : Prop :=
  ∀ P0 : Int → Prop, (∀ (i5 : Int), T7_6 prog K P0 forms1 hexes2 quotes3 lists4 i5 → P0 i5) → P0 0
theorem w7_5 {prog : Prog} {d : Nat} {Q : AE → Sl → St → Prop} {K : Bool → Prop} (hQ : ∀ (σ : Sl) (st : St) (x0 : Bool), σ 0 = .b x0 → K x0 → Q .ret σ st) {forms1 : List (List UInt8)} {hexes2 : List (List UInt8)} {quotes3 : List (List UInt8)} {lists4 : List (List UInt8)}   {σ : Sl} {st : St} {o_forms1 o_hexes2 o_quotes3 o_lists4 : Own} (H1 : σ 1 = .sl o_forms1 (List.map rowS forms1)) (H2 : σ 2 = .sl o_hexes2 (List.map rowS hexes2)) (H3 : σ 3 = .sl o_quotes3 (List.map rowS quotes3)) (H4 : σ 4 = .sl o_lists4 (List.map rowS lists4)) (A1 : App st.ow o_forms1 forms1.length) (A2 : App st.ow o_hexes2 hexes2.length) (A3 : App st.ow o_quotes3 quotes3.length) (A4 : App st.ow o_lists4 lists4.length) (h : T7_5 prog K forms1 hexes2 quotes3 lists4) : W prog d c7_29 σ st Q :=
  W.seq (W.seq (W.reg0 rfl fun _ _ => s_mvI rfl (s_nil (W.block (h (I7_0 prog d Q forms1 hexes2 quotes3 lists4) (fun _ hb _ _ _ _ _ _ H1 H2 H3 H4 H5 A1 A2 A3 A4 => W.loop (w7_6 hQ (fun _ x => x) H1 H2 H3 H4 H5 A1 A2 A3 A4 hb)) _ _ _ _ _ _ H1 H2 H3 H4 rfl A1 A2 A3 A4)))))
def T7_4 (prog : Prog) (K : Bool → Prop) (forms1 : List (List UInt8)) (hexes2 : List (List UInt8)) (quotes3 : List (List UInt8)) : Prop :=
  T7_5 prog K forms1 hexes2 quotes3 [([] : List UInt8), ([91] : List UInt8), ([93] : List UInt8), ([91, 34, 97, 34] : List UInt8), ([91, 34, 97, 34, 44, 34, 98, 34, 93] : List UInt8), ([91, 34, 97, 34, 44, 32, 93] : List UInt8), ([91, 44, 32, 34, 97, 34, 93] : List UInt8), ([91, 34, 97, 34, 93, 32] : List UInt8), ([91, 32, 93] : List UInt8), ([91, 34, 97, 34, 32, 34, 98, 34, 93] : List UInt8)]
theorem w7_4 {prog : Prog} {d : Nat} {Q : AE → Sl → St → Prop} {K : Bool → Prop} (hQ : ∀ (σ : Sl) (st : St) (x0 : Bool), σ 0 = .b x0 → K x0 → Q .ret σ st) {forms1 : List (List UInt8)} {hexes2 : List (List UInt8)} {quotes3 : List (List UInt8)}   {σ : Sl} {st : St} {o_forms1 o_hexes2 o_quotes3 : Own} (H1 : σ 1 = .sl o_forms1 (List.map rowS forms1)) (H2 : σ 2 = .sl o_hexes2 (List.map rowS hexes2)) (H3 : σ 3 = .sl o_quotes3 (List.map rowS quotes3)) (A1 : App st.ow o_forms1 forms1.length) (A2 : App st.ow o_hexes2 hexes2.length) (A3 : App st.ow o_quotes3 quotes3.length) (h : T7_4 prog K forms1 hexes2 quotes3) : W prog d c7_30 σ st Q :=
  W.seq (W.reg0 rfl fun _ _ => s_bslM (f := rowS) (l := [([] : List UInt8), ([91] : List UInt8), ([93] : List UInt8), ([91, 34, 97, 34] : List UInt8), ([91, 34, 97, 34, 44, 34, 98, 34, 93] : List UInt8), ([91, 34, 97, 34, 44, 32, 93] : List UInt8), ([91, 44, 32, 34, 97, 34, 93] : List UInt8), ([91, 34, 97, 34, 93, 32] : List UInt8), ([91, 32, 93] : List UInt8), ([91, 34, 97, 34, 32, 34, 98, 34, 93] : List UInt8)]) rfl rfl (g_cons rfl rfl rfl (g_cons rfl rfl rfl (g_cons rfl rfl rfl (g_cons rfl rfl rfl (g_cons rfl rfl rfl (g_cons rfl rfl rfl (g_cons rfl rfl rfl (g_cons rfl rfl rfl (g_cons rfl rfl rfl (g_cons rfl rfl rfl g_nil)))))))))) rfl (s_mvL rfl (s_nil (w7_5 hQ  H1 H2 H3 rfl A1 A2 A3 App.full h))))
def T7_3 (prog : Prog) (K : Bool → Prop) (forms1 : List (List UInt8)) (hexes2 : List (List UInt8)) : Prop :=
  T7_4 prog K forms1 hexes2 [([] : List UInt8), ([34] : List UInt8), ([97] : List UInt8), ([34, 97] : List UInt8), ([34, 92] : List UInt8), ([34, 92, 97, 34] : List UInt8), ([34, 92, 120, 48, 34] : List UInt8), ([34, 92, 120, 54, 49, 34] : List UInt8), ([34, 92, 120, 48, 97, 34] : List UInt8), ([34, 92, 120, 70, 70, 34] : List UInt8), ([34, 10, 34] : List UInt8), ([34, 92, 110] : List UInt8), ([34, 34, 34] : List UInt8), ([34, 97, 34, 32] : List UInt8), ([34, 127, 34] : List UInt8)]
theorem w7_3 {prog : Prog} {d : Nat} {Q : AE → Sl → St → Prop} {K : Bool → Prop} (hQ : ∀ (σ : Sl) (st : St) (x0 : Bool), σ 0 = .b x0 → K x0 → Q .ret σ st) {forms1 : List (List UInt8)} {hexes2 : List (List UInt8)}   {σ : Sl} {st : St} {o_forms1 o_hexes2 : Own} (H1 : σ 1 = .sl o_forms1 (List.map rowS forms1)) (H2 : σ 2 = .sl o_hexes2 (List.map rowS hexes2)) (A1 : App st.ow o_forms1 forms1.length) (A2 : App st.ow o_hexes2 hexes2.length) (h : T7_3 prog K forms1 hexes2) : W prog d c7_31 σ st Q :=
  W.seq (W.reg0 rfl fun _ _ => s_bslM (f := rowS) (l := [([] : List UInt8), ([34] : List UInt8), ([97] : List UInt8), ([34, 97] : List UInt8), ([34, 92] : List UInt8), ([34, 92, 97, 34] : List UInt8), ([34, 92, 120, 48, 34] : List UInt8), ([34, 92, 120, 54, 49, 34] : List UInt8), ([34, 92, 120, 48, 97, 34] : List UInt8), ([34, 92, 120, 70, 70, 34] : List UInt8), ([34, 10, 34] : List UInt8), ([34, 92, 110] : List UInt8), ([34, 34, 34] : List UInt8), ([34, 97, 34, 32] : List UInt8), ([34, 127, 34] : List UInt8)]) rfl rfl (g_cons rfl rfl rfl (g_cons rfl rfl rfl (g_cons rfl rfl rfl (g_cons rfl rfl rfl (g_cons rfl rfl rfl (g_cons rfl rfl rfl (g_cons rfl rfl rfl (g_cons rfl rfl rfl (g_cons rfl rfl rfl (g_cons rfl rfl rfl (g_cons rfl rfl rfl (g_cons rfl rfl rfl (g_cons rfl rfl rfl (g_cons rfl rfl rfl (g_cons rfl rfl rfl g_nil))))))))))))))) rfl (s_mvL rfl (s_nil (w7_4 hQ  H1 H2 rfl A1 A2 App.full h))))
def T7_2 (prog : Prog) (K : Bool → Prop) (forms1 : List (List UInt8)) : Prop :=
  T7_3 prog K forms1 [([] : List UInt8), ([48, 120] : List UInt8), ([48, 120, 48, 48] : List UInt8), ([48, 120, 70, 70] : List UInt8), ([48, 88, 49] : List UInt8), ([49] : List UInt8), ([48, 120, 45, 49] : List UInt8), ([48, 120, 48, 103] : List UInt8)]
theorem w7_2 {prog : Prog} {d : Nat} {Q : AE → Sl → St → Prop} {K : Bool → Prop} (hQ : ∀ (σ : Sl) (st : St) (x0 : Bool), σ 0 = .b x0 → K x0 → Q .ret σ st) {forms1 : List (List UInt8)}   {σ : Sl} {st : St} {o_forms1 : Own} (H1 : σ 1 = .sl o_forms1 (List.map rowS forms1)) (A1 : App st.ow o_forms1 forms1.length) (h : T7_2 prog K forms1) : W prog d c7_32 σ st Q :=
  W.seq (W.reg0 rfl fun _ _ => s_bslM (f := rowS) (l := [([] : List UInt8), ([48, 120] : List UInt8), ([48, 120, 48, 48] : List UInt8), ([48, 120, 70, 70] : List UInt8), ([48, 88, 49] : List UInt8), ([49] : List UInt8), ([48, 120, 45, 49] : List UInt8), ([48, 120, 48, 103] : List UInt8)]) rfl rfl (g_cons rfl rfl rfl (g_cons rfl rfl rfl (g_cons rfl rfl rfl (g_cons rfl rfl rfl (g_cons rfl rfl rfl (g_cons rfl rfl rfl (g_cons rfl rfl rfl (g_cons rfl rfl rfl g_nil)))))))) rfl (s_mvL rfl (s_nil (w7_3 hQ  H1 rfl A1 App.full h))))
def T7_1 (prog : Prog) (K : Bool → Prop)  : Prop :=
  T7_2 prog K [([] : List UInt8), ([45] : List UInt8), ([43, 49] : List UInt8), ([48, 48] : List UInt8), ([45, 48, 48] : List UInt8), ([45, 48, 49] : List UInt8), ([49, 32] : List UInt8), ([32, 49] : List UInt8), ([48, 120, 49] : List UInt8), ([49, 101, 51] : List UInt8), ([49, 50, 97] : List UInt8)]
theorem w7_1 {prog : Prog} {d : Nat} {Q : AE → Sl → St → Prop} {K : Bool → Prop} (hQ : ∀ (σ : Sl) (st : St) (x0 : Bool), σ 0 = .b x0 → K x0 → Q .ret σ st)    {σ : Sl} {st : St}  (h : T7_1 prog K ) : W prog d c7_33 σ st Q :=
  W.seq (W.reg0 rfl fun _ _ => s_bslM (f := rowS) (l := [([] : List UInt8), ([45] : List UInt8), ([43, 49] : List UInt8), ([48, 48] : List UInt8), ([45, 48, 48] : List UInt8), ([45, 48, 49] : List UInt8), ([49, 32] : List UInt8), ([32, 49] : List UInt8), ([48, 120, 49] : List UInt8), ([49, 101, 51] : List UInt8), ([49, 50, 97] : List UInt8)]) rfl rfl (g_cons rfl rfl rfl (g_cons rfl rfl rfl (g_cons rfl rfl rfl (g_cons rfl rfl rfl (g_cons rfl rfl rfl (g_cons rfl rfl rfl (g_cons rfl rfl rfl (g_cons rfl rfl rfl (g_cons rfl rfl rfl (g_cons rfl rfl rfl (g_cons rfl rfl rfl g_nil))))))))))) rfl (s_mvL rfl (s_nil (w7_2 hQ  rfl App.full h))))
def T7_0 (prog : Prog) (K : Bool → Prop)  : Prop :=
  T7_1 prog K 
theorem w7_0 {prog : Prog} {d : Nat} {Q : AE → Sl → St → Prop} {K : Bool → Prop} (hQ : ∀ (σ : Sl) (st : St) (x0 : Bool), σ 0 = .b x0 → K x0 → Q .ret σ st)    {σ : Sl} {st : St}  (h : T7_0 prog K ) : W prog d (.seq (.reg 0 r7_0) c7_33) σ st Q :=
  W.seq (W.reg0 rfl fun _ _ => s_mvB rfl (s_nil (w7_1 hQ   h)))
theorem p7 {prog : Prog} (hf : prog.fn 7 = some pf7)  {K : Bool → Prop} (h : T7_0 prog K ) : ∃ x0 : Bool, K x0 ∧ Pus prog 7 [] (.b x0) := by
  obtain ⟨v, hv, x0, hk, rfl⟩ := Pus.of (K := fun v => ∃ x0 : Bool, K x0 ∧ v = .b x0) hf rfl (w7_0 (σ := sl0 []) (fun σ st  x0 H0 hk => ⟨.b x0, by simp only [pf7, ares, aresL, ares1, Option.map_some, H0], _, rfl, x0, hk, rfl⟩)  h)
  exact ⟨x0, hk, hv⟩

end Go.AM
