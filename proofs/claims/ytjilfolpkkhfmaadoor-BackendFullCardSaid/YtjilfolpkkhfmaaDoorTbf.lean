/- The compiled functions of this program, and that they are what the model's code compiles to. Printed by a program of mine (wip/am/Stage2M.lean). -/
import Derived.Test.YtjilfolpkkhfmaaDoorAM37
import Derived.Test.YtjilfolpkkhfmaaDoorAM26
import Derived.Test.YtjilfolpkkhfmaaDoorProg
import Derived.KernelRfl
namespace Go.Proofs.YtjilfolpkkhfmaaDoor.Tab
open Go Go.AM Go.Proofs
set_option maxRecDepth 100000
noncomputable def tab : Tab := tabC Tryd.prog
def mrowsL : List (String × List (TypeId × FuncId)) := [("Bytes", [(24, 81), (25, 33)]), ("Frame", [(24, 82)]), ("Store", [(24, 22), (25, 43)]), ("Put", [(24, 84), (25, 36), (27, 34)]), ("Load", [(24, 83), (25, 85)])]
def mrows : String → List (TypeId × FuncId) := mrowsOf mrowsL
/- palisade/palisadelaw24.BackendFull -/
def k3 : KFunc := ⟨(.seq (.ops [⟨(some 4), (.mv (.const (Value.bool false))), none⟩])
 (.seq (.ops [⟨(some 28), (.call 5 []), none⟩,
  ⟨(some 5), (.mv (.tmp 28)), none⟩])
 (.seq (.seq (.ops [⟨(some 29), (.mv (.tmp 5)), none⟩,
  ⟨(some 30), (.eqv .ptr false (.tmp 29) (.const (Value.pointer none))), none⟩])
 (.cond (.tmp 30) none
 (.seq (.ops [⟨(some 4), (.mv (.const (Value.bool false))), none⟩])
 .ret)
 .skip))
 (.seq (.ops [⟨(some 31), (.mv (.tmp 5)), none⟩,
  ⟨(some 32), (.nilCheck (.tmp 31)), none⟩,
  ⟨(some 33), (.addOff (.tmp 32) 3), none⟩,
  ⟨(some 34), (.ixA (.tmp 33) (.const (Value.int .i64 (Int.ofNat 0))) 2 1), none⟩,
  ⟨(some 35), (.load (.tmp 34) none), none⟩,
  ⟨(some 6), (.mv (.tmp 35)), none⟩])
 (.seq (.ops [⟨(some 36), (.mv (.tmp 0)), none⟩,
  ⟨(some 37), (.bin .and (.tmp 36) (.const (Value.int .i64 (Int.ofNat 7)))), none⟩,
  ⟨(some 38), (.bin .add (.const (Value.int .i64 (Int.ofNat 6))) (.tmp 37)), none⟩,
  ⟨(some 0), (.mv (.tmp 38)), none⟩])
 (.seq (.ops [⟨(some 39), (.mv (.tmp 6)), none⟩,
  ⟨(some 40), (.mv (.tmp 0)), none⟩,
  ⟨(some 41), (.call 6 [(.tmp 39), (.const (Value.int .u64 (Int.ofNat 0))), (.const (Value.int .u64 (Int.ofNat 1))), (.tmp 40)]), none⟩,
  ⟨(some 7), (.mv (.tmp 41)), none⟩])
 (.seq (.ops [⟨(some 42), (.mv (.tmp 1)), none⟩,
  ⟨(some 43), (.bin .and (.tmp 42) (.const (Value.int .i64 (Int.ofNat 7)))), none⟩,
  ⟨(some 44), (.bin .add (.const (Value.int .i64 (Int.ofNat 1))) (.tmp 43)), none⟩,
  ⟨(some 8), (.mv (.tmp 44)), none⟩])
 (.seq (.seq (.ops [⟨(some 9), (.mv (.const (Value.int .i64 (Int.ofNat 0)))), none⟩])
 (.block 0 [0, 5, 6, 7, 8] (.loop [0, 5, 6, 7, 8, 9] (.seq (.seq (.ops [⟨(some 45), (.mv (.tmp 9)), none⟩,
  ⟨(some 46), (.bin .lss (.tmp 45) (.const (Value.int .i64 (Int.ofNat 8)))), none⟩])
 (.cond (.tmp 46) none
 .skip
 (.exit 0)))
 (.seq (.block 1 [0, 5, 6, 7, 8, 9] (.ops [⟨(some 49), (.mv (.tmp 6)), none⟩,
  ⟨(some 50), (.mv (.tmp 9)), none⟩,
  ⟨(some 51), (.mv (.tmp 7)), none⟩,
  ⟨(some 52), (.call 7 [(.tmp 49), (.tmp 50), (.tmp 51)]), none⟩]))
 (.ops [⟨(some 47), (.mv (.tmp 9)), none⟩,
  ⟨(some 48), (.bin .add (.tmp 47) (.const (Value.int .i64 (Int.ofNat 1)))), none⟩,
  ⟨(some 9), (.mv (.tmp 48)), none⟩]))))))
 (.seq (.seq (.ops [⟨(some 54), (.mv (.tmp 5)), none⟩,
  ⟨(some 55), (.nilCheck (.tmp 54)), none⟩,
  ⟨(some 56), (.addOff (.tmp 55) 7), none⟩,
  ⟨(some 57), (.ixA (.tmp 56) (.const (Value.int .i64 (Int.ofNat 0))) 2 1), none⟩,
  ⟨(some 58), (.load (.tmp 57) none), none⟩,
  ⟨(some 59), (.mv (.tmp 6)), none⟩,
  ⟨(some 60), (.mkIface 24 (.tmp 59)), none⟩,
  ⟨(some 61), (.call 8 [(.tmp 58), (.tmp 60)]), none⟩,
  ⟨(some 53), (.mv (.tmp 61)), none⟩,
  ⟨(some 62), (.extract (.tmp 53) 0), none⟩,
  ⟨(some 63), (.extract (.tmp 53) 1), none⟩,
  ⟨(some 10), (.mv (.tmp 62)), none⟩,
  ⟨(some 11), (.mv (.tmp 63)), none⟩])
 (.seq (.ops [⟨(some 64), (.mv (.tmp 10)), none⟩,
  ⟨(some 65), (.bin .neq (.tmp 64) (.const (Value.int .i64 (Int.ofNat 0)))), none⟩,
  ⟨(some 66), (.mv (.tmp 65)), none⟩,
  ⟨(some 67), (.mv (.tmp 11)), (some (66, false))⟩,
  ⟨(some 68), (.bin .neq (.tmp 67) (.const (Value.int .i64 (Int.ofNat 0)))), (some (66, false))⟩,
  ⟨(some 69), (.pick (.tmp 66) (.const (Value.bool true)) (.tmp 68)), none⟩,
  ⟨(some 70), (.mv (.tmp 69)), none⟩,
  ⟨(some 71), (.mv (.tmp 5)), (some (70, false))⟩,
  ⟨(some 72), (.nilCheck (.tmp 71)), (some (70, false))⟩,
  ⟨(some 73), (.addOff (.tmp 72) 7), (some (70, false))⟩,
  ⟨(some 74), (.ixA (.tmp 73) (.const (Value.int .i64 (Int.ofNat 0))) 2 1), (some (70, false))⟩,
  ⟨(some 75), (.load (.tmp 74) none), (some (70, false))⟩,
  ⟨(some 76), (.call 9 [(.tmp 75)]), (some (70, false))⟩,
  ⟨(some 77), (.bin .neq (.tmp 76) (.const (Value.int .i64 (Int.ofNat 8)))), (some (70, false))⟩,
  ⟨(some 78), (.pick (.tmp 70) (.const (Value.bool true)) (.tmp 77)), none⟩])
 (.cond (.tmp 78) none
 (.seq (.ops [⟨(some 4), (.mv (.const (Value.bool false))), none⟩])
 .ret)
 .skip)))
 (.seq (.seq (.ops [⟨(some 12), (.mv (.const (Value.int .i64 (Int.ofNat 0)))), none⟩])
 (.block 2 [0, 5, 6, 8] (.loop [0, 5, 6, 7, 8, 12] (.seq (.seq (.ops [⟨(some 79), (.mv (.tmp 12)), none⟩,
  ⟨(some 80), (.mv (.tmp 8)), none⟩,
  ⟨(some 81), (.bin .lss (.tmp 79) (.tmp 80)), none⟩])
 (.cond (.tmp 81) none
 .skip
 (.exit 2)))
 (.seq (.block 3 [0, 5, 6, 7, 8, 12] (.ops [⟨(some 84), (.mv (.tmp 6)), none⟩,
  ⟨(some 85), (.mv (.tmp 12)), none⟩,
  ⟨(some 86), (.bin .add (.const (Value.int .i64 (Int.ofNat 8))) (.tmp 85)), none⟩,
  ⟨(some 87), (.mv (.tmp 7)), none⟩,
  ⟨(some 88), (.call 7 [(.tmp 84), (.tmp 86), (.tmp 87)]), none⟩]))
 (.ops [⟨(some 82), (.mv (.tmp 12)), none⟩,
  ⟨(some 83), (.bin .add (.tmp 82) (.const (Value.int .i64 (Int.ofNat 1)))), none⟩,
  ⟨(some 12), (.mv (.tmp 83)), none⟩]))))))
 (.seq (.seq (.ops [⟨(some 90), (.mv (.tmp 5)), none⟩,
  ⟨(some 91), (.nilCheck (.tmp 90)), none⟩,
  ⟨(some 92), (.addOff (.tmp 91) 7), none⟩,
  ⟨(some 93), (.ixA (.tmp 92) (.const (Value.int .i64 (Int.ofNat 0))) 2 1), none⟩,
  ⟨(some 94), (.load (.tmp 93) none), none⟩,
  ⟨(some 95), (.mv (.tmp 6)), none⟩,
  ⟨(some 96), (.mkIface 24 (.tmp 95)), none⟩,
  ⟨(some 97), (.call 8 [(.tmp 94), (.tmp 96)]), none⟩,
  ⟨(some 89), (.mv (.tmp 97)), none⟩,
  ⟨(some 98), (.extract (.tmp 89) 0), none⟩,
  ⟨(some 99), (.extract (.tmp 89) 1), none⟩,
  ⟨(some 13), (.mv (.tmp 98)), none⟩,
  ⟨(some 14), (.mv (.tmp 99)), none⟩])
 (.seq (.ops [⟨(some 100), (.mv (.tmp 13)), none⟩,
  ⟨(some 101), (.bin .neq (.tmp 100) (.const (Value.int .i64 (Int.ofNat 0)))), none⟩,
  ⟨(some 102), (.mv (.tmp 101)), none⟩,
  ⟨(some 103), (.mv (.tmp 14)), (some (102, false))⟩,
  ⟨(some 104), (.bin .neq (.tmp 103) (.const (Value.int .i64 (Int.ofNat 0)))), (some (102, false))⟩,
  ⟨(some 105), (.pick (.tmp 102) (.const (Value.bool true)) (.tmp 104)), none⟩,
  ⟨(some 106), (.mv (.tmp 105)), none⟩,
  ⟨(some 107), (.mv (.tmp 5)), (some (106, false))⟩,
  ⟨(some 108), (.nilCheck (.tmp 107)), (some (106, false))⟩,
  ⟨(some 109), (.addOff (.tmp 108) 7), (some (106, false))⟩,
  ⟨(some 110), (.ixA (.tmp 109) (.const (Value.int .i64 (Int.ofNat 0))) 2 1), (some (106, false))⟩,
  ⟨(some 111), (.load (.tmp 110) none), (some (106, false))⟩,
  ⟨(some 112), (.call 9 [(.tmp 111)]), (some (106, false))⟩,
  ⟨(some 113), (.bin .neq (.tmp 112) (.const (Value.int .i64 (Int.ofNat 8)))), (some (106, false))⟩,
  ⟨(some 114), (.pick (.tmp 106) (.const (Value.bool true)) (.tmp 113)), none⟩])
 (.cond (.tmp 114) none
 (.seq (.ops [⟨(some 4), (.mv (.const (Value.bool false))), none⟩])
 .ret)
 .skip)))
 (.seq (.seq (.ops [⟨(some 15), (.mv (.const (Value.int .i64 (Int.ofNat 0)))), none⟩])
 (.block 4 [0, 5, 6] (.loop [0, 5, 6, 8, 15] (.seq (.seq (.ops [⟨(some 115), (.mv (.tmp 15)), none⟩,
  ⟨(some 116), (.mv (.tmp 8)), none⟩,
  ⟨(some 117), (.bin .lss (.tmp 115) (.tmp 116)), none⟩])
 (.cond (.tmp 117) none
 .skip
 (.exit 4)))
 (.seq (.block 5 [0, 5, 6, 8, 15] (.seq (.draw 1 [⟨0, [5], ⟨(some 121), (.mv (.tmp 5)), none⟩, 1, 136⟩,
  ⟨1, [121], ⟨(some 122), (.nilCheck (.tmp 121)), none⟩, 1, 136⟩,
  ⟨2, [122], ⟨(some 123), (.addOff (.tmp 122) 2), none⟩, 1, 136⟩,
  ⟨3, [123], ⟨(some 124), (.load (.tmp 123) none), none⟩, 1, 136⟩,
  ⟨4, [5], ⟨(some 125), (.mv (.tmp 5)), none⟩, 1, 136⟩,
  ⟨5, [125], ⟨(some 126), (.nilCheck (.tmp 125)), none⟩, 1, 136⟩,
  ⟨6, [126], ⟨(some 127), (.addOff (.tmp 126) 0), none⟩, 1, 136⟩,
  ⟨7, [127], ⟨(some 128), (.load (.tmp 127) none), none⟩, 1, 136⟩,
  ⟨8, [124, 128], ⟨(some 129), (.call 10 [(.tmp 124), (.tmp 128), (.const (Value.int .i64 (Int.ofNat 0)))]), none⟩, 1, 0⟩,
  ⟨9, [129], ⟨(some 120), (.mv (.tmp 129)), none⟩, 1, 0⟩,
  ⟨10, [120], ⟨(some 130), (.extract (.tmp 120) 0), none⟩, 1, 0⟩,
  ⟨11, [120], ⟨(some 131), (.extract (.tmp 120) 1), none⟩, 1, 0⟩,
  ⟨12, [], ⟨(some 16), (.alloc [(Value.int .i64 (Int.ofNat 0)), (Value.bool false), (Value.int .i64 (Int.ofNat 0)), (Value.int .i64 (Int.ofNat 0))]), none⟩, 0, 136⟩,
  ⟨13, [16, 130], ⟨none, (.store (.tmp 16) (.tmp 130) 4), none⟩, 1, 0⟩,
  ⟨14, [131], ⟨(some 17), (.mv (.tmp 131)), none⟩, 1, 0⟩])
 (.seq (.draw 0 [⟨0, [5], ⟨(some 133), (.mv (.tmp 5)), none⟩, 0, 272⟩,
  ⟨1, [133], ⟨(some 134), (.nilCheck (.tmp 133)), none⟩, 0, 272⟩,
  ⟨2, [134], ⟨(some 135), (.addOff (.tmp 134) 7), none⟩, 0, 272⟩,
  ⟨3, [135], ⟨(some 136), (.ixA (.tmp 135) (.const (Value.int .i64 (Int.ofNat 0))) 2 1), none⟩, 0, 272⟩,
  ⟨4, [136], ⟨(some 137), (.load (.tmp 136) none), none⟩, 0, 272⟩,
  ⟨5, [6], ⟨(some 138), (.mv (.tmp 6)), none⟩, 0, 272⟩,
  ⟨6, [138], ⟨(some 139), (.mkIface 24 (.tmp 138)), none⟩, 0, 272⟩,
  ⟨7, [16], ⟨(some 140), (.addOff (.tmp 16) 0), none⟩, 0, 272⟩,
  ⟨8, [140], ⟨(some 141), (.load (.tmp 140) none), none⟩, 0, 272⟩,
  ⟨9, [137, 139, 141], ⟨(some 142), (.call 11 [(.tmp 137), (.tmp 139), (.tmp 141)]), none⟩, 0, 0⟩,
  ⟨10, [142], ⟨(some 132), (.mv (.tmp 142)), none⟩, 0, 0⟩,
  ⟨11, [132], ⟨(some 143), (.extract (.tmp 132) 0), none⟩, 0, 0⟩,
  ⟨12, [132], ⟨(some 144), (.extract (.tmp 132) 1), none⟩, 0, 0⟩,
  ⟨13, [143], ⟨(some 18), (.mv (.tmp 143)), none⟩, 0, 0⟩,
  ⟨14, [144], ⟨(some 19), (.mv (.tmp 144)), none⟩, 0, 0⟩])
 (.seq (.ops [⟨(some 146), (.mv (.tmp 5)), none⟩,
  ⟨(some 147), (.nilCheck (.tmp 146)), none⟩,
  ⟨(some 148), (.addOff (.tmp 147) 7), none⟩,
  ⟨(some 149), (.ixA (.tmp 148) (.const (Value.int .i64 (Int.ofNat 0))) 2 1), none⟩,
  ⟨(some 150), (.load (.tmp 149) none), none⟩,
  ⟨(some 151), (.mv (.tmp 6)), none⟩,
  ⟨(some 152), (.mkIface 24 (.tmp 151)), none⟩,
  ⟨(some 153), (.call 8 [(.tmp 150), (.tmp 152)]), none⟩,
  ⟨(some 145), (.mv (.tmp 153)), none⟩,
  ⟨(some 154), (.extract (.tmp 145) 0), none⟩,
  ⟨(some 155), (.extract (.tmp 145) 1), none⟩,
  ⟨(some 20), (.mv (.tmp 154)), none⟩,
  ⟨(some 21), (.mv (.tmp 155)), none⟩])
 (.seq (.ops [⟨(some 156), (.mv (.tmp 17)), none⟩,
  ⟨(some 157), (.bin .neq (.tmp 156) (.const (Value.int .i64 (Int.ofNat 0)))), none⟩,
  ⟨(some 158), (.mv (.tmp 157)), none⟩,
  ⟨(some 159), (.mv (.tmp 18)), (some (158, false))⟩,
  ⟨(some 160), (.un .not (.tmp 159)), (some (158, false))⟩,
  ⟨(some 161), (.pick (.tmp 158) (.const (Value.bool true)) (.tmp 160)), none⟩,
  ⟨(some 162), (.mv (.tmp 161)), none⟩,
  ⟨(some 163), (.mv (.tmp 19)), (some (162, false))⟩,
  ⟨(some 164), (.bin .neq (.tmp 163) (.const (Value.int .i64 (Int.ofNat 0)))), (some (162, false))⟩,
  ⟨(some 165), (.pick (.tmp 162) (.const (Value.bool true)) (.tmp 164)), none⟩,
  ⟨(some 166), (.mv (.tmp 165)), none⟩,
  ⟨(some 167), (.mv (.tmp 20)), (some (166, false))⟩,
  ⟨(some 168), (.bin .neq (.tmp 167) (.const (Value.int .i64 (Int.ofNat 0)))), (some (166, false))⟩,
  ⟨(some 169), (.pick (.tmp 166) (.const (Value.bool true)) (.tmp 168)), none⟩,
  ⟨(some 170), (.mv (.tmp 169)), none⟩,
  ⟨(some 171), (.mv (.tmp 21)), (some (170, false))⟩,
  ⟨(some 172), (.bin .neq (.tmp 171) (.const (Value.int .i64 (Int.ofNat 0)))), (some (170, false))⟩,
  ⟨(some 173), (.pick (.tmp 170) (.const (Value.bool true)) (.tmp 172)), none⟩,
  ⟨(some 174), (.mv (.tmp 173)), none⟩,
  ⟨(some 175), (.mv (.tmp 5)), (some (174, false))⟩,
  ⟨(some 176), (.nilCheck (.tmp 175)), (some (174, false))⟩,
  ⟨(some 177), (.addOff (.tmp 176) 7), (some (174, false))⟩,
  ⟨(some 178), (.ixA (.tmp 177) (.const (Value.int .i64 (Int.ofNat 0))) 2 1), (some (174, false))⟩,
  ⟨(some 179), (.load (.tmp 178) none), (some (174, false))⟩,
  ⟨(some 180), (.call 9 [(.tmp 179)]), (some (174, false))⟩,
  ⟨(some 181), (.bin .neq (.tmp 180) (.const (Value.int .i64 (Int.ofNat 8)))), (some (174, false))⟩,
  ⟨(some 182), (.pick (.tmp 174) (.const (Value.bool true)) (.tmp 181)), none⟩])
 (.cond (.tmp 182) none
 (.seq (.ops [⟨(some 4), (.mv (.const (Value.bool false))), none⟩])
 .ret)
 .skip))))))
 (.ops [⟨(some 118), (.mv (.tmp 15)), none⟩,
  ⟨(some 119), (.bin .add (.tmp 118) (.const (Value.int .i64 (Int.ofNat 1)))), none⟩,
  ⟨(some 15), (.mv (.tmp 119)), none⟩]))))))
 (.seq (.draw 0 [⟨0, [5], ⟨(some 184), (.mv (.tmp 5)), none⟩, 0, 136⟩,
  ⟨1, [184], ⟨(some 185), (.nilCheck (.tmp 184)), none⟩, 0, 136⟩,
  ⟨2, [185], ⟨(some 186), (.addOff (.tmp 185) 1), none⟩, 0, 136⟩,
  ⟨3, [186], ⟨(some 187), (.load (.tmp 186) none), none⟩, 0, 136⟩,
  ⟨4, [6], ⟨(some 188), (.mv (.tmp 6)), none⟩, 0, 136⟩,
  ⟨5, [188], ⟨(some 189), (.nilCheck (.tmp 188)), none⟩, 0, 136⟩,
  ⟨6, [189], ⟨(some 190), (.addOff (.tmp 189) 1), none⟩, 0, 136⟩,
  ⟨7, [190], ⟨(some 191), (.load (.tmp 190) none), none⟩, 0, 136⟩,
  ⟨8, [0], ⟨(some 192), (.mv (.tmp 0)), none⟩, 0, 136⟩,
  ⟨9, [191, 192], ⟨(some 193), (.bin .add (.tmp 191) (.tmp 192)), none⟩, 0, 8⟩,
  ⟨10, [187, 193], ⟨(some 194), (.call 12 [(.tmp 187), (.tmp 193)]), none⟩, 0, 0⟩,
  ⟨11, [194], ⟨(some 183), (.mv (.tmp 194)), none⟩, 0, 0⟩,
  ⟨12, [183], ⟨(some 195), (.extract (.tmp 183) 0), none⟩, 0, 0⟩,
  ⟨13, [183], ⟨(some 196), (.extract (.tmp 183) 1), none⟩, 0, 0⟩,
  ⟨14, [183], ⟨(some 197), (.extract (.tmp 183) 2), none⟩, 0, 0⟩,
  ⟨15, [195], ⟨(some 22), (.mv (.tmp 195)), none⟩, 0, 0⟩,
  ⟨16, [196], ⟨(some 23), (.mv (.tmp 196)), none⟩, 0, 0⟩,
  ⟨17, [197], ⟨(some 24), (.mv (.tmp 197)), none⟩, 0, 0⟩])
 (.seq (.ops [⟨(some 198), (.mv (.tmp 5)), none⟩,
  ⟨(some 199), (.nilCheck (.tmp 198)), none⟩,
  ⟨(some 200), (.addOff (.tmp 199) 7), none⟩,
  ⟨(some 201), (.ixA (.tmp 200) (.const (Value.int .i64 (Int.ofNat 0))) 2 1), none⟩,
  ⟨(some 202), (.load (.tmp 201) none), none⟩,
  ⟨(some 203), (.call 13 [(.tmp 202)]), none⟩])
 (.seq (.draw 0 [⟨0, [5], ⟨(some 205), (.mv (.tmp 5)), none⟩, 0, 136⟩,
  ⟨1, [205], ⟨(some 206), (.nilCheck (.tmp 205)), none⟩, 0, 136⟩,
  ⟨2, [206], ⟨(some 207), (.addOff (.tmp 206) 1), none⟩, 0, 136⟩,
  ⟨3, [207], ⟨(some 208), (.load (.tmp 207) none), none⟩, 0, 136⟩,
  ⟨4, [6], ⟨(some 209), (.mv (.tmp 6)), none⟩, 0, 136⟩,
  ⟨5, [209], ⟨(some 210), (.nilCheck (.tmp 209)), none⟩, 0, 136⟩,
  ⟨6, [210], ⟨(some 211), (.addOff (.tmp 210) 1), none⟩, 0, 136⟩,
  ⟨7, [211], ⟨(some 212), (.load (.tmp 211) none), none⟩, 0, 136⟩,
  ⟨8, [0], ⟨(some 213), (.mv (.tmp 0)), none⟩, 0, 136⟩,
  ⟨9, [212, 213], ⟨(some 214), (.bin .add (.tmp 212) (.tmp 213)), none⟩, 0, 8⟩,
  ⟨10, [208, 214], ⟨(some 215), (.call 12 [(.tmp 208), (.tmp 214)]), none⟩, 0, 0⟩,
  ⟨11, [215], ⟨(some 204), (.mv (.tmp 215)), none⟩, 0, 0⟩,
  ⟨12, [204], ⟨(some 216), (.extract (.tmp 204) 0), none⟩, 0, 0⟩,
  ⟨13, [204], ⟨(some 217), (.extract (.tmp 204) 1), none⟩, 0, 0⟩,
  ⟨14, [204], ⟨(some 218), (.extract (.tmp 204) 2), none⟩, 0, 0⟩,
  ⟨15, [216], ⟨(some 25), (.mv (.tmp 216)), none⟩, 0, 0⟩,
  ⟨16, [217], ⟨(some 26), (.mv (.tmp 217)), none⟩, 0, 0⟩,
  ⟨17, [218], ⟨(some 27), (.mv (.tmp 218)), none⟩, 0, 0⟩])
 (.seq (.ops [⟨(some 219), (.mv (.tmp 23)), none⟩,
  ⟨(some 220), (.bin .eql (.tmp 219) (.const (Value.int .i64 (Int.ofNat 9)))), none⟩,
  ⟨(some 221), (.mv (.tmp 220)), none⟩,
  ⟨(some 222), (.mv (.tmp 26)), (some (221, true))⟩,
  ⟨(some 223), (.bin .eql (.tmp 222) (.const (Value.int .i64 (Int.ofNat 1)))), (some (221, true))⟩,
  ⟨(some 224), (.pick (.tmp 221) (.tmp 223) (.const (Value.bool false))), none⟩,
  ⟨(some 225), (.mv (.tmp 224)), none⟩,
  ⟨(some 226), (.mv (.tmp 5)), (some (225, true))⟩,
  ⟨(some 227), (.nilCheck (.tmp 226)), (some (225, true))⟩,
  ⟨(some 228), (.addOff (.tmp 227) 7), (some (225, true))⟩,
  ⟨(some 229), (.ixA (.tmp 228) (.const (Value.int .i64 (Int.ofNat 0))) 2 1), (some (225, true))⟩,
  ⟨(some 230), (.load (.tmp 229) none), (some (225, true))⟩,
  ⟨(some 231), (.call 9 [(.tmp 230)]), (some (225, true))⟩,
  ⟨(some 232), (.bin .eql (.tmp 231) (.const (Value.int .i64 (Int.ofNat 0)))), (some (225, true))⟩,
  ⟨(some 233), (.pick (.tmp 225) (.tmp 232) (.const (Value.bool false))), none⟩,
  ⟨(some 4), (.mv (.tmp 233)), none⟩])
 .ret)))))))))))))))),
 [(.tmp 4)], 2⟩
/- palisade/palisadelaw24.begin -/
def k5 : KFunc := ⟨(.seq (.ops [⟨(some 0), (.mv (.const (Value.pointer none))), none⟩])
 (.seq (.ops [⟨(some 17), (.call 16 [(.const (Value.int .i64 (Int.ofNat 40)))]), none⟩,
  ⟨(some 16), (.mv (.tmp 17)), none⟩,
  ⟨(some 18), (.extract (.tmp 16) 0), none⟩,
  ⟨(some 19), (.extract (.tmp 16) 1), none⟩,
  ⟨(some 1), (.mv (.tmp 18)), none⟩,
  ⟨(some 2), (.mv (.tmp 19)), none⟩])
 (.seq (.ops [⟨(some 21), (.call 17 [(.const (Value.int .i64 (Int.ofNat 40))), (.const (Value.int .i64 (Int.ofNat 4)))]), none⟩,
  ⟨(some 20), (.mv (.tmp 21)), none⟩,
  ⟨(some 22), (.extract (.tmp 20) 0), none⟩,
  ⟨(some 23), (.extract (.tmp 20) 1), none⟩,
  ⟨(some 3), (.mv (.tmp 22)), none⟩,
  ⟨(some 4), (.mv (.tmp 23)), none⟩])
 (.seq (.ops [⟨(some 25), (.call 18 [(.const (Value.int .i64 (Int.ofNat 12)))]), none⟩,
  ⟨(some 24), (.mv (.tmp 25)), none⟩,
  ⟨(some 26), (.extract (.tmp 24) 0), none⟩,
  ⟨(some 27), (.extract (.tmp 24) 1), none⟩,
  ⟨(some 5), (.mv (.tmp 26)), none⟩,
  ⟨(some 6), (.mv (.tmp 27)), none⟩])
 (.seq (.seq (.ops [⟨(some 28), (.mv (.tmp 2)), none⟩,
  ⟨(some 29), (.bin .neq (.tmp 28) (.const (Value.int .i64 (Int.ofNat 0)))), none⟩,
  ⟨(some 30), (.mv (.tmp 29)), none⟩,
  ⟨(some 31), (.mv (.tmp 4)), (some (30, false))⟩,
  ⟨(some 32), (.bin .neq (.tmp 31) (.const (Value.int .i64 (Int.ofNat 0)))), (some (30, false))⟩,
  ⟨(some 33), (.pick (.tmp 30) (.const (Value.bool true)) (.tmp 32)), none⟩,
  ⟨(some 34), (.mv (.tmp 33)), none⟩,
  ⟨(some 35), (.mv (.tmp 6)), (some (34, false))⟩,
  ⟨(some 36), (.bin .neq (.tmp 35) (.const (Value.int .i64 (Int.ofNat 0)))), (some (34, false))⟩,
  ⟨(some 37), (.pick (.tmp 34) (.const (Value.bool true)) (.tmp 36)), none⟩,
  ⟨(some 38), (.mv (.tmp 37)), none⟩,
  ⟨(some 39), (.mv (.tmp 1)), (some (38, false))⟩,
  ⟨(some 40), (.eqv .ptr false (.tmp 39) (.const (Value.pointer none))), (some (38, false))⟩,
  ⟨(some 41), (.pick (.tmp 38) (.const (Value.bool true)) (.tmp 40)), none⟩,
  ⟨(some 42), (.mv (.tmp 41)), none⟩,
  ⟨(some 43), (.mv (.tmp 3)), (some (42, false))⟩,
  ⟨(some 44), (.eqv .ptr false (.tmp 43) (.const (Value.pointer none))), (some (42, false))⟩,
  ⟨(some 45), (.pick (.tmp 42) (.const (Value.bool true)) (.tmp 44)), none⟩,
  ⟨(some 46), (.mv (.tmp 45)), none⟩,
  ⟨(some 47), (.mv (.tmp 5)), (some (46, false))⟩,
  ⟨(some 48), (.eqv .ptr false (.tmp 47) (.const (Value.pointer none))), (some (46, false))⟩,
  ⟨(some 49), (.pick (.tmp 46) (.const (Value.bool true)) (.tmp 48)), none⟩])
 (.cond (.tmp 49) none
 (.seq (.ops [⟨(some 0), (.mv (.const (Value.pointer none))), none⟩])
 .ret)
 .skip))
 (.seq (.ops [⟨(some 50), (.mv (.tmp 1)), none⟩,
  ⟨(some 51), (.mv (.tmp 3)), none⟩,
  ⟨(some 52), (.mv (.tmp 5)), none⟩,
  ⟨(some 53), (.build [(Value.pointer none), (Value.pointer none), (Value.pointer none), (Value.pointer none), (Value.pointer none), (Value.pointer none), (Value.pointer none), (Value.pointer none), (Value.pointer none)] [(0, (1, (.tmp 50))), (1, (1, (.tmp 51))), (2, (1, (.tmp 52)))]), none⟩,
  ⟨(some 54), (.box (.tmp 53)), none⟩,
  ⟨(some 7), (.mv (.tmp 54)), none⟩])
 (.seq (.seq (.ops [⟨(some 8), (.mv (.const (Value.int .i64 (Int.ofNat 0)))), none⟩])
 (.block 0 [7] (.loop [1, 3, 5, 7, 8] (.seq (.seq (.ops [⟨(some 55), (.mv (.tmp 8)), none⟩,
  ⟨(some 56), (.bin .lss (.tmp 55) (.const (Value.int .i64 (Int.ofNat 2)))), none⟩])
 (.cond (.tmp 56) none
 .skip
 (.exit 0)))
 (.seq (.block 1 [1, 3, 5, 7, 8] (.seq (.ops [⟨(some 59), (.mv (.tmp 7)), none⟩,
  ⟨(some 60), (.mv (.tmp 8)), none⟩,
  ⟨(some 61), (.mv (.tmp 1)), none⟩,
  ⟨(some 62), (.mv (.tmp 8)), none⟩,
  ⟨(some 63), (.bin .mul (.const (Value.int .i64 (Int.ofNat 16))) (.tmp 62)), none⟩,
  ⟨(some 64), (.bin .add (.const (Value.int .i64 (Int.ofNat 4))) (.tmp 63)), none⟩,
  ⟨(some 65), (.build [(Value.pointer none), (Value.int .i64 (Int.ofNat 0)), (Value.int .i64 (Int.ofNat 0))] [(0, (1, (.tmp 61))), (1, (1, (.tmp 64))), (2, (1, (.const (Value.int .i64 (Int.ofNat 16)))))]), none⟩,
  ⟨(some 66), (.box (.tmp 65)), none⟩,
  ⟨(some 67), (.nilCheck (.tmp 59)), none⟩,
  ⟨(some 68), (.addOff (.tmp 67) 3), none⟩,
  ⟨(some 69), (.ixA (.tmp 68) (.tmp 60) 2 1), none⟩,
  ⟨none, (.store (.tmp 69) (.tmp 66) 1), none⟩])
 (.seq (.seq (.ops [⟨(some 9), (.mv (.const (Value.int .i64 (Int.ofNat 0)))), none⟩])
 (.block 2 [1, 3, 5, 7, 8] (.loop [1, 3, 5, 7, 8, 9] (.seq (.seq (.ops [⟨(some 70), (.mv (.tmp 9)), none⟩,
  ⟨(some 71), (.bin .lss (.tmp 70) (.const (Value.int .i64 (Int.ofNat 16)))), none⟩])
 (.cond (.tmp 71) none
 .skip
 (.exit 2)))
 (.seq (.block 3 [1, 3, 5, 7, 8, 9] (.seq (.ops [⟨(some 75), (.mv (.tmp 3)), none⟩,
  ⟨(some 76), (.mv (.tmp 8)), none⟩,
  ⟨(some 77), (.bin .add (.const (Value.int .i64 (Int.ofNat 1))) (.tmp 76)), none⟩,
  ⟨(some 78), (.call 19 [(.tmp 75), (.tmp 77)]), none⟩,
  ⟨(some 74), (.mv (.tmp 78)), none⟩,
  ⟨(some 79), (.extract (.tmp 74) 0), none⟩,
  ⟨(some 80), (.extract (.tmp 74) 1), none⟩,
  ⟨(some 10), (.mv (.tmp 79)), none⟩,
  ⟨(some 11), (.mv (.tmp 80)), none⟩])
 (.seq (.ops [⟨(some 81), (.mv (.tmp 10)), none⟩,
  ⟨(some 82), (.mv (.tmp 8)), none⟩,
  ⟨(some 83), (.bin .mul (.const (Value.int .i64 (Int.ofNat 16))) (.tmp 82)), none⟩,
  ⟨(some 84), (.bin .add (.const (Value.int .i64 (Int.ofNat 4))) (.tmp 83)), none⟩,
  ⟨(some 85), (.mv (.tmp 9)), none⟩,
  ⟨(some 86), (.bin .add (.tmp 84) (.tmp 85)), none⟩,
  ⟨(some 87), (.bin .neq (.tmp 81) (.tmp 86)), none⟩,
  ⟨(some 88), (.mv (.tmp 87)), none⟩,
  ⟨(some 89), (.mv (.tmp 11)), (some (88, false))⟩,
  ⟨(some 90), (.bin .neq (.tmp 89) (.const (Value.int .i64 (Int.ofNat 0)))), (some (88, false))⟩,
  ⟨(some 91), (.pick (.tmp 88) (.const (Value.bool true)) (.tmp 90)), none⟩])
 (.cond (.tmp 91) none
 (.seq (.ops [⟨(some 0), (.mv (.const (Value.pointer none))), none⟩])
 .ret)
 .skip))))
 (.ops [⟨(some 72), (.mv (.tmp 9)), none⟩,
  ⟨(some 73), (.bin .add (.tmp 72) (.const (Value.int .i64 (Int.ofNat 1)))), none⟩,
  ⟨(some 9), (.mv (.tmp 73)), none⟩]))))))
 (.seq (.ops [⟨(some 93), (.call 20 [(.const (Value.int .u64 (Int.ofNat 0))), (.const (Value.int .i64 (Int.ofNat 8)))]), none⟩,
  ⟨(some 92), (.mv (.tmp 93)), none⟩,
  ⟨(some 94), (.extract (.tmp 92) 0), none⟩,
  ⟨(some 95), (.extract (.tmp 92) 1), none⟩,
  ⟨(some 12), (.mv (.tmp 94)), none⟩,
  ⟨(some 13), (.mv (.tmp 95)), none⟩])
 (.seq (.ops [⟨(some 97), (.mv (.tmp 12)), none⟩,
  ⟨(some 98), (.mv (.tmp 5)), none⟩,
  ⟨(some 99), (.mv (.tmp 8)), none⟩,
  ⟨(some 100), (.bin .mul (.const (Value.int .i64 (Int.ofNat 4))) (.tmp 99)), none⟩,
  ⟨(some 101), (.mv (.tmp 3)), none⟩,
  ⟨(some 102), (.mv (.tmp 8)), none⟩,
  ⟨(some 103), (.bin .add (.const (Value.int .i64 (Int.ofNat 1))) (.tmp 102)), none⟩,
  ⟨(some 104), (.call 21 [(.tmp 97), (.tmp 98), (.tmp 100), (.const (Value.int .i64 (Int.ofNat 4))), (.tmp 101), (.tmp 103)]), none⟩,
  ⟨(some 96), (.mv (.tmp 104)), none⟩,
  ⟨(some 105), (.extract (.tmp 96) 0), none⟩,
  ⟨(some 106), (.extract (.tmp 96) 1), none⟩,
  ⟨(some 14), (.mv (.tmp 105)), none⟩,
  ⟨(some 15), (.mv (.tmp 106)), none⟩])
 (.seq (.seq (.ops [⟨(some 107), (.mv (.tmp 13)), none⟩,
  ⟨(some 108), (.bin .neq (.tmp 107) (.const (Value.int .i64 (Int.ofNat 0)))), none⟩,
  ⟨(some 109), (.mv (.tmp 108)), none⟩,
  ⟨(some 110), (.mv (.tmp 15)), (some (109, false))⟩,
  ⟨(some 111), (.bin .neq (.tmp 110) (.const (Value.int .i64 (Int.ofNat 0)))), (some (109, false))⟩,
  ⟨(some 112), (.pick (.tmp 109) (.const (Value.bool true)) (.tmp 111)), none⟩,
  ⟨(some 113), (.mv (.tmp 112)), none⟩,
  ⟨(some 114), (.mv (.tmp 14)), (some (113, false))⟩,
  ⟨(some 115), (.eqv .ptr false (.tmp 114) (.const (Value.pointer none))), (some (113, false))⟩,
  ⟨(some 116), (.pick (.tmp 113) (.const (Value.bool true)) (.tmp 115)), none⟩])
 (.cond (.tmp 116) none
 (.seq (.ops [⟨(some 0), (.mv (.const (Value.pointer none))), none⟩])
 .ret)
 .skip))
 (.draw 0 [⟨0, [7], ⟨(some 117), (.mv (.tmp 7)), none⟩, 0, 0⟩,
  ⟨1, [8], ⟨(some 118), (.mv (.tmp 8)), none⟩, 0, 0⟩,
  ⟨2, [7], ⟨(some 119), (.mv (.tmp 7)), none⟩, 0, 0⟩,
  ⟨3, [8], ⟨(some 120), (.mv (.tmp 8)), none⟩, 0, 0⟩,
  ⟨4, [12], ⟨(some 121), (.mv (.tmp 12)), none⟩, 0, 0⟩,
  ⟨5, [14], ⟨(some 122), (.mv (.tmp 14)), none⟩, 0, 0⟩,
  ⟨6, [117], ⟨(some 123), (.nilCheck (.tmp 117)), none⟩, 0, 0⟩,
  ⟨7, [123], ⟨(some 124), (.addOff (.tmp 123) 5), none⟩, 0, 0⟩,
  ⟨8, [124, 118], ⟨(some 125), (.ixA (.tmp 124) (.tmp 118) 2 1), none⟩, 0, 0⟩,
  ⟨10, [119], ⟨(some 126), (.nilCheck (.tmp 119)), none⟩, 0, 0⟩,
  ⟨11, [126], ⟨(some 127), (.addOff (.tmp 126) 7), none⟩, 0, 0⟩,
  ⟨9, [125, 121], ⟨none, (.store (.tmp 125) (.tmp 121) 1), none⟩, 0, 0⟩,
  ⟨12, [127, 120], ⟨(some 128), (.ixA (.tmp 127) (.tmp 120) 2 1), none⟩, 0, 0⟩,
  ⟨13, [128, 122], ⟨none, (.store (.tmp 128) (.tmp 122) 1), none⟩, 0, 0⟩])))))))
 (.ops [⟨(some 57), (.mv (.tmp 8)), none⟩,
  ⟨(some 58), (.bin .add (.tmp 57) (.const (Value.int .i64 (Int.ofNat 1)))), none⟩,
  ⟨(some 8), (.mv (.tmp 58)), none⟩]))))))
 (.seq (.ops [⟨(some 129), (.mv (.tmp 7)), none⟩,
  ⟨(some 0), (.mv (.tmp 129)), none⟩])
 .ret)))))))),
 [(.tmp 0)], 0⟩
/- palisade/palisadelaw24.request -/
def k6 : KFunc := ⟨(.seq (.ops [⟨(some 8), (.mv (.const (Value.slice none 0 0))), none⟩])
 (.seq (.ops [⟨(some 9), (.mv (.tmp 0)), none⟩,
  ⟨(some 10), (.mv (.tmp 1)), none⟩,
  ⟨(some 11), (.call 22 [(.tmp 9), (.const (Value.int .u64 (Int.ofNat 1024))), (.const (Value.int .i64 (Int.ofNat 8))), (.tmp 10)]), none⟩])
 (.seq (.ops [⟨(some 12), (.mv (.tmp 0)), none⟩,
  ⟨(some 13), (.mv (.tmp 2)), none⟩,
  ⟨(some 14), (.call 22 [(.tmp 12), (.const (Value.int .u64 (Int.ofNat 1032))), (.const (Value.int .i64 (Int.ofNat 8))), (.tmp 13)]), none⟩])
 (.seq (.ops [⟨(some 15), (.mv (.tmp 0)), none⟩,
  ⟨(some 16), (.call 22 [(.tmp 15), (.const (Value.int .u64 (Int.ofNat 1096))), (.const (Value.int .i64 (Int.ofNat 8))), (.const (Value.int .u64 (Int.ofNat 8608480567731124087)))]), none⟩])
 (.seq (.ops [⟨(some 17), (.build [(Value.int .u64 (Int.ofNat 0)), (Value.int .i64 (Int.ofNat 0)), (Value.bool false)] [(0, (1, (.const (Value.int .u64 (Int.ofNat 1024))))), (1, (1, (.const (Value.int .i64 (Int.ofNat 16)))))]), none⟩,
  ⟨(some 18), (.mv (.tmp 3)), none⟩,
  ⟨(some 19), (.bin .mul (.const (Value.int .i64 (Int.ofNat 256))) (.tmp 18)), none⟩,
  ⟨(some 20), (.conv .u64 (.tmp 19)), none⟩,
  ⟨(some 21), (.mv (.tmp 1)), none⟩,
  ⟨(some 22), (.bin .eql (.tmp 21) (.const (Value.int .u64 (Int.ofNat 0)))), none⟩,
  ⟨(some 23), (.build [(Value.int .u64 (Int.ofNat 0)), (Value.int .i64 (Int.ofNat 0)), (Value.bool false)] [(0, (1, (.tmp 20))), (1, (1, (.const (Value.int .i64 (Int.ofNat 256))))), (2, (1, (.tmp 22)))]), none⟩,
  ⟨(some 24), (.build [(Value.int .u64 (Int.ofNat 0)), (Value.int .i64 (Int.ofNat 0)), (Value.bool false)] [(0, (1, (.const (Value.int .u64 (Int.ofNat 1100))))), (1, (1, (.const (Value.int .i64 (Int.ofNat 1))))), (2, (1, (.const (Value.bool true))))]), none⟩,
  ⟨(some 25), (.mkLit 3 3 [(Value.int .u64 (Int.ofNat 0)), (Value.int .i64 (Int.ofNat 0)), (Value.bool false)] [(0, (.tmp 17)), (3, (.tmp 23)), (6, (.tmp 24))]), none⟩,
  ⟨(some 8), (.mv (.tmp 25)), none⟩])
 .ret))))),
 [(.tmp 8)], 4⟩
/- palisade/palisadelaw24.offer -/
def k7 : KFunc := ⟨(.seq (.seq (.ops [⟨(some 6), (.mv (.const (Value.int .i64 (Int.ofNat 0)))), none⟩])
 (.block 0 [0, 1] (.loop [0, 1, 2, 6] (.seq (.seq (.ops [⟨(some 9), (.mv (.tmp 6)), none⟩,
  ⟨(some 10), (.mv (.tmp 2)), none⟩,
  ⟨(some 11), (.len false (.tmp 10)), none⟩,
  ⟨(some 12), (.bin .lss (.tmp 9) (.tmp 11)), none⟩,
  ⟨(some 13), (.mv (.tmp 12)), none⟩,
  ⟨(some 14), (.mv (.tmp 6)), (some (13, true))⟩,
  ⟨(some 15), (.bin .lss (.tmp 14) (.const (Value.int .i64 (Int.ofNat 8)))), (some (13, true))⟩,
  ⟨(some 16), (.pick (.tmp 13) (.tmp 15) (.const (Value.bool false))), none⟩])
 (.cond (.tmp 16) none
 .skip
 (.exit 0)))
 (.seq (.block 1 [0, 1, 2, 6] (.seq (.ops [⟨(some 7), (.mv (.const (Value.int .u64 (Int.ofNat 0)))), none⟩])
 (.seq (.seq (.ops [⟨(some 19), (.mv (.tmp 2)), none⟩,
  ⟨(some 20), (.mv (.tmp 6)), none⟩,
  ⟨(some 21), (.ixS (.tmp 19) (.tmp 20) 3), none⟩,
  ⟨(some 22), (.addOff (.tmp 21) 2), none⟩,
  ⟨(some 23), (.load (.tmp 22) none), none⟩])
 (.cond (.tmp 23) (some [0, 1, 2, 6, 7])
 (.ops [⟨(some 7), (.mv (.const (Value.int .u64 (Int.ofNat 2)))), none⟩])
 .skip))
 (.seq (.seq (.ops [⟨(some 24), (.mv (.tmp 6)), none⟩,
  ⟨(some 25), (.bin .add (.tmp 24) (.const (Value.int .i64 (Int.ofNat 1)))), none⟩,
  ⟨(some 26), (.mv (.tmp 2)), none⟩,
  ⟨(some 27), (.len false (.tmp 26)), none⟩,
  ⟨(some 28), (.bin .lss (.tmp 25) (.tmp 27)), none⟩,
  ⟨(some 29), (.mv (.tmp 28)), none⟩,
  ⟨(some 30), (.mv (.tmp 6)), (some (29, true))⟩,
  ⟨(some 31), (.bin .lss (.tmp 30) (.const (Value.int .i64 (Int.ofNat 7)))), (some (29, true))⟩,
  ⟨(some 32), (.pick (.tmp 29) (.tmp 31) (.const (Value.bool false))), none⟩])
 (.cond (.tmp 32) (some [0, 1, 2, 6, 7])
 (.ops [⟨(some 33), (.mv (.tmp 7)), none⟩,
  ⟨(some 34), (.bin .add (.tmp 33) (.const (Value.int .u64 (Int.ofNat 1)))), none⟩,
  ⟨(some 7), (.mv (.tmp 34)), none⟩])
 .skip))
 (.seq (.ops [⟨(some 35), (.mv (.tmp 6)), none⟩,
  ⟨(some 36), (.conv .u64 (.tmp 35)), none⟩,
  ⟨(some 37), (.bin .mul (.const (Value.int .u64 (Int.ofNat 32))) (.tmp 36)), none⟩,
  ⟨(some 8), (.mv (.tmp 37)), none⟩])
 (.seq (.ops [⟨(some 38), (.mv (.tmp 0)), none⟩,
  ⟨(some 39), (.mv (.tmp 8)), none⟩,
  ⟨(some 40), (.mv (.tmp 2)), none⟩,
  ⟨(some 41), (.mv (.tmp 6)), none⟩,
  ⟨(some 42), (.ixS (.tmp 40) (.tmp 41) 3), none⟩,
  ⟨(some 43), (.addOff (.tmp 42) 0), none⟩,
  ⟨(some 44), (.load (.tmp 43) none), none⟩,
  ⟨(some 45), (.call 22 [(.tmp 38), (.tmp 39), (.const (Value.int .i64 (Int.ofNat 8))), (.tmp 44)]), none⟩])
 (.seq (.ops [⟨(some 46), (.mv (.tmp 0)), none⟩,
  ⟨(some 47), (.mv (.tmp 8)), none⟩,
  ⟨(some 48), (.bin .add (.tmp 47) (.const (Value.int .u64 (Int.ofNat 8)))), none⟩,
  ⟨(some 49), (.mv (.tmp 2)), none⟩,
  ⟨(some 50), (.mv (.tmp 6)), none⟩,
  ⟨(some 51), (.ixS (.tmp 49) (.tmp 50) 3), none⟩,
  ⟨(some 52), (.addOff (.tmp 51) 1), none⟩,
  ⟨(some 53), (.load (.tmp 52) none), none⟩,
  ⟨(some 54), (.conv .u64 (.tmp 53)), none⟩,
  ⟨(some 55), (.call 22 [(.tmp 46), (.tmp 48), (.const (Value.int .i64 (Int.ofNat 8))), (.tmp 54)]), none⟩])
 (.seq (.ops [⟨(some 56), (.mv (.tmp 0)), none⟩,
  ⟨(some 57), (.mv (.tmp 8)), none⟩,
  ⟨(some 58), (.bin .add (.tmp 57) (.const (Value.int .u64 (Int.ofNat 16)))), none⟩,
  ⟨(some 59), (.mv (.tmp 7)), none⟩,
  ⟨(some 60), (.call 22 [(.tmp 56), (.tmp 58), (.const (Value.int .i64 (Int.ofNat 8))), (.tmp 59)]), none⟩])
 (.ops [⟨(some 61), (.mv (.tmp 0)), none⟩,
  ⟨(some 62), (.mv (.tmp 8)), none⟩,
  ⟨(some 63), (.bin .add (.tmp 62) (.const (Value.int .u64 (Int.ofNat 24)))), none⟩,
  ⟨(some 64), (.mv (.tmp 6)), none⟩,
  ⟨(some 65), (.bin .add (.tmp 64) (.const (Value.int .i64 (Int.ofNat 1)))), none⟩,
  ⟨(some 66), (.conv .u64 (.tmp 65)), none⟩,
  ⟨(some 67), (.call 22 [(.tmp 61), (.tmp 63), (.const (Value.int .i64 (Int.ofNat 8))), (.tmp 66)]), none⟩])))))))))
 (.ops [⟨(some 17), (.mv (.tmp 6)), none⟩,
  ⟨(some 18), (.bin .add (.tmp 17) (.const (Value.int .i64 (Int.ofNat 1)))), none⟩,
  ⟨(some 6), (.mv (.tmp 18)), none⟩]))))))
 (.seq (.ops [⟨(some 68), (.mv (.tmp 0)), none⟩,
  ⟨(some 69), (.mv (.tmp 1)), none⟩,
  ⟨(some 70), (.bin .rem (.tmp 69) (.const (Value.int .i64 (Int.ofNat 8)))), none⟩,
  ⟨(some 71), (.conv .u64 (.tmp 70)), none⟩,
  ⟨(some 72), (.bin .mul (.const (Value.int .u64 (Int.ofNat 8))) (.tmp 71)), none⟩,
  ⟨(some 73), (.bin .add (.const (Value.int .u64 (Int.ofNat 264))) (.tmp 72)), none⟩,
  ⟨(some 74), (.call 22 [(.tmp 68), (.tmp 73), (.const (Value.int .i64 (Int.ofNat 8))), (.const (Value.int .u64 (Int.ofNat 0)))]), none⟩])
 (.ops [⟨(some 75), (.mv (.tmp 0)), none⟩,
  ⟨(some 76), (.mv (.tmp 1)), none⟩,
  ⟨(some 77), (.bin .add (.tmp 76) (.const (Value.int .i64 (Int.ofNat 1)))), none⟩,
  ⟨(some 78), (.conv .u64 (.tmp 77)), none⟩,
  ⟨(some 79), (.call 22 [(.tmp 75), (.const (Value.int .u64 (Int.ofNat 256))), (.const (Value.int .i64 (Int.ofNat 8))), (.tmp 78)]), none⟩]))),
 [], 3⟩
/- (*palisade/backend.Block).Kick -/
def k8 : KFunc := ⟨(.seq (.ops [⟨(some 4), (.mv (.const (Value.int .i64 (Int.ofNat 0)))), none⟩,
  ⟨(some 5), (.mv (.const (Value.int .i64 (Int.ofNat 0)))), none⟩])
 (.seq (.seq (.ops [⟨(some 13), (.mv (.tmp 0)), none⟩,
  ⟨(some 14), (.mv (.tmp 1)), none⟩,
  ⟨(some 15), (.call 23 [(.tmp 13), (.tmp 14)]), none⟩])
 (.cond (.tmp 15) none
 (.seq (.ops [⟨(some 4), (.mv (.const (Value.int .i64 (Int.ofNat 0)))), none⟩,
  ⟨(some 5), (.mv (.const (Value.int .i64 (Int.ofNat 1)))), none⟩])
 .ret)
 .skip))
 (.seq (.ops [⟨(some 6), (.mv (.const (Value.int .i64 (Int.ofNat 0)))), none⟩])
 (.seq (.block 0 [6] (.loop [0, 1, 6] (.seq (.seq (.ops [⟨(some 16), (.mv (.tmp 0)), none⟩,
  ⟨(some 17), (.nilCheck (.tmp 16)), none⟩,
  ⟨(some 18), (.addOff (.tmp 17) 7), none⟩,
  ⟨(some 19), (.load (.tmp 18) none), none⟩,
  ⟨(some 20), (.lenMap (.tmp 19)), none⟩,
  ⟨(some 21), (.bin .lss (.tmp 20) (.const (Value.int .i64 (Int.ofNat 8)))), none⟩])
 (.cond (.tmp 21) none
 .skip
 (.exit 0)))
 (.block 1 [0, 1, 6] (.seq (.ops [⟨(some 23), (.mv (.tmp 0)), none⟩,
  ⟨(some 24), (.nilCheck (.tmp 23)), none⟩,
  ⟨(some 25), (.addOff (.tmp 24) 0), none⟩,
  ⟨(some 26), (.load (.tmp 25) none), none⟩,
  ⟨(some 27), (.mv (.tmp 1)), none⟩,
  ⟨(some 28), (.call 24 [(.tmp 26), (.tmp 27)]), none⟩,
  ⟨(some 22), (.mv (.tmp 28)), none⟩,
  ⟨(some 29), (.extract (.tmp 22) 0), none⟩,
  ⟨(some 30), (.extract (.tmp 22) 1), none⟩,
  ⟨(some 31), (.extract (.tmp 22) 2), none⟩,
  ⟨(some 7), (.alloc [(Value.int .i64 (Int.ofNat 0)), (Value.slice none 0 0)]), none⟩,
  ⟨none, (.store (.tmp 7) (.tmp 29) 2), none⟩,
  ⟨(some 8), (.mv (.tmp 30)), none⟩,
  ⟨(some 9), (.mv (.tmp 31)), none⟩])
 (.seq (.seq (.ops [⟨(some 32), (.mv (.tmp 8)), none⟩,
  ⟨(some 33), (.un .not (.tmp 32)), none⟩,
  ⟨(some 34), (.mv (.tmp 33)), none⟩,
  ⟨(some 35), (.mv (.tmp 9)), (some (34, false))⟩,
  ⟨(some 36), (.bin .neq (.tmp 35) (.const (Value.int .i64 (Int.ofNat 0)))), (some (34, false))⟩,
  ⟨(some 37), (.pick (.tmp 34) (.const (Value.bool true)) (.tmp 36)), none⟩])
 (.cond (.tmp 37) none
 (.seq (.ops [⟨(some 38), (.mv (.tmp 6)), none⟩,
  ⟨(some 39), (.mv (.tmp 9)), none⟩,
  ⟨(some 4), (.mv (.tmp 38)), none⟩,
  ⟨(some 5), (.mv (.tmp 39)), none⟩])
 .ret)
 .skip))
 (.seq (.ops [⟨(some 41), (.mv (.tmp 0)), none⟩,
  ⟨(some 42), (.mv (.tmp 1)), none⟩,
  ⟨(some 43), (.load (.tmp 7) (some 2)), none⟩,
  ⟨(some 44), (.call 25 [(.tmp 41), (.tmp 42), (.tmp 43)]), none⟩,
  ⟨(some 40), (.mv (.tmp 44)), none⟩,
  ⟨(some 45), (.extract (.tmp 40) 0), none⟩,
  ⟨(some 46), (.extract (.tmp 40) 1), none⟩,
  ⟨(some 10), (.alloc [(Value.int .i64 (Int.ofNat 0)), (Value.bool false), (Value.int .i64 (Int.ofNat 0)), (Value.int .i64 (Int.ofNat 0))]), none⟩,
  ⟨none, (.store (.tmp 10) (.tmp 45) 4), none⟩,
  ⟨(some 11), (.mv (.tmp 46)), none⟩])
 (.seq (.seq (.ops [⟨(some 47), (.mv (.tmp 11)), none⟩,
  ⟨(some 48), (.bin .eql (.tmp 47) (.const (Value.int .u8 (Int.ofNat 0)))), none⟩])
 (.cond (.tmp 48) (some [0, 1, 6, 7, 11])
 (.ops [⟨(some 49), (.mv (.tmp 0)), none⟩,
  ⟨(some 50), (.load (.tmp 7) (some 2)), none⟩,
  ⟨(some 51), (.load (.tmp 10) (some 4)), none⟩,
  ⟨(some 52), (.call 26 [(.tmp 49), (.tmp 50), (.tmp 51)]), none⟩,
  ⟨(some 11), (.mv (.tmp 52)), none⟩])
 .skip))
 (.seq (.seq (.ops [⟨(some 53), (.mv (.tmp 11)), none⟩,
  ⟨(some 54), (.bin .eql (.tmp 53) (.const (Value.int .u8 (Int.ofNat 0)))), none⟩])
 (.cond (.tmp 54) none
 (.exit 1)
 .skip))
 (.seq (.seq (.draw 0 [⟨0, [0], ⟨(some 55), (.mv (.tmp 0)), none⟩, 0, 328⟩,
  ⟨1, [55], ⟨(some 56), (.nilCheck (.tmp 55)), none⟩, 0, 328⟩,
  ⟨2, [56], ⟨(some 57), (.addOff (.tmp 56) 0), none⟩, 0, 328⟩,
  ⟨3, [57], ⟨(some 58), (.load (.tmp 57) none), none⟩, 0, 328⟩,
  ⟨4, [1], ⟨(some 59), (.mv (.tmp 1)), none⟩, 0, 328⟩,
  ⟨5, [7], ⟨(some 60), (.addOff (.tmp 7) 0), none⟩, 0, 328⟩,
  ⟨6, [60], ⟨(some 61), (.load (.tmp 60) none), none⟩, 0, 328⟩,
  ⟨7, [1], ⟨(some 62), (.mv (.tmp 1)), none⟩, 0, 328⟩,
  ⟨8, [7], ⟨(some 63), (.load (.tmp 7) (some 2)), none⟩, 0, 328⟩,
  ⟨9, [11], ⟨(some 64), (.mv (.tmp 11)), none⟩, 0, 328⟩,
  ⟨10, [62, 63, 64], ⟨(some 65), (.call 28 [(.tmp 62), (.tmp 63), (.tmp 64)]), none⟩, 0, 72⟩,
  ⟨11, [58, 59, 61, 65], ⟨(some 66), (.call 27 [(.tmp 58), (.tmp 59), (.tmp 61), (.tmp 65)]), none⟩, 0, 0⟩,
  ⟨12, [66], ⟨(some 12), (.mv (.tmp 66)), none⟩, 0, 0⟩])
 (.seq (.ops [⟨(some 67), (.mv (.tmp 12)), none⟩,
  ⟨(some 68), (.bin .neq (.tmp 67) (.const (Value.int .i64 (Int.ofNat 0)))), none⟩])
 (.cond (.tmp 68) none
 (.seq (.ops [⟨(some 69), (.mv (.tmp 6)), none⟩,
  ⟨(some 70), (.mv (.tmp 12)), none⟩,
  ⟨(some 4), (.mv (.tmp 69)), none⟩,
  ⟨(some 5), (.mv (.tmp 70)), none⟩])
 .ret)
 .skip)))
 (.ops [⟨(some 71), (.mv (.tmp 6)), none⟩,
  ⟨(some 72), (.bin .add (.tmp 71) (.const (Value.int .i64 (Int.ofNat 1)))), none⟩,
  ⟨(some 6), (.mv (.tmp 72)), none⟩])))))))))))
 (.seq (.ops [⟨(some 73), (.mv (.tmp 6)), none⟩,
  ⟨(some 4), (.mv (.tmp 73)), none⟩,
  ⟨(some 5), (.mv (.const (Value.int .i64 (Int.ofNat 0)))), none⟩])
 .ret))))),
 [(.tmp 4), (.tmp 5)], 2⟩
/- (*palisade/backend.Block).Waits -/
def k9 : KFunc := ⟨(.seq (.ops [⟨(some 2), (.mv (.const (Value.int .i64 (Int.ofNat 0)))), none⟩])
 (.seq (.seq (.ops [⟨(some 3), (.mv (.tmp 0)), none⟩,
  ⟨(some 4), (.eqv .ptr false (.tmp 3) (.const (Value.pointer none))), none⟩])
 (.cond (.tmp 4) none
 (.seq (.ops [⟨(some 2), (.mv (.const (Value.int .i64 (Int.ofNat 0)))), none⟩])
 .ret)
 .skip))
 (.seq (.ops [⟨(some 5), (.mv (.tmp 0)), none⟩,
  ⟨(some 6), (.nilCheck (.tmp 5)), none⟩,
  ⟨(some 7), (.addOff (.tmp 6) 7), none⟩,
  ⟨(some 8), (.load (.tmp 7) none), none⟩,
  ⟨(some 9), (.lenMap (.tmp 8)), none⟩,
  ⟨(some 2), (.mv (.tmp 9)), none⟩])
 .ret))),
 [(.tmp 2)], 1⟩
/- (*palisade/disk.Disk).Complete -/
def k10 : KFunc := ⟨(.seq (.ops [⟨(some 6), (.alloc [(Value.int .i64 (Int.ofNat 0)), (Value.bool false), (Value.int .i64 (Int.ofNat 0)), (Value.int .i64 (Int.ofNat 0))]), none⟩,
  ⟨(some 7), (.mv (.const (Value.int .i64 (Int.ofNat 0)))), none⟩])
 (.seq (.block 0 [0, 1, 2, 6] (.seq (.ops [⟨(some 15), (.mv (.tmp 0)), none⟩,
  ⟨(some 16), (.call 29 [(.tmp 15)]), none⟩,
  ⟨(some 17), (.mv (.tmp 16)), none⟩,
  ⟨(some 18), (.mv (.tmp 1)), (some (17, false))⟩,
  ⟨(some 19), (.call 30 [(.tmp 18)]), (some (17, false))⟩,
  ⟨(some 20), (.bin .eql (.tmp 19) (.const (Value.int .i64 (Int.ofNat 0)))), (some (17, false))⟩,
  ⟨(some 21), (.pick (.tmp 17) (.const (Value.bool true)) (.tmp 20)), none⟩,
  ⟨(some 14), (.mv (.tmp 21)), none⟩])
 (.cond (.tmp 14) none
 (.seq (.ops [⟨(some 22), (.build [(Value.int .i64 (Int.ofNat 0)), (Value.bool false), (Value.int .i64 (Int.ofNat 0)), (Value.int .i64 (Int.ofNat 0))] []), none⟩,
  ⟨none, (.store (.tmp 6) (.tmp 22) 4), none⟩,
  ⟨(some 7), (.mv (.const (Value.int .i64 (Int.ofNat 1)))), none⟩])
 .ret)
 (.seq (.ops [⟨(some 24), (.mv (.tmp 2)), none⟩,
  ⟨(some 25), (.bin .lss (.tmp 24) (.const (Value.int .i64 (Int.ofNat 0)))), none⟩,
  ⟨(some 26), (.mv (.tmp 25)), none⟩,
  ⟨(some 27), (.mv (.tmp 2)), (some (26, false))⟩,
  ⟨(some 28), (.mv (.tmp 0)), (some (26, false))⟩,
  ⟨(some 29), (.nilCheck (.tmp 28)), (some (26, false))⟩,
  ⟨(some 30), (.addOff (.tmp 29) 2), (some (26, false))⟩,
  ⟨(some 31), (.load (.tmp 30) none), (some (26, false))⟩,
  ⟨(some 32), (.len false (.tmp 31)), (some (26, false))⟩,
  ⟨(some 33), (.bin .geq (.tmp 27) (.tmp 32)), (some (26, false))⟩,
  ⟨(some 34), (.pick (.tmp 26) (.const (Value.bool true)) (.tmp 33)), none⟩,
  ⟨(some 23), (.mv (.tmp 34)), none⟩])
 (.cond (.tmp 23) none
 (.seq (.ops [⟨(some 35), (.build [(Value.int .i64 (Int.ofNat 0)), (Value.bool false), (Value.int .i64 (Int.ofNat 0)), (Value.int .i64 (Int.ofNat 0))] []), none⟩,
  ⟨none, (.store (.tmp 6) (.tmp 35) 4), none⟩,
  ⟨(some 7), (.mv (.const (Value.int .i64 (Int.ofNat 14)))), none⟩])
 .ret)
 .skip)))))
 (.seq (.ops [⟨(some 36), (.mv (.tmp 0)), none⟩,
  ⟨(some 37), (.nilCheck (.tmp 36)), none⟩,
  ⟨(some 38), (.addOff (.tmp 37) 2), none⟩,
  ⟨(some 39), (.load (.tmp 38) none), none⟩,
  ⟨(some 40), (.mv (.tmp 2)), none⟩,
  ⟨(some 41), (.ixS (.tmp 39) (.tmp 40) 4), none⟩,
  ⟨(some 42), (.load (.tmp 41) (some 4)), none⟩,
  ⟨(some 8), (.alloc [(Value.int .i64 (Int.ofNat 0)), (Value.bool false), (Value.int .i64 (Int.ofNat 0)), (Value.int .i64 (Int.ofNat 0))]), none⟩,
  ⟨none, (.store (.tmp 8) (.tmp 42) 4), none⟩])
 (.seq (.ops [⟨(some 43), (.mv (.tmp 0)), none⟩,
  ⟨(some 44), (.mv (.tmp 0)), none⟩,
  ⟨(some 45), (.nilCheck (.tmp 44)), none⟩,
  ⟨(some 46), (.addOff (.tmp 45) 2), none⟩,
  ⟨(some 47), (.load (.tmp 46) none), none⟩,
  ⟨(some 48), (.mkFunc (.func 32) [] [(.tmp 8)]), none⟩,
  ⟨(some 49), (.call 31 [(.tmp 47), (.tmp 48)]), none⟩,
  ⟨(some 50), (.nilCheck (.tmp 43)), none⟩,
  ⟨(some 51), (.addOff (.tmp 50) 2), none⟩,
  ⟨none, (.store (.tmp 51) (.tmp 49) 1), none⟩])
 (.seq (.seq (.draw 0 [⟨0, [8], ⟨(some 52), (.addOff (.tmp 8) 3), none⟩, 0, 34⟩,
  ⟨1, [52], ⟨(some 53), (.load (.tmp 52) none), none⟩, 0, 34⟩,
  ⟨2, [53], ⟨(some 54), (.bin .lss (.tmp 53) (.const (Value.int .i64 (Int.ofNat 0)))), none⟩, 0, 32⟩,
  ⟨3, [54], ⟨(some 55), (.mv (.tmp 54)), none⟩, 0, 32⟩,
  ⟨4, [8, 55], ⟨(some 56), (.addOff (.tmp 8) 3), (some (55, false))⟩, 0, 32⟩,
  ⟨5, [56, 55], ⟨(some 57), (.load (.tmp 56) none), (some (55, false))⟩, 0, 32⟩,
  ⟨6, [1, 55], ⟨(some 58), (.mv (.tmp 1)), (some (55, false))⟩, 0, 32⟩,
  ⟨7, [58, 55], ⟨(some 59), (.call 30 [(.tmp 58)]), (some (55, false))⟩, 0, 32⟩,
  ⟨8, [57, 59, 55], ⟨(some 60), (.bin .geq (.tmp 57) (.tmp 59)), (some (55, false))⟩, 0, 0⟩,
  ⟨9, [55, 60], ⟨(some 61), (.pick (.tmp 55) (.const (Value.bool true)) (.tmp 60)), none⟩, 0, 0⟩])
 (.cond (.tmp 61) none
 (.seq (.ops [⟨(some 62), (.load (.tmp 8) (some 4)), none⟩,
  ⟨none, (.store (.tmp 6) (.tmp 62) 4), none⟩,
  ⟨(some 7), (.mv (.const (Value.int .i64 (Int.ofNat 12)))), none⟩])
 .ret)
 .skip))
 (.seq (.ops [⟨(some 63), (.addOff (.tmp 8) 3), none⟩,
  ⟨(some 64), (.load (.tmp 63) none), none⟩,
  ⟨(some 65), (.conv .u64 (.tmp 64)), none⟩,
  ⟨(some 66), (.bin .mul (.tmp 65) (.const (Value.int .u64 (Int.ofNat 256)))), none⟩,
  ⟨(some 9), (.mv (.tmp 66)), none⟩])
 (.seq (.seq (.ops [⟨(some 67), (.addOff (.tmp 8) 1), none⟩,
  ⟨(some 68), (.load (.tmp 67) none), none⟩])
 (.cond (.tmp 68) none
 (.seq (.ops [⟨(some 70), (.mv (.tmp 1)), none⟩,
  ⟨(some 71), (.mv (.tmp 9)), none⟩,
  ⟨(some 72), (.call 33 [(.tmp 70), (.tmp 71), (.const (Value.int .i64 (Int.ofNat 256)))]), none⟩,
  ⟨(some 69), (.mv (.tmp 72)), none⟩,
  ⟨(some 73), (.extract (.tmp 69) 0), none⟩,
  ⟨(some 74), (.extract (.tmp 69) 1), none⟩,
  ⟨(some 10), (.mv (.tmp 73)), none⟩,
  ⟨(some 11), (.mv (.tmp 74)), none⟩])
 (.seq (.draw 0 [⟨0, [8], ⟨(some 75), (.load (.tmp 8) (some 4)), none⟩, 0, 9⟩,
  ⟨1, [0], ⟨(some 76), (.mv (.tmp 0)), none⟩, 0, 9⟩,
  ⟨2, [8], ⟨(some 77), (.addOff (.tmp 8) 2), none⟩, 0, 9⟩,
  ⟨3, [77], ⟨(some 78), (.load (.tmp 77) none), none⟩, 0, 9⟩,
  ⟨4, [10], ⟨(some 79), (.mv (.tmp 10)), none⟩, 0, 9⟩,
  ⟨5, [76, 78, 79], ⟨(some 80), (.call 34 [(.tmp 76), (.tmp 78), (.tmp 79)]), none⟩, 0, 1⟩,
  ⟨6, [6, 75], ⟨none, (.store (.tmp 6) (.tmp 75) 4), none⟩, 0, 0⟩,
  ⟨7, [80], ⟨(some 7), (.mv (.tmp 80)), none⟩, 0, 0⟩])
 .ret))
 .skip))
 (.seq (.ops [⟨(some 82), (.mv (.tmp 0)), none⟩,
  ⟨(some 83), (.addOff (.tmp 8) 2), none⟩,
  ⟨(some 84), (.load (.tmp 83) none), none⟩,
  ⟨(some 85), (.call 35 [(.tmp 82), (.tmp 84)]), none⟩,
  ⟨(some 81), (.mv (.tmp 85)), none⟩,
  ⟨(some 86), (.extract (.tmp 81) 0), none⟩,
  ⟨(some 87), (.extract (.tmp 81) 1), none⟩,
  ⟨(some 12), (.mv (.tmp 86)), none⟩,
  ⟨(some 13), (.mv (.tmp 87)), none⟩])
 (.seq (.draw 0 [⟨0, [8], ⟨(some 88), (.load (.tmp 8) (some 4)), none⟩, 0, 1⟩,
  ⟨1, [1], ⟨(some 89), (.mv (.tmp 1)), none⟩, 0, 1⟩,
  ⟨2, [9], ⟨(some 90), (.mv (.tmp 9)), none⟩, 0, 1⟩,
  ⟨3, [12], ⟨(some 91), (.mv (.tmp 12)), none⟩, 0, 1⟩,
  ⟨4, [89, 90, 91], ⟨(some 92), (.call 36 [(.tmp 89), (.tmp 90), (.tmp 91)]), none⟩, 0, 1⟩,
  ⟨5, [6, 88], ⟨none, (.store (.tmp 6) (.tmp 88) 4), none⟩, 0, 0⟩,
  ⟨6, [92], ⟨(some 7), (.mv (.tmp 92)), none⟩, 0, 0⟩])
 .ret))))))))),
 [(.cell 6 (some 4)), (.tmp 7)], 3⟩
/- (*palisade/backend.Block).Done -/
def k11 : KFunc := ⟨(.seq (.ops [⟨(some 6), (.mv (.const (Value.bool false))), none⟩,
  ⟨(some 7), (.mv (.const (Value.int .i64 (Int.ofNat 0)))), none⟩])
 (.seq (.seq (.ops [⟨(some 11), (.mv (.tmp 0)), none⟩,
  ⟨(some 12), (.mv (.tmp 1)), none⟩,
  ⟨(some 13), (.call 23 [(.tmp 11), (.tmp 12)]), none⟩])
 (.cond (.tmp 13) none
 (.seq (.ops [⟨(some 6), (.mv (.const (Value.bool false))), none⟩,
  ⟨(some 7), (.mv (.const (Value.int .i64 (Int.ofNat 1)))), none⟩])
 .ret)
 .skip))
 (.seq (.ops [⟨(some 15), (.mv (.tmp 0)), none⟩,
  ⟨(some 16), (.nilCheck (.tmp 15)), none⟩,
  ⟨(some 17), (.addOff (.tmp 16) 7), none⟩,
  ⟨(some 18), (.load (.tmp 17) none), none⟩,
  ⟨(some 19), (.mv (.tmp 2)), none⟩,
  ⟨(some 20), (.lookup (false, [.i]) (.tmp 18) (.tmp 19) (Value.agg #[(Value.int .i64 (Int.ofNat 0)), (Value.slice none 0 0), (Value.int .i64 (Int.ofNat 0)), (Value.bool false)]) true), none⟩,
  ⟨(some 14), (.mv (.tmp 20)), none⟩,
  ⟨(some 21), (.extract (.tmp 14) 0), none⟩,
  ⟨(some 22), (.extract (.tmp 14) 1), none⟩,
  ⟨(some 8), (.alloc [(Value.int .i64 (Int.ofNat 0)), (Value.slice none 0 0), (Value.int .i64 (Int.ofNat 0)), (Value.bool false)]), none⟩,
  ⟨none, (.store (.tmp 8) (.tmp 21) 4), none⟩,
  ⟨(some 9), (.mv (.tmp 22)), none⟩])
 (.seq (.seq (.ops [⟨(some 23), (.mv (.tmp 9)), none⟩,
  ⟨(some 24), (.un .not (.tmp 23)), none⟩])
 (.cond (.tmp 24) none
 (.seq (.ops [⟨(some 6), (.mv (.const (Value.bool false))), none⟩,
  ⟨(some 7), (.mv (.const (Value.int .i64 (Int.ofNat 0)))), none⟩])
 .ret)
 .skip))
 (.seq (.ops [⟨(some 25), (.mv (.tmp 0)), none⟩,
  ⟨(some 26), (.nilCheck (.tmp 25)), none⟩,
  ⟨(some 27), (.addOff (.tmp 26) 7), none⟩,
  ⟨(some 28), (.load (.tmp 27) none), none⟩,
  ⟨(some 29), (.mv (.tmp 2)), none⟩,
  ⟨none, (.delete (false, [.i]) (.tmp 28) (.tmp 29)), none⟩])
 (.seq (.draw 0 [⟨0, [0], ⟨(some 30), (.mv (.tmp 0)), none⟩, 0, 552⟩,
  ⟨1, [30], ⟨(some 31), (.nilCheck (.tmp 30)), none⟩, 0, 552⟩,
  ⟨2, [31], ⟨(some 32), (.addOff (.tmp 31) 4), none⟩, 0, 552⟩,
  ⟨3, [32], ⟨(some 33), (.load (.tmp 32) none), none⟩, 0, 552⟩,
  ⟨4, [8], ⟨(some 34), (.addOff (.tmp 8) 2), none⟩, 0, 552⟩,
  ⟨5, [34], ⟨(some 35), (.load (.tmp 34) none), none⟩, 0, 552⟩,
  ⟨6, [0], ⟨(some 36), (.mv (.tmp 0)), none⟩, 0, 552⟩,
  ⟨7, [36], ⟨(some 37), (.nilCheck (.tmp 36)), none⟩, 0, 552⟩,
  ⟨8, [37], ⟨(some 38), (.addOff (.tmp 37) 5), none⟩, 0, 552⟩,
  ⟨9, [38], ⟨(some 39), (.load (.tmp 38) none), none⟩, 0, 552⟩,
  ⟨10, [33, 35, 39], ⟨(some 40), (.call 14 [(.tmp 33), (.tmp 35), (.tmp 39)]), none⟩, 0, 0⟩])
 (.seq (.ops [⟨(some 41), (.mv (.tmp 1)), none⟩,
  ⟨(some 42), (.addOff (.tmp 8) 0), none⟩,
  ⟨(some 43), (.load (.tmp 42) (some 2)), none⟩,
  ⟨(some 44), (.call 28 [(.tmp 41), (.tmp 43), (.const (Value.int .u8 (Int.ofNat 0)))]), none⟩,
  ⟨(some 10), (.mv (.tmp 44)), none⟩])
 (.seq (.seq (.ops [⟨(some 45), (.addOff (.tmp 8) 3), none⟩,
  ⟨(some 46), (.load (.tmp 45) none), none⟩])
 (.cond (.tmp 46) (some [0, 1, 8, 10])
 (.ops [⟨(some 47), (.mv (.tmp 10)), none⟩,
  ⟨(some 48), (.bin .add (.tmp 47) (.const (Value.int .i64 (Int.ofNat 256)))), none⟩,
  ⟨(some 10), (.mv (.tmp 48)), none⟩])
 .skip))
 (.seq (.draw 0 [⟨0, [0], ⟨(some 49), (.mv (.tmp 0)), none⟩, 0, 136⟩,
  ⟨1, [49], ⟨(some 50), (.nilCheck (.tmp 49)), none⟩, 0, 136⟩,
  ⟨2, [50], ⟨(some 51), (.addOff (.tmp 50) 0), none⟩, 0, 136⟩,
  ⟨3, [51], ⟨(some 52), (.load (.tmp 51) none), none⟩, 0, 136⟩,
  ⟨4, [1], ⟨(some 53), (.mv (.tmp 1)), none⟩, 0, 136⟩,
  ⟨5, [8], ⟨(some 54), (.addOff (.tmp 8) 0), none⟩, 0, 136⟩,
  ⟨6, [54], ⟨(some 55), (.addOff (.tmp 54) 0), none⟩, 0, 136⟩,
  ⟨7, [55], ⟨(some 56), (.load (.tmp 55) none), none⟩, 0, 136⟩,
  ⟨8, [10], ⟨(some 57), (.mv (.tmp 10)), none⟩, 0, 136⟩,
  ⟨9, [52, 53, 56, 57], ⟨(some 58), (.call 27 [(.tmp 52), (.tmp 53), (.tmp 56), (.tmp 57)]), none⟩, 0, 0⟩,
  ⟨10, [], ⟨(some 6), (.mv (.const (Value.bool true))), none⟩, 0, 0⟩,
  ⟨11, [58], ⟨(some 7), (.mv (.tmp 58)), none⟩, 0, 0⟩])
 .ret))))))))),
 [(.tmp 6), (.tmp 7)], 3⟩
/- (*palisade/frames.Frames).Owner -/
def k12 : KFunc := ⟨(.seq (.ops [⟨(some 4), (.mv (.const (Value.int .i64 (Int.ofNat 0)))), none⟩,
  ⟨(some 5), (.mv (.const (Value.int .i64 (Int.ofNat 0)))), none⟩,
  ⟨(some 6), (.mv (.const (Value.bool false))), none⟩])
 (.seq (.seq (.ops [⟨(some 7), (.mv (.tmp 0)), none⟩,
  ⟨(some 8), (.call 37 [(.tmp 7)]), none⟩,
  ⟨(some 9), (.mv (.tmp 8)), none⟩,
  ⟨(some 10), (.mv (.tmp 0)), (some (9, false))⟩,
  ⟨(some 11), (.nilCheck (.tmp 10)), (some (9, false))⟩,
  ⟨(some 12), (.addOff (.tmp 11) 2), (some (9, false))⟩,
  ⟨(some 13), (.load (.tmp 12) none), (some (9, false))⟩,
  ⟨(some 14), (.mv (.tmp 1)), (some (9, false))⟩,
  ⟨(some 15), (.lookup (false, [.i]) (.tmp 13) (.tmp 14) (Value.int .i64 (Int.ofNat 0)) false), (some (9, false))⟩,
  ⟨(some 16), (.bin .eql (.tmp 15) (.const (Value.int .i64 (Int.ofNat 0)))), (some (9, false))⟩,
  ⟨(some 17), (.pick (.tmp 9) (.const (Value.bool true)) (.tmp 16)), none⟩])
 (.cond (.tmp 17) none
 (.seq (.ops [⟨(some 4), (.mv (.const (Value.int .i64 (Int.ofNat 0)))), none⟩,
  ⟨(some 5), (.mv (.const (Value.int .i64 (Int.ofNat 0)))), none⟩,
  ⟨(some 6), (.mv (.const (Value.bool false))), none⟩])
 .ret)
 .skip))
 (.seq (.draw 0 [⟨0, [0], ⟨(some 18), (.mv (.tmp 0)), none⟩, 0, 2600⟩,
  ⟨1, [18], ⟨(some 19), (.nilCheck (.tmp 18)), none⟩, 0, 2600⟩,
  ⟨2, [19], ⟨(some 20), (.addOff (.tmp 19) 3), none⟩, 0, 2600⟩,
  ⟨3, [20], ⟨(some 21), (.load (.tmp 20) none), none⟩, 0, 2600⟩,
  ⟨4, [1], ⟨(some 22), (.mv (.tmp 1)), none⟩, 0, 2600⟩,
  ⟨5, [21, 22], ⟨(some 23), (.lookup (false, [.i]) (.tmp 21) (.tmp 22) (Value.int .i64 (Int.ofNat 0)) false), none⟩, 0, 2592⟩,
  ⟨6, [0], ⟨(some 24), (.mv (.tmp 0)), none⟩, 0, 2600⟩,
  ⟨7, [24], ⟨(some 25), (.nilCheck (.tmp 24)), none⟩, 0, 2600⟩,
  ⟨8, [25], ⟨(some 26), (.addOff (.tmp 25) 2), none⟩, 0, 2600⟩,
  ⟨9, [26], ⟨(some 27), (.load (.tmp 26) none), none⟩, 0, 2600⟩,
  ⟨10, [1], ⟨(some 28), (.mv (.tmp 1)), none⟩, 0, 2600⟩,
  ⟨11, [27, 28], ⟨(some 29), (.lookup (false, [.i]) (.tmp 27) (.tmp 28) (Value.int .i64 (Int.ofNat 0)) false), none⟩, 0, 2088⟩,
  ⟨12, [23], ⟨(some 4), (.mv (.tmp 23)), none⟩, 0, 2560⟩,
  ⟨13, [29], ⟨(some 5), (.mv (.tmp 29)), none⟩, 0, 0⟩,
  ⟨14, [], ⟨(some 6), (.mv (.const (Value.bool true))), none⟩, 0, 0⟩])
 .ret))),
 [(.tmp 4), (.tmp 5), (.tmp 6)], 2⟩
/- (*palisade/backend.Block).Drop -/
def k13 : KFunc := ⟨(.seq (.seq (.ops [⟨(some 4), (.mv (.tmp 0)), none⟩,
  ⟨(some 5), (.eqv .ptr false (.tmp 4) (.const (Value.pointer none))), none⟩])
 (.cond (.tmp 5) none
 .ret
 .skip))
 (.seq (.ops [⟨(some 6), (.mv (.tmp 0)), none⟩,
  ⟨(some 7), (.nilCheck (.tmp 6)), none⟩,
  ⟨(some 8), (.addOff (.tmp 7) 7), none⟩,
  ⟨(some 9), (.load (.tmp 8) none), none⟩,
  ⟨(some 10), (.range false (.tmp 9)), none⟩])
 (.block 0 [] (.loop [0, 10] (.seq (.ops [⟨(some 11), (.nextM (.tmp 10)), none⟩,
  ⟨(some 12), (.extract (.tmp 11) 0), none⟩])
 (.seq (.cond (.tmp 12) none
 .skip
 (.exit 0))
 (.block 1 [0, 10] (.seq (.ops [⟨(some 13), (.entry (.tmp 10)), none⟩,
  ⟨(some 14), (.extract (.tmp 13) 0), none⟩,
  ⟨(some 15), (.extract (.tmp 13) 1), none⟩,
  ⟨(some 3), (.alloc [(Value.int .i64 (Int.ofNat 0)), (Value.slice none 0 0), (Value.int .i64 (Int.ofNat 0)), (Value.bool false)]), none⟩,
  ⟨(some 2), (.mv (.tmp 14)), none⟩,
  ⟨none, (.store (.tmp 3) (.tmp 15) 4), none⟩])
 (.seq (.ops [⟨(some 16), (.mv (.tmp 0)), none⟩,
  ⟨(some 17), (.nilCheck (.tmp 16)), none⟩,
  ⟨(some 18), (.addOff (.tmp 17) 7), none⟩,
  ⟨(some 19), (.load (.tmp 18) none), none⟩,
  ⟨(some 20), (.mv (.tmp 2)), none⟩,
  ⟨none, (.delete (false, [.i]) (.tmp 19) (.tmp 20)), none⟩])
 (.draw 0 [⟨0, [0], ⟨(some 21), (.mv (.tmp 0)), none⟩, 0, 552⟩,
  ⟨1, [21], ⟨(some 22), (.nilCheck (.tmp 21)), none⟩, 0, 552⟩,
  ⟨2, [22], ⟨(some 23), (.addOff (.tmp 22) 4), none⟩, 0, 552⟩,
  ⟨3, [23], ⟨(some 24), (.load (.tmp 23) none), none⟩, 0, 552⟩,
  ⟨4, [3], ⟨(some 25), (.addOff (.tmp 3) 2), none⟩, 0, 552⟩,
  ⟨5, [25], ⟨(some 26), (.load (.tmp 25) none), none⟩, 0, 552⟩,
  ⟨6, [0], ⟨(some 27), (.mv (.tmp 0)), none⟩, 0, 552⟩,
  ⟨7, [27], ⟨(some 28), (.nilCheck (.tmp 27)), none⟩, 0, 552⟩,
  ⟨8, [28], ⟨(some 29), (.addOff (.tmp 28) 5), none⟩, 0, 552⟩,
  ⟨9, [29], ⟨(some 30), (.load (.tmp 29) none), none⟩, 0, 552⟩,
  ⟨10, [24, 26, 30], ⟨(some 31), (.call 14 [(.tmp 24), (.tmp 26), (.tmp 30)]), none⟩, 0, 0⟩])))))))))),
 [], 1⟩
/- (*palisade/frames.Frames).Free -/
def k14 : KFunc := ⟨(.seq (.ops [⟨(some 6), (.mv (.const (Value.bool false))), none⟩,
  ⟨(some 7), (.mv (.const (Value.int .i64 (Int.ofNat 0)))), none⟩])
 (.seq (.ops [⟨(some 9), (.mv (.tmp 0)), none⟩,
  ⟨(some 10), (.mv (.tmp 1)), none⟩,
  ⟨(some 11), (.mv (.tmp 2)), none⟩,
  ⟨(some 12), (.mkLit 1 1 [(Value.int .i64 (Int.ofNat 0))] [(0, (.tmp 11))]), none⟩,
  ⟨(some 13), (.call 38 [(.tmp 9), (.tmp 10), (.tmp 12)]), none⟩,
  ⟨(some 8), (.mv (.tmp 13)), none⟩])
 (.seq (.block 0 [0, 1, 2] (.seq (.ops [⟨(some 15), (.mv (.tmp 8)), none⟩,
  ⟨(some 16), (.bin .neq (.tmp 15) (.const (Value.int .i64 (Int.ofNat 0)))), none⟩,
  ⟨(some 14), (.mv (.tmp 16)), none⟩])
 (.cond (.tmp 14) none
 (.seq (.ops [⟨(some 17), (.mv (.tmp 8)), none⟩,
  ⟨(some 6), (.mv (.const (Value.bool false))), none⟩,
  ⟨(some 7), (.mv (.tmp 17)), none⟩])
 .ret)
 (.seq (.ops [⟨(some 19), (.mv (.tmp 1)), none⟩,
  ⟨(some 20), (.mv (.tmp 0)), none⟩,
  ⟨(some 21), (.nilCheck (.tmp 20)), none⟩,
  ⟨(some 22), (.addOff (.tmp 21) 1), none⟩,
  ⟨(some 23), (.load (.tmp 22) none), none⟩,
  ⟨(some 24), (.bin .lss (.tmp 19) (.tmp 23)), none⟩,
  ⟨(some 18), (.mv (.tmp 24)), none⟩])
 (.cond (.tmp 18) none
 (.seq (.ops [⟨(some 6), (.mv (.const (Value.bool false))), none⟩,
  ⟨(some 7), (.mv (.const (Value.int .i64 (Int.ofNat 21)))), none⟩])
 .ret)
 .skip)))))
 (.seq (.ops [⟨(some 25), (.mv (.tmp 0)), none⟩,
  ⟨(some 26), (.nilCheck (.tmp 25)), none⟩,
  ⟨(some 27), (.addOff (.tmp 26) 2), none⟩,
  ⟨(some 28), (.load (.tmp 27) none), none⟩,
  ⟨(some 29), (.mv (.tmp 1)), none⟩,
  ⟨(some 30), (.lookup (false, [.i]) (.tmp 28) (.tmp 29) (Value.int .i64 (Int.ofNat 0)) false), none⟩,
  ⟨(some 31), (.bin .sub (.tmp 30) (.const (Value.int .i64 (Int.ofNat 1)))), none⟩,
  ⟨none, (.mapUpdate (false, [.i]) (.tmp 28) (.tmp 29) (.tmp 31)), none⟩])
 (.seq (.seq (.ops [⟨(some 32), (.mv (.tmp 0)), none⟩,
  ⟨(some 33), (.nilCheck (.tmp 32)), none⟩,
  ⟨(some 34), (.addOff (.tmp 33) 2), none⟩,
  ⟨(some 35), (.load (.tmp 34) none), none⟩,
  ⟨(some 36), (.mv (.tmp 1)), none⟩,
  ⟨(some 37), (.lookup (false, [.i]) (.tmp 35) (.tmp 36) (Value.int .i64 (Int.ofNat 0)) false), none⟩,
  ⟨(some 38), (.bin .gtr (.tmp 37) (.const (Value.int .i64 (Int.ofNat 0)))), none⟩])
 (.cond (.tmp 38) none
 (.seq (.ops [⟨(some 6), (.mv (.const (Value.bool false))), none⟩,
  ⟨(some 7), (.mv (.const (Value.int .i64 (Int.ofNat 0)))), none⟩])
 .ret)
 .skip))
 (.seq (.ops [⟨(some 39), (.mv (.tmp 0)), none⟩,
  ⟨(some 40), (.nilCheck (.tmp 39)), none⟩,
  ⟨(some 41), (.addOff (.tmp 40) 2), none⟩,
  ⟨(some 42), (.load (.tmp 41) none), none⟩,
  ⟨(some 43), (.mv (.tmp 1)), none⟩,
  ⟨none, (.delete (false, [.i]) (.tmp 42) (.tmp 43)), none⟩])
 (.seq (.ops [⟨(some 44), (.mv (.tmp 0)), none⟩,
  ⟨(some 45), (.nilCheck (.tmp 44)), none⟩,
  ⟨(some 46), (.addOff (.tmp 45) 3), none⟩,
  ⟨(some 47), (.load (.tmp 46) none), none⟩,
  ⟨(some 48), (.mv (.tmp 1)), none⟩,
  ⟨none, (.delete (false, [.i]) (.tmp 47) (.tmp 48)), none⟩])
 (.seq (.draw 0 [⟨0, [0], ⟨(some 49), (.mv (.tmp 0)), none⟩, 0, 32⟩,
  ⟨1, [2], ⟨(some 50), (.mv (.tmp 2)), none⟩, 0, 32⟩,
  ⟨2, [49], ⟨(some 51), (.nilCheck (.tmp 49)), none⟩, 0, 32⟩,
  ⟨3, [51], ⟨(some 52), (.addOff (.tmp 51) 4), none⟩, 0, 32⟩,
  ⟨4, [52, 50], ⟨(some 53), (.ixA (.tmp 52) (.tmp 50) 17 1), none⟩, 0, 32⟩,
  ⟨5, [53], ⟨(some 54), (.load (.tmp 53) none), none⟩, 0, 32⟩,
  ⟨6, [54], ⟨(some 55), (.bin .sub (.tmp 54) (.const (Value.int .i64 (Int.ofNat 1)))), none⟩, 0, 0⟩,
  ⟨7, [49], ⟨(some 56), (.nilCheck (.tmp 49)), none⟩, 0, 32⟩,
  ⟨8, [56], ⟨(some 57), (.addOff (.tmp 56) 4), none⟩, 0, 32⟩,
  ⟨9, [57, 50], ⟨(some 58), (.ixA (.tmp 57) (.tmp 50) 17 1), none⟩, 0, 0⟩,
  ⟨10, [58, 55], ⟨none, (.store (.tmp 58) (.tmp 55) 1), none⟩, 0, 0⟩])
 (.seq (.ops [⟨(some 59), (.mv (.tmp 0)), none⟩,
  ⟨(some 60), (.mv (.tmp 0)), none⟩,
  ⟨(some 61), (.nilCheck (.tmp 60)), none⟩,
  ⟨(some 62), (.addOff (.tmp 61) 38), none⟩,
  ⟨(some 63), (.load (.tmp 62) none), none⟩,
  ⟨(some 64), (.mv (.tmp 1)), none⟩,
  ⟨(some 65), (.minmax false [(.tmp 63), (.tmp 64)]), none⟩,
  ⟨(some 66), (.nilCheck (.tmp 59)), none⟩,
  ⟨(some 67), (.addOff (.tmp 66) 38), none⟩,
  ⟨none, (.store (.tmp 67) (.tmp 65) 1), none⟩])
 (.seq (.ops [⟨(some 6), (.mv (.const (Value.bool true))), none⟩,
  ⟨(some 7), (.mv (.const (Value.int .i64 (Int.ofNat 0)))), none⟩])
 .ret)))))))))),
 [(.tmp 6), (.tmp 7)], 3⟩
/- palisade/mem.New -/
def k16 : KFunc := ⟨(.seq (.ops [⟨(some 2), (.mv (.const (Value.pointer none))), none⟩,
  ⟨(some 3), (.mv (.const (Value.int .i64 (Int.ofNat 0)))), none⟩])
 (.seq (.seq (.ops [⟨(some 4), (.mv (.tmp 0)), none⟩,
  ⟨(some 5), (.bin .lss (.tmp 4) (.const (Value.int .i64 (Int.ofNat 1)))), none⟩,
  ⟨(some 6), (.mv (.tmp 5)), none⟩,
  ⟨(some 7), (.mv (.tmp 0)), (some (6, false))⟩,
  ⟨(some 8), (.bin .gtr (.tmp 7) (.const (Value.int .i64 (Int.ofNat 65536)))), (some (6, false))⟩,
  ⟨(some 9), (.pick (.tmp 6) (.const (Value.bool true)) (.tmp 8)), none⟩])
 (.cond (.tmp 9) none
 (.seq (.ops [⟨(some 2), (.mv (.const (Value.pointer none))), none⟩,
  ⟨(some 3), (.mv (.const (Value.int .i64 (Int.ofNat 2)))), none⟩])
 .ret)
 .skip))
 (.seq (.ops [⟨(some 10), (.mv (.tmp 0)), none⟩,
  ⟨(some 11), (.bin .mul (.tmp 10) (.const (Value.int .i64 (Int.ofNat 256)))), none⟩,
  ⟨(some 12), (.makeSlice (.tmp 11) (.tmp 11) [(Value.int .u8 (Int.ofNat 0))] 1), none⟩,
  ⟨(some 13), (.build [(Value.slice none 0 0)] [(0, (1, (.tmp 12)))]), none⟩,
  ⟨(some 14), (.box (.tmp 13)), none⟩,
  ⟨(some 2), (.mv (.tmp 14)), none⟩,
  ⟨(some 3), (.mv (.const (Value.int .i64 (Int.ofNat 0)))), none⟩])
 .ret))),
 [(.tmp 2), (.tmp 3)], 1⟩
/- palisade/frames.New -/
def k17 : KFunc := ⟨(.seq (.ops [⟨(some 4), (.mv (.const (Value.pointer none))), none⟩,
  ⟨(some 5), (.mv (.const (Value.int .i64 (Int.ofNat 0)))), none⟩])
 (.seq (.seq (.ops [⟨(some 9), (.mv (.tmp 0)), none⟩,
  ⟨(some 10), (.bin .lss (.tmp 9) (.const (Value.int .i64 (Int.ofNat 1)))), none⟩,
  ⟨(some 11), (.mv (.tmp 10)), none⟩,
  ⟨(some 12), (.mv (.tmp 0)), (some (11, false))⟩,
  ⟨(some 13), (.bin .gtr (.tmp 12) (.const (Value.int .i64 (Int.ofNat 65536)))), (some (11, false))⟩,
  ⟨(some 14), (.pick (.tmp 11) (.const (Value.bool true)) (.tmp 13)), none⟩,
  ⟨(some 15), (.mv (.tmp 14)), none⟩,
  ⟨(some 16), (.mv (.tmp 1)), (some (15, false))⟩,
  ⟨(some 17), (.bin .lss (.tmp 16) (.const (Value.int .i64 (Int.ofNat 0)))), (some (15, false))⟩,
  ⟨(some 18), (.pick (.tmp 15) (.const (Value.bool true)) (.tmp 17)), none⟩,
  ⟨(some 19), (.mv (.tmp 18)), none⟩,
  ⟨(some 20), (.mv (.tmp 1)), (some (19, false))⟩,
  ⟨(some 21), (.mv (.tmp 0)), (some (19, false))⟩,
  ⟨(some 22), (.bin .gtr (.tmp 20) (.tmp 21)), (some (19, false))⟩,
  ⟨(some 23), (.pick (.tmp 19) (.const (Value.bool true)) (.tmp 22)), none⟩])
 (.cond (.tmp 23) none
 (.seq (.ops [⟨(some 4), (.mv (.const (Value.pointer none))), none⟩,
  ⟨(some 5), (.mv (.const (Value.int .i64 (Int.ofNat 2)))), none⟩])
 .ret)
 .skip))
 (.seq (.ops [⟨(some 24), (.mv (.tmp 0)), none⟩,
  ⟨(some 25), (.mv (.tmp 1)), none⟩,
  ⟨(some 26), .makeMap, none⟩,
  ⟨(some 27), .makeMap, none⟩,
  ⟨(some 28), (.mv (.tmp 1)), none⟩,
  ⟨(some 29), (.build [(Value.int .i64 (Int.ofNat 0)), (Value.int .i64 (Int.ofNat 0)), (Value.map none), (Value.map none), (Value.int .i64 (Int.ofNat 0)), (Value.int .i64 (Int.ofNat 0)), (Value.int .i64 (Int.ofNat 0)), (Value.int .i64 (Int.ofNat 0)), (Value.int .i64 (Int.ofNat 0)), (Value.int .i64 (Int.ofNat 0)), (Value.int .i64 (Int.ofNat 0)), (Value.int .i64 (Int.ofNat 0)), (Value.int .i64 (Int.ofNat 0)), (Value.int .i64 (Int.ofNat 0)), (Value.int .i64 (Int.ofNat 0)), (Value.int .i64 (Int.ofNat 0)), (Value.int .i64 (Int.ofNat 0)), (Value.int .i64 (Int.ofNat 0)), (Value.int .i64 (Int.ofNat 0)), (Value.int .i64 (Int.ofNat 0)), (Value.int .i64 (Int.ofNat 0)), (Value.int .i64 (Int.ofNat 0)), (Value.int .i64 (Int.ofNat 0)), (Value.int .i64 (Int.ofNat 0)), (Value.int .i64 (Int.ofNat 0)), (Value.int .i64 (Int.ofNat 0)), (Value.int .i64 (Int.ofNat 0)), (Value.int .i64 (Int.ofNat 0)), (Value.int .i64 (Int.ofNat 0)), (Value.int .i64 (Int.ofNat 0)), (Value.int .i64 (Int.ofNat 0)), (Value.int .i64 (Int.ofNat 0)), (Value.int .i64 (Int.ofNat 0)), (Value.int .i64 (Int.ofNat 0)), (Value.int .i64 (Int.ofNat 0)), (Value.int .i64 (Int.ofNat 0)), (Value.int .i64 (Int.ofNat 0)), (Value.int .i64 (Int.ofNat 0)), (Value.int .i64 (Int.ofNat 0))] [(0, (1, (.tmp 24))), (1, (1, (.tmp 25))), (2, (1, (.tmp 26))), (3, (1, (.tmp 27))), (38, (1, (.tmp 28)))]), none⟩,
  ⟨(some 30), (.box (.tmp 29)), none⟩,
  ⟨(some 6), (.mv (.tmp 30)), none⟩])
 (.seq (.seq (.ops [⟨(some 31), (.mv (.tmp 1)), none⟩,
  ⟨(some 32), (.mv (.const (Value.int .i64 (Int.ofNat 0)))), none⟩])
 (.block 0 [0, 1, 6] (.loop [0, 1, 6, 31, 32] (.seq (.ops [⟨(some 33), (.bin .lss (.tmp 32) (.tmp 31)), none⟩])
 (.seq (.cond (.tmp 33) none
 .skip
 (.exit 0))
 (.seq (.block 1 [0, 1, 6, 31, 32] (.seq (.ops [⟨(some 34), (.mv (.tmp 32)), none⟩,
  ⟨(some 7), (.mv (.tmp 34)), none⟩])
 (.ops [⟨(some 35), (.mv (.tmp 6)), none⟩,
  ⟨(some 36), (.nilCheck (.tmp 35)), none⟩,
  ⟨(some 37), (.addOff (.tmp 36) 2), none⟩,
  ⟨(some 38), (.load (.tmp 37) none), none⟩,
  ⟨(some 39), (.mv (.tmp 7)), none⟩,
  ⟨none, (.mapUpdate (false, [.i]) (.tmp 38) (.tmp 39) (.const (Value.int .i64 (Int.ofNat 1)))), none⟩])))
 (.ops [⟨(some 40), (.bin .add (.tmp 32) (.const (Value.int .i64 (Int.ofNat 1)))), none⟩,
  ⟨(some 32), (.mv (.tmp 40)), none⟩])))))))
 (.seq (.ops [⟨(some 41), (.mv (.tmp 6)), none⟩,
  ⟨(some 42), (.mv (.tmp 1)), none⟩,
  ⟨(some 43), (.nilCheck (.tmp 41)), none⟩,
  ⟨(some 44), (.addOff (.tmp 43) 4), none⟩,
  ⟨(some 45), (.ixA (.tmp 44) (.const (Value.int .i64 (Int.ofNat 0))) 17 1), none⟩,
  ⟨none, (.store (.tmp 45) (.tmp 42) 1), none⟩])
 (.seq (.seq (.ops [⟨(some 46), (.mv (.const (Value.int .i64 (Int.ofNat 0)))), none⟩])
 (.block 2 [6] (.loop [0, 6, 46] (.seq (.ops [⟨(some 47), (.bin .lss (.tmp 46) (.const (Value.int .i64 (Int.ofNat 17)))), none⟩])
 (.seq (.cond (.tmp 47) none
 .skip
 (.exit 2))
 (.seq (.block 3 [0, 6, 46] (.seq (.ops [⟨(some 48), (.mv (.tmp 46)), none⟩,
  ⟨(some 8), (.mv (.tmp 48)), none⟩])
 (.ops [⟨(some 49), (.mv (.tmp 6)), none⟩,
  ⟨(some 50), (.mv (.tmp 8)), none⟩,
  ⟨(some 51), (.mv (.tmp 0)), none⟩,
  ⟨(some 52), (.nilCheck (.tmp 49)), none⟩,
  ⟨(some 53), (.addOff (.tmp 52) 21), none⟩,
  ⟨(some 54), (.ixA (.tmp 53) (.tmp 50) 17 1), none⟩,
  ⟨none, (.store (.tmp 54) (.tmp 51) 1), none⟩])))
 (.ops [⟨(some 55), (.bin .add (.tmp 46) (.const (Value.int .i64 (Int.ofNat 1)))), none⟩,
  ⟨(some 46), (.mv (.tmp 55)), none⟩])))))))
 (.seq (.ops [⟨(some 56), (.mv (.tmp 6)), none⟩,
  ⟨(some 4), (.mv (.tmp 56)), none⟩,
  ⟨(some 5), (.mv (.const (Value.int .i64 (Int.ofNat 0)))), none⟩])
 .ret))))))),
 [(.tmp 4), (.tmp 5)], 2⟩
/- palisade/disk.New -/
def k18 : KFunc := ⟨(.seq (.ops [⟨(some 2), (.mv (.const (Value.pointer none))), none⟩,
  ⟨(some 3), (.mv (.const (Value.int .i64 (Int.ofNat 0)))), none⟩])
 (.seq (.seq (.ops [⟨(some 4), (.mv (.tmp 0)), none⟩,
  ⟨(some 5), (.bin .lss (.tmp 4) (.const (Value.int .i64 (Int.ofNat 1)))), none⟩,
  ⟨(some 6), (.mv (.tmp 5)), none⟩,
  ⟨(some 7), (.mv (.tmp 0)), (some (6, false))⟩,
  ⟨(some 8), (.bin .gtr (.tmp 7) (.const (Value.int .i64 (Int.ofNat 65536)))), (some (6, false))⟩,
  ⟨(some 9), (.pick (.tmp 6) (.const (Value.bool true)) (.tmp 8)), none⟩])
 (.cond (.tmp 9) none
 (.seq (.ops [⟨(some 2), (.mv (.const (Value.pointer none))), none⟩,
  ⟨(some 3), (.mv (.const (Value.int .i64 (Int.ofNat 2)))), none⟩])
 .ret)
 .skip))
 (.seq (.ops [⟨(some 10), (.mv (.tmp 0)), none⟩,
  ⟨(some 11), .makeMap, none⟩,
  ⟨(some 12), (.build [(Value.int .i64 (Int.ofNat 0)), (Value.map none), (Value.slice none 0 0)] [(0, (1, (.tmp 10))), (1, (1, (.tmp 11)))]), none⟩,
  ⟨(some 13), (.box (.tmp 12)), none⟩,
  ⟨(some 2), (.mv (.tmp 13)), none⟩,
  ⟨(some 3), (.mv (.const (Value.int .i64 (Int.ofNat 0)))), none⟩])
 .ret))),
 [(.tmp 2), (.tmp 3)], 1⟩
/- (*palisade/frames.Frames).Alloc -/
def k19 : KFunc := ⟨(.seq (.ops [⟨(some 4), (.mv (.const (Value.int .i64 (Int.ofNat 0)))), none⟩,
  ⟨(some 5), (.mv (.const (Value.int .i64 (Int.ofNat 0)))), none⟩])
 (.seq (.ops [⟨(some 7), (.mv (.tmp 0)), none⟩,
  ⟨(some 8), (.mv (.tmp 1)), none⟩,
  ⟨(some 9), (.mkLit 1 1 [(Value.int .i64 (Int.ofNat 0))] [(0, (.tmp 8))]), none⟩,
  ⟨(some 10), (.call 40 [(.tmp 7), (.tmp 9)]), none⟩,
  ⟨(some 6), (.mv (.tmp 10)), none⟩])
 (.seq (.block 0 [0, 1] (.seq (.ops [⟨(some 12), (.mv (.tmp 6)), none⟩,
  ⟨(some 13), (.bin .neq (.tmp 12) (.const (Value.int .i64 (Int.ofNat 0)))), none⟩,
  ⟨(some 11), (.mv (.tmp 13)), none⟩])
 (.cond (.tmp 11) none
 (.seq (.ops [⟨(some 14), (.mv (.tmp 6)), none⟩,
  ⟨(some 4), (.mv (.const (Value.int .i64 (Int.ofNat 0)))), none⟩,
  ⟨(some 5), (.mv (.tmp 14)), none⟩])
 .ret)
 (.seq (.draw 0 [⟨0, [0], ⟨(some 16), (.mv (.tmp 0)), none⟩, 0, 2080⟩,
  ⟨1, [1], ⟨(some 17), (.mv (.tmp 1)), none⟩, 0, 2080⟩,
  ⟨2, [16], ⟨(some 18), (.nilCheck (.tmp 16)), none⟩, 0, 2080⟩,
  ⟨3, [18], ⟨(some 19), (.addOff (.tmp 18) 4), none⟩, 0, 2080⟩,
  ⟨4, [19, 17], ⟨(some 20), (.ixA (.tmp 19) (.tmp 17) 17 1), none⟩, 0, 2080⟩,
  ⟨5, [20], ⟨(some 21), (.load (.tmp 20) none), none⟩, 0, 2080⟩,
  ⟨6, [0], ⟨(some 22), (.mv (.tmp 0)), none⟩, 0, 2080⟩,
  ⟨7, [1], ⟨(some 23), (.mv (.tmp 1)), none⟩, 0, 2080⟩,
  ⟨8, [22], ⟨(some 24), (.nilCheck (.tmp 22)), none⟩, 0, 2080⟩,
  ⟨9, [24], ⟨(some 25), (.addOff (.tmp 24) 21), none⟩, 0, 2080⟩,
  ⟨10, [25, 23], ⟨(some 26), (.ixA (.tmp 25) (.tmp 23) 17 1), none⟩, 0, 2080⟩,
  ⟨11, [26], ⟨(some 27), (.load (.tmp 26) none), none⟩, 0, 2080⟩,
  ⟨12, [21, 27], ⟨(some 28), (.bin .geq (.tmp 21) (.tmp 27)), none⟩, 0, 0⟩,
  ⟨13, [28], ⟨(some 15), (.mv (.tmp 28)), none⟩, 0, 0⟩])
 (.cond (.tmp 15) none
 (.seq (.ops [⟨(some 4), (.mv (.const (Value.int .i64 (Int.ofNat 0)))), none⟩,
  ⟨(some 5), (.mv (.const (Value.int .i64 (Int.ofNat 19)))), none⟩])
 .ret)
 .skip)))))
 (.seq (.block 1 [0, 1] (.loop [0, 1] (.seq (.seq (.draw 0 [⟨0, [0], ⟨(some 29), (.mv (.tmp 0)), none⟩, 0, 401544⟩,
  ⟨1, [29], ⟨(some 30), (.nilCheck (.tmp 29)), none⟩, 0, 401544⟩,
  ⟨2, [30], ⟨(some 31), (.addOff (.tmp 30) 38), none⟩, 0, 401544⟩,
  ⟨3, [31], ⟨(some 32), (.load (.tmp 31) none), none⟩, 0, 401544⟩,
  ⟨4, [0], ⟨(some 33), (.mv (.tmp 0)), none⟩, 0, 401544⟩,
  ⟨5, [33], ⟨(some 34), (.nilCheck (.tmp 33)), none⟩, 0, 401544⟩,
  ⟨6, [34], ⟨(some 35), (.addOff (.tmp 34) 0), none⟩, 0, 401544⟩,
  ⟨7, [35], ⟨(some 36), (.load (.tmp 35) none), none⟩, 0, 401544⟩,
  ⟨8, [32, 36], ⟨(some 37), (.bin .lss (.tmp 32) (.tmp 36)), none⟩, 0, 401408⟩,
  ⟨9, [37], ⟨(some 38), (.mv (.tmp 37)), none⟩, 0, 401408⟩,
  ⟨10, [0, 38], ⟨(some 39), (.mv (.tmp 0)), (some (38, true))⟩, 0, 401408⟩,
  ⟨11, [39, 38], ⟨(some 40), (.nilCheck (.tmp 39)), (some (38, true))⟩, 0, 401408⟩,
  ⟨12, [40, 38], ⟨(some 41), (.addOff (.tmp 40) 2), (some (38, true))⟩, 0, 401408⟩,
  ⟨13, [41, 38], ⟨(some 42), (.load (.tmp 41) none), (some (38, true))⟩, 0, 401408⟩,
  ⟨14, [0, 38], ⟨(some 43), (.mv (.tmp 0)), (some (38, true))⟩, 0, 401408⟩,
  ⟨15, [43, 38], ⟨(some 44), (.nilCheck (.tmp 43)), (some (38, true))⟩, 0, 401408⟩,
  ⟨16, [44, 38], ⟨(some 45), (.addOff (.tmp 44) 38), (some (38, true))⟩, 0, 401408⟩,
  ⟨17, [45, 38], ⟨(some 46), (.load (.tmp 45) none), (some (38, true))⟩, 0, 401408⟩,
  ⟨18, [42, 46, 38], ⟨(some 47), (.lookup (false, [.i]) (.tmp 42) (.tmp 46) (Value.int .i64 (Int.ofNat 0)) false), (some (38, true))⟩, 0, 262144⟩,
  ⟨19, [47, 38], ⟨(some 48), (.bin .gtr (.tmp 47) (.const (Value.int .i64 (Int.ofNat 0)))), (some (38, true))⟩, 0, 0⟩,
  ⟨20, [38, 48], ⟨(some 49), (.pick (.tmp 38) (.tmp 48) (.const (Value.bool false))), none⟩, 0, 0⟩])
 (.cond (.tmp 49) none
 .skip
 (.exit 1)))
 (.block 2 [0, 1] (.ops [⟨(some 50), (.mv (.tmp 0)), none⟩,
  ⟨(some 51), (.nilCheck (.tmp 50)), none⟩,
  ⟨(some 52), (.addOff (.tmp 51) 38), none⟩,
  ⟨(some 53), (.load (.tmp 52) none), none⟩,
  ⟨(some 54), (.bin .add (.tmp 53) (.const (Value.int .i64 (Int.ofNat 1)))), none⟩,
  ⟨(some 55), (.nilCheck (.tmp 50)), none⟩,
  ⟨(some 56), (.addOff (.tmp 55) 38), none⟩,
  ⟨none, (.store (.tmp 56) (.tmp 54) 1), none⟩])))))
 (.seq (.seq (.draw 0 [⟨0, [0], ⟨(some 57), (.mv (.tmp 0)), none⟩, 0, 136⟩,
  ⟨1, [57], ⟨(some 58), (.nilCheck (.tmp 57)), none⟩, 0, 136⟩,
  ⟨2, [58], ⟨(some 59), (.addOff (.tmp 58) 38), none⟩, 0, 136⟩,
  ⟨3, [59], ⟨(some 60), (.load (.tmp 59) none), none⟩, 0, 136⟩,
  ⟨4, [0], ⟨(some 61), (.mv (.tmp 0)), none⟩, 0, 136⟩,
  ⟨5, [61], ⟨(some 62), (.nilCheck (.tmp 61)), none⟩, 0, 136⟩,
  ⟨6, [62], ⟨(some 63), (.addOff (.tmp 62) 0), none⟩, 0, 136⟩,
  ⟨7, [63], ⟨(some 64), (.load (.tmp 63) none), none⟩, 0, 136⟩,
  ⟨8, [60, 64], ⟨(some 65), (.bin .eql (.tmp 60) (.tmp 64)), none⟩, 0, 0⟩])
 (.cond (.tmp 65) none
 (.seq (.ops [⟨(some 4), (.mv (.const (Value.int .i64 (Int.ofNat 0)))), none⟩,
  ⟨(some 5), (.mv (.const (Value.int .i64 (Int.ofNat 20)))), none⟩])
 .ret)
 .skip))
 (.seq (.draw 0 [⟨0, [0], ⟨(some 66), (.mv (.tmp 0)), none⟩, 0, 34952⟩,
  ⟨1, [66], ⟨(some 67), (.nilCheck (.tmp 66)), none⟩, 0, 34952⟩,
  ⟨2, [67], ⟨(some 68), (.addOff (.tmp 67) 2), none⟩, 0, 34952⟩,
  ⟨3, [68], ⟨(some 69), (.load (.tmp 68) none), none⟩, 0, 34952⟩,
  ⟨4, [0], ⟨(some 70), (.mv (.tmp 0)), none⟩, 0, 34952⟩,
  ⟨5, [70], ⟨(some 71), (.nilCheck (.tmp 70)), none⟩, 0, 34952⟩,
  ⟨6, [71], ⟨(some 72), (.addOff (.tmp 71) 38), none⟩, 0, 34952⟩,
  ⟨7, [72], ⟨(some 73), (.load (.tmp 72) none), none⟩, 0, 34952⟩,
  ⟨8, [0], ⟨(some 74), (.mv (.tmp 0)), none⟩, 0, 34952⟩,
  ⟨9, [74], ⟨(some 75), (.nilCheck (.tmp 74)), none⟩, 0, 34952⟩,
  ⟨10, [75], ⟨(some 76), (.addOff (.tmp 75) 3), none⟩, 0, 34952⟩,
  ⟨11, [76], ⟨(some 77), (.load (.tmp 76) none), none⟩, 0, 34952⟩,
  ⟨12, [0], ⟨(some 78), (.mv (.tmp 0)), none⟩, 0, 34952⟩,
  ⟨13, [78], ⟨(some 79), (.nilCheck (.tmp 78)), none⟩, 0, 34952⟩,
  ⟨14, [79], ⟨(some 80), (.addOff (.tmp 79) 38), none⟩, 0, 34952⟩,
  ⟨15, [80], ⟨(some 81), (.load (.tmp 80) none), none⟩, 0, 34952⟩,
  ⟨16, [1], ⟨(some 82), (.mv (.tmp 1)), none⟩, 0, 34952⟩,
  ⟨17, [69, 73], ⟨(some 83), (.mapEntry (false, [.i]) (.tmp 69) (.tmp 73) (Value.int .i64 (Int.ofNat 0))), none⟩, 0, 0⟩,
  ⟨18, [83], ⟨(some 84), (.extract (.tmp 83) 1), none⟩, 0, 0⟩,
  ⟨19, [69, 84], ⟨none, (.entryStore (.tmp 69) (.tmp 84) (.const (Value.int .i64 (Int.ofNat 1)))), none⟩, 0, 0⟩,
  ⟨20, [77, 81], ⟨(some 85), (.mapEntry (false, [.i]) (.tmp 77) (.tmp 81) (Value.int .i64 (Int.ofNat 0))), none⟩, 0, 0⟩,
  ⟨21, [85], ⟨(some 86), (.extract (.tmp 85) 1), none⟩, 0, 0⟩,
  ⟨22, [77, 86, 82], ⟨none, (.entryStore (.tmp 77) (.tmp 86) (.tmp 82)), none⟩, 0, 0⟩])
 (.seq (.draw 0 [⟨0, [0], ⟨(some 87), (.mv (.tmp 0)), none⟩, 0, 32⟩,
  ⟨1, [1], ⟨(some 88), (.mv (.tmp 1)), none⟩, 0, 32⟩,
  ⟨2, [87], ⟨(some 89), (.nilCheck (.tmp 87)), none⟩, 0, 32⟩,
  ⟨3, [89], ⟨(some 90), (.addOff (.tmp 89) 4), none⟩, 0, 32⟩,
  ⟨4, [90, 88], ⟨(some 91), (.ixA (.tmp 90) (.tmp 88) 17 1), none⟩, 0, 32⟩,
  ⟨5, [91], ⟨(some 92), (.load (.tmp 91) none), none⟩, 0, 32⟩,
  ⟨6, [92], ⟨(some 93), (.bin .add (.tmp 92) (.const (Value.int .i64 (Int.ofNat 1)))), none⟩, 0, 0⟩,
  ⟨7, [87], ⟨(some 94), (.nilCheck (.tmp 87)), none⟩, 0, 32⟩,
  ⟨8, [94], ⟨(some 95), (.addOff (.tmp 94) 4), none⟩, 0, 32⟩,
  ⟨9, [95, 88], ⟨(some 96), (.ixA (.tmp 95) (.tmp 88) 17 1), none⟩, 0, 0⟩,
  ⟨10, [96, 93], ⟨none, (.store (.tmp 96) (.tmp 93) 1), none⟩, 0, 0⟩])
 (.seq (.ops [⟨(some 97), (.mv (.tmp 0)), none⟩,
  ⟨(some 98), (.nilCheck (.tmp 97)), none⟩,
  ⟨(some 99), (.addOff (.tmp 98) 38), none⟩,
  ⟨(some 100), (.load (.tmp 99) none), none⟩,
  ⟨(some 4), (.mv (.tmp 100)), none⟩,
  ⟨(some 5), (.mv (.const (Value.int .i64 (Int.ofNat 0)))), none⟩])
 .ret)))))))),
 [(.tmp 4), (.tmp 5)], 2⟩
/- palisade/ring.New -/
def k20 : KFunc := ⟨(.seq (.ops [⟨(some 4), (.mv (.const (Value.pointer none))), none⟩,
  ⟨(some 5), (.mv (.const (Value.int .i64 (Int.ofNat 0)))), none⟩])
 (.seq (.seq (.ops [⟨(some 6), (.mv (.tmp 1)), none⟩,
  ⟨(some 7), (.call 41 [(.tmp 6)]), none⟩,
  ⟨(some 8), (.un .not (.tmp 7)), none⟩,
  ⟨(some 9), (.mv (.tmp 8)), none⟩,
  ⟨(some 10), (.mv (.tmp 0)), (some (9, false))⟩,
  ⟨(some 11), (.bin .rem (.tmp 10) (.const (Value.int .u64 (Int.ofNat 8)))), (some (9, false))⟩,
  ⟨(some 12), (.bin .neq (.tmp 11) (.const (Value.int .u64 (Int.ofNat 0)))), (some (9, false))⟩,
  ⟨(some 13), (.pick (.tmp 9) (.const (Value.bool true)) (.tmp 12)), none⟩,
  ⟨(some 14), (.mv (.tmp 13)), none⟩,
  ⟨(some 15), (.mv (.tmp 0)), (some (14, false))⟩,
  ⟨(some 16), (.bin .gtr (.tmp 15) (.const (Value.int .u64 (Int.ofNat 1099511627776)))), (some (14, false))⟩,
  ⟨(some 17), (.pick (.tmp 14) (.const (Value.bool true)) (.tmp 16)), none⟩])
 (.cond (.tmp 17) none
 (.seq (.ops [⟨(some 4), (.mv (.const (Value.pointer none))), none⟩,
  ⟨(some 5), (.mv (.const (Value.int .i64 (Int.ofNat 2)))), none⟩])
 .ret)
 .skip))
 (.seq (.ops [⟨(some 18), (.mv (.tmp 0)), none⟩,
  ⟨(some 19), (.mv (.tmp 1)), none⟩,
  ⟨(some 20), (.conv .u64 (.tmp 19)), none⟩,
  ⟨(some 21), (.build [(Value.int .u64 (Int.ofNat 0)), (Value.int .u64 (Int.ofNat 0)), (Value.int .u64 (Int.ofNat 0)), (Value.int .u64 (Int.ofNat 0)), (Value.bool false)] [(0, (1, (.tmp 18))), (1, (1, (.tmp 20)))]), none⟩,
  ⟨(some 22), (.box (.tmp 21)), none⟩,
  ⟨(some 4), (.mv (.tmp 22)), none⟩,
  ⟨(some 5), (.mv (.const (Value.int .i64 (Int.ofNat 0)))), none⟩])
 .ret))),
 [(.tmp 4), (.tmp 5)], 2⟩
/- palisade/backend.NewBlock -/
def k21 : KFunc := ⟨(.seq (.ops [⟨(some 12), (.mv (.const (Value.pointer none))), none⟩,
  ⟨(some 13), (.mv (.const (Value.int .i64 (Int.ofNat 0)))), none⟩])
 (.seq (.block 0 [0, 1, 2, 3, 4, 5] (.seq (.ops [⟨(some 15), (.mv (.tmp 0)), none⟩,
  ⟨(some 16), (.eqv .ptr false (.tmp 15) (.const (Value.pointer none))), none⟩,
  ⟨(some 17), (.mv (.tmp 16)), none⟩,
  ⟨(some 18), (.mv (.tmp 1)), (some (17, false))⟩,
  ⟨(some 19), (.eqv .ptr false (.tmp 18) (.const (Value.pointer none))), (some (17, false))⟩,
  ⟨(some 20), (.pick (.tmp 17) (.const (Value.bool true)) (.tmp 19)), none⟩,
  ⟨(some 21), (.mv (.tmp 20)), none⟩,
  ⟨(some 22), (.mv (.tmp 4)), (some (21, false))⟩,
  ⟨(some 23), (.eqv .ptr false (.tmp 22) (.const (Value.pointer none))), (some (21, false))⟩,
  ⟨(some 24), (.pick (.tmp 21) (.const (Value.bool true)) (.tmp 23)), none⟩,
  ⟨(some 14), (.mv (.tmp 24)), none⟩])
 (.cond (.tmp 14) none
 (.seq (.ops [⟨(some 12), (.mv (.const (Value.pointer none))), none⟩,
  ⟨(some 13), (.mv (.const (Value.int .i64 (Int.ofNat 1)))), none⟩])
 .ret)
 (.seq (.ops [⟨(some 26), (.mv (.tmp 5)), none⟩,
  ⟨(some 27), (.bin .lss (.tmp 26) (.const (Value.int .i64 (Int.ofNat 1)))), none⟩,
  ⟨(some 28), (.mv (.tmp 27)), none⟩,
  ⟨(some 29), (.mv (.tmp 5)), (some (28, false))⟩,
  ⟨(some 30), (.bin .gtr (.tmp 29) (.const (Value.int .i64 (Int.ofNat 16)))), (some (28, false))⟩,
  ⟨(some 31), (.pick (.tmp 28) (.const (Value.bool true)) (.tmp 30)), none⟩,
  ⟨(some 32), (.mv (.tmp 31)), none⟩,
  ⟨(some 33), (.mv (.tmp 2)), (some (32, false))⟩,
  ⟨(some 34), (.bin .lss (.tmp 33) (.const (Value.int .i64 (Int.ofNat 0)))), (some (32, false))⟩,
  ⟨(some 35), (.pick (.tmp 32) (.const (Value.bool true)) (.tmp 34)), none⟩,
  ⟨(some 36), (.mv (.tmp 35)), none⟩,
  ⟨(some 37), (.mv (.tmp 3)), (some (36, false))⟩,
  ⟨(some 38), (.bin .lss (.tmp 37) (.const (Value.int .i64 (Int.ofNat 0)))), (some (36, false))⟩,
  ⟨(some 39), (.pick (.tmp 36) (.const (Value.bool true)) (.tmp 38)), none⟩,
  ⟨(some 40), (.mv (.tmp 39)), none⟩,
  ⟨(some 41), (.mv (.tmp 2)), (some (40, false))⟩,
  ⟨(some 42), (.mv (.tmp 1)), (some (40, false))⟩,
  ⟨(some 43), (.call 42 [(.tmp 42)]), (some (40, false))⟩,
  ⟨(some 44), (.bin .gtr (.tmp 41) (.tmp 43)), (some (40, false))⟩,
  ⟨(some 45), (.pick (.tmp 40) (.const (Value.bool true)) (.tmp 44)), none⟩,
  ⟨(some 46), (.mv (.tmp 45)), none⟩,
  ⟨(some 47), (.mv (.tmp 3)), (some (46, false))⟩,
  ⟨(some 48), (.mv (.tmp 1)), (some (46, false))⟩,
  ⟨(some 49), (.call 42 [(.tmp 48)]), (some (46, false))⟩,
  ⟨(some 50), (.mv (.tmp 2)), (some (46, false))⟩,
  ⟨(some 51), (.bin .sub (.tmp 49) (.tmp 50)), (some (46, false))⟩,
  ⟨(some 52), (.bin .gtr (.tmp 47) (.tmp 51)), (some (46, false))⟩,
  ⟨(some 53), (.pick (.tmp 46) (.const (Value.bool true)) (.tmp 52)), none⟩,
  ⟨(some 25), (.mv (.tmp 53)), none⟩])
 (.cond (.tmp 25) none
 (.seq (.ops [⟨(some 12), (.mv (.const (Value.pointer none))), none⟩,
  ⟨(some 13), (.mv (.const (Value.int .i64 (Int.ofNat 2)))), none⟩])
 .ret)
 .skip)))))
 (.seq (.ops [⟨(some 54), (.mv (.tmp 0)), none⟩,
  ⟨(some 55), (.mv (.tmp 1)), none⟩,
  ⟨(some 56), (.mv (.tmp 2)), none⟩,
  ⟨(some 57), (.mv (.tmp 3)), none⟩,
  ⟨(some 58), (.mv (.tmp 4)), none⟩,
  ⟨(some 59), (.mv (.tmp 5)), none⟩,
  ⟨(some 60), .makeMap, none⟩,
  ⟨(some 61), (.build [(Value.pointer none), (Value.pointer none), (Value.int .i64 (Int.ofNat 0)), (Value.int .i64 (Int.ofNat 0)), (Value.pointer none), (Value.int .i64 (Int.ofNat 0)), (Value.int .i64 (Int.ofNat 0)), (Value.map none)] [(0, (1, (.tmp 54))), (1, (1, (.tmp 55))), (2, (1, (.tmp 56))), (3, (1, (.tmp 57))), (4, (1, (.tmp 58))), (5, (1, (.tmp 59))), (7, (1, (.tmp 60)))]), none⟩,
  ⟨(some 62), (.box (.tmp 61)), none⟩,
  ⟨(some 12), (.mv (.tmp 62)), none⟩,
  ⟨(some 13), (.mv (.const (Value.int .i64 (Int.ofNat 0)))), none⟩])
 .ret))),
 [(.tmp 12), (.tmp 13)], 6⟩
/- (*palisade/palisadelaw24.Flat).Store -/
def k22 : KFunc := ⟨(.seq (.ops [⟨(some 8), (.mv (.const (Value.int .i64 (Int.ofNat 0)))), none⟩])
 (.seq (.seq (.ops [⟨(some 9), (.mv (.tmp 1)), none⟩,
  ⟨(some 10), (.mv (.tmp 0)), none⟩,
  ⟨(some 11), (.nilCheck (.tmp 10)), none⟩,
  ⟨(some 12), (.addOff (.tmp 11) 2), none⟩,
  ⟨(some 13), (.load (.tmp 12) none), none⟩,
  ⟨(some 14), (.bin .mul (.const (Value.int .i64 (Int.ofNat 256))) (.tmp 13)), none⟩,
  ⟨(some 15), (.conv .u64 (.tmp 14)), none⟩,
  ⟨(some 16), (.bin .geq (.tmp 9) (.tmp 15)), none⟩])
 (.cond (.tmp 16) none
 (.seq (.ops [⟨(some 8), (.mv (.const (Value.int .i64 (Int.ofNat 12)))), none⟩])
 .ret)
 .skip))
 (.seq (.draw 0 [⟨0, [0], ⟨(some 17), (.mv (.tmp 0)), none⟩, 0, 264⟩,
  ⟨1, [17], ⟨(some 18), (.nilCheck (.tmp 17)), none⟩, 0, 264⟩,
  ⟨2, [18], ⟨(some 19), (.addOff (.tmp 18) 0), none⟩, 0, 264⟩,
  ⟨3, [19], ⟨(some 20), (.load (.tmp 19) none), none⟩, 0, 264⟩,
  ⟨4, [1], ⟨(some 21), (.mv (.tmp 1)), none⟩, 0, 264⟩,
  ⟨5, [0], ⟨(some 22), (.mv (.tmp 0)), none⟩, 0, 264⟩,
  ⟨6, [22], ⟨(some 23), (.nilCheck (.tmp 22)), none⟩, 0, 264⟩,
  ⟨7, [23], ⟨(some 24), (.addOff (.tmp 23) 1), none⟩, 0, 264⟩,
  ⟨8, [24], ⟨(some 25), (.load (.tmp 24) none), none⟩, 0, 264⟩,
  ⟨9, [25], ⟨(some 26), (.bin .mul (.const (Value.int .i64 (Int.ofNat 256))) (.tmp 25)), none⟩, 0, 8⟩,
  ⟨10, [26], ⟨(some 27), (.conv .u64 (.tmp 26)), none⟩, 0, 8⟩,
  ⟨11, [21, 27], ⟨(some 28), (.bin .add (.tmp 21) (.tmp 27)), none⟩, 0, 8⟩,
  ⟨12, [2], ⟨(some 29), (.mv (.tmp 2)), none⟩, 0, 264⟩,
  ⟨13, [3], ⟨(some 30), (.mv (.tmp 3)), none⟩, 0, 264⟩,
  ⟨14, [20, 28, 29, 30], ⟨(some 31), (.call 43 [(.tmp 20), (.tmp 28), (.tmp 29), (.tmp 30)]), none⟩, 0, 0⟩,
  ⟨15, [31], ⟨(some 8), (.mv (.tmp 31)), none⟩, 0, 0⟩])
 .ret))),
 [(.tmp 8)], 4⟩
/- (*palisade/backend.Block).none -/
def k23 : KFunc := ⟨(.seq (.ops [⟨(some 4), (.mv (.const (Value.bool false))), none⟩])
 (.seq (.ops [⟨(some 5), (.mv (.tmp 0)), none⟩,
  ⟨(some 6), (.eqv .ptr false (.tmp 5) (.const (Value.pointer none))), none⟩,
  ⟨(some 7), (.mv (.tmp 6)), none⟩,
  ⟨(some 8), (.mv (.tmp 0)), (some (7, false))⟩,
  ⟨(some 9), (.nilCheck (.tmp 8)), (some (7, false))⟩,
  ⟨(some 10), (.addOff (.tmp 9) 7), (some (7, false))⟩,
  ⟨(some 11), (.load (.tmp 10) none), (some (7, false))⟩,
  ⟨(some 12), (.eqv .map false (.tmp 11) (.const (Value.map none))), (some (7, false))⟩,
  ⟨(some 13), (.pick (.tmp 7) (.const (Value.bool true)) (.tmp 12)), none⟩,
  ⟨(some 14), (.mv (.tmp 13)), none⟩,
  ⟨(some 15), (.mv (.tmp 1)), (some (14, false))⟩,
  ⟨(some 16), (.eqv .iface false (.tmp 15) (.const Value.nilIface)), (some (14, false))⟩,
  ⟨(some 17), (.pick (.tmp 14) (.const (Value.bool true)) (.tmp 16)), none⟩,
  ⟨(some 4), (.mv (.tmp 17)), none⟩])
 .ret)),
 [(.tmp 4)], 2⟩
/- (*palisade/ring.Ring).Next -/
def k24 : KFunc := ⟨(.seq (.ops [⟨(some 4), (.alloc [(Value.int .i64 (Int.ofNat 0)), (Value.slice none 0 0)]), none⟩,
  ⟨(some 5), (.mv (.const (Value.bool false))), none⟩,
  ⟨(some 6), (.mv (.const (Value.int .i64 (Int.ofNat 0)))), none⟩])
 (.seq (.seq (.ops [⟨(some 14), (.mv (.tmp 0)), none⟩,
  ⟨(some 15), (.mv (.tmp 1)), none⟩,
  ⟨(some 16), (.call 44 [(.tmp 14), (.tmp 15)]), none⟩,
  ⟨(some 7), (.mv (.tmp 16)), none⟩])
 (.seq (.ops [⟨(some 17), (.mv (.tmp 7)), none⟩,
  ⟨(some 18), (.bin .neq (.tmp 17) (.const (Value.int .i64 (Int.ofNat 0)))), none⟩])
 (.cond (.tmp 18) none
 (.seq (.ops [⟨(some 19), (.build [(Value.int .i64 (Int.ofNat 0)), (Value.slice none 0 0)] []), none⟩,
  ⟨(some 20), (.mv (.tmp 7)), none⟩,
  ⟨none, (.store (.tmp 4) (.tmp 19) 2), none⟩,
  ⟨(some 5), (.mv (.const (Value.bool false))), none⟩,
  ⟨(some 6), (.mv (.tmp 20)), none⟩])
 .ret)
 .skip)))
 (.seq (.ops [⟨(some 21), (.mv (.tmp 1)), none⟩,
  ⟨(some 22), (.build [Value.nilIface, (Value.bool false)] [(0, (1, (.tmp 21)))]), none⟩,
  ⟨(some 23), (.box (.tmp 22)), none⟩,
  ⟨(some 8), (.mv (.tmp 23)), none⟩])
 (.seq (.draw 0 [⟨0, [0], ⟨(some 24), (.mv (.tmp 0)), none⟩, 0, 136⟩,
  ⟨1, [24], ⟨(some 25), (.nilCheck (.tmp 24)), none⟩, 0, 136⟩,
  ⟨2, [25], ⟨(some 26), (.addOff (.tmp 25) 0), none⟩, 0, 136⟩,
  ⟨3, [26], ⟨(some 27), (.load (.tmp 26) none), none⟩, 0, 136⟩,
  ⟨4, [0], ⟨(some 28), (.mv (.tmp 0)), none⟩, 0, 136⟩,
  ⟨5, [28], ⟨(some 29), (.nilCheck (.tmp 28)), none⟩, 0, 136⟩,
  ⟨6, [29], ⟨(some 30), (.addOff (.tmp 29) 1), none⟩, 0, 136⟩,
  ⟨7, [30], ⟨(some 31), (.load (.tmp 30) none), none⟩, 0, 136⟩,
  ⟨8, [31], ⟨(some 32), (.bin .mul (.const (Value.int .u64 (Int.ofNat 32))) (.tmp 31)), none⟩, 0, 8⟩,
  ⟨9, [27, 32], ⟨(some 33), (.bin .add (.tmp 27) (.tmp 32)), none⟩, 0, 0⟩,
  ⟨10, [33], ⟨(some 9), (.mv (.tmp 33)), none⟩, 0, 0⟩])
 (.seq (.ops [⟨(some 34), (.mv (.tmp 8)), none⟩,
  ⟨(some 35), (.mv (.tmp 9)), none⟩,
  ⟨(some 36), (.call 45 [(.tmp 34), (.tmp 35)]), none⟩,
  ⟨(some 10), (.mv (.tmp 36)), none⟩])
 (.seq (.seq (.ops [⟨(some 37), (.mv (.tmp 8)), none⟩,
  ⟨(some 38), (.nilCheck (.tmp 37)), none⟩,
  ⟨(some 39), (.addOff (.tmp 38) 1), none⟩,
  ⟨(some 40), (.load (.tmp 39) none), none⟩,
  ⟨(some 41), (.un .not (.tmp 40)), none⟩,
  ⟨(some 42), (.mv (.tmp 41)), none⟩,
  ⟨(some 43), (.mv (.tmp 10)), (some (42, true))⟩,
  ⟨(some 44), (.mv (.tmp 0)), (some (42, true))⟩,
  ⟨(some 45), (.nilCheck (.tmp 44)), (some (42, true))⟩,
  ⟨(some 46), (.addOff (.tmp 45) 2), (some (42, true))⟩,
  ⟨(some 47), (.load (.tmp 46) none), (some (42, true))⟩,
  ⟨(some 48), (.bin .eql (.tmp 43) (.tmp 47)), (some (42, true))⟩,
  ⟨(some 49), (.pick (.tmp 42) (.tmp 48) (.const (Value.bool false))), none⟩])
 (.cond (.tmp 49) none
 (.seq (.ops [⟨(some 50), (.build [(Value.int .i64 (Int.ofNat 0)), (Value.slice none 0 0)] []), none⟩,
  ⟨none, (.store (.tmp 4) (.tmp 50) 2), none⟩,
  ⟨(some 5), (.mv (.const (Value.bool false))), none⟩,
  ⟨(some 6), (.mv (.const (Value.int .i64 (Int.ofNat 0)))), none⟩])
 .ret)
 .skip))
 (.seq (.seq (.draw 0 [⟨0, [8], ⟨(some 51), (.mv (.tmp 8)), none⟩, 0, 33800⟩,
  ⟨1, [51], ⟨(some 52), (.nilCheck (.tmp 51)), none⟩, 0, 33800⟩,
  ⟨2, [52], ⟨(some 53), (.addOff (.tmp 52) 1), none⟩, 0, 33800⟩,
  ⟨3, [53], ⟨(some 54), (.load (.tmp 53) none), none⟩, 0, 33800⟩,
  ⟨4, [54], ⟨(some 55), (.un .not (.tmp 54)), none⟩, 0, 33792⟩,
  ⟨5, [55], ⟨(some 56), (.mv (.tmp 55)), none⟩, 0, 33792⟩,
  ⟨6, [10, 56], ⟨(some 57), (.mv (.tmp 10)), (some (56, true))⟩, 0, 33792⟩,
  ⟨7, [0, 56], ⟨(some 58), (.mv (.tmp 0)), (some (56, true))⟩, 0, 33792⟩,
  ⟨8, [58, 56], ⟨(some 59), (.nilCheck (.tmp 58)), (some (56, true))⟩, 0, 33792⟩,
  ⟨9, [59, 56], ⟨(some 60), (.addOff (.tmp 59) 2), (some (56, true))⟩, 0, 33792⟩,
  ⟨10, [60, 56], ⟨(some 61), (.load (.tmp 60) none), (some (56, true))⟩, 0, 33792⟩,
  ⟨11, [57, 61, 56], ⟨(some 62), (.bin .sub (.tmp 57) (.tmp 61)), (some (56, true))⟩, 0, 32768⟩,
  ⟨12, [0, 56], ⟨(some 63), (.mv (.tmp 0)), (some (56, true))⟩, 0, 33792⟩,
  ⟨13, [63, 56], ⟨(some 64), (.nilCheck (.tmp 63)), (some (56, true))⟩, 0, 33792⟩,
  ⟨14, [64, 56], ⟨(some 65), (.addOff (.tmp 64) 1), (some (56, true))⟩, 0, 33792⟩,
  ⟨15, [65, 56], ⟨(some 66), (.load (.tmp 65) none), (some (56, true))⟩, 0, 33792⟩,
  ⟨16, [62, 66, 56], ⟨(some 67), (.bin .leq (.tmp 62) (.tmp 66)), (some (56, true))⟩, 0, 0⟩,
  ⟨17, [56, 67], ⟨(some 68), (.pick (.tmp 56) (.tmp 67) (.const (Value.bool false))), none⟩, 0, 0⟩])
 (.cond (.tmp 68) (some [0, 4])
 (.seq (.draw 0 [⟨0, [8], ⟨(some 69), (.mv (.tmp 8)), none⟩, 0, 544⟩,
  ⟨1, [9], ⟨(some 70), (.mv (.tmp 9)), none⟩, 0, 544⟩,
  ⟨2, [0], ⟨(some 71), (.mv (.tmp 0)), none⟩, 0, 544⟩,
  ⟨3, [71], ⟨(some 72), (.nilCheck (.tmp 71)), none⟩, 0, 544⟩,
  ⟨4, [72], ⟨(some 73), (.addOff (.tmp 72) 2), none⟩, 0, 544⟩,
  ⟨5, [73], ⟨(some 74), (.load (.tmp 73) none), none⟩, 0, 544⟩,
  ⟨6, [0], ⟨(some 75), (.mv (.tmp 0)), none⟩, 0, 544⟩,
  ⟨7, [75], ⟨(some 76), (.nilCheck (.tmp 75)), none⟩, 0, 544⟩,
  ⟨8, [76], ⟨(some 77), (.addOff (.tmp 76) 1), none⟩, 0, 544⟩,
  ⟨9, [77], ⟨(some 78), (.load (.tmp 77) none), none⟩, 0, 544⟩,
  ⟨10, [74, 78], ⟨(some 79), (.bin .rem (.tmp 74) (.tmp 78)), none⟩, 0, 0⟩,
  ⟨11, [79], ⟨(some 80), (.bin .add (.const (Value.int .u64 (Int.ofNat 1))) (.tmp 79)), none⟩, 0, 0⟩,
  ⟨12, [80], ⟨(some 81), (.bin .mul (.const (Value.int .u64 (Int.ofNat 8))) (.tmp 80)), none⟩, 0, 0⟩,
  ⟨13, [70, 81], ⟨(some 82), (.bin .add (.tmp 70) (.tmp 81)), none⟩, 0, 0⟩,
  ⟨14, [69, 82], ⟨(some 83), (.call 45 [(.tmp 69), (.tmp 82)]), none⟩, 0, 0⟩,
  ⟨15, [83], ⟨(some 11), (.mv (.tmp 83)), none⟩, 0, 0⟩])
 (.seq (.ops [⟨(some 84), (.mv (.tmp 8)), none⟩,
  ⟨(some 85), (.nilCheck (.tmp 84)), none⟩,
  ⟨(some 86), (.addOff (.tmp 85) 1), none⟩,
  ⟨(some 87), (.load (.tmp 86) none), none⟩,
  ⟨(some 88), (.un .not (.tmp 87)), none⟩])
 (.cond (.tmp 88) (some [0, 4])
 (.seq (.ops [⟨(some 90), (.mv (.tmp 0)), none⟩,
  ⟨(some 91), (.mv (.tmp 8)), none⟩,
  ⟨(some 92), (.mv (.tmp 11)), none⟩,
  ⟨(some 93), (.call 46 [(.tmp 90), (.tmp 91), (.tmp 92)]), none⟩,
  ⟨(some 89), (.mv (.tmp 93)), none⟩,
  ⟨(some 94), (.extract (.tmp 89) 0), none⟩,
  ⟨(some 95), (.extract (.tmp 89) 1), none⟩,
  ⟨(some 12), (.alloc [(Value.int .i64 (Int.ofNat 0)), (Value.slice none 0 0)]), none⟩,
  ⟨none, (.store (.tmp 12) (.tmp 94) 2), none⟩,
  ⟨(some 13), (.mv (.tmp 95)), none⟩])
 (.seq (.ops [⟨(some 96), (.mv (.tmp 13)), none⟩])
 (.cond (.tmp 96) none
 (.seq (.ops [⟨(some 97), (.mv (.tmp 0)), none⟩,
  ⟨(some 98), (.nilCheck (.tmp 97)), none⟩,
  ⟨(some 99), (.addOff (.tmp 98) 2), none⟩,
  ⟨(some 100), (.load (.tmp 99) none), none⟩,
  ⟨(some 101), (.bin .add (.tmp 100) (.const (Value.int .u64 (Int.ofNat 1)))), none⟩,
  ⟨(some 102), (.nilCheck (.tmp 97)), none⟩,
  ⟨(some 103), (.addOff (.tmp 102) 2), none⟩,
  ⟨none, (.store (.tmp 103) (.tmp 101) 1), none⟩])
 (.seq (.ops [⟨(some 104), (.load (.tmp 12) (some 2)), none⟩,
  ⟨none, (.store (.tmp 4) (.tmp 104) 2), none⟩,
  ⟨(some 5), (.mv (.const (Value.bool true))), none⟩,
  ⟨(some 6), (.mv (.const (Value.int .i64 (Int.ofNat 0)))), none⟩])
 .ret))
 .skip)))
 .skip)))
 .skip))
 (.seq (.ops [⟨(some 105), (.mv (.tmp 0)), none⟩,
  ⟨(some 106), (.nilCheck (.tmp 105)), none⟩,
  ⟨(some 107), (.addOff (.tmp 106) 4), none⟩,
  ⟨none, (.store (.tmp 107) (.const (Value.bool true)) 1), none⟩])
 (.seq (.ops [⟨(some 108), (.build [(Value.int .i64 (Int.ofNat 0)), (Value.slice none 0 0)] []), none⟩,
  ⟨none, (.store (.tmp 4) (.tmp 108) 2), none⟩,
  ⟨(some 5), (.mv (.const (Value.bool false))), none⟩,
  ⟨(some 6), (.mv (.const (Value.int .i64 (Int.ofNat 22)))), none⟩])
 .ret))))))))),
 [(.cell 4 (some 2)), (.tmp 5), (.tmp 6)], 2⟩
/- (*palisade/backend.Block).ask -/
def k25 : KFunc := ⟨(.seq (.ops [⟨(some 5), (.box (.tmp 2)), none⟩,
  ⟨(some 6), (.alloc [(Value.int .i64 (Int.ofNat 0)), (Value.bool false), (Value.int .i64 (Int.ofNat 0)), (Value.int .i64 (Int.ofNat 0))]), none⟩,
  ⟨(some 7), (.mv (.const (Value.int .u8 (Int.ofNat 0)))), none⟩])
 (.seq (.seq (.ops [⟨(some 20), (.addOff (.tmp 5) 1), none⟩,
  ⟨(some 21), (.load (.tmp 20) none), none⟩,
  ⟨(some 22), (.len false (.tmp 21)), none⟩,
  ⟨(some 23), (.bin .neq (.tmp 22) (.const (Value.int .i64 (Int.ofNat 3)))), none⟩])
 (.cond (.tmp 23) none
 (.seq (.ops [⟨(some 24), (.build [(Value.int .i64 (Int.ofNat 0)), (Value.bool false), (Value.int .i64 (Int.ofNat 0)), (Value.int .i64 (Int.ofNat 0))] []), none⟩,
  ⟨none, (.store (.tmp 6) (.tmp 24) 4), none⟩,
  ⟨(some 7), (.mv (.const (Value.int .u8 (Int.ofNat 2)))), none⟩])
 .ret)
 .skip))
 (.seq (.draw 3 [⟨0, [5], ⟨(some 25), (.addOff (.tmp 5) 1), none⟩, 3, 2730⟩,
  ⟨1, [25], ⟨(some 26), (.load (.tmp 25) none), none⟩, 3, 2730⟩,
  ⟨2, [26], ⟨(some 27), (.ixS (.tmp 26) (.const (Value.int .i64 (Int.ofNat 0))) 3), none⟩, 3, 2728⟩,
  ⟨3, [27], ⟨(some 28), (.load (.tmp 27) (some 3)), none⟩, 3, 2728⟩,
  ⟨4, [5], ⟨(some 29), (.addOff (.tmp 5) 1), none⟩, 3, 2730⟩,
  ⟨5, [29], ⟨(some 30), (.load (.tmp 29) none), none⟩, 3, 2730⟩,
  ⟨6, [30], ⟨(some 31), (.ixS (.tmp 30) (.const (Value.int .i64 (Int.ofNat 1))) 3), none⟩, 3, 2698⟩,
  ⟨7, [31], ⟨(some 32), (.load (.tmp 31) (some 3)), none⟩, 3, 2698⟩,
  ⟨8, [5], ⟨(some 33), (.addOff (.tmp 5) 1), none⟩, 3, 2730⟩,
  ⟨9, [33], ⟨(some 34), (.load (.tmp 33) none), none⟩, 3, 2730⟩,
  ⟨10, [34], ⟨(some 35), (.ixS (.tmp 34) (.const (Value.int .i64 (Int.ofNat 2))) 3), none⟩, 3, 2218⟩,
  ⟨11, [35], ⟨(some 36), (.load (.tmp 35) (some 3)), none⟩, 3, 2218⟩,
  ⟨12, [], ⟨(some 8), (.alloc [(Value.int .u64 (Int.ofNat 0)), (Value.int .i64 (Int.ofNat 0)), (Value.bool false)]), none⟩, 0, 2730⟩,
  ⟨13, [], ⟨(some 9), (.alloc [(Value.int .u64 (Int.ofNat 0)), (Value.int .i64 (Int.ofNat 0)), (Value.bool false)]), none⟩, 1, 2730⟩,
  ⟨14, [], ⟨(some 10), (.alloc [(Value.int .u64 (Int.ofNat 0)), (Value.int .i64 (Int.ofNat 0)), (Value.bool false)]), none⟩, 2, 2730⟩,
  ⟨15, [8, 28], ⟨none, (.store (.tmp 8) (.tmp 28) 3), none⟩, 3, 2720⟩,
  ⟨16, [9, 32], ⟨none, (.store (.tmp 9) (.tmp 32) 3), none⟩, 3, 2560⟩,
  ⟨17, [10, 36], ⟨none, (.store (.tmp 10) (.tmp 36) 3), none⟩, 3, 0⟩])
 (.seq (.seq (.ops [⟨(some 37), (.addOff (.tmp 8) 2), none⟩,
  ⟨(some 38), (.load (.tmp 37) none), none⟩,
  ⟨(some 39), (.mv (.tmp 38)), none⟩,
  ⟨(some 40), (.addOff (.tmp 8) 1), (some (39, false))⟩,
  ⟨(some 41), (.load (.tmp 40) none), (some (39, false))⟩,
  ⟨(some 42), (.bin .neq (.tmp 41) (.const (Value.int .i64 (Int.ofNat 16)))), (some (39, false))⟩,
  ⟨(some 43), (.pick (.tmp 39) (.const (Value.bool true)) (.tmp 42)), none⟩,
  ⟨(some 44), (.mv (.tmp 43)), none⟩,
  ⟨(some 45), (.addOff (.tmp 9) 1), (some (44, false))⟩,
  ⟨(some 46), (.load (.tmp 45) none), (some (44, false))⟩,
  ⟨(some 47), (.bin .neq (.tmp 46) (.const (Value.int .i64 (Int.ofNat 256)))), (some (44, false))⟩,
  ⟨(some 48), (.pick (.tmp 44) (.const (Value.bool true)) (.tmp 47)), none⟩,
  ⟨(some 49), (.mv (.tmp 48)), none⟩,
  ⟨(some 50), (.addOff (.tmp 9) 0), (some (49, false))⟩,
  ⟨(some 51), (.load (.tmp 50) none), (some (49, false))⟩,
  ⟨(some 52), (.bin .rem (.tmp 51) (.const (Value.int .u64 (Int.ofNat 256)))), (some (49, false))⟩,
  ⟨(some 53), (.bin .neq (.tmp 52) (.const (Value.int .u64 (Int.ofNat 0)))), (some (49, false))⟩,
  ⟨(some 54), (.pick (.tmp 49) (.const (Value.bool true)) (.tmp 53)), none⟩,
  ⟨(some 55), (.mv (.tmp 54)), none⟩,
  ⟨(some 56), (.addOff (.tmp 10) 2), (some (55, false))⟩,
  ⟨(some 57), (.load (.tmp 56) none), (some (55, false))⟩,
  ⟨(some 58), (.un .not (.tmp 57)), (some (55, false))⟩,
  ⟨(some 59), (.pick (.tmp 55) (.const (Value.bool true)) (.tmp 58)), none⟩,
  ⟨(some 60), (.mv (.tmp 59)), none⟩,
  ⟨(some 61), (.addOff (.tmp 10) 1), (some (60, false))⟩,
  ⟨(some 62), (.load (.tmp 61) none), (some (60, false))⟩,
  ⟨(some 63), (.bin .neq (.tmp 62) (.const (Value.int .i64 (Int.ofNat 1)))), (some (60, false))⟩,
  ⟨(some 64), (.pick (.tmp 60) (.const (Value.bool true)) (.tmp 63)), none⟩])
 (.cond (.tmp 64) none
 (.seq (.ops [⟨(some 65), (.build [(Value.int .i64 (Int.ofNat 0)), (Value.bool false), (Value.int .i64 (Int.ofNat 0)), (Value.int .i64 (Int.ofNat 0))] []), none⟩,
  ⟨none, (.store (.tmp 6) (.tmp 65) 4), none⟩,
  ⟨(some 7), (.mv (.const (Value.int .u8 (Int.ofNat 2)))), none⟩])
 .ret)
 .skip))
 (.seq (.ops [⟨(some 67), (.mv (.tmp 1)), none⟩,
  ⟨(some 68), (.addOff (.tmp 8) 0), none⟩,
  ⟨(some 69), (.load (.tmp 68) none), none⟩,
  ⟨(some 70), (.invoke (.tmp 67) [(24, 81), (25, 33)] [(.tmp 69), (.const (Value.int .i64 (Int.ofNat 16)))]), none⟩,
  ⟨(some 66), (.mv (.tmp 70)), none⟩,
  ⟨(some 71), (.extract (.tmp 66) 0), none⟩,
  ⟨(some 72), (.extract (.tmp 66) 1), none⟩,
  ⟨(some 11), (.mv (.tmp 71)), none⟩,
  ⟨(some 12), (.mv (.tmp 72)), none⟩])
 (.seq (.seq (.ops [⟨(some 73), (.mv (.tmp 12)), none⟩,
  ⟨(some 74), (.bin .neq (.tmp 73) (.const (Value.int .i64 (Int.ofNat 0)))), none⟩])
 (.cond (.tmp 74) none
 (.seq (.ops [⟨(some 75), (.build [(Value.int .i64 (Int.ofNat 0)), (Value.bool false), (Value.int .i64 (Int.ofNat 0)), (Value.int .i64 (Int.ofNat 0))] []), none⟩,
  ⟨none, (.store (.tmp 6) (.tmp 75) 4), none⟩,
  ⟨(some 7), (.mv (.const (Value.int .u8 (Int.ofNat 2)))), none⟩])
 .ret)
 .skip))
 (.seq (.draw 0 [⟨0, [11], ⟨(some 76), (.mv (.tmp 11)), none⟩, 0, 0⟩,
  ⟨2, [11], ⟨(some 78), (.mv (.tmp 11)), none⟩, 0, 0⟩,
  ⟨3, [78], ⟨(some 79), (.slS (.tmp 78) (some (.const (Value.int .i64 (Int.ofNat 8)))) none none 1), none⟩, 0, 0⟩,
  ⟨1, [76], ⟨(some 77), (.call 47 [(.tmp 76)]), none⟩, 0, 0⟩,
  ⟨4, [79], ⟨(some 80), (.call 47 [(.tmp 79)]), none⟩, 0, 0⟩,
  ⟨5, [77], ⟨(some 13), (.mv (.tmp 77)), none⟩, 0, 0⟩,
  ⟨6, [80], ⟨(some 14), (.mv (.tmp 80)), none⟩, 0, 0⟩])
 (.seq (.seq (.ops [⟨(some 81), (.mv (.tmp 13)), none⟩,
  ⟨(some 82), (.bin .gtr (.tmp 81) (.const (Value.int .u64 (Int.ofNat 1)))), none⟩,
  ⟨(some 83), (.mv (.tmp 82)), none⟩,
  ⟨(some 84), (.addOff (.tmp 9) 2), (some (83, false))⟩,
  ⟨(some 85), (.load (.tmp 84) none), (some (83, false))⟩,
  ⟨(some 86), (.mv (.tmp 13)), (some (83, false))⟩,
  ⟨(some 87), (.bin .eql (.tmp 86) (.const (Value.int .u64 (Int.ofNat 0)))), (some (83, false))⟩,
  ⟨(some 88), (.eqv .bool true (.tmp 85) (.tmp 87)), (some (83, false))⟩,
  ⟨(some 89), (.pick (.tmp 83) (.const (Value.bool true)) (.tmp 88)), none⟩])
 (.cond (.tmp 89) none
 (.seq (.ops [⟨(some 90), (.build [(Value.int .i64 (Int.ofNat 0)), (Value.bool false), (Value.int .i64 (Int.ofNat 0)), (Value.int .i64 (Int.ofNat 0))] []), none⟩,
  ⟨none, (.store (.tmp 6) (.tmp 90) 4), none⟩,
  ⟨(some 7), (.mv (.const (Value.int .u8 (Int.ofNat 2)))), none⟩])
 .ret)
 .skip))
 (.seq (.ops [⟨(some 92), (.mv (.tmp 1)), none⟩,
  ⟨(some 93), (.addOff (.tmp 9) 0), none⟩,
  ⟨(some 94), (.load (.tmp 93) none), none⟩,
  ⟨(some 95), (.bin .quo (.tmp 94) (.const (Value.int .u64 (Int.ofNat 256)))), none⟩,
  ⟨(some 96), (.conv .i64 (.tmp 95)), none⟩,
  ⟨(some 97), (.addOff (.tmp 9) 2), none⟩,
  ⟨(some 98), (.load (.tmp 97) none), none⟩,
  ⟨(some 99), (.invoke (.tmp 92) [(24, 82)] [(.tmp 96), (.tmp 98)]), none⟩,
  ⟨(some 91), (.mv (.tmp 99)), none⟩,
  ⟨(some 100), (.extract (.tmp 91) 0), none⟩,
  ⟨(some 101), (.extract (.tmp 91) 1), none⟩,
  ⟨(some 15), (.mv (.tmp 100)), none⟩,
  ⟨(some 16), (.mv (.tmp 101)), none⟩])
 (.seq (.seq (.ops [⟨(some 103), (.mv (.tmp 0)), none⟩,
  ⟨(some 104), (.nilCheck (.tmp 103)), none⟩,
  ⟨(some 105), (.addOff (.tmp 104) 4), none⟩,
  ⟨(some 106), (.load (.tmp 105) none), none⟩,
  ⟨(some 107), (.mv (.tmp 15)), none⟩,
  ⟨(some 108), (.call 12 [(.tmp 106), (.tmp 107)]), none⟩,
  ⟨(some 102), (.mv (.tmp 108)), none⟩,
  ⟨(some 109), (.extract (.tmp 102) 0), none⟩,
  ⟨(some 110), (.extract (.tmp 102) 1), none⟩,
  ⟨(some 111), (.extract (.tmp 102) 2), none⟩,
  ⟨(some 17), (.mv (.tmp 109)), none⟩,
  ⟨(some 18), (.mv (.tmp 110)), none⟩,
  ⟨(some 19), (.mv (.tmp 111)), none⟩])
 (.seq (.ops [⟨(some 112), (.mv (.tmp 16)), none⟩,
  ⟨(some 113), (.un .not (.tmp 112)), none⟩,
  ⟨(some 114), (.mv (.tmp 113)), none⟩,
  ⟨(some 115), (.mv (.tmp 19)), (some (114, false))⟩,
  ⟨(some 116), (.un .not (.tmp 115)), (some (114, false))⟩,
  ⟨(some 117), (.pick (.tmp 114) (.const (Value.bool true)) (.tmp 116)), none⟩,
  ⟨(some 118), (.mv (.tmp 117)), none⟩,
  ⟨(some 119), (.mv (.tmp 17)), (some (118, false))⟩,
  ⟨(some 120), (.mv (.tmp 0)), (some (118, false))⟩,
  ⟨(some 121), (.nilCheck (.tmp 120)), (some (118, false))⟩,
  ⟨(some 122), (.addOff (.tmp 121) 5), (some (118, false))⟩,
  ⟨(some 123), (.load (.tmp 122) none), (some (118, false))⟩,
  ⟨(some 124), (.bin .neq (.tmp 119) (.tmp 123)), (some (118, false))⟩,
  ⟨(some 125), (.pick (.tmp 118) (.const (Value.bool true)) (.tmp 124)), none⟩])
 (.cond (.tmp 125) none
 (.seq (.ops [⟨(some 126), (.build [(Value.int .i64 (Int.ofNat 0)), (Value.bool false), (Value.int .i64 (Int.ofNat 0)), (Value.int .i64 (Int.ofNat 0))] []), none⟩,
  ⟨none, (.store (.tmp 6) (.tmp 126) 4), none⟩,
  ⟨(some 7), (.mv (.const (Value.int .u8 (Int.ofNat 2)))), none⟩])
 .ret)
 .skip)))
 (.seq (.seq (.ops [⟨(some 127), (.mv (.tmp 14)), none⟩,
  ⟨(some 128), (.mv (.tmp 0)), none⟩,
  ⟨(some 129), (.nilCheck (.tmp 128)), none⟩,
  ⟨(some 130), (.addOff (.tmp 129) 3), none⟩,
  ⟨(some 131), (.load (.tmp 130) none), none⟩,
  ⟨(some 132), (.conv .u64 (.tmp 131)), none⟩,
  ⟨(some 133), (.bin .geq (.tmp 127) (.tmp 132)), none⟩])
 (.cond (.tmp 133) none
 (.seq (.ops [⟨(some 134), (.build [(Value.int .i64 (Int.ofNat 0)), (Value.bool false), (Value.int .i64 (Int.ofNat 0)), (Value.int .i64 (Int.ofNat 0))] []), none⟩,
  ⟨none, (.store (.tmp 6) (.tmp 134) 4), none⟩,
  ⟨(some 7), (.mv (.const (Value.int .u8 (Int.ofNat 1)))), none⟩])
 .ret)
 .skip))
 (.seq (.draw 0 [⟨0, [0], ⟨(some 135), (.mv (.tmp 0)), none⟩, 0, 33032⟩,
  ⟨1, [135], ⟨(some 136), (.nilCheck (.tmp 135)), none⟩, 0, 33032⟩,
  ⟨2, [136], ⟨(some 137), (.addOff (.tmp 136) 5), none⟩, 0, 33032⟩,
  ⟨3, [137], ⟨(some 138), (.load (.tmp 137) none), none⟩, 0, 33032⟩,
  ⟨4, [138], ⟨(some 139), (.bin .shl (.tmp 138) (.const (Value.int .u64 (Int.ofNat 32)))), none⟩, 0, 33024⟩,
  ⟨5, [0], ⟨(some 140), (.mv (.tmp 0)), none⟩, 0, 33032⟩,
  ⟨6, [140], ⟨(some 141), (.nilCheck (.tmp 140)), none⟩, 0, 33032⟩,
  ⟨7, [141], ⟨(some 142), (.addOff (.tmp 141) 6), none⟩, 0, 33032⟩,
  ⟨8, [142], ⟨(some 143), (.load (.tmp 142) none), none⟩, 0, 33032⟩,
  ⟨9, [139, 143], ⟨(some 144), (.bin .add (.tmp 139) (.tmp 143)), none⟩, 0, 32768⟩,
  ⟨10, [13], ⟨(some 145), (.mv (.tmp 13)), none⟩, 0, 33032⟩,
  ⟨11, [145], ⟨(some 146), (.bin .eql (.tmp 145) (.const (Value.int .u64 (Int.ofNat 1)))), none⟩, 0, 33032⟩,
  ⟨12, [0], ⟨(some 147), (.mv (.tmp 0)), none⟩, 0, 33032⟩,
  ⟨13, [147], ⟨(some 148), (.nilCheck (.tmp 147)), none⟩, 0, 33032⟩,
  ⟨14, [148], ⟨(some 149), (.addOff (.tmp 148) 2), none⟩, 0, 33032⟩,
  ⟨15, [149], ⟨(some 150), (.load (.tmp 149) none), none⟩, 0, 33032⟩,
  ⟨16, [14], ⟨(some 151), (.mv (.tmp 14)), none⟩, 0, 33032⟩,
  ⟨17, [151], ⟨(some 152), (.conv .i64 (.tmp 151)), none⟩, 0, 33032⟩,
  ⟨18, [150, 152], ⟨(some 153), (.bin .add (.tmp 150) (.tmp 152)), none⟩, 0, 264⟩,
  ⟨19, [15], ⟨(some 154), (.mv (.tmp 15)), none⟩, 0, 33032⟩,
  ⟨20, [144, 146, 153, 154], ⟨(some 155), (.build [(Value.int .i64 (Int.ofNat 0)), (Value.bool false), (Value.int .i64 (Int.ofNat 0)), (Value.int .i64 (Int.ofNat 0))] [(0, (1, (.tmp 144))), (1, (1, (.tmp 146))), (2, (1, (.tmp 153))), (3, (1, (.tmp 154)))]), none⟩, 0, 0⟩,
  ⟨21, [6, 155], ⟨none, (.store (.tmp 6) (.tmp 155) 4), none⟩, 0, 0⟩,
  ⟨22, [], ⟨(some 7), (.mv (.const (Value.int .u8 (Int.ofNat 0)))), none⟩, 0, 0⟩])
 .ret)))))))))))),
 [(.cell 6 (some 4)), (.tmp 7)], 3⟩
/- (*palisade/backend.Block).submit -/
def k26 : KFunc := ⟨(.seq (.ops [⟨(some 4), (.box (.tmp 1)), none⟩,
  ⟨(some 5), (.box (.tmp 2)), none⟩,
  ⟨(some 6), (.mv (.const (Value.int .u8 (Int.ofNat 0)))), none⟩])
 (.seq (.seq (.draw 0 [⟨0, [0], ⟨(some 7), (.mv (.tmp 0)), none⟩, 0, 552⟩,
  ⟨1, [7], ⟨(some 8), (.nilCheck (.tmp 7)), none⟩, 0, 552⟩,
  ⟨2, [8], ⟨(some 9), (.addOff (.tmp 8) 4), none⟩, 0, 552⟩,
  ⟨3, [9], ⟨(some 10), (.load (.tmp 9) none), none⟩, 0, 552⟩,
  ⟨4, [5], ⟨(some 11), (.addOff (.tmp 5) 3), none⟩, 0, 552⟩,
  ⟨5, [11], ⟨(some 12), (.load (.tmp 11) none), none⟩, 0, 552⟩,
  ⟨6, [0], ⟨(some 13), (.mv (.tmp 0)), none⟩, 0, 552⟩,
  ⟨7, [13], ⟨(some 14), (.nilCheck (.tmp 13)), none⟩, 0, 552⟩,
  ⟨8, [14], ⟨(some 15), (.addOff (.tmp 14) 5), none⟩, 0, 552⟩,
  ⟨9, [15], ⟨(some 16), (.load (.tmp 15) none), none⟩, 0, 552⟩,
  ⟨10, [10, 12, 16], ⟨(some 17), (.call 48 [(.tmp 10), (.tmp 12), (.tmp 16)]), none⟩, 0, 0⟩,
  ⟨11, [17], ⟨(some 18), (.bin .neq (.tmp 17) (.const (Value.int .i64 (Int.ofNat 0)))), none⟩, 0, 0⟩])
 (.cond (.tmp 18) none
 (.seq (.ops [⟨(some 6), (.mv (.const (Value.int .u8 (Int.ofNat 1)))), none⟩])
 .ret)
 .skip))
 (.seq (.seq (.draw 0 [⟨0, [0], ⟨(some 19), (.mv (.tmp 0)), none⟩, 0, 24⟩,
  ⟨1, [19], ⟨(some 20), (.nilCheck (.tmp 19)), none⟩, 0, 24⟩,
  ⟨2, [20], ⟨(some 21), (.addOff (.tmp 20) 1), none⟩, 0, 24⟩,
  ⟨3, [21], ⟨(some 22), (.load (.tmp 21) none), none⟩, 0, 24⟩,
  ⟨4, [5], ⟨(some 23), (.load (.tmp 5) (some 4)), none⟩, 0, 24⟩,
  ⟨5, [22, 23], ⟨(some 24), (.call 49 [(.tmp 22), (.tmp 23)]), none⟩, 0, 0⟩,
  ⟨6, [24], ⟨(some 25), (.bin .neq (.tmp 24) (.const (Value.int .i64 (Int.ofNat 0)))), none⟩, 0, 0⟩])
 (.cond (.tmp 25) none
 (.seq (.draw 0 [⟨0, [0], ⟨(some 26), (.mv (.tmp 0)), none⟩, 0, 552⟩,
  ⟨1, [26], ⟨(some 27), (.nilCheck (.tmp 26)), none⟩, 0, 552⟩,
  ⟨2, [27], ⟨(some 28), (.addOff (.tmp 27) 4), none⟩, 0, 552⟩,
  ⟨3, [28], ⟨(some 29), (.load (.tmp 28) none), none⟩, 0, 552⟩,
  ⟨4, [5], ⟨(some 30), (.addOff (.tmp 5) 3), none⟩, 0, 552⟩,
  ⟨5, [30], ⟨(some 31), (.load (.tmp 30) none), none⟩, 0, 552⟩,
  ⟨6, [0], ⟨(some 32), (.mv (.tmp 0)), none⟩, 0, 552⟩,
  ⟨7, [32], ⟨(some 33), (.nilCheck (.tmp 32)), none⟩, 0, 552⟩,
  ⟨8, [33], ⟨(some 34), (.addOff (.tmp 33) 5), none⟩, 0, 552⟩,
  ⟨9, [34], ⟨(some 35), (.load (.tmp 34) none), none⟩, 0, 552⟩,
  ⟨10, [29, 31, 35], ⟨(some 36), (.call 14 [(.tmp 29), (.tmp 31), (.tmp 35)]), none⟩, 0, 0⟩])
 (.seq (.ops [⟨(some 6), (.mv (.const (Value.int .u8 (Int.ofNat 1)))), none⟩])
 .ret))
 .skip))
 (.seq (.draw 0 [⟨0, [0], ⟨(some 37), (.mv (.tmp 0)), none⟩, 0, 1384⟩,
  ⟨1, [37], ⟨(some 38), (.nilCheck (.tmp 37)), none⟩, 0, 1384⟩,
  ⟨2, [38], ⟨(some 39), (.addOff (.tmp 38) 7), none⟩, 0, 1384⟩,
  ⟨3, [39], ⟨(some 40), (.load (.tmp 39) none), none⟩, 0, 1384⟩,
  ⟨4, [5], ⟨(some 41), (.addOff (.tmp 5) 0), none⟩, 0, 1384⟩,
  ⟨5, [41], ⟨(some 42), (.load (.tmp 41) none), none⟩, 0, 1384⟩,
  ⟨6, [4], ⟨(some 43), (.load (.tmp 4) (some 2)), none⟩, 0, 1384⟩,
  ⟨7, [5], ⟨(some 44), (.addOff (.tmp 5) 3), none⟩, 0, 1384⟩,
  ⟨8, [44], ⟨(some 45), (.load (.tmp 44) none), none⟩, 0, 1384⟩,
  ⟨9, [5], ⟨(some 46), (.addOff (.tmp 5) 1), none⟩, 0, 1384⟩,
  ⟨10, [46], ⟨(some 47), (.load (.tmp 46) none), none⟩, 0, 1384⟩,
  ⟨11, [47], ⟨(some 48), (.un .not (.tmp 47)), none⟩, 0, 360⟩,
  ⟨12, [43, 45, 48], ⟨(some 49), (.build [(Value.int .i64 (Int.ofNat 0)), (Value.slice none 0 0), (Value.int .i64 (Int.ofNat 0)), (Value.bool false)] [(0, (2, (.tmp 43))), (2, (1, (.tmp 45))), (3, (1, (.tmp 48)))]), none⟩, 0, 40⟩,
  ⟨13, [40, 42, 49], ⟨none, (.mapUpdate (false, [.i]) (.tmp 40) (.tmp 42) (.tmp 49)), none⟩, 0, 0⟩])
 (.seq (.ops [⟨(some 50), (.mv (.tmp 0)), none⟩,
  ⟨(some 51), (.nilCheck (.tmp 50)), none⟩,
  ⟨(some 52), (.addOff (.tmp 51) 6), none⟩,
  ⟨(some 53), (.load (.tmp 52) none), none⟩,
  ⟨(some 54), (.bin .add (.tmp 53) (.const (Value.int .i64 (Int.ofNat 1)))), none⟩,
  ⟨(some 55), (.nilCheck (.tmp 50)), none⟩,
  ⟨(some 56), (.addOff (.tmp 55) 6), none⟩,
  ⟨none, (.store (.tmp 56) (.tmp 54) 1), none⟩])
 (.seq (.ops [⟨(some 6), (.mv (.const (Value.int .u8 (Int.ofNat 0)))), none⟩])
 .ret)))))),
 [(.tmp 6)], 3⟩
/- (*palisade/ring.Ring).Push -/
def k27 : KFunc := ⟨(.seq (.ops [⟨(some 8), (.mv (.const (Value.int .i64 (Int.ofNat 0)))), none⟩])
 (.seq (.ops [⟨(some 14), (.mv (.tmp 0)), none⟩,
  ⟨(some 15), (.mv (.tmp 1)), none⟩,
  ⟨(some 16), (.call 44 [(.tmp 14), (.tmp 15)]), none⟩,
  ⟨(some 9), (.mv (.tmp 16)), none⟩])
 (.seq (.block 0 [0, 1, 2, 3] (.seq (.ops [⟨(some 18), (.mv (.tmp 9)), none⟩,
  ⟨(some 19), (.bin .neq (.tmp 18) (.const (Value.int .i64 (Int.ofNat 0)))), none⟩,
  ⟨(some 17), (.mv (.tmp 19)), none⟩])
 (.cond (.tmp 17) none
 (.seq (.ops [⟨(some 20), (.mv (.tmp 9)), none⟩,
  ⟨(some 8), (.mv (.tmp 20)), none⟩])
 .ret)
 (.seq (.ops [⟨(some 22), (.mv (.tmp 2)), none⟩,
  ⟨(some 23), (.bin .lss (.tmp 22) (.const (Value.int .i64 (Int.ofNat 0)))), none⟩,
  ⟨(some 24), (.mv (.tmp 23)), none⟩,
  ⟨(some 25), (.mv (.tmp 2)), (some (24, false))⟩,
  ⟨(some 26), (.conv .u64 (.tmp 25)), (some (24, false))⟩,
  ⟨(some 27), (.mv (.tmp 0)), (some (24, false))⟩,
  ⟨(some 28), (.nilCheck (.tmp 27)), (some (24, false))⟩,
  ⟨(some 29), (.addOff (.tmp 28) 1), (some (24, false))⟩,
  ⟨(some 30), (.load (.tmp 29) none), (some (24, false))⟩,
  ⟨(some 31), (.bin .geq (.tmp 26) (.tmp 30)), (some (24, false))⟩,
  ⟨(some 32), (.pick (.tmp 24) (.const (Value.bool true)) (.tmp 31)), none⟩,
  ⟨(some 33), (.mv (.tmp 32)), none⟩,
  ⟨(some 34), (.mv (.tmp 3)), (some (33, false))⟩,
  ⟨(some 35), (.bin .lss (.tmp 34) (.const (Value.int .i64 (Int.ofNat 0)))), (some (33, false))⟩,
  ⟨(some 36), (.pick (.tmp 33) (.const (Value.bool true)) (.tmp 35)), none⟩,
  ⟨(some 21), (.mv (.tmp 36)), none⟩])
 (.cond (.tmp 21) none
 (.seq (.ops [⟨(some 8), (.mv (.const (Value.int .i64 (Int.ofNat 2)))), none⟩])
 .ret)
 (.seq (.draw 0 [⟨0, [0], ⟨(some 38), (.mv (.tmp 0)), none⟩, 0, 136⟩,
  ⟨1, [38], ⟨(some 39), (.nilCheck (.tmp 38)), none⟩, 0, 136⟩,
  ⟨2, [39], ⟨(some 40), (.addOff (.tmp 39) 3), none⟩, 0, 136⟩,
  ⟨3, [40], ⟨(some 41), (.load (.tmp 40) none), none⟩, 0, 136⟩,
  ⟨4, [0], ⟨(some 42), (.mv (.tmp 0)), none⟩, 0, 136⟩,
  ⟨5, [42], ⟨(some 43), (.nilCheck (.tmp 42)), none⟩, 0, 136⟩,
  ⟨6, [43], ⟨(some 44), (.addOff (.tmp 43) 2), none⟩, 0, 136⟩,
  ⟨7, [44], ⟨(some 45), (.load (.tmp 44) none), none⟩, 0, 136⟩,
  ⟨8, [41, 45], ⟨(some 46), (.bin .eql (.tmp 41) (.tmp 45)), none⟩, 0, 0⟩,
  ⟨9, [46], ⟨(some 37), (.mv (.tmp 46)), none⟩, 0, 0⟩])
 (.cond (.tmp 37) none
 (.seq (.ops [⟨(some 8), (.mv (.const (Value.int .i64 (Int.ofNat 21)))), none⟩])
 .ret)
 .skip)))))))
 (.seq (.draw 0 [⟨0, [0], ⟨(some 47), (.mv (.tmp 0)), none⟩, 0, 136⟩,
  ⟨1, [47], ⟨(some 48), (.nilCheck (.tmp 47)), none⟩, 0, 136⟩,
  ⟨2, [48], ⟨(some 49), (.addOff (.tmp 48) 0), none⟩, 0, 136⟩,
  ⟨3, [49], ⟨(some 50), (.load (.tmp 49) none), none⟩, 0, 136⟩,
  ⟨4, [0], ⟨(some 51), (.mv (.tmp 0)), none⟩, 0, 136⟩,
  ⟨5, [51], ⟨(some 52), (.nilCheck (.tmp 51)), none⟩, 0, 136⟩,
  ⟨6, [52], ⟨(some 53), (.addOff (.tmp 52) 1), none⟩, 0, 136⟩,
  ⟨7, [53], ⟨(some 54), (.load (.tmp 53) none), none⟩, 0, 136⟩,
  ⟨8, [54], ⟨(some 55), (.bin .mul (.const (Value.int .u64 (Int.ofNat 40))) (.tmp 54)), none⟩, 0, 8⟩,
  ⟨9, [50, 55], ⟨(some 56), (.bin .add (.tmp 50) (.tmp 55)), none⟩, 0, 0⟩,
  ⟨10, [56], ⟨(some 57), (.bin .add (.tmp 56) (.const (Value.int .u64 (Int.ofNat 8)))), none⟩, 0, 0⟩,
  ⟨11, [57], ⟨(some 10), (.mv (.tmp 57)), none⟩, 0, 0⟩])
 (.seq (.draw 0 [⟨0, [10], ⟨(some 58), (.mv (.tmp 10)), none⟩, 0, 544⟩,
  ⟨1, [58], ⟨(some 59), (.bin .add (.tmp 58) (.const (Value.int .u64 (Int.ofNat 8)))), none⟩, 0, 544⟩,
  ⟨2, [0], ⟨(some 60), (.mv (.tmp 0)), none⟩, 0, 544⟩,
  ⟨3, [60], ⟨(some 61), (.nilCheck (.tmp 60)), none⟩, 0, 544⟩,
  ⟨4, [61], ⟨(some 62), (.addOff (.tmp 61) 3), none⟩, 0, 544⟩,
  ⟨5, [62], ⟨(some 63), (.load (.tmp 62) none), none⟩, 0, 544⟩,
  ⟨6, [0], ⟨(some 64), (.mv (.tmp 0)), none⟩, 0, 544⟩,
  ⟨7, [64], ⟨(some 65), (.nilCheck (.tmp 64)), none⟩, 0, 544⟩,
  ⟨8, [65], ⟨(some 66), (.addOff (.tmp 65) 1), none⟩, 0, 544⟩,
  ⟨9, [66], ⟨(some 67), (.load (.tmp 66) none), none⟩, 0, 544⟩,
  ⟨10, [63, 67], ⟨(some 68), (.bin .rem (.tmp 63) (.tmp 67)), none⟩, 0, 0⟩,
  ⟨11, [68], ⟨(some 69), (.bin .mul (.const (Value.int .u64 (Int.ofNat 16))) (.tmp 68)), none⟩, 0, 0⟩,
  ⟨12, [59, 69], ⟨(some 70), (.bin .add (.tmp 59) (.tmp 69)), none⟩, 0, 0⟩,
  ⟨13, [70], ⟨(some 11), (.mv (.tmp 70)), none⟩, 0, 0⟩])
 (.seq (.seq (.ops [⟨(some 71), (.mv (.tmp 11)), none⟩,
  ⟨(some 72), (.mv (.tmp 2)), none⟩,
  ⟨(some 73), (.conv .u64 (.tmp 72)), none⟩,
  ⟨(some 74), (.build [(Value.int .u64 (Int.ofNat 0)), (Value.int .u64 (Int.ofNat 0))] [(0, (1, (.tmp 71))), (1, (1, (.tmp 73)))]), none⟩,
  ⟨(some 75), (.mv (.tmp 11)), none⟩,
  ⟨(some 76), (.bin .add (.tmp 75) (.const (Value.int .u64 (Int.ofNat 8)))), none⟩,
  ⟨(some 77), (.mv (.tmp 3)), none⟩,
  ⟨(some 78), (.conv .u64 (.tmp 77)), none⟩,
  ⟨(some 79), (.build [(Value.int .u64 (Int.ofNat 0)), (Value.int .u64 (Int.ofNat 0))] [(0, (1, (.tmp 76))), (1, (1, (.tmp 78)))]), none⟩,
  ⟨(some 80), (.mv (.tmp 10)), none⟩,
  ⟨(some 81), (.mv (.tmp 0)), none⟩,
  ⟨(some 82), (.nilCheck (.tmp 81)), none⟩,
  ⟨(some 83), (.addOff (.tmp 82) 3), none⟩,
  ⟨(some 84), (.load (.tmp 83) none), none⟩,
  ⟨(some 85), (.bin .add (.tmp 84) (.const (Value.int .u64 (Int.ofNat 1)))), none⟩,
  ⟨(some 86), (.build [(Value.int .u64 (Int.ofNat 0)), (Value.int .u64 (Int.ofNat 0))] [(0, (1, (.tmp 80))), (1, (1, (.tmp 85)))]), none⟩,
  ⟨(some 87), (.mkLit 3 2 [(Value.int .u64 (Int.ofNat 0)), (Value.int .u64 (Int.ofNat 0))] [(0, (.tmp 74)), (2, (.tmp 79)), (4, (.tmp 86))]), none⟩,
  ⟨(some 88), (.len false (.tmp 87)), none⟩,
  ⟨(some 89), (.mv (.const (Value.int .i64 (Int.ofNat 0)))), none⟩])
 (.block 1 [0] (.loop [0, 1, 87, 88, 89] (.seq (.ops [⟨(some 90), (.bin .lss (.tmp 89) (.tmp 88)), none⟩])
 (.seq (.cond (.tmp 90) none
 .skip
 (.exit 1))
 (.seq (.block 2 [0, 1, 87, 88, 89] (.seq (.ops [⟨(some 91), (.ixS (.tmp 87) (.tmp 89) 2), none⟩,
  ⟨(some 92), (.load (.tmp 91) (some 2)), none⟩,
  ⟨(some 13), (.alloc [(Value.int .u64 (Int.ofNat 0)), (Value.int .u64 (Int.ofNat 0))]), none⟩,
  ⟨none, (.store (.tmp 13) (.tmp 92) 2), none⟩])
 (.seq (.ops [⟨(some 93), (.mv (.tmp 1)), none⟩,
  ⟨(some 94), (.addOff (.tmp 13) 0), none⟩,
  ⟨(some 95), (.load (.tmp 94) none), none⟩,
  ⟨(some 96), (.addOff (.tmp 13) 1), none⟩,
  ⟨(some 97), (.load (.tmp 96) none), none⟩,
  ⟨(some 98), (.invoke (.tmp 93) [(24, 22), (25, 43)] [(.tmp 95), (.const (Value.int .i64 (Int.ofNat 8))), (.tmp 97)]), none⟩,
  ⟨(some 99), (.bin .neq (.tmp 98) (.const (Value.int .i64 (Int.ofNat 0)))), none⟩])
 (.cond (.tmp 99) none
 (.seq (.ops [⟨(some 100), (.mv (.tmp 0)), none⟩,
  ⟨(some 101), (.nilCheck (.tmp 100)), none⟩,
  ⟨(some 102), (.addOff (.tmp 101) 4), none⟩,
  ⟨none, (.store (.tmp 102) (.const (Value.bool true)) 1), none⟩])
 (.seq (.ops [⟨(some 8), (.mv (.const (Value.int .i64 (Int.ofNat 22)))), none⟩])
 .ret))
 .skip))))
 (.ops [⟨(some 103), (.bin .add (.tmp 89) (.const (Value.int .i64 (Int.ofNat 1)))), none⟩,
  ⟨(some 89), (.mv (.tmp 103)), none⟩])))))))
 (.seq (.ops [⟨(some 104), (.mv (.tmp 0)), none⟩,
  ⟨(some 105), (.nilCheck (.tmp 104)), none⟩,
  ⟨(some 106), (.addOff (.tmp 105) 3), none⟩,
  ⟨(some 107), (.load (.tmp 106) none), none⟩,
  ⟨(some 108), (.bin .add (.tmp 107) (.const (Value.int .u64 (Int.ofNat 1)))), none⟩,
  ⟨(some 109), (.nilCheck (.tmp 104)), none⟩,
  ⟨(some 110), (.addOff (.tmp 109) 3), none⟩,
  ⟨none, (.store (.tmp 110) (.tmp 108) 1), none⟩])
 (.seq (.ops [⟨(some 8), (.mv (.const (Value.int .i64 (Int.ofNat 0)))), none⟩])
 .ret)))))))),
 [(.tmp 8)], 4⟩
/- palisade/backend.tell -/
def k28 : KFunc := ⟨(.seq (.ops [⟨(some 4), (.box (.tmp 1)), none⟩,
  ⟨(some 6), (.mv (.const (Value.int .i64 (Int.ofNat 0)))), none⟩])
 (.seq (.ops [⟨(some 8), (.addOff (.tmp 4) 1), none⟩,
  ⟨(some 9), (.load (.tmp 8) none), none⟩,
  ⟨(some 10), (.addOff (.tmp 4) 1), none⟩,
  ⟨(some 11), (.load (.tmp 10) none), none⟩,
  ⟨(some 12), (.len false (.tmp 11)), none⟩,
  ⟨(some 13), (.bin .sub (.tmp 12) (.const (Value.int .i64 (Int.ofNat 1)))), none⟩,
  ⟨(some 14), (.ixS (.tmp 9) (.tmp 13) 3), none⟩,
  ⟨(some 15), (.load (.tmp 14) (some 3)), none⟩,
  ⟨(some 7), (.alloc [(Value.int .u64 (Int.ofNat 0)), (Value.int .i64 (Int.ofNat 0)), (Value.bool false)]), none⟩,
  ⟨none, (.store (.tmp 7) (.tmp 15) 3), none⟩])
 (.seq (.seq (.ops [⟨(some 16), (.addOff (.tmp 7) 2), none⟩,
  ⟨(some 17), (.load (.tmp 16) none), none⟩,
  ⟨(some 18), (.mv (.tmp 17)), none⟩,
  ⟨(some 19), (.mv (.tmp 0)), (some (18, true))⟩,
  ⟨(some 20), (.addOff (.tmp 7) 0), (some (18, true))⟩,
  ⟨(some 21), (.load (.tmp 20) none), (some (18, true))⟩,
  ⟨(some 22), (.mv (.tmp 2)), (some (18, true))⟩,
  ⟨(some 23), (.mkLit 1 1 [(Value.int .u8 (Int.ofNat 0))] [(0, (.tmp 22))]), (some (18, true))⟩,
  ⟨(some 24), (.invoke (.tmp 19) [(24, 84), (25, 36), (27, 34)] [(.tmp 21), (.tmp 23)]), (some (18, true))⟩,
  ⟨(some 25), (.bin .eql (.tmp 24) (.const (Value.int .i64 (Int.ofNat 0)))), (some (18, true))⟩,
  ⟨(some 26), (.pick (.tmp 18) (.tmp 25) (.const (Value.bool false))), none⟩])
 (.cond (.tmp 26) none
 (.seq (.ops [⟨(some 6), (.mv (.const (Value.int .i64 (Int.ofNat 1)))), none⟩])
 .ret)
 .skip))
 (.seq (.ops [⟨(some 6), (.mv (.const (Value.int .i64 (Int.ofNat 0)))), none⟩])
 .ret)))),
 [(.tmp 6)], 3⟩
/- (*palisade/disk.Disk).none -/
def k29 : KFunc := ⟨(.seq (.ops [⟨(some 2), (.mv (.const (Value.bool false))), none⟩])
 (.seq (.ops [⟨(some 3), (.mv (.tmp 0)), none⟩,
  ⟨(some 4), (.eqv .ptr false (.tmp 3) (.const (Value.pointer none))), none⟩,
  ⟨(some 5), (.mv (.tmp 4)), none⟩,
  ⟨(some 6), (.mv (.tmp 0)), (some (5, false))⟩,
  ⟨(some 7), (.nilCheck (.tmp 6)), (some (5, false))⟩,
  ⟨(some 8), (.addOff (.tmp 7) 1), (some (5, false))⟩,
  ⟨(some 9), (.load (.tmp 8) none), (some (5, false))⟩,
  ⟨(some 10), (.eqv .map false (.tmp 9) (.const (Value.map none))), (some (5, false))⟩,
  ⟨(some 11), (.pick (.tmp 5) (.const (Value.bool true)) (.tmp 10)), none⟩,
  ⟨(some 2), (.mv (.tmp 11)), none⟩])
 .ret)),
 [(.tmp 2)], 1⟩
/- (*palisade/mem.Memory).Frames -/
def k30 : KFunc := ⟨(.seq (.ops [⟨(some 2), (.mv (.const (Value.int .i64 (Int.ofNat 0)))), none⟩])
 (.seq (.seq (.ops [⟨(some 3), (.mv (.tmp 0)), none⟩,
  ⟨(some 4), (.call 50 [(.tmp 3)]), none⟩])
 (.cond (.tmp 4) none
 (.seq (.ops [⟨(some 2), (.mv (.const (Value.int .i64 (Int.ofNat 0)))), none⟩])
 .ret)
 .skip))
 (.seq (.ops [⟨(some 5), (.mv (.tmp 0)), none⟩,
  ⟨(some 6), (.nilCheck (.tmp 5)), none⟩,
  ⟨(some 7), (.addOff (.tmp 6) 0), none⟩,
  ⟨(some 8), (.load (.tmp 7) none), none⟩,
  ⟨(some 9), (.len false (.tmp 8)), none⟩,
  ⟨(some 10), (.bin .quo (.tmp 9) (.const (Value.int .i64 (Int.ofNat 256)))), none⟩,
  ⟨(some 2), (.mv (.tmp 10)), none⟩])
 .ret))),
 [(.tmp 2)], 1⟩
/- slices.DeleteFunc[[]palisade/disk.Request,palisade/disk.Request] -/
def k31 : KFunc := ⟨(.seq (.ops [⟨(some 4), (.mv (.const (Value.slice none 0 0))), none⟩])
 (.seq (.ops [⟨(some 8), (.mv (.tmp 0)), none⟩,
  ⟨(some 9), (.mv (.tmp 1)), none⟩,
  ⟨(some 10), (.call 51 [(.tmp 8), (.tmp 9)]), none⟩,
  ⟨(some 5), (.mv (.tmp 10)), none⟩])
 (.seq (.seq (.ops [⟨(some 11), (.mv (.tmp 5)), none⟩,
  ⟨(some 12), (.bin .eql (.tmp 11) (.const (Value.int .i64 (Int.negSucc 0)))), none⟩])
 (.cond (.tmp 12) none
 (.seq (.ops [⟨(some 13), (.mv (.tmp 0)), none⟩,
  ⟨(some 4), (.mv (.tmp 13)), none⟩])
 .ret)
 .skip))
 (.seq (.seq (.ops [⟨(some 14), (.mv (.tmp 5)), none⟩,
  ⟨(some 15), (.bin .add (.tmp 14) (.const (Value.int .i64 (Int.ofNat 1)))), none⟩,
  ⟨(some 6), (.mv (.tmp 15)), none⟩])
 (.block 0 [0, 5] (.loop [0, 1, 5, 6] (.seq (.seq (.ops [⟨(some 16), (.mv (.tmp 6)), none⟩,
  ⟨(some 17), (.mv (.tmp 0)), none⟩,
  ⟨(some 18), (.len false (.tmp 17)), none⟩,
  ⟨(some 19), (.bin .lss (.tmp 16) (.tmp 18)), none⟩])
 (.cond (.tmp 19) none
 .skip
 (.exit 0)))
 (.seq (.block 1 [0, 1, 5, 6] (.seq (.ops [⟨(some 22), (.mv (.tmp 0)), none⟩,
  ⟨(some 23), (.mv (.tmp 6)), none⟩,
  ⟨(some 24), (.ixS (.tmp 22) (.tmp 23) 4), none⟩,
  ⟨(some 25), (.load (.tmp 24) (some 4)), none⟩,
  ⟨(some 7), (.alloc [(Value.int .i64 (Int.ofNat 0)), (Value.bool false), (Value.int .i64 (Int.ofNat 0)), (Value.int .i64 (Int.ofNat 0))]), none⟩,
  ⟨none, (.store (.tmp 7) (.tmp 25) 4), none⟩])
 (.seq (.ops [⟨(some 26), (.mv (.tmp 1)), none⟩,
  ⟨(some 27), (.load (.tmp 7) (some 4)), none⟩,
  ⟨(some 28), (.callV (.tmp 26) [(.tmp 27)]), none⟩,
  ⟨(some 29), (.un .not (.tmp 28)), none⟩])
 (.cond (.tmp 29) (some [0, 1, 5, 6])
 (.seq (.ops [⟨(some 30), (.mv (.tmp 0)), none⟩,
  ⟨(some 31), (.mv (.tmp 5)), none⟩,
  ⟨(some 32), (.load (.tmp 7) (some 4)), none⟩,
  ⟨(some 33), (.ixS (.tmp 30) (.tmp 31) 4), none⟩,
  ⟨none, (.store (.tmp 33) (.tmp 32) 4), none⟩])
 (.ops [⟨(some 34), (.mv (.tmp 5)), none⟩,
  ⟨(some 35), (.bin .add (.tmp 34) (.const (Value.int .i64 (Int.ofNat 1)))), none⟩,
  ⟨(some 5), (.mv (.tmp 35)), none⟩]))
 .skip))))
 (.ops [⟨(some 20), (.mv (.tmp 6)), none⟩,
  ⟨(some 21), (.bin .add (.tmp 20) (.const (Value.int .i64 (Int.ofNat 1)))), none⟩,
  ⟨(some 6), (.mv (.tmp 21)), none⟩]))))))
 (.seq (.ops [⟨(some 36), (.mv (.tmp 0)), none⟩,
  ⟨(some 37), (.mv (.tmp 5)), none⟩,
  ⟨(some 38), (.slS (.tmp 36) (some (.tmp 37)) none none 4), none⟩,
  ⟨none, (.clear (.tmp 38) [(Value.int .i64 (Int.ofNat 0)), (Value.bool false), (Value.int .i64 (Int.ofNat 0)), (Value.int .i64 (Int.ofNat 0))]), none⟩])
 (.seq (.ops [⟨(some 39), (.mv (.tmp 0)), none⟩,
  ⟨(some 40), (.mv (.tmp 5)), none⟩,
  ⟨(some 41), (.slS (.tmp 39) none (some (.tmp 40)) none 4), none⟩,
  ⟨(some 4), (.mv (.tmp 41)), none⟩])
 .ret)))))),
 [(.tmp 4)], 2⟩
/- (*palisade/disk.Disk).Complete$1 -/
def k32 : KFunc := ⟨(.seq (.ops [⟨(some 2), (.box (.tmp 0)), none⟩,
  ⟨(some 3), (.mv (.const (Value.bool false))), none⟩])
 (.seq (.ops [⟨(some 4), (.load (.tmp 2) (some 4)), none⟩,
  ⟨(some 5), (.load (.tmp 1) (some 4)), none⟩,
  ⟨(some 6), (.eqFlat false [.i, .b, .i, .i] (.tmp 4) (.tmp 5)), none⟩,
  ⟨(some 3), (.mv (.tmp 6)), none⟩])
 .ret)),
 [(.tmp 3)], 2⟩
/- (*palisade/mem.Memory).Bytes -/
def k33 : KFunc := ⟨(.seq (.ops [⟨(some 6), (.mv (.const (Value.slice none 0 0))), none⟩,
  ⟨(some 7), (.mv (.const (Value.int .i64 (Int.ofNat 0)))), none⟩])
 (.seq (.ops [⟨(some 11), (.mv (.tmp 0)), none⟩,
  ⟨(some 12), (.mv (.tmp 1)), none⟩,
  ⟨(some 13), (.mv (.tmp 2)), none⟩,
  ⟨(some 14), (.call 52 [(.tmp 11), (.tmp 12), (.tmp 13)]), none⟩,
  ⟨(some 10), (.mv (.tmp 14)), none⟩,
  ⟨(some 15), (.extract (.tmp 10) 0), none⟩,
  ⟨(some 16), (.extract (.tmp 10) 1), none⟩,
  ⟨(some 8), (.mv (.tmp 15)), none⟩,
  ⟨(some 9), (.mv (.tmp 16)), none⟩])
 (.seq (.ops [⟨(some 17), (.mv (.tmp 8)), none⟩,
  ⟨(some 18), (.call 53 [(.tmp 17)]), none⟩,
  ⟨(some 19), (.mv (.tmp 9)), none⟩,
  ⟨(some 6), (.mv (.tmp 18)), none⟩,
  ⟨(some 7), (.mv (.tmp 19)), none⟩])
 .ret))),
 [(.tmp 6), (.tmp 7)], 3⟩
/- (*palisade/disk.Disk).Put -/
def k34 : KFunc := ⟨(.seq (.ops [⟨(some 6), (.mv (.const (Value.int .i64 (Int.ofNat 0)))), none⟩])
 (.seq (.ops [⟨(some 8), (.mv (.tmp 0)), none⟩,
  ⟨(some 9), (.mv (.tmp 1)), none⟩,
  ⟨(some 10), (.call 54 [(.tmp 8), (.tmp 9)]), none⟩,
  ⟨(some 7), (.mv (.tmp 10)), none⟩])
 (.seq (.block 0 [0, 1, 2] (.seq (.ops [⟨(some 12), (.mv (.tmp 7)), none⟩,
  ⟨(some 13), (.bin .neq (.tmp 12) (.const (Value.int .i64 (Int.ofNat 0)))), none⟩,
  ⟨(some 11), (.mv (.tmp 13)), none⟩])
 (.cond (.tmp 11) none
 (.seq (.ops [⟨(some 14), (.mv (.tmp 7)), none⟩,
  ⟨(some 6), (.mv (.tmp 14)), none⟩])
 .ret)
 (.seq (.ops [⟨(some 16), (.mv (.tmp 2)), none⟩,
  ⟨(some 17), (.len false (.tmp 16)), none⟩,
  ⟨(some 18), (.bin .neq (.tmp 17) (.const (Value.int .i64 (Int.ofNat 256)))), none⟩,
  ⟨(some 15), (.mv (.tmp 18)), none⟩])
 (.cond (.tmp 15) none
 (.seq (.ops [⟨(some 6), (.mv (.const (Value.int .i64 (Int.ofNat 2)))), none⟩])
 .ret)
 .skip)))))
 (.seq (.seq (.ops [⟨(some 19), (.mv (.tmp 2)), none⟩,
  ⟨(some 20), (.call 55 [(.tmp 19), (.func 56)]), none⟩,
  ⟨(some 21), (.un .not (.tmp 20)), none⟩])
 (.cond (.tmp 21) none
 (.seq (.ops [⟨(some 22), (.mv (.tmp 0)), none⟩,
  ⟨(some 23), (.nilCheck (.tmp 22)), none⟩,
  ⟨(some 24), (.addOff (.tmp 23) 1), none⟩,
  ⟨(some 25), (.load (.tmp 24) none), none⟩,
  ⟨(some 26), (.mv (.tmp 1)), none⟩,
  ⟨none, (.delete (false, [.i]) (.tmp 25) (.tmp 26)), none⟩])
 (.seq (.ops [⟨(some 6), (.mv (.const (Value.int .i64 (Int.ofNat 0)))), none⟩])
 .ret))
 .skip))
 (.seq (.draw 0 [⟨0, [0], ⟨(some 27), (.mv (.tmp 0)), none⟩, 0, 8⟩,
  ⟨1, [27], ⟨(some 28), (.nilCheck (.tmp 27)), none⟩, 0, 8⟩,
  ⟨2, [28], ⟨(some 29), (.addOff (.tmp 28) 1), none⟩, 0, 8⟩,
  ⟨3, [29], ⟨(some 30), (.load (.tmp 29) none), none⟩, 0, 8⟩,
  ⟨4, [1], ⟨(some 31), (.mv (.tmp 1)), none⟩, 0, 8⟩,
  ⟨5, [2], ⟨(some 32), (.mv (.tmp 2)), none⟩, 0, 8⟩,
  ⟨6, [32], ⟨(some 33), (.call 57 [(.tmp 32)]), none⟩, 0, 8⟩,
  ⟨7, [30, 31, 33], ⟨none, (.mapUpdate (false, [.i]) (.tmp 30) (.tmp 31) (.tmp 33)), none⟩, 0, 0⟩])
 (.seq (.ops [⟨(some 6), (.mv (.const (Value.int .i64 (Int.ofNat 0)))), none⟩])
 .ret)))))),
 [(.tmp 6)], 3⟩
/- (*palisade/disk.Disk).Block -/
def k35 : KFunc := ⟨(.seq (.ops [⟨(some 4), (.mv (.const (Value.slice none 0 0))), none⟩,
  ⟨(some 5), (.mv (.const (Value.int .i64 (Int.ofNat 0)))), none⟩])
 (.seq (.seq (.ops [⟨(some 8), (.mv (.tmp 0)), none⟩,
  ⟨(some 9), (.mv (.tmp 1)), none⟩,
  ⟨(some 10), (.call 54 [(.tmp 8), (.tmp 9)]), none⟩,
  ⟨(some 6), (.mv (.tmp 10)), none⟩])
 (.seq (.ops [⟨(some 11), (.mv (.tmp 6)), none⟩,
  ⟨(some 12), (.bin .neq (.tmp 11) (.const (Value.int .i64 (Int.ofNat 0)))), none⟩])
 (.cond (.tmp 12) none
 (.seq (.ops [⟨(some 13), (.mv (.tmp 6)), none⟩,
  ⟨(some 4), (.mv (.const (Value.slice none 0 0))), none⟩,
  ⟨(some 5), (.mv (.tmp 13)), none⟩])
 .ret)
 .skip)))
 (.seq (.ops [⟨(some 14), (.makeSlice (.const (Value.int .i64 (Int.ofNat 256))) (.const (Value.int .i64 (Int.ofNat 256))) [(Value.int .u8 (Int.ofNat 0))] 1), none⟩,
  ⟨(some 7), (.mv (.tmp 14)), none⟩])
 (.seq (.ops [⟨(some 15), (.mv (.tmp 7)), none⟩,
  ⟨(some 16), (.mv (.tmp 0)), none⟩,
  ⟨(some 17), (.nilCheck (.tmp 16)), none⟩,
  ⟨(some 18), (.addOff (.tmp 17) 1), none⟩,
  ⟨(some 19), (.load (.tmp 18) none), none⟩,
  ⟨(some 20), (.mv (.tmp 1)), none⟩,
  ⟨(some 21), (.lookup (false, [.i]) (.tmp 19) (.tmp 20) (Value.slice none 0 0) false), none⟩,
  ⟨(some 22), (.copy (.tmp 15) (.tmp 21) 1), none⟩])
 (.seq (.ops [⟨(some 23), (.mv (.tmp 7)), none⟩,
  ⟨(some 4), (.mv (.tmp 23)), none⟩,
  ⟨(some 5), (.mv (.const (Value.int .i64 (Int.ofNat 0)))), none⟩])
 .ret))))),
 [(.tmp 4), (.tmp 5)], 2⟩
/- (*palisade/mem.Memory).Put -/
def k36 : KFunc := ⟨(.seq (.ops [⟨(some 6), (.mv (.const (Value.int .i64 (Int.ofNat 0)))), none⟩])
 (.seq (.ops [⟨(some 10), (.mv (.tmp 0)), none⟩,
  ⟨(some 11), (.mv (.tmp 1)), none⟩,
  ⟨(some 12), (.mv (.tmp 2)), none⟩,
  ⟨(some 13), (.len false (.tmp 12)), none⟩,
  ⟨(some 14), (.call 52 [(.tmp 10), (.tmp 11), (.tmp 13)]), none⟩,
  ⟨(some 9), (.mv (.tmp 14)), none⟩,
  ⟨(some 15), (.extract (.tmp 9) 0), none⟩,
  ⟨(some 16), (.extract (.tmp 9) 1), none⟩,
  ⟨(some 7), (.mv (.tmp 15)), none⟩,
  ⟨(some 8), (.mv (.tmp 16)), none⟩])
 (.seq (.seq (.ops [⟨(some 17), (.mv (.tmp 8)), none⟩,
  ⟨(some 18), (.bin .eql (.tmp 17) (.const (Value.int .i64 (Int.ofNat 0)))), none⟩])
 (.cond (.tmp 18) (some [8])
 (.ops [⟨(some 19), (.mv (.tmp 7)), none⟩,
  ⟨(some 20), (.mv (.tmp 2)), none⟩,
  ⟨(some 21), (.copy (.tmp 19) (.tmp 20) 1), none⟩])
 .skip))
 (.seq (.ops [⟨(some 22), (.mv (.tmp 8)), none⟩,
  ⟨(some 6), (.mv (.tmp 22)), none⟩])
 .ret)))),
 [(.tmp 6)], 3⟩
/- (*palisade/frames.Frames).none -/
def k37 : KFunc := ⟨(.seq (.ops [⟨(some 2), (.mv (.const (Value.bool false))), none⟩])
 (.seq (.ops [⟨(some 3), (.mv (.tmp 0)), none⟩,
  ⟨(some 4), (.eqv .ptr false (.tmp 3) (.const (Value.pointer none))), none⟩,
  ⟨(some 5), (.mv (.tmp 4)), none⟩,
  ⟨(some 6), (.mv (.tmp 0)), (some (5, false))⟩,
  ⟨(some 7), (.nilCheck (.tmp 6)), (some (5, false))⟩,
  ⟨(some 8), (.addOff (.tmp 7) 2), (some (5, false))⟩,
  ⟨(some 9), (.load (.tmp 8) none), (some (5, false))⟩,
  ⟨(some 10), (.eqv .map false (.tmp 9) (.const (Value.map none))), (some (5, false))⟩,
  ⟨(some 11), (.pick (.tmp 5) (.const (Value.bool true)) (.tmp 10)), none⟩,
  ⟨(some 2), (.mv (.tmp 11)), none⟩])
 .ret)),
 [(.tmp 2)], 1⟩
/- (*palisade/frames.Frames).wrong -/
def k38 : KFunc := ⟨(.seq (.ops [⟨(some 6), (.mv (.const (Value.int .i64 (Int.ofNat 0)))), none⟩])
 (.seq (.ops [⟨(some 8), (.mv (.tmp 0)), none⟩,
  ⟨(some 9), (.mv (.tmp 2)), none⟩,
  ⟨(some 10), (.call 40 [(.tmp 8), (.tmp 9)]), none⟩,
  ⟨(some 7), (.mv (.tmp 10)), none⟩])
 (.seq (.block 0 [] (.seq (.ops [⟨(some 12), (.mv (.tmp 7)), none⟩,
  ⟨(some 13), (.bin .neq (.tmp 12) (.const (Value.int .i64 (Int.ofNat 0)))), none⟩,
  ⟨(some 11), (.mv (.tmp 13)), none⟩])
 (.cond (.tmp 11) none
 (.seq (.ops [⟨(some 14), (.mv (.tmp 7)), none⟩,
  ⟨(some 6), (.mv (.tmp 14)), none⟩])
 .ret)
 (.seq (.ops [⟨(some 16), (.mv (.tmp 1)), none⟩,
  ⟨(some 17), (.bin .lss (.tmp 16) (.const (Value.int .i64 (Int.ofNat 0)))), none⟩,
  ⟨(some 18), (.mv (.tmp 17)), none⟩,
  ⟨(some 19), (.mv (.tmp 1)), (some (18, false))⟩,
  ⟨(some 20), (.mv (.tmp 0)), (some (18, false))⟩,
  ⟨(some 21), (.nilCheck (.tmp 20)), (some (18, false))⟩,
  ⟨(some 22), (.addOff (.tmp 21) 0), (some (18, false))⟩,
  ⟨(some 23), (.load (.tmp 22) none), (some (18, false))⟩,
  ⟨(some 24), (.bin .geq (.tmp 19) (.tmp 23)), (some (18, false))⟩,
  ⟨(some 25), (.pick (.tmp 18) (.const (Value.bool true)) (.tmp 24)), none⟩,
  ⟨(some 15), (.mv (.tmp 25)), none⟩])
 (.cond (.tmp 15) none
 (.seq (.ops [⟨(some 6), (.mv (.const (Value.int .i64 (Int.ofNat 2)))), none⟩])
 .ret)
 (.seq (.draw 0 [⟨0, [0], ⟨(some 27), (.mv (.tmp 0)), none⟩, 0, 75816⟩,
  ⟨1, [27], ⟨(some 28), (.nilCheck (.tmp 27)), none⟩, 0, 75816⟩,
  ⟨2, [28], ⟨(some 29), (.addOff (.tmp 28) 2), none⟩, 0, 75816⟩,
  ⟨3, [29], ⟨(some 30), (.load (.tmp 29) none), none⟩, 0, 75816⟩,
  ⟨4, [1], ⟨(some 31), (.mv (.tmp 1)), none⟩, 0, 75816⟩,
  ⟨5, [30, 31], ⟨(some 32), (.lookup (false, [.i]) (.tmp 30) (.tmp 31) (Value.int .i64 (Int.ofNat 0)) false), none⟩, 0, 75808⟩,
  ⟨6, [32], ⟨(some 33), (.bin .eql (.tmp 32) (.const (Value.int .i64 (Int.ofNat 0)))), none⟩, 0, 75776⟩,
  ⟨7, [33], ⟨(some 34), (.mv (.tmp 33)), none⟩, 0, 75776⟩,
  ⟨8, [0, 34], ⟨(some 35), (.mv (.tmp 0)), (some (34, false))⟩, 0, 75776⟩,
  ⟨9, [35, 34], ⟨(some 36), (.nilCheck (.tmp 35)), (some (34, false))⟩, 0, 75776⟩,
  ⟨10, [36, 34], ⟨(some 37), (.addOff (.tmp 36) 3), (some (34, false))⟩, 0, 75776⟩,
  ⟨11, [37, 34], ⟨(some 38), (.load (.tmp 37) none), (some (34, false))⟩, 0, 75776⟩,
  ⟨12, [1, 34], ⟨(some 39), (.mv (.tmp 1)), (some (34, false))⟩, 0, 75776⟩,
  ⟨13, [38, 39, 34], ⟨(some 40), (.lookup (false, [.i]) (.tmp 38) (.tmp 39) (Value.int .i64 (Int.ofNat 0)) false), (some (34, false))⟩, 0, 73728⟩,
  ⟨14, [2, 34], ⟨(some 41), (.mv (.tmp 2)), (some (34, false))⟩, 0, 75776⟩,
  ⟨15, [41, 34], ⟨(some 42), (.ixS (.tmp 41) (.const (Value.int .i64 (Int.ofNat 0))) 1), (some (34, false))⟩, 0, 75776⟩,
  ⟨16, [42, 34], ⟨(some 43), (.load (.tmp 42) none), (some (34, false))⟩, 0, 75776⟩,
  ⟨17, [40, 43, 34], ⟨(some 44), (.bin .neq (.tmp 40) (.tmp 43)), (some (34, false))⟩, 0, 0⟩,
  ⟨18, [34, 44], ⟨(some 45), (.pick (.tmp 34) (.const (Value.bool true)) (.tmp 44)), none⟩, 0, 0⟩,
  ⟨19, [45], ⟨(some 26), (.mv (.tmp 45)), none⟩, 0, 0⟩])
 (.cond (.tmp 26) none
 (.seq (.ops [⟨(some 6), (.mv (.const (Value.int .i64 (Int.ofNat 15)))), none⟩])
 .ret)
 .skip)))))))
 (.seq (.ops [⟨(some 6), (.mv (.const (Value.int .i64 (Int.ofNat 0)))), none⟩])
 .ret)))),
 [(.tmp 6)], 3⟩
/- palisade/frames.isOwner -/
def k39 : KFunc := ⟨(.seq (.ops [⟨(some 2), (.mv (.const (Value.bool false))), none⟩])
 (.seq (.ops [⟨(some 3), (.mv (.tmp 0)), none⟩,
  ⟨(some 4), (.bin .geq (.tmp 3) (.const (Value.int .i64 (Int.ofNat 0)))), none⟩,
  ⟨(some 5), (.mv (.tmp 4)), none⟩,
  ⟨(some 6), (.mv (.tmp 0)), (some (5, true))⟩,
  ⟨(some 7), (.bin .lss (.tmp 6) (.const (Value.int .i64 (Int.ofNat 17)))), (some (5, true))⟩,
  ⟨(some 8), (.pick (.tmp 5) (.tmp 7) (.const (Value.bool false))), none⟩,
  ⟨(some 2), (.mv (.tmp 8)), none⟩])
 .ret)),
 [(.tmp 2)], 1⟩
/- (*palisade/frames.Frames).owned -/
def k40 : KFunc := ⟨(.seq (.ops [⟨(some 4), (.mv (.const (Value.int .i64 (Int.ofNat 0)))), none⟩])
 (.seq (.seq (.ops [⟨(some 7), (.mv (.tmp 0)), none⟩,
  ⟨(some 8), (.call 37 [(.tmp 7)]), none⟩])
 (.cond (.tmp 8) none
 (.seq (.ops [⟨(some 4), (.mv (.const (Value.int .i64 (Int.ofNat 1)))), none⟩])
 .ret)
 .skip))
 (.seq (.seq (.ops [⟨(some 9), (.mv (.tmp 1)), none⟩,
  ⟨(some 10), (.len false (.tmp 9)), none⟩,
  ⟨(some 11), (.mv (.const (Value.int .i64 (Int.ofNat 0)))), none⟩])
 (.block 0 [] (.loop [9, 10, 11] (.seq (.ops [⟨(some 12), (.bin .lss (.tmp 11) (.tmp 10)), none⟩])
 (.seq (.cond (.tmp 12) none
 .skip
 (.exit 0))
 (.seq (.block 1 [9, 10, 11] (.seq (.ops [⟨(some 13), (.ixS (.tmp 9) (.tmp 11) 1), none⟩,
  ⟨(some 14), (.load (.tmp 13) none), none⟩,
  ⟨(some 6), (.mv (.tmp 14)), none⟩])
 (.seq (.ops [⟨(some 15), (.mv (.tmp 6)), none⟩,
  ⟨(some 16), (.call 39 [(.tmp 15)]), none⟩,
  ⟨(some 17), (.un .not (.tmp 16)), none⟩])
 (.cond (.tmp 17) none
 (.seq (.ops [⟨(some 4), (.mv (.const (Value.int .i64 (Int.ofNat 2)))), none⟩])
 .ret)
 .skip))))
 (.ops [⟨(some 18), (.bin .add (.tmp 11) (.const (Value.int .i64 (Int.ofNat 1)))), none⟩,
  ⟨(some 11), (.mv (.tmp 18)), none⟩])))))))
 (.seq (.ops [⟨(some 4), (.mv (.const (Value.int .i64 (Int.ofNat 0)))), none⟩])
 .ret)))),
 [(.tmp 4)], 2⟩
/- palisade/ring.right -/
def k41 : KFunc := ⟨(.seq (.ops [⟨(some 2), (.mv (.const (Value.bool false))), none⟩])
 (.seq (.ops [⟨(some 3), (.mv (.tmp 0)), none⟩,
  ⟨(some 4), (.bin .geq (.tmp 3) (.const (Value.int .i64 (Int.ofNat 1)))), none⟩,
  ⟨(some 5), (.mv (.tmp 4)), none⟩,
  ⟨(some 6), (.mv (.tmp 0)), (some (5, true))⟩,
  ⟨(some 7), (.bin .leq (.tmp 6) (.const (Value.int .i64 (Int.ofNat 64)))), (some (5, true))⟩,
  ⟨(some 8), (.pick (.tmp 5) (.tmp 7) (.const (Value.bool false))), none⟩,
  ⟨(some 9), (.mv (.tmp 8)), none⟩,
  ⟨(some 10), (.mv (.tmp 0)), (some (9, true))⟩,
  ⟨(some 11), (.mv (.tmp 0)), (some (9, true))⟩,
  ⟨(some 12), (.bin .sub (.tmp 11) (.const (Value.int .i64 (Int.ofNat 1)))), (some (9, true))⟩,
  ⟨(some 13), (.bin .and (.tmp 10) (.tmp 12)), (some (9, true))⟩,
  ⟨(some 14), (.bin .eql (.tmp 13) (.const (Value.int .i64 (Int.ofNat 0)))), (some (9, true))⟩,
  ⟨(some 15), (.pick (.tmp 9) (.tmp 14) (.const (Value.bool false))), none⟩,
  ⟨(some 2), (.mv (.tmp 15)), none⟩])
 .ret)),
 [(.tmp 2)], 1⟩
/- (*palisade/disk.Disk).Blocks -/
def k42 : KFunc := ⟨(.seq (.ops [⟨(some 2), (.mv (.const (Value.int .i64 (Int.ofNat 0)))), none⟩])
 (.seq (.seq (.ops [⟨(some 3), (.mv (.tmp 0)), none⟩,
  ⟨(some 4), (.call 29 [(.tmp 3)]), none⟩])
 (.cond (.tmp 4) none
 (.seq (.ops [⟨(some 2), (.mv (.const (Value.int .i64 (Int.ofNat 0)))), none⟩])
 .ret)
 .skip))
 (.seq (.ops [⟨(some 5), (.mv (.tmp 0)), none⟩,
  ⟨(some 6), (.nilCheck (.tmp 5)), none⟩,
  ⟨(some 7), (.addOff (.tmp 6) 0), none⟩,
  ⟨(some 8), (.load (.tmp 7) none), none⟩,
  ⟨(some 2), (.mv (.tmp 8)), none⟩])
 .ret))),
 [(.tmp 2)], 1⟩
/- (*palisade/mem.Memory).Store -/
def k43 : KFunc := ⟨(.seq (.ops [⟨(some 8), (.mv (.const (Value.int .i64 (Int.ofNat 0)))), none⟩])
 (.seq (.ops [⟨(some 12), (.mv (.tmp 0)), none⟩,
  ⟨(some 13), (.mv (.tmp 1)), none⟩,
  ⟨(some 14), (.mv (.tmp 2)), none⟩,
  ⟨(some 15), (.call 58 [(.tmp 12), (.tmp 13), (.tmp 14)]), none⟩,
  ⟨(some 11), (.mv (.tmp 15)), none⟩,
  ⟨(some 16), (.extract (.tmp 11) 0), none⟩,
  ⟨(some 17), (.extract (.tmp 11) 1), none⟩,
  ⟨(some 9), (.mv (.tmp 16)), none⟩,
  ⟨(some 10), (.mv (.tmp 17)), none⟩])
 (.seq (.seq (.ops [⟨(some 18), (.mv (.tmp 10)), none⟩,
  ⟨(some 19), (.bin .eql (.tmp 18) (.const (Value.int .i64 (Int.ofNat 0)))), none⟩])
 (.cond (.tmp 19) (some [10])
 (.ops [⟨(some 20), (.mv (.tmp 9)), none⟩,
  ⟨(some 21), (.mv (.tmp 3)), none⟩,
  ⟨(some 22), (.mv (.tmp 2)), none⟩,
  ⟨(some 23), (.call 59 [(.tmp 21), (.tmp 22)]), none⟩,
  ⟨(some 24), (.copy (.tmp 20) (.tmp 23) 1), none⟩])
 .skip))
 (.seq (.ops [⟨(some 25), (.mv (.tmp 10)), none⟩,
  ⟨(some 8), (.mv (.tmp 25)), none⟩])
 .ret)))),
 [(.tmp 8)], 4⟩
/- (*palisade/ring.Ring).usable -/
def k44 : KFunc := ⟨(.seq (.ops [⟨(some 4), (.mv (.const (Value.int .i64 (Int.ofNat 0)))), none⟩])
 (.seq (.block 0 [] (.seq (.ops [⟨(some 6), (.mv (.tmp 0)), none⟩,
  ⟨(some 7), (.eqv .ptr false (.tmp 6) (.const (Value.pointer none))), none⟩,
  ⟨(some 8), (.mv (.tmp 7)), none⟩,
  ⟨(some 9), (.mv (.tmp 0)), (some (8, false))⟩,
  ⟨(some 10), (.nilCheck (.tmp 9)), (some (8, false))⟩,
  ⟨(some 11), (.addOff (.tmp 10) 1), (some (8, false))⟩,
  ⟨(some 12), (.load (.tmp 11) none), (some (8, false))⟩,
  ⟨(some 13), (.bin .eql (.tmp 12) (.const (Value.int .u64 (Int.ofNat 0)))), (some (8, false))⟩,
  ⟨(some 14), (.pick (.tmp 8) (.const (Value.bool true)) (.tmp 13)), none⟩,
  ⟨(some 15), (.mv (.tmp 14)), none⟩,
  ⟨(some 16), (.mv (.tmp 1)), (some (15, false))⟩,
  ⟨(some 17), (.eqv .iface false (.tmp 16) (.const Value.nilIface)), (some (15, false))⟩,
  ⟨(some 18), (.pick (.tmp 15) (.const (Value.bool true)) (.tmp 17)), none⟩,
  ⟨(some 5), (.mv (.tmp 18)), none⟩])
 (.cond (.tmp 5) none
 (.seq (.ops [⟨(some 4), (.mv (.const (Value.int .i64 (Int.ofNat 1)))), none⟩])
 .ret)
 (.seq (.ops [⟨(some 20), (.mv (.tmp 0)), none⟩,
  ⟨(some 21), (.nilCheck (.tmp 20)), none⟩,
  ⟨(some 22), (.addOff (.tmp 21) 4), none⟩,
  ⟨(some 23), (.load (.tmp 22) none), none⟩,
  ⟨(some 19), (.mv (.tmp 23)), none⟩])
 (.cond (.tmp 19) none
 (.seq (.ops [⟨(some 4), (.mv (.const (Value.int .i64 (Int.ofNat 22)))), none⟩])
 .ret)
 .skip)))))
 (.seq (.ops [⟨(some 4), (.mv (.const (Value.int .i64 (Int.ofNat 0)))), none⟩])
 .ret))),
 [(.tmp 4)], 2⟩
/- (*palisade/ring.reader).number -/
def k45 : KFunc := ⟨(.seq (.ops [⟨(some 4), (.mv (.const (Value.int .u64 (Int.ofNat 0)))), none⟩])
 (.seq (.ops [⟨(some 8), (.mv (.tmp 0)), none⟩,
  ⟨(some 9), (.nilCheck (.tmp 8)), none⟩,
  ⟨(some 10), (.addOff (.tmp 9) 0), none⟩,
  ⟨(some 11), (.load (.tmp 10) none), none⟩,
  ⟨(some 12), (.mv (.tmp 1)), none⟩,
  ⟨(some 13), (.invoke (.tmp 11) [(24, 83), (25, 85)] [(.tmp 12), (.const (Value.int .i64 (Int.ofNat 8)))]), none⟩,
  ⟨(some 7), (.mv (.tmp 13)), none⟩,
  ⟨(some 14), (.extract (.tmp 7) 0), none⟩,
  ⟨(some 15), (.extract (.tmp 7) 1), none⟩,
  ⟨(some 5), (.mv (.tmp 14)), none⟩,
  ⟨(some 6), (.mv (.tmp 15)), none⟩])
 (.seq (.ops [⟨(some 16), (.mv (.tmp 0)), none⟩,
  ⟨(some 17), (.mv (.tmp 0)), none⟩,
  ⟨(some 18), (.nilCheck (.tmp 17)), none⟩,
  ⟨(some 19), (.addOff (.tmp 18) 1), none⟩,
  ⟨(some 20), (.load (.tmp 19) none), none⟩,
  ⟨(some 21), (.mv (.tmp 20)), none⟩,
  ⟨(some 22), (.mv (.tmp 6)), (some (21, false))⟩,
  ⟨(some 23), (.bin .neq (.tmp 22) (.const (Value.int .i64 (Int.ofNat 0)))), (some (21, false))⟩,
  ⟨(some 24), (.pick (.tmp 21) (.const (Value.bool true)) (.tmp 23)), none⟩,
  ⟨(some 25), (.nilCheck (.tmp 16)), none⟩,
  ⟨(some 26), (.addOff (.tmp 25) 1), none⟩,
  ⟨none, (.store (.tmp 26) (.tmp 24) 1), none⟩])
 (.seq (.ops [⟨(some 27), (.mv (.tmp 5)), none⟩,
  ⟨(some 4), (.mv (.tmp 27)), none⟩])
 .ret)))),
 [(.tmp 4)], 2⟩
/- (*palisade/ring.Ring).chain -/
def k46 : KFunc := ⟨(.seq (.ops [⟨(some 6), (.alloc [(Value.int .i64 (Int.ofNat 0)), (Value.slice none 0 0)]), none⟩,
  ⟨(some 7), (.mv (.const (Value.bool false))), none⟩])
 (.seq (.ops [⟨(some 13), (.mv (.tmp 2)), none⟩,
  ⟨(some 8), (.mv (.tmp 13)), none⟩])
 (.seq .skip
 (.seq (.seq (.ops [⟨(some 14), (.mv (.tmp 0)), none⟩,
  ⟨(some 15), (.nilCheck (.tmp 14)), none⟩,
  ⟨(some 16), (.addOff (.tmp 15) 1), none⟩,
  ⟨(some 17), (.load (.tmp 16) none), none⟩,
  ⟨(some 18), (.mv (.const (Value.int .u64 (Int.ofNat 0)))), none⟩])
 (.block 0 [2, 6, 7] (.loop [0, 1, 2, 6, 7, 8, 17, 18] (.seq (.ops [⟨(some 19), (.bin .lss (.tmp 18) (.tmp 17)), none⟩])
 (.seq (.cond (.tmp 19) none
 .skip
 (.exit 0))
 (.seq (.block 1 [0, 1, 2, 6, 7, 8, 17, 18] (.seq (.seq (.ops [⟨(some 20), (.mv (.tmp 8)), none⟩,
  ⟨(some 21), (.mv (.tmp 0)), none⟩,
  ⟨(some 22), (.nilCheck (.tmp 21)), none⟩,
  ⟨(some 23), (.addOff (.tmp 22) 1), none⟩,
  ⟨(some 24), (.load (.tmp 23) none), none⟩,
  ⟨(some 25), (.bin .geq (.tmp 20) (.tmp 24)), none⟩])
 (.cond (.tmp 25) none
 (.seq (.ops [⟨(some 26), (.build [(Value.int .i64 (Int.ofNat 0)), (Value.slice none 0 0)] []), none⟩,
  ⟨none, (.store (.tmp 6) (.tmp 26) 2), none⟩,
  ⟨(some 7), (.mv (.const (Value.bool false))), none⟩])
 .ret)
 .skip))
 (.seq (.ops [⟨(some 28), (.mv (.tmp 1)), none⟩,
  ⟨(some 29), (.mv (.tmp 0)), none⟩,
  ⟨(some 30), (.nilCheck (.tmp 29)), none⟩,
  ⟨(some 31), (.addOff (.tmp 30) 0), none⟩,
  ⟨(some 32), (.load (.tmp 31) none), none⟩,
  ⟨(some 33), (.mv (.tmp 8)), none⟩,
  ⟨(some 34), (.bin .mul (.const (Value.int .u64 (Int.ofNat 32))) (.tmp 33)), none⟩,
  ⟨(some 35), (.bin .add (.tmp 32) (.tmp 34)), none⟩,
  ⟨(some 36), (.call 60 [(.tmp 28), (.tmp 35)]), none⟩,
  ⟨(some 27), (.mv (.tmp 36)), none⟩,
  ⟨(some 37), (.extract (.tmp 27) 0), none⟩,
  ⟨(some 38), (.extract (.tmp 27) 1), none⟩,
  ⟨(some 39), (.extract (.tmp 27) 2), none⟩,
  ⟨(some 9), (.alloc [(Value.int .u64 (Int.ofNat 0)), (Value.int .i64 (Int.ofNat 0)), (Value.bool false)]), none⟩,
  ⟨none, (.store (.tmp 9) (.tmp 37) 3), none⟩,
  ⟨(some 10), (.mv (.tmp 38)), none⟩,
  ⟨(some 11), (.mv (.tmp 39)), none⟩])
 (.seq (.seq (.ops [⟨(some 40), (.addOff (.tmp 6) 1), none⟩,
  ⟨(some 41), (.load (.tmp 40) none), none⟩,
  ⟨(some 42), (.len false (.tmp 41)), none⟩,
  ⟨(some 12), (.mv (.tmp 42)), none⟩])
 (.seq (.ops [⟨(some 43), (.mv (.tmp 1)), none⟩,
  ⟨(some 44), (.nilCheck (.tmp 43)), none⟩,
  ⟨(some 45), (.addOff (.tmp 44) 1), none⟩,
  ⟨(some 46), (.load (.tmp 45) none), none⟩,
  ⟨(some 47), (.mv (.tmp 46)), none⟩,
  ⟨(some 48), (.mv (.tmp 12)), (some (47, false))⟩,
  ⟨(some 49), (.bin .gtr (.tmp 48) (.const (Value.int .i64 (Int.ofNat 0)))), (some (47, false))⟩,
  ⟨(some 50), (.mv (.tmp 49)), (some (47, false))⟩,
  ⟨(some 51), (.addOff (.tmp 6) 1), (some (50, true))⟩,
  ⟨(some 52), (.load (.tmp 51) none), (some (50, true))⟩,
  ⟨(some 53), (.mv (.tmp 12)), (some (50, true))⟩,
  ⟨(some 54), (.bin .sub (.tmp 53) (.const (Value.int .i64 (Int.ofNat 1)))), (some (50, true))⟩,
  ⟨(some 55), (.ixS (.tmp 52) (.tmp 54) 3), (some (50, true))⟩,
  ⟨(some 56), (.addOff (.tmp 55) 2), (some (50, true))⟩,
  ⟨(some 57), (.load (.tmp 56) none), (some (50, true))⟩,
  ⟨(some 58), (.pick (.tmp 50) (.tmp 57) (.const (Value.bool false))), (some (47, false))⟩,
  ⟨(some 59), (.mv (.tmp 58)), (some (47, false))⟩,
  ⟨(some 60), (.addOff (.tmp 9) 2), (some (59, true))⟩,
  ⟨(some 61), (.load (.tmp 60) none), (some (59, true))⟩,
  ⟨(some 62), (.un .not (.tmp 61)), (some (59, true))⟩,
  ⟨(some 63), (.pick (.tmp 59) (.tmp 62) (.const (Value.bool false))), (some (47, false))⟩,
  ⟨(some 64), (.pick (.tmp 47) (.const (Value.bool true)) (.tmp 63)), none⟩])
 (.cond (.tmp 64) none
 (.seq (.ops [⟨(some 65), (.build [(Value.int .i64 (Int.ofNat 0)), (Value.slice none 0 0)] []), none⟩,
  ⟨none, (.store (.tmp 6) (.tmp 65) 2), none⟩,
  ⟨(some 7), (.mv (.const (Value.bool false))), none⟩])
 .ret)
 .skip)))
 (.seq (.ops [⟨(some 66), (.addOff (.tmp 6) 1), none⟩,
  ⟨(some 67), (.load (.tmp 66) none), none⟩,
  ⟨(some 68), (.load (.tmp 9) (some 3)), none⟩,
  ⟨(some 69), (.mkLit 1 3 [(Value.int .u64 (Int.ofNat 0)), (Value.int .i64 (Int.ofNat 0)), (Value.bool false)] [(0, (.tmp 68))]), none⟩,
  ⟨(some 70), (.append (.tmp 67) (.tmp 69) 3 24), none⟩,
  ⟨(some 71), (.addOff (.tmp 6) 1), none⟩,
  ⟨none, (.store (.tmp 71) (.tmp 70) 1), none⟩])
 (.seq (.seq (.ops [⟨(some 72), (.mv (.tmp 11)), none⟩,
  ⟨(some 73), (.un .not (.tmp 72)), none⟩,
  ⟨(some 7), (.mv (.tmp 73)), none⟩])
 (.seq (.ops [⟨(some 74), (.mv (.tmp 7)), none⟩])
 (.cond (.tmp 74) none
 (.exit 0)
 .skip)))
 (.ops [⟨(some 75), (.mv (.tmp 10)), none⟩,
  ⟨(some 8), (.mv (.tmp 75)), none⟩])))))))
 (.ops [⟨(some 76), (.bin .add (.tmp 18) (.const (Value.int .u64 (Int.ofNat 1)))), none⟩,
  ⟨(some 18), (.mv (.tmp 76)), none⟩])))))))
 (.seq (.ops [⟨(some 77), (.mv (.tmp 2)), none⟩,
  ⟨(some 78), (.conv .i64 (.tmp 77)), none⟩,
  ⟨(some 79), (.addOff (.tmp 6) 0), none⟩,
  ⟨none, (.store (.tmp 79) (.tmp 78) 1), none⟩])
 (.seq (.ops [⟨(some 80), (.load (.tmp 6) (some 2)), none⟩,
  ⟨(some 81), (.mv (.tmp 7)), none⟩,
  ⟨none, (.store (.tmp 6) (.tmp 80) 2), none⟩,
  ⟨(some 7), (.mv (.tmp 81)), none⟩])
 .ret)))))),
 [(.cell 6 (some 2)), (.tmp 7)], 3⟩
/- palisade/backend.number -/
def k47 : KFunc := ⟨(.seq (.ops [⟨(some 2), (.mv (.const (Value.int .u64 (Int.ofNat 0)))), none⟩])
 (.seq (.seq (.ops [⟨(some 3), (.mv (.const (Value.int .i64 (Int.ofNat 7)))), none⟩])
 (.block 0 [2] (.loop [0, 2, 3] (.seq (.seq (.ops [⟨(some 4), (.mv (.tmp 3)), none⟩,
  ⟨(some 5), (.bin .geq (.tmp 4) (.const (Value.int .i64 (Int.ofNat 0)))), none⟩])
 (.cond (.tmp 5) none
 .skip
 (.exit 0)))
 (.seq (.block 1 [0, 2, 3] (.ops [⟨(some 8), (.mv (.tmp 2)), none⟩,
  ⟨(some 9), (.bin .shl (.tmp 8) (.const (Value.int .u64 (Int.ofNat 8)))), none⟩,
  ⟨(some 10), (.mv (.tmp 0)), none⟩,
  ⟨(some 11), (.mv (.tmp 3)), none⟩,
  ⟨(some 12), (.ixS (.tmp 10) (.tmp 11) 1), none⟩,
  ⟨(some 13), (.load (.tmp 12) none), none⟩,
  ⟨(some 14), (.conv .u64 (.tmp 13)), none⟩,
  ⟨(some 15), (.bin .or (.tmp 9) (.tmp 14)), none⟩,
  ⟨(some 2), (.mv (.tmp 15)), none⟩]))
 (.ops [⟨(some 6), (.mv (.tmp 3)), none⟩,
  ⟨(some 7), (.bin .sub (.tmp 6) (.const (Value.int .i64 (Int.ofNat 1)))), none⟩,
  ⟨(some 3), (.mv (.tmp 7)), none⟩]))))))
 (.seq (.ops [⟨(some 16), (.mv (.tmp 2)), none⟩,
  ⟨(some 2), (.mv (.tmp 16)), none⟩])
 .ret))),
 [(.tmp 2)], 1⟩
/- (*palisade/frames.Frames).Hold -/
def k48 : KFunc := ⟨(.seq (.ops [⟨(some 6), (.mv (.const (Value.int .i64 (Int.ofNat 0)))), none⟩])
 (.seq (.ops [⟨(some 8), (.mv (.tmp 0)), none⟩,
  ⟨(some 9), (.mv (.tmp 1)), none⟩,
  ⟨(some 10), (.mv (.tmp 2)), none⟩,
  ⟨(some 11), (.mkLit 1 1 [(Value.int .i64 (Int.ofNat 0))] [(0, (.tmp 10))]), none⟩,
  ⟨(some 12), (.call 38 [(.tmp 8), (.tmp 9), (.tmp 11)]), none⟩,
  ⟨(some 7), (.mv (.tmp 12)), none⟩])
 (.seq (.block 0 [0, 1] (.seq (.ops [⟨(some 14), (.mv (.tmp 7)), none⟩,
  ⟨(some 15), (.bin .neq (.tmp 14) (.const (Value.int .i64 (Int.ofNat 0)))), none⟩,
  ⟨(some 13), (.mv (.tmp 15)), none⟩])
 (.cond (.tmp 13) none
 (.seq (.ops [⟨(some 16), (.mv (.tmp 7)), none⟩,
  ⟨(some 6), (.mv (.tmp 16)), none⟩])
 .ret)
 (.seq (.ops [⟨(some 18), (.mv (.tmp 0)), none⟩,
  ⟨(some 19), (.nilCheck (.tmp 18)), none⟩,
  ⟨(some 20), (.addOff (.tmp 19) 2), none⟩,
  ⟨(some 21), (.load (.tmp 20) none), none⟩,
  ⟨(some 22), (.mv (.tmp 1)), none⟩,
  ⟨(some 23), (.lookup (false, [.i]) (.tmp 21) (.tmp 22) (Value.int .i64 (Int.ofNat 0)) false), none⟩,
  ⟨(some 24), (.bin .geq (.tmp 23) (.const (Value.int .i64 (Int.ofNat 65536)))), none⟩,
  ⟨(some 17), (.mv (.tmp 24)), none⟩])
 (.cond (.tmp 17) none
 (.seq (.ops [⟨(some 6), (.mv (.const (Value.int .i64 (Int.ofNat 18)))), none⟩])
 .ret)
 .skip)))))
 (.seq (.ops [⟨(some 25), (.mv (.tmp 0)), none⟩,
  ⟨(some 26), (.nilCheck (.tmp 25)), none⟩,
  ⟨(some 27), (.addOff (.tmp 26) 2), none⟩,
  ⟨(some 28), (.load (.tmp 27) none), none⟩,
  ⟨(some 29), (.mv (.tmp 1)), none⟩,
  ⟨(some 30), (.lookup (false, [.i]) (.tmp 28) (.tmp 29) (Value.int .i64 (Int.ofNat 0)) false), none⟩,
  ⟨(some 31), (.bin .add (.tmp 30) (.const (Value.int .i64 (Int.ofNat 1)))), none⟩,
  ⟨none, (.mapUpdate (false, [.i]) (.tmp 28) (.tmp 29) (.tmp 31)), none⟩])
 (.seq (.ops [⟨(some 6), (.mv (.const (Value.int .i64 (Int.ofNat 0)))), none⟩])
 .ret))))),
 [(.tmp 6)], 3⟩
/- (*palisade/disk.Disk).Submit -/
def k49 : KFunc := ⟨(.seq (.ops [⟨(some 3), (.box (.tmp 1)), none⟩,
  ⟨(some 4), (.mv (.const (Value.int .i64 (Int.ofNat 0)))), none⟩])
 (.seq (.ops [⟨(some 6), (.mv (.tmp 0)), none⟩,
  ⟨(some 7), (.addOff (.tmp 3) 2), none⟩,
  ⟨(some 8), (.load (.tmp 7) none), none⟩,
  ⟨(some 9), (.call 54 [(.tmp 6), (.tmp 8)]), none⟩,
  ⟨(some 5), (.mv (.tmp 9)), none⟩])
 (.seq (.block 0 [0, 3] (.seq (.ops [⟨(some 11), (.mv (.tmp 5)), none⟩,
  ⟨(some 12), (.bin .neq (.tmp 11) (.const (Value.int .i64 (Int.ofNat 0)))), none⟩,
  ⟨(some 10), (.mv (.tmp 12)), none⟩])
 (.cond (.tmp 10) none
 (.seq (.ops [⟨(some 13), (.mv (.tmp 5)), none⟩,
  ⟨(some 4), (.mv (.tmp 13)), none⟩])
 .ret)
 (.seq (.ops [⟨(some 15), (.mv (.tmp 0)), none⟩,
  ⟨(some 16), (.nilCheck (.tmp 15)), none⟩,
  ⟨(some 17), (.addOff (.tmp 16) 2), none⟩,
  ⟨(some 18), (.load (.tmp 17) none), none⟩,
  ⟨(some 19), (.mkFunc (.func 62) [] [(.tmp 3)]), none⟩,
  ⟨(some 20), (.call 61 [(.tmp 18), (.tmp 19)]), none⟩,
  ⟨(some 14), (.mv (.tmp 20)), none⟩])
 (.cond (.tmp 14) none
 (.seq (.ops [⟨(some 4), (.mv (.const (Value.int .i64 (Int.ofNat 13)))), none⟩])
 .ret)
 (.seq (.ops [⟨(some 22), (.mv (.tmp 0)), none⟩,
  ⟨(some 23), (.nilCheck (.tmp 22)), none⟩,
  ⟨(some 24), (.addOff (.tmp 23) 2), none⟩,
  ⟨(some 25), (.load (.tmp 24) none), none⟩,
  ⟨(some 26), (.len false (.tmp 25)), none⟩,
  ⟨(some 27), (.bin .geq (.tmp 26) (.const (Value.int .i64 (Int.ofNat 8)))), none⟩,
  ⟨(some 21), (.mv (.tmp 27)), none⟩])
 (.cond (.tmp 21) none
 (.seq (.ops [⟨(some 4), (.mv (.const (Value.int .i64 (Int.ofNat 18)))), none⟩])
 .ret)
 .skip)))))))
 (.seq (.draw 1 [⟨0, [0], ⟨(some 28), (.mv (.tmp 0)), none⟩, 1, 48⟩,
  ⟨1, [0], ⟨(some 29), (.mv (.tmp 0)), none⟩, 1, 48⟩,
  ⟨2, [29], ⟨(some 30), (.nilCheck (.tmp 29)), none⟩, 1, 48⟩,
  ⟨3, [30], ⟨(some 31), (.addOff (.tmp 30) 2), none⟩, 1, 48⟩,
  ⟨4, [31], ⟨(some 32), (.load (.tmp 31) none), none⟩, 1, 48⟩,
  ⟨5, [3], ⟨(some 33), (.load (.tmp 3) (some 4)), none⟩, 1, 48⟩,
  ⟨6, [33], ⟨(some 34), (.mkLit 1 4 [(Value.int .i64 (Int.ofNat 0)), (Value.bool false), (Value.int .i64 (Int.ofNat 0)), (Value.int .i64 (Int.ofNat 0))] [(0, (.tmp 33))]), none⟩, 0, 16⟩,
  ⟨7, [32, 34], ⟨(some 35), (.append (.tmp 32) (.tmp 34) 4 32), none⟩, 1, 0⟩,
  ⟨8, [28], ⟨(some 36), (.nilCheck (.tmp 28)), none⟩, 1, 0⟩,
  ⟨9, [36], ⟨(some 37), (.addOff (.tmp 36) 2), none⟩, 1, 0⟩,
  ⟨10, [37, 35], ⟨none, (.store (.tmp 37) (.tmp 35) 1), none⟩, 1, 0⟩])
 (.seq (.ops [⟨(some 4), (.mv (.const (Value.int .i64 (Int.ofNat 0)))), none⟩])
 .ret))))),
 [(.tmp 4)], 2⟩
/- (*palisade/mem.Memory).none -/
def k50 : KFunc := ⟨(.seq (.ops [⟨(some 2), (.mv (.const (Value.bool false))), none⟩])
 (.seq (.ops [⟨(some 3), (.mv (.tmp 0)), none⟩,
  ⟨(some 4), (.eqv .ptr false (.tmp 3) (.const (Value.pointer none))), none⟩,
  ⟨(some 5), (.mv (.tmp 4)), none⟩,
  ⟨(some 6), (.mv (.tmp 0)), (some (5, false))⟩,
  ⟨(some 7), (.nilCheck (.tmp 6)), (some (5, false))⟩,
  ⟨(some 8), (.addOff (.tmp 7) 0), (some (5, false))⟩,
  ⟨(some 9), (.load (.tmp 8) none), (some (5, false))⟩,
  ⟨(some 10), (.eqv .slice false (.tmp 9) (.const (Value.slice none 0 0))), (some (5, false))⟩,
  ⟨(some 11), (.pick (.tmp 5) (.const (Value.bool true)) (.tmp 10)), none⟩,
  ⟨(some 2), (.mv (.tmp 11)), none⟩])
 .ret)),
 [(.tmp 2)], 1⟩
/- slices.IndexFunc[[]palisade/disk.Request,palisade/disk.Request] -/
def k51 : KFunc := ⟨(.seq (.ops [⟨(some 4), (.mv (.const (Value.int .i64 (Int.ofNat 0)))), none⟩])
 (.seq (.seq (.ops [⟨(some 6), (.mv (.tmp 0)), none⟩,
  ⟨(some 7), (.len false (.tmp 6)), none⟩,
  ⟨(some 8), (.mv (.const (Value.int .i64 (Int.ofNat 0)))), none⟩])
 (.block 0 [] (.loop [0, 1, 7, 8] (.seq (.ops [⟨(some 9), (.bin .lss (.tmp 8) (.tmp 7)), none⟩])
 (.seq (.cond (.tmp 9) none
 .skip
 (.exit 0))
 (.seq (.block 1 [0, 1, 7, 8] (.seq (.ops [⟨(some 10), (.mv (.tmp 8)), none⟩,
  ⟨(some 5), (.mv (.tmp 10)), none⟩])
 (.seq (.ops [⟨(some 11), (.mv (.tmp 1)), none⟩,
  ⟨(some 12), (.mv (.tmp 0)), none⟩,
  ⟨(some 13), (.mv (.tmp 5)), none⟩,
  ⟨(some 14), (.ixS (.tmp 12) (.tmp 13) 4), none⟩,
  ⟨(some 15), (.load (.tmp 14) (some 4)), none⟩,
  ⟨(some 16), (.callV (.tmp 11) [(.tmp 15)]), none⟩])
 (.cond (.tmp 16) none
 (.seq (.ops [⟨(some 17), (.mv (.tmp 5)), none⟩,
  ⟨(some 4), (.mv (.tmp 17)), none⟩])
 .ret)
 .skip))))
 (.ops [⟨(some 18), (.bin .add (.tmp 8) (.const (Value.int .i64 (Int.ofNat 1)))), none⟩,
  ⟨(some 8), (.mv (.tmp 18)), none⟩])))))))
 (.seq (.ops [⟨(some 4), (.mv (.const (Value.int .i64 (Int.negSucc 0)))), none⟩])
 .ret))),
 [(.tmp 4)], 2⟩
/- (*palisade/mem.Memory).part -/
def k52 : KFunc := ⟨(.seq (.ops [⟨(some 3), (.box (.tmp 0)), none⟩,
  ⟨(some 4), (.box (.tmp 1)), none⟩,
  ⟨(some 5), (.box (.tmp 2)), none⟩,
  ⟨(some 6), (.mv (.const (Value.slice none 0 0))), none⟩,
  ⟨(some 7), (.mv (.const (Value.int .i64 (Int.ofNat 0)))), none⟩])
 (.seq (.ops [⟨(some 10), (.mkFunc (.func 63) [] [(.tmp 5), (.tmp 3), (.tmp 4)]), none⟩,
  ⟨(some 8), (.mv (.tmp 10)), none⟩])
 (.seq (.block 0 [3, 4, 5] (.seq (.ops [⟨(some 12), (.load (.tmp 3) none), none⟩,
  ⟨(some 13), (.call 50 [(.tmp 12)]), none⟩,
  ⟨(some 11), (.mv (.tmp 13)), none⟩])
 (.cond (.tmp 11) none
 (.seq (.ops [⟨(some 6), (.mv (.const (Value.slice none 0 0))), none⟩,
  ⟨(some 7), (.mv (.const (Value.int .i64 (Int.ofNat 1)))), none⟩])
 .ret)
 (.seq (.ops [⟨(some 15), (.load (.tmp 5) none), none⟩,
  ⟨(some 16), (.bin .lss (.tmp 15) (.const (Value.int .i64 (Int.ofNat 0)))), none⟩,
  ⟨(some 14), (.mv (.tmp 16)), none⟩])
 (.cond (.tmp 14) none
 (.seq (.ops [⟨(some 6), (.mv (.const (Value.slice none 0 0))), none⟩,
  ⟨(some 7), (.mv (.const (Value.int .i64 (Int.ofNat 2)))), none⟩])
 .ret)
 (.seq (.ops [⟨(some 18), (.mv (.tmp 8)), none⟩,
  ⟨(some 19), (.callV (.tmp 18) []), none⟩,
  ⟨(some 20), (.un .not (.tmp 19)), none⟩,
  ⟨(some 17), (.mv (.tmp 20)), none⟩])
 (.cond (.tmp 17) none
 (.seq (.ops [⟨(some 6), (.mv (.const (Value.slice none 0 0))), none⟩,
  ⟨(some 7), (.mv (.const (Value.int .i64 (Int.ofNat 12)))), none⟩])
 .ret)
 .skip)))))))
 (.seq (.ops [⟨(some 21), (.load (.tmp 4) none), none⟩,
  ⟨(some 22), (.conv .i64 (.tmp 21)), none⟩,
  ⟨(some 23), (.load (.tmp 5) none), none⟩,
  ⟨(some 24), (.bin .add (.tmp 22) (.tmp 23)), none⟩,
  ⟨(some 9), (.mv (.tmp 24)), none⟩])
 (.seq (.draw 0 [⟨0, [3], ⟨(some 25), (.load (.tmp 3) none), none⟩, 0, 25⟩,
  ⟨1, [25], ⟨(some 26), (.nilCheck (.tmp 25)), none⟩, 0, 24⟩,
  ⟨2, [26], ⟨(some 27), (.addOff (.tmp 26) 0), none⟩, 0, 24⟩,
  ⟨3, [27], ⟨(some 28), (.load (.tmp 27) none), none⟩, 0, 24⟩,
  ⟨4, [4], ⟨(some 29), (.load (.tmp 4) none), none⟩, 0, 25⟩,
  ⟨5, [9], ⟨(some 30), (.mv (.tmp 9)), none⟩, 0, 25⟩,
  ⟨6, [9], ⟨(some 31), (.mv (.tmp 9)), none⟩, 0, 25⟩,
  ⟨7, [28, 29, 30, 31], ⟨(some 32), (.slS (.tmp 28) (some (.tmp 29)) (some (.tmp 30)) (some (.tmp 31)) 1), none⟩, 0, 0⟩,
  ⟨8, [32], ⟨(some 6), (.mv (.tmp 32)), none⟩, 0, 0⟩,
  ⟨9, [], ⟨(some 7), (.mv (.const (Value.int .i64 (Int.ofNat 0)))), none⟩, 0, 0⟩])
 .ret))))),
 [(.tmp 6), (.tmp 7)], 3⟩
/- bytes.Clone -/
def k53 : KFunc := ⟨(.seq (.ops [⟨(some 2), (.mv (.const (Value.slice none 0 0))), none⟩])
 (.seq (.seq (.ops [⟨(some 3), (.mv (.tmp 0)), none⟩,
  ⟨(some 4), (.eqv .slice false (.tmp 3) (.const (Value.slice none 0 0))), none⟩])
 (.cond (.tmp 4) none
 (.seq (.ops [⟨(some 2), (.mv (.const (Value.slice none 0 0))), none⟩])
 .ret)
 .skip))
 (.seq (.ops [⟨(some 5), (.mkLit 0 1 [(Value.int .u8 (Int.ofNat 0))] []), none⟩,
  ⟨(some 6), (.mv (.tmp 0)), none⟩,
  ⟨(some 7), (.append (.tmp 5) (.tmp 6) 1 1), none⟩,
  ⟨(some 2), (.mv (.tmp 7)), none⟩])
 .ret))),
 [(.tmp 2)], 1⟩
/- (*palisade/disk.Disk).wrong -/
def k54 : KFunc := ⟨(.seq (.ops [⟨(some 4), (.mv (.const (Value.int .i64 (Int.ofNat 0)))), none⟩])
 (.seq (.block 0 [] (.seq (.ops [⟨(some 6), (.mv (.tmp 0)), none⟩,
  ⟨(some 7), (.call 29 [(.tmp 6)]), none⟩,
  ⟨(some 5), (.mv (.tmp 7)), none⟩])
 (.cond (.tmp 5) none
 (.seq (.ops [⟨(some 4), (.mv (.const (Value.int .i64 (Int.ofNat 1)))), none⟩])
 .ret)
 (.seq (.ops [⟨(some 9), (.mv (.tmp 1)), none⟩,
  ⟨(some 10), (.bin .lss (.tmp 9) (.const (Value.int .i64 (Int.ofNat 0)))), none⟩,
  ⟨(some 11), (.mv (.tmp 10)), none⟩,
  ⟨(some 12), (.mv (.tmp 1)), (some (11, false))⟩,
  ⟨(some 13), (.mv (.tmp 0)), (some (11, false))⟩,
  ⟨(some 14), (.nilCheck (.tmp 13)), (some (11, false))⟩,
  ⟨(some 15), (.addOff (.tmp 14) 0), (some (11, false))⟩,
  ⟨(some 16), (.load (.tmp 15) none), (some (11, false))⟩,
  ⟨(some 17), (.bin .geq (.tmp 12) (.tmp 16)), (some (11, false))⟩,
  ⟨(some 18), (.pick (.tmp 11) (.const (Value.bool true)) (.tmp 17)), none⟩,
  ⟨(some 8), (.mv (.tmp 18)), none⟩])
 (.cond (.tmp 8) none
 (.seq (.ops [⟨(some 4), (.mv (.const (Value.int .i64 (Int.ofNat 12)))), none⟩])
 .ret)
 .skip)))))
 (.seq (.ops [⟨(some 4), (.mv (.const (Value.int .i64 (Int.ofNat 0)))), none⟩])
 .ret))),
 [(.tmp 4)], 2⟩
/- slices.ContainsFunc[[]byte,byte] -/
def k55 : KFunc := ⟨(.seq (.ops [⟨(some 4), (.mv (.const (Value.bool false))), none⟩])
 (.seq (.ops [⟨(some 5), (.mv (.tmp 0)), none⟩,
  ⟨(some 6), (.mv (.tmp 1)), none⟩,
  ⟨(some 7), (.call 64 [(.tmp 5), (.tmp 6)]), none⟩,
  ⟨(some 8), (.bin .geq (.tmp 7) (.const (Value.int .i64 (Int.ofNat 0)))), none⟩,
  ⟨(some 4), (.mv (.tmp 8)), none⟩])
 .ret)),
 [(.tmp 4)], 2⟩
/- (*palisade/disk.Disk).Put$1 -/
def k56 : KFunc := ⟨(.seq (.ops [⟨(some 2), (.mv (.const (Value.bool false))), none⟩])
 (.seq (.ops [⟨(some 3), (.mv (.tmp 0)), none⟩,
  ⟨(some 4), (.bin .neq (.tmp 3) (.const (Value.int .u8 (Int.ofNat 0)))), none⟩,
  ⟨(some 2), (.mv (.tmp 4)), none⟩])
 .ret)),
 [(.tmp 2)], 1⟩
/- slices.Clone[[]byte,byte] -/
def k57 : KFunc := ⟨(.seq (.ops [⟨(some 2), (.mv (.const (Value.slice none 0 0))), none⟩])
 (.seq (.seq (.ops [⟨(some 3), (.mv (.tmp 0)), none⟩,
  ⟨(some 4), (.eqv .slice false (.tmp 3) (.const (Value.slice none 0 0))), none⟩])
 (.cond (.tmp 4) none
 (.seq (.ops [⟨(some 2), (.mv (.const (Value.slice none 0 0))), none⟩])
 .ret)
 .skip))
 (.seq (.ops [⟨(some 5), (.mkLit 0 1 [(Value.int .u8 (Int.ofNat 0))] []), none⟩,
  ⟨(some 6), (.mv (.tmp 0)), none⟩,
  ⟨(some 7), (.append (.tmp 5) (.tmp 6) 1 1), none⟩,
  ⟨(some 2), (.mv (.tmp 7)), none⟩])
 .ret))),
 [(.tmp 2)], 1⟩
/- (*palisade/mem.Memory).number -/
def k58 : KFunc := ⟨(.seq (.ops [⟨(some 6), (.mv (.const (Value.slice none 0 0))), none⟩,
  ⟨(some 7), (.mv (.const (Value.int .i64 (Int.ofNat 0)))), none⟩])
 (.seq (.block 0 [0, 1, 2] (.seq (.ops [⟨(some 9), (.mv (.tmp 0)), none⟩,
  ⟨(some 10), (.call 50 [(.tmp 9)]), none⟩,
  ⟨(some 8), (.mv (.tmp 10)), none⟩])
 (.cond (.tmp 8) none
 (.seq (.ops [⟨(some 6), (.mv (.const (Value.slice none 0 0))), none⟩,
  ⟨(some 7), (.mv (.const (Value.int .i64 (Int.ofNat 1)))), none⟩])
 .ret)
 (.seq (.ops [⟨(some 12), (.mv (.tmp 2)), none⟩,
  ⟨(some 13), (.bin .neq (.tmp 12) (.const (Value.int .i64 (Int.ofNat 1)))), none⟩,
  ⟨(some 14), (.mv (.tmp 13)), none⟩,
  ⟨(some 15), (.mv (.tmp 2)), (some (14, true))⟩,
  ⟨(some 16), (.bin .neq (.tmp 15) (.const (Value.int .i64 (Int.ofNat 4)))), (some (14, true))⟩,
  ⟨(some 17), (.pick (.tmp 14) (.tmp 16) (.const (Value.bool false))), none⟩,
  ⟨(some 18), (.mv (.tmp 17)), none⟩,
  ⟨(some 19), (.mv (.tmp 2)), (some (18, true))⟩,
  ⟨(some 20), (.bin .neq (.tmp 19) (.const (Value.int .i64 (Int.ofNat 8)))), (some (18, true))⟩,
  ⟨(some 21), (.pick (.tmp 18) (.tmp 20) (.const (Value.bool false))), none⟩,
  ⟨(some 11), (.mv (.tmp 21)), none⟩])
 (.cond (.tmp 11) none
 (.seq (.ops [⟨(some 6), (.mv (.const (Value.slice none 0 0))), none⟩,
  ⟨(some 7), (.mv (.const (Value.int .i64 (Int.ofNat 2)))), none⟩])
 .ret)
 (.seq (.ops [⟨(some 23), (.mv (.tmp 1)), none⟩,
  ⟨(some 24), (.mv (.tmp 2)), none⟩,
  ⟨(some 25), (.conv .u64 (.tmp 24)), none⟩,
  ⟨(some 26), (.bin .rem (.tmp 23) (.tmp 25)), none⟩,
  ⟨(some 27), (.bin .neq (.tmp 26) (.const (Value.int .u64 (Int.ofNat 0)))), none⟩,
  ⟨(some 22), (.mv (.tmp 27)), none⟩])
 (.cond (.tmp 22) none
 (.seq (.ops [⟨(some 6), (.mv (.const (Value.slice none 0 0))), none⟩,
  ⟨(some 7), (.mv (.const (Value.int .i64 (Int.ofNat 11)))), none⟩])
 .ret)
 .skip)))))))
 (.seq (.ops [⟨(some 28), (.mv (.tmp 0)), none⟩,
  ⟨(some 29), (.mv (.tmp 1)), none⟩,
  ⟨(some 30), (.mv (.tmp 2)), none⟩,
  ⟨(some 31), (.call 52 [(.tmp 28), (.tmp 29), (.tmp 30)]), none⟩,
  ⟨(some 32), (.extract (.tmp 31) 0), none⟩,
  ⟨(some 33), (.extract (.tmp 31) 1), none⟩,
  ⟨(some 6), (.mv (.tmp 32)), none⟩,
  ⟨(some 7), (.mv (.tmp 33)), none⟩])
 .ret))),
 [(.tmp 6), (.tmp 7)], 3⟩
/- palisade/word.Store -/
def k59 : KFunc := ⟨(.seq (.ops [⟨(some 4), (.mv (.const (Value.slice none 0 0))), none⟩])
 (.seq (.seq (.ops [⟨(some 7), (.mv (.tmp 1)), none⟩,
  ⟨(some 8), (.call 65 [(.tmp 7)]), none⟩,
  ⟨(some 9), (.un .not (.tmp 8)), none⟩])
 (.cond (.tmp 9) none
 (.seq (.ops [⟨(some 4), (.mv (.const (Value.slice none 0 0))), none⟩])
 .ret)
 .skip))
 (.seq (.ops [⟨(some 10), (.mv (.tmp 1)), none⟩,
  ⟨(some 11), (.makeSlice (.tmp 10) (.tmp 10) [(Value.int .u8 (Int.ofNat 0))] 1), none⟩,
  ⟨(some 5), (.mv (.tmp 11)), none⟩])
 (.seq (.seq (.ops [⟨(some 12), (.mv (.tmp 5)), none⟩,
  ⟨(some 13), (.len false (.tmp 12)), none⟩,
  ⟨(some 14), (.mv (.const (Value.int .i64 (Int.ofNat 0)))), none⟩])
 (.block 0 [5] (.loop [0, 5, 13, 14] (.seq (.ops [⟨(some 15), (.bin .lss (.tmp 14) (.tmp 13)), none⟩])
 (.seq (.cond (.tmp 15) none
 .skip
 (.exit 0))
 (.seq (.block 1 [0, 5, 13, 14] (.seq (.ops [⟨(some 16), (.mv (.tmp 14)), none⟩,
  ⟨(some 6), (.mv (.tmp 16)), none⟩])
 (.ops [⟨(some 17), (.mv (.tmp 5)), none⟩,
  ⟨(some 18), (.mv (.tmp 6)), none⟩,
  ⟨(some 19), (.mv (.tmp 0)), none⟩,
  ⟨(some 20), (.mv (.tmp 6)), none⟩,
  ⟨(some 21), (.bin .mul (.const (Value.int .i64 (Int.ofNat 8))) (.tmp 20)), none⟩,
  ⟨(some 22), (.bin .shr (.tmp 19) (.tmp 21)), none⟩,
  ⟨(some 23), (.conv .u8 (.tmp 22)), none⟩,
  ⟨(some 24), (.ixS (.tmp 17) (.tmp 18) 1), none⟩,
  ⟨none, (.store (.tmp 24) (.tmp 23) 1), none⟩])))
 (.ops [⟨(some 25), (.bin .add (.tmp 14) (.const (Value.int .i64 (Int.ofNat 1)))), none⟩,
  ⟨(some 14), (.mv (.tmp 25)), none⟩])))))))
 (.seq (.ops [⟨(some 26), (.mv (.tmp 5)), none⟩,
  ⟨(some 4), (.mv (.tmp 26)), none⟩])
 .ret))))),
 [(.tmp 4)], 2⟩
/- (*palisade/ring.reader).part -/
def k60 : KFunc := ⟨(.seq (.ops [⟨(some 4), (.alloc [(Value.int .u64 (Int.ofNat 0)), (Value.int .i64 (Int.ofNat 0)), (Value.bool false)]), none⟩,
  ⟨(some 5), (.mv (.const (Value.int .u64 (Int.ofNat 0)))), none⟩,
  ⟨(some 6), (.mv (.const (Value.bool false))), none⟩])
 (.seq (.ops [⟨(some 7), (.alloc [(Value.int .u64 (Int.ofNat 0)), (Value.int .u64 (Int.ofNat 0)), (Value.int .u64 (Int.ofNat 0)), (Value.int .u64 (Int.ofNat 0))]), none⟩])
 (.seq (.seq (.ops [⟨(some 9), (.mv (.const (Value.int .i64 (Int.ofNat 0)))), none⟩])
 (.block 0 [0, 4, 7] (.loop [0, 1, 4, 7, 9] (.seq (.ops [⟨(some 10), (.bin .lss (.tmp 9) (.const (Value.int .i64 (Int.ofNat 4)))), none⟩])
 (.seq (.cond (.tmp 10) none
 .skip
 (.exit 0))
 (.seq (.block 1 [0, 1, 4, 7, 9] (.seq (.ops [⟨(some 11), (.mv (.tmp 9)), none⟩,
  ⟨(some 8), (.mv (.tmp 11)), none⟩])
 (.seq (.ops [⟨(some 12), (.mv (.tmp 0)), none⟩,
  ⟨(some 13), (.nilCheck (.tmp 12)), none⟩,
  ⟨(some 14), (.addOff (.tmp 13) 1), none⟩,
  ⟨(some 15), (.load (.tmp 14) none), none⟩,
  ⟨(some 16), (.un .not (.tmp 15)), none⟩])
 (.cond (.tmp 16) (some [0, 1, 4, 7, 9])
 (.ops [⟨(some 17), (.mv (.tmp 8)), none⟩,
  ⟨(some 18), (.mv (.tmp 0)), none⟩,
  ⟨(some 19), (.mv (.tmp 1)), none⟩,
  ⟨(some 20), (.mv (.tmp 8)), none⟩,
  ⟨(some 21), (.conv .u64 (.tmp 20)), none⟩,
  ⟨(some 22), (.bin .mul (.const (Value.int .u64 (Int.ofNat 8))) (.tmp 21)), none⟩,
  ⟨(some 23), (.bin .add (.tmp 19) (.tmp 22)), none⟩,
  ⟨(some 24), (.call 45 [(.tmp 18), (.tmp 23)]), none⟩,
  ⟨(some 25), (.ixA (.tmp 7) (.tmp 17) 4 1), none⟩,
  ⟨none, (.store (.tmp 25) (.tmp 24) 1), none⟩])
 .skip))))
 (.ops [⟨(some 26), (.bin .add (.tmp 9) (.const (Value.int .i64 (Int.ofNat 1)))), none⟩,
  ⟨(some 9), (.mv (.tmp 26)), none⟩])))))))
 (.seq (.seq (.ops [⟨(some 27), (.ixA (.tmp 7) (.const (Value.int .i64 (Int.ofNat 1))) 4 1), none⟩,
  ⟨(some 28), (.load (.tmp 27) none), none⟩,
  ⟨(some 29), (.bin .lss (.tmp 28) (.const (Value.int .u64 (Int.ofNat 1)))), none⟩,
  ⟨(some 30), (.mv (.tmp 29)), none⟩,
  ⟨(some 31), (.ixA (.tmp 7) (.const (Value.int .i64 (Int.ofNat 1))) 4 1), (some (30, false))⟩,
  ⟨(some 32), (.load (.tmp 31) none), (some (30, false))⟩,
  ⟨(some 33), (.bin .gtr (.tmp 32) (.const (Value.int .u64 (Int.ofNat 4096)))), (some (30, false))⟩,
  ⟨(some 34), (.pick (.tmp 30) (.const (Value.bool true)) (.tmp 33)), none⟩,
  ⟨(some 35), (.mv (.tmp 34)), none⟩,
  ⟨(some 36), (.ixA (.tmp 7) (.const (Value.int .i64 (Int.ofNat 2))) 4 1), (some (35, false))⟩,
  ⟨(some 37), (.load (.tmp 36) none), (some (35, false))⟩,
  ⟨(some 38), (.bin .gtr (.tmp 37) (.const (Value.int .u64 (Int.ofNat 3)))), (some (35, false))⟩,
  ⟨(some 39), (.pick (.tmp 35) (.const (Value.bool true)) (.tmp 38)), none⟩,
  ⟨(some 40), (.mv (.tmp 39)), none⟩,
  ⟨(some 41), (.ixA (.tmp 7) (.const (Value.int .i64 (Int.ofNat 0))) 4 1), (some (40, false))⟩,
  ⟨(some 42), (.load (.tmp 41) none), (some (40, false))⟩,
  ⟨(some 43), (.ixA (.tmp 7) (.const (Value.int .i64 (Int.ofNat 1))) 4 1), (some (40, false))⟩,
  ⟨(some 44), (.load (.tmp 43) none), (some (40, false))⟩,
  ⟨(some 45), (.bin .sub (.const (Value.int .u64 (Int.ofNat 1099511627776))) (.tmp 44)), (some (40, false))⟩,
  ⟨(some 46), (.bin .gtr (.tmp 42) (.tmp 45)), (some (40, false))⟩,
  ⟨(some 47), (.pick (.tmp 40) (.const (Value.bool true)) (.tmp 46)), none⟩])
 (.cond (.tmp 47) none
 (.seq (.ops [⟨(some 48), (.mv (.tmp 0)), none⟩,
  ⟨(some 49), (.nilCheck (.tmp 48)), none⟩,
  ⟨(some 50), (.addOff (.tmp 49) 1), none⟩,
  ⟨none, (.store (.tmp 50) (.const (Value.bool true)) 1), none⟩])
 (.seq (.ops [⟨(some 51), (.build [(Value.int .u64 (Int.ofNat 0)), (Value.int .i64 (Int.ofNat 0)), (Value.bool false)] []), none⟩,
  ⟨none, (.store (.tmp 4) (.tmp 51) 3), none⟩,
  ⟨(some 5), (.mv (.const (Value.int .u64 (Int.ofNat 0)))), none⟩,
  ⟨(some 6), (.mv (.const (Value.bool false))), none⟩])
 .ret))
 .skip))
 (.seq (.draw 0 [⟨0, [7], ⟨(some 52), (.ixA (.tmp 7) (.const (Value.int .i64 (Int.ofNat 0))) 4 1), none⟩, 0, 10314⟩,
  ⟨1, [52], ⟨(some 53), (.load (.tmp 52) none), none⟩, 0, 10314⟩,
  ⟨2, [7], ⟨(some 54), (.ixA (.tmp 7) (.const (Value.int .i64 (Int.ofNat 1))) 4 1), none⟩, 0, 10314⟩,
  ⟨3, [54], ⟨(some 55), (.load (.tmp 54) none), none⟩, 0, 10314⟩,
  ⟨4, [55], ⟨(some 56), (.conv .i64 (.tmp 55)), none⟩, 0, 10306⟩,
  ⟨5, [7], ⟨(some 57), (.ixA (.tmp 7) (.const (Value.int .i64 (Int.ofNat 2))) 4 1), none⟩, 0, 10314⟩,
  ⟨6, [57], ⟨(some 58), (.load (.tmp 57) none), none⟩, 0, 10314⟩,
  ⟨7, [58], ⟨(some 59), (.bin .and (.tmp 58) (.const (Value.int .u64 (Int.ofNat 2)))), none⟩, 0, 10250⟩,
  ⟨8, [59], ⟨(some 60), (.bin .neq (.tmp 59) (.const (Value.int .u64 (Int.ofNat 0)))), none⟩, 0, 10250⟩,
  ⟨9, [53, 56, 60], ⟨(some 61), (.build [(Value.int .u64 (Int.ofNat 0)), (Value.int .i64 (Int.ofNat 0)), (Value.bool false)] [(0, (1, (.tmp 53))), (1, (1, (.tmp 56))), (2, (1, (.tmp 60)))]), none⟩, 0, 10240⟩,
  ⟨10, [7], ⟨(some 62), (.ixA (.tmp 7) (.const (Value.int .i64 (Int.ofNat 3))) 4 1), none⟩, 0, 10314⟩,
  ⟨11, [62], ⟨(some 63), (.load (.tmp 62) none), none⟩, 0, 10314⟩,
  ⟨12, [7], ⟨(some 64), (.ixA (.tmp 7) (.const (Value.int .i64 (Int.ofNat 2))) 4 1), none⟩, 0, 10314⟩,
  ⟨13, [64], ⟨(some 65), (.load (.tmp 64) none), none⟩, 0, 10314⟩,
  ⟨14, [65], ⟨(some 66), (.bin .and (.tmp 65) (.const (Value.int .u64 (Int.ofNat 1)))), none⟩, 0, 2122⟩,
  ⟨15, [66], ⟨(some 67), (.bin .neq (.tmp 66) (.const (Value.int .u64 (Int.ofNat 0)))), none⟩, 0, 2122⟩,
  ⟨16, [4, 61], ⟨none, (.store (.tmp 4) (.tmp 61) 3), none⟩, 0, 10240⟩,
  ⟨17, [63], ⟨(some 5), (.mv (.tmp 63)), none⟩, 0, 8192⟩,
  ⟨18, [67], ⟨(some 6), (.mv (.tmp 67)), none⟩, 0, 0⟩])
 .ret))))),
 [(.cell 4 (some 3)), (.tmp 5), (.tmp 6)], 2⟩
/- slices.ContainsFunc[[]palisade/disk.Request,palisade/disk.Request] -/
def k61 : KFunc := ⟨(.seq (.ops [⟨(some 4), (.mv (.const (Value.bool false))), none⟩])
 (.seq (.ops [⟨(some 5), (.mv (.tmp 0)), none⟩,
  ⟨(some 6), (.mv (.tmp 1)), none⟩,
  ⟨(some 7), (.call 51 [(.tmp 5), (.tmp 6)]), none⟩,
  ⟨(some 8), (.bin .geq (.tmp 7) (.const (Value.int .i64 (Int.ofNat 0)))), none⟩,
  ⟨(some 4), (.mv (.tmp 8)), none⟩])
 .ret)),
 [(.tmp 4)], 2⟩
/- (*palisade/disk.Disk).Submit$1 -/
def k62 : KFunc := ⟨(.seq (.ops [⟨(some 2), (.box (.tmp 0)), none⟩,
  ⟨(some 3), (.mv (.const (Value.bool false))), none⟩])
 (.seq (.ops [⟨(some 4), (.addOff (.tmp 2) 0), none⟩,
  ⟨(some 5), (.load (.tmp 4) none), none⟩,
  ⟨(some 6), (.addOff (.tmp 1) 0), none⟩,
  ⟨(some 7), (.load (.tmp 6) none), none⟩,
  ⟨(some 8), (.bin .eql (.tmp 5) (.tmp 7)), none⟩,
  ⟨(some 3), (.mv (.tmp 8)), none⟩])
 .ret)),
 [(.tmp 3)], 2⟩
/- (*palisade/mem.Memory).part$1 -/
def k63 : KFunc := ⟨(.seq (.ops [⟨(some 3), (.mv (.const (Value.bool false))), none⟩])
 (.seq (.draw 0 [⟨0, [0], ⟨(some 4), (.load (.tmp 0) none), none⟩, 0, 21267⟩,
  ⟨1, [1], ⟨(some 5), (.load (.tmp 1) none), none⟩, 0, 21267⟩,
  ⟨2, [5], ⟨(some 6), (.nilCheck (.tmp 5)), none⟩, 0, 21265⟩,
  ⟨3, [6], ⟨(some 7), (.addOff (.tmp 6) 0), none⟩, 0, 21265⟩,
  ⟨4, [7], ⟨(some 8), (.load (.tmp 7) none), none⟩, 0, 21265⟩,
  ⟨5, [8], ⟨(some 9), (.len false (.tmp 8)), none⟩, 0, 21249⟩,
  ⟨6, [4, 9], ⟨(some 10), (.bin .leq (.tmp 4) (.tmp 9)), none⟩, 0, 21248⟩,
  ⟨7, [10], ⟨(some 11), (.mv (.tmp 10)), none⟩, 0, 21248⟩,
  ⟨8, [2, 11], ⟨(some 12), (.load (.tmp 2) none), (some (11, true))⟩, 0, 21248⟩,
  ⟨9, [1, 11], ⟨(some 13), (.load (.tmp 1) none), (some (11, true))⟩, 0, 21248⟩,
  ⟨10, [13, 11], ⟨(some 14), (.nilCheck (.tmp 13)), (some (11, true))⟩, 0, 20736⟩,
  ⟨11, [14, 11], ⟨(some 15), (.addOff (.tmp 14) 0), (some (11, true))⟩, 0, 20736⟩,
  ⟨12, [15, 11], ⟨(some 16), (.load (.tmp 15) none), (some (11, true))⟩, 0, 20736⟩,
  ⟨13, [16, 11], ⟨(some 17), (.len false (.tmp 16)), (some (11, true))⟩, 0, 16640⟩,
  ⟨14, [0, 11], ⟨(some 18), (.load (.tmp 0) none), (some (11, true))⟩, 0, 21248⟩,
  ⟨15, [17, 18, 11], ⟨(some 19), (.bin .sub (.tmp 17) (.tmp 18)), (some (11, true))⟩, 0, 256⟩,
  ⟨16, [19, 11], ⟨(some 20), (.conv .u64 (.tmp 19)), (some (11, true))⟩, 0, 256⟩,
  ⟨17, [12, 20, 11], ⟨(some 21), (.bin .leq (.tmp 12) (.tmp 20)), (some (11, true))⟩, 0, 0⟩,
  ⟨18, [11, 21], ⟨(some 22), (.pick (.tmp 11) (.tmp 21) (.const (Value.bool false))), none⟩, 0, 0⟩,
  ⟨19, [22], ⟨(some 3), (.mv (.tmp 22)), none⟩, 0, 0⟩])
 .ret)),
 [(.tmp 3)], 3⟩
/- slices.IndexFunc[[]byte,byte] -/
def k64 : KFunc := ⟨(.seq (.ops [⟨(some 4), (.mv (.const (Value.int .i64 (Int.ofNat 0)))), none⟩])
 (.seq (.seq (.ops [⟨(some 6), (.mv (.tmp 0)), none⟩,
  ⟨(some 7), (.len false (.tmp 6)), none⟩,
  ⟨(some 8), (.mv (.const (Value.int .i64 (Int.ofNat 0)))), none⟩])
 (.block 0 [] (.loop [0, 1, 7, 8] (.seq (.ops [⟨(some 9), (.bin .lss (.tmp 8) (.tmp 7)), none⟩])
 (.seq (.cond (.tmp 9) none
 .skip
 (.exit 0))
 (.seq (.block 1 [0, 1, 7, 8] (.seq (.ops [⟨(some 10), (.mv (.tmp 8)), none⟩,
  ⟨(some 5), (.mv (.tmp 10)), none⟩])
 (.seq (.ops [⟨(some 11), (.mv (.tmp 1)), none⟩,
  ⟨(some 12), (.mv (.tmp 0)), none⟩,
  ⟨(some 13), (.mv (.tmp 5)), none⟩,
  ⟨(some 14), (.ixS (.tmp 12) (.tmp 13) 1), none⟩,
  ⟨(some 15), (.load (.tmp 14) none), none⟩,
  ⟨(some 16), (.callV (.tmp 11) [(.tmp 15)]), none⟩])
 (.cond (.tmp 16) none
 (.seq (.ops [⟨(some 17), (.mv (.tmp 5)), none⟩,
  ⟨(some 4), (.mv (.tmp 17)), none⟩])
 .ret)
 .skip))))
 (.ops [⟨(some 18), (.bin .add (.tmp 8) (.const (Value.int .i64 (Int.ofNat 1)))), none⟩,
  ⟨(some 8), (.mv (.tmp 18)), none⟩])))))))
 (.seq (.ops [⟨(some 4), (.mv (.const (Value.int .i64 (Int.negSucc 0)))), none⟩])
 .ret))),
 [(.tmp 4)], 2⟩
/- palisade/word.known -/
def k65 : KFunc := ⟨(.seq (.ops [⟨(some 2), (.mv (.const (Value.bool false))), none⟩])
 (.seq (.seq (.ops [⟨(some 5), (.load (.global 0) (some 4)), none⟩,
  ⟨(some 6), (.mv (.const (Value.int .i64 (Int.ofNat 0)))), none⟩])
 (.block 0 [] (.loop [0, 5, 6] (.seq (.ops [⟨(some 7), (.bin .lss (.tmp 6) (.const (Value.int .i64 (Int.ofNat 4)))), none⟩])
 (.seq (.cond (.tmp 7) none
 .skip
 (.exit 0))
 (.seq (.block 1 [0, 5, 6] (.seq (.ops [⟨(some 8), (.ixV (.tmp 5) (.tmp 6) 4 1 none), none⟩,
  ⟨(some 4), (.mv (.tmp 8)), none⟩])
 (.seq (.ops [⟨(some 9), (.mv (.tmp 4)), none⟩,
  ⟨(some 10), (.mv (.tmp 0)), none⟩,
  ⟨(some 11), (.bin .eql (.tmp 9) (.tmp 10)), none⟩,
  ⟨(some 12), (.mv (.tmp 11)), none⟩,
  ⟨(some 13), (.mv (.tmp 4)), (some (12, true))⟩,
  ⟨(some 14), (.bin .gtr (.tmp 13) (.const (Value.int .i64 (Int.ofNat 0)))), (some (12, true))⟩,
  ⟨(some 15), (.pick (.tmp 12) (.tmp 14) (.const (Value.bool false))), none⟩])
 (.cond (.tmp 15) none
 (.seq (.ops [⟨(some 2), (.mv (.const (Value.bool true))), none⟩])
 .ret)
 .skip))))
 (.ops [⟨(some 16), (.bin .add (.tmp 6) (.const (Value.int .i64 (Int.ofNat 1)))), none⟩,
  ⟨(some 6), (.mv (.tmp 16)), none⟩])))))))
 (.seq (.ops [⟨(some 2), (.mv (.const (Value.bool false))), none⟩])
 .ret))),
 [(.tmp 2)], 1⟩
/- (*palisade/palisadelaw24.Flat).Bytes -/
def k81 : KFunc := ⟨(.seq (.ops [⟨(some 6), (.mv (.const (Value.slice none 0 0))), none⟩,
  ⟨(some 7), (.mv (.const (Value.int .i64 (Int.ofNat 0)))), none⟩])
 (.seq (.seq (.ops [⟨(some 8), (.mv (.tmp 2)), none⟩,
  ⟨(some 9), (.bin .lss (.tmp 8) (.const (Value.int .i64 (Int.ofNat 0)))), none⟩,
  ⟨(some 10), (.mv (.tmp 9)), none⟩,
  ⟨(some 11), (.mv (.tmp 1)), (some (10, false))⟩,
  ⟨(some 12), (.mv (.tmp 0)), (some (10, false))⟩,
  ⟨(some 13), (.nilCheck (.tmp 12)), (some (10, false))⟩,
  ⟨(some 14), (.addOff (.tmp 13) 2), (some (10, false))⟩,
  ⟨(some 15), (.load (.tmp 14) none), (some (10, false))⟩,
  ⟨(some 16), (.bin .mul (.const (Value.int .i64 (Int.ofNat 256))) (.tmp 15)), (some (10, false))⟩,
  ⟨(some 17), (.conv .u64 (.tmp 16)), (some (10, false))⟩,
  ⟨(some 18), (.bin .gtr (.tmp 11) (.tmp 17)), (some (10, false))⟩,
  ⟨(some 19), (.pick (.tmp 10) (.const (Value.bool true)) (.tmp 18)), none⟩,
  ⟨(some 20), (.mv (.tmp 19)), none⟩,
  ⟨(some 21), (.mv (.tmp 2)), (some (20, false))⟩,
  ⟨(some 22), (.conv .u64 (.tmp 21)), (some (20, false))⟩,
  ⟨(some 23), (.mv (.tmp 0)), (some (20, false))⟩,
  ⟨(some 24), (.nilCheck (.tmp 23)), (some (20, false))⟩,
  ⟨(some 25), (.addOff (.tmp 24) 2), (some (20, false))⟩,
  ⟨(some 26), (.load (.tmp 25) none), (some (20, false))⟩,
  ⟨(some 27), (.bin .mul (.const (Value.int .i64 (Int.ofNat 256))) (.tmp 26)), (some (20, false))⟩,
  ⟨(some 28), (.conv .u64 (.tmp 27)), (some (20, false))⟩,
  ⟨(some 29), (.mv (.tmp 1)), (some (20, false))⟩,
  ⟨(some 30), (.bin .sub (.tmp 28) (.tmp 29)), (some (20, false))⟩,
  ⟨(some 31), (.bin .gtr (.tmp 22) (.tmp 30)), (some (20, false))⟩,
  ⟨(some 32), (.pick (.tmp 20) (.const (Value.bool true)) (.tmp 31)), none⟩])
 (.cond (.tmp 32) none
 (.seq (.ops [⟨(some 6), (.mv (.const (Value.slice none 0 0))), none⟩,
  ⟨(some 7), (.mv (.const (Value.int .i64 (Int.ofNat 12)))), none⟩])
 .ret)
 .skip))
 (.seq (.draw 0 [⟨0, [0], ⟨(some 33), (.mv (.tmp 0)), none⟩, 0, 264⟩,
  ⟨1, [33], ⟨(some 34), (.nilCheck (.tmp 33)), none⟩, 0, 264⟩,
  ⟨2, [34], ⟨(some 35), (.addOff (.tmp 34) 0), none⟩, 0, 264⟩,
  ⟨3, [35], ⟨(some 36), (.load (.tmp 35) none), none⟩, 0, 264⟩,
  ⟨4, [1], ⟨(some 37), (.mv (.tmp 1)), none⟩, 0, 264⟩,
  ⟨5, [0], ⟨(some 38), (.mv (.tmp 0)), none⟩, 0, 264⟩,
  ⟨6, [38], ⟨(some 39), (.nilCheck (.tmp 38)), none⟩, 0, 264⟩,
  ⟨7, [39], ⟨(some 40), (.addOff (.tmp 39) 1), none⟩, 0, 264⟩,
  ⟨8, [40], ⟨(some 41), (.load (.tmp 40) none), none⟩, 0, 264⟩,
  ⟨9, [41], ⟨(some 42), (.bin .mul (.const (Value.int .i64 (Int.ofNat 256))) (.tmp 41)), none⟩, 0, 8⟩,
  ⟨10, [42], ⟨(some 43), (.conv .u64 (.tmp 42)), none⟩, 0, 8⟩,
  ⟨11, [37, 43], ⟨(some 44), (.bin .add (.tmp 37) (.tmp 43)), none⟩, 0, 8⟩,
  ⟨12, [2], ⟨(some 45), (.mv (.tmp 2)), none⟩, 0, 264⟩,
  ⟨13, [36, 44, 45], ⟨(some 46), (.call 33 [(.tmp 36), (.tmp 44), (.tmp 45)]), none⟩, 0, 0⟩,
  ⟨14, [46], ⟨(some 47), (.extract (.tmp 46) 0), none⟩, 0, 0⟩,
  ⟨15, [46], ⟨(some 48), (.extract (.tmp 46) 1), none⟩, 0, 0⟩,
  ⟨16, [47], ⟨(some 6), (.mv (.tmp 47)), none⟩, 0, 0⟩,
  ⟨17, [48], ⟨(some 7), (.mv (.tmp 48)), none⟩, 0, 0⟩])
 .ret))),
 [(.tmp 6), (.tmp 7)], 3⟩
/- (*palisade/palisadelaw24.Flat).Frame -/
def k82 : KFunc := ⟨(.seq (.ops [⟨(some 6), (.mv (.const (Value.int .i64 (Int.ofNat 0)))), none⟩,
  ⟨(some 7), (.mv (.const (Value.bool false))), none⟩])
 (.seq (.seq (.ops [⟨(some 8), (.mv (.tmp 1)), none⟩,
  ⟨(some 9), (.bin .lss (.tmp 8) (.const (Value.int .i64 (Int.ofNat 0)))), none⟩,
  ⟨(some 10), (.mv (.tmp 9)), none⟩,
  ⟨(some 11), (.mv (.tmp 1)), (some (10, false))⟩,
  ⟨(some 12), (.mv (.tmp 0)), (some (10, false))⟩,
  ⟨(some 13), (.nilCheck (.tmp 12)), (some (10, false))⟩,
  ⟨(some 14), (.addOff (.tmp 13) 2), (some (10, false))⟩,
  ⟨(some 15), (.load (.tmp 14) none), (some (10, false))⟩,
  ⟨(some 16), (.bin .geq (.tmp 11) (.tmp 15)), (some (10, false))⟩,
  ⟨(some 17), (.pick (.tmp 10) (.const (Value.bool true)) (.tmp 16)), none⟩])
 (.cond (.tmp 17) none
 (.seq (.ops [⟨(some 6), (.mv (.const (Value.int .i64 (Int.ofNat 0)))), none⟩,
  ⟨(some 7), (.mv (.const (Value.bool false))), none⟩])
 .ret)
 .skip))
 (.seq (.ops [⟨(some 18), (.mv (.tmp 0)), none⟩,
  ⟨(some 19), (.nilCheck (.tmp 18)), none⟩,
  ⟨(some 20), (.addOff (.tmp 19) 1), none⟩,
  ⟨(some 21), (.load (.tmp 20) none), none⟩,
  ⟨(some 22), (.mv (.tmp 1)), none⟩,
  ⟨(some 23), (.bin .add (.tmp 21) (.tmp 22)), none⟩,
  ⟨(some 6), (.mv (.tmp 23)), none⟩,
  ⟨(some 7), (.mv (.const (Value.bool true))), none⟩])
 .ret))),
 [(.tmp 6), (.tmp 7)], 3⟩
/- (*palisade/palisadelaw24.Flat).Load -/
def k83 : KFunc := ⟨(.seq (.ops [⟨(some 6), (.mv (.const (Value.int .u64 (Int.ofNat 0)))), none⟩,
  ⟨(some 7), (.mv (.const (Value.int .i64 (Int.ofNat 0)))), none⟩])
 (.seq (.seq (.ops [⟨(some 8), (.mv (.tmp 1)), none⟩,
  ⟨(some 9), (.mv (.tmp 0)), none⟩,
  ⟨(some 10), (.nilCheck (.tmp 9)), none⟩,
  ⟨(some 11), (.addOff (.tmp 10) 2), none⟩,
  ⟨(some 12), (.load (.tmp 11) none), none⟩,
  ⟨(some 13), (.bin .mul (.const (Value.int .i64 (Int.ofNat 256))) (.tmp 12)), none⟩,
  ⟨(some 14), (.conv .u64 (.tmp 13)), none⟩,
  ⟨(some 15), (.bin .geq (.tmp 8) (.tmp 14)), none⟩])
 (.cond (.tmp 15) none
 (.seq (.ops [⟨(some 6), (.mv (.const (Value.int .u64 (Int.ofNat 0)))), none⟩,
  ⟨(some 7), (.mv (.const (Value.int .i64 (Int.ofNat 12)))), none⟩])
 .ret)
 .skip))
 (.seq (.draw 0 [⟨0, [0], ⟨(some 16), (.mv (.tmp 0)), none⟩, 0, 264⟩,
  ⟨1, [16], ⟨(some 17), (.nilCheck (.tmp 16)), none⟩, 0, 264⟩,
  ⟨2, [17], ⟨(some 18), (.addOff (.tmp 17) 0), none⟩, 0, 264⟩,
  ⟨3, [18], ⟨(some 19), (.load (.tmp 18) none), none⟩, 0, 264⟩,
  ⟨4, [1], ⟨(some 20), (.mv (.tmp 1)), none⟩, 0, 264⟩,
  ⟨5, [0], ⟨(some 21), (.mv (.tmp 0)), none⟩, 0, 264⟩,
  ⟨6, [21], ⟨(some 22), (.nilCheck (.tmp 21)), none⟩, 0, 264⟩,
  ⟨7, [22], ⟨(some 23), (.addOff (.tmp 22) 1), none⟩, 0, 264⟩,
  ⟨8, [23], ⟨(some 24), (.load (.tmp 23) none), none⟩, 0, 264⟩,
  ⟨9, [24], ⟨(some 25), (.bin .mul (.const (Value.int .i64 (Int.ofNat 256))) (.tmp 24)), none⟩, 0, 8⟩,
  ⟨10, [25], ⟨(some 26), (.conv .u64 (.tmp 25)), none⟩, 0, 8⟩,
  ⟨11, [20, 26], ⟨(some 27), (.bin .add (.tmp 20) (.tmp 26)), none⟩, 0, 8⟩,
  ⟨12, [2], ⟨(some 28), (.mv (.tmp 2)), none⟩, 0, 264⟩,
  ⟨13, [19, 27, 28], ⟨(some 29), (.call 85 [(.tmp 19), (.tmp 27), (.tmp 28)]), none⟩, 0, 0⟩,
  ⟨14, [29], ⟨(some 30), (.extract (.tmp 29) 0), none⟩, 0, 0⟩,
  ⟨15, [29], ⟨(some 31), (.extract (.tmp 29) 1), none⟩, 0, 0⟩,
  ⟨16, [30], ⟨(some 6), (.mv (.tmp 30)), none⟩, 0, 0⟩,
  ⟨17, [31], ⟨(some 7), (.mv (.tmp 31)), none⟩, 0, 0⟩])
 .ret))),
 [(.tmp 6), (.tmp 7)], 3⟩
/- (*palisade/palisadelaw24.Flat).Put -/
def k84 : KFunc := ⟨(.seq (.ops [⟨(some 6), (.mv (.const (Value.int .i64 (Int.ofNat 0)))), none⟩])
 (.seq (.seq (.ops [⟨(some 7), (.mv (.tmp 1)), none⟩,
  ⟨(some 8), (.mv (.tmp 0)), none⟩,
  ⟨(some 9), (.nilCheck (.tmp 8)), none⟩,
  ⟨(some 10), (.addOff (.tmp 9) 2), none⟩,
  ⟨(some 11), (.load (.tmp 10) none), none⟩,
  ⟨(some 12), (.bin .mul (.const (Value.int .i64 (Int.ofNat 256))) (.tmp 11)), none⟩,
  ⟨(some 13), (.conv .u64 (.tmp 12)), none⟩,
  ⟨(some 14), (.bin .gtr (.tmp 7) (.tmp 13)), none⟩,
  ⟨(some 15), (.mv (.tmp 14)), none⟩,
  ⟨(some 16), (.mv (.tmp 2)), (some (15, false))⟩,
  ⟨(some 17), (.len false (.tmp 16)), (some (15, false))⟩,
  ⟨(some 18), (.conv .u64 (.tmp 17)), (some (15, false))⟩,
  ⟨(some 19), (.mv (.tmp 0)), (some (15, false))⟩,
  ⟨(some 20), (.nilCheck (.tmp 19)), (some (15, false))⟩,
  ⟨(some 21), (.addOff (.tmp 20) 2), (some (15, false))⟩,
  ⟨(some 22), (.load (.tmp 21) none), (some (15, false))⟩,
  ⟨(some 23), (.bin .mul (.const (Value.int .i64 (Int.ofNat 256))) (.tmp 22)), (some (15, false))⟩,
  ⟨(some 24), (.conv .u64 (.tmp 23)), (some (15, false))⟩,
  ⟨(some 25), (.mv (.tmp 1)), (some (15, false))⟩,
  ⟨(some 26), (.bin .sub (.tmp 24) (.tmp 25)), (some (15, false))⟩,
  ⟨(some 27), (.bin .gtr (.tmp 18) (.tmp 26)), (some (15, false))⟩,
  ⟨(some 28), (.pick (.tmp 15) (.const (Value.bool true)) (.tmp 27)), none⟩])
 (.cond (.tmp 28) none
 (.seq (.ops [⟨(some 6), (.mv (.const (Value.int .i64 (Int.ofNat 12)))), none⟩])
 .ret)
 .skip))
 (.seq (.draw 0 [⟨0, [0], ⟨(some 29), (.mv (.tmp 0)), none⟩, 0, 264⟩,
  ⟨1, [29], ⟨(some 30), (.nilCheck (.tmp 29)), none⟩, 0, 264⟩,
  ⟨2, [30], ⟨(some 31), (.addOff (.tmp 30) 0), none⟩, 0, 264⟩,
  ⟨3, [31], ⟨(some 32), (.load (.tmp 31) none), none⟩, 0, 264⟩,
  ⟨4, [1], ⟨(some 33), (.mv (.tmp 1)), none⟩, 0, 264⟩,
  ⟨5, [0], ⟨(some 34), (.mv (.tmp 0)), none⟩, 0, 264⟩,
  ⟨6, [34], ⟨(some 35), (.nilCheck (.tmp 34)), none⟩, 0, 264⟩,
  ⟨7, [35], ⟨(some 36), (.addOff (.tmp 35) 1), none⟩, 0, 264⟩,
  ⟨8, [36], ⟨(some 37), (.load (.tmp 36) none), none⟩, 0, 264⟩,
  ⟨9, [37], ⟨(some 38), (.bin .mul (.const (Value.int .i64 (Int.ofNat 256))) (.tmp 37)), none⟩, 0, 8⟩,
  ⟨10, [38], ⟨(some 39), (.conv .u64 (.tmp 38)), none⟩, 0, 8⟩,
  ⟨11, [33, 39], ⟨(some 40), (.bin .add (.tmp 33) (.tmp 39)), none⟩, 0, 8⟩,
  ⟨12, [2], ⟨(some 41), (.mv (.tmp 2)), none⟩, 0, 264⟩,
  ⟨13, [32, 40, 41], ⟨(some 42), (.call 36 [(.tmp 32), (.tmp 40), (.tmp 41)]), none⟩, 0, 0⟩,
  ⟨14, [42], ⟨(some 6), (.mv (.tmp 42)), none⟩, 0, 0⟩])
 .ret))),
 [(.tmp 6)], 3⟩
/- (*palisade/mem.Memory).Load -/
def k85 : KFunc := ⟨(.seq (.ops [⟨(some 6), (.mv (.const (Value.int .u64 (Int.ofNat 0)))), none⟩,
  ⟨(some 7), (.mv (.const (Value.int .i64 (Int.ofNat 0)))), none⟩])
 (.seq (.ops [⟨(some 13), (.mv (.tmp 0)), none⟩,
  ⟨(some 14), (.mv (.tmp 1)), none⟩,
  ⟨(some 15), (.mv (.tmp 2)), none⟩,
  ⟨(some 16), (.call 58 [(.tmp 13), (.tmp 14), (.tmp 15)]), none⟩,
  ⟨(some 12), (.mv (.tmp 16)), none⟩,
  ⟨(some 17), (.extract (.tmp 12) 0), none⟩,
  ⟨(some 18), (.extract (.tmp 12) 1), none⟩,
  ⟨(some 8), (.mv (.tmp 17)), none⟩,
  ⟨(some 9), (.mv (.tmp 18)), none⟩])
 (.seq (.seq (.ops [⟨(some 19), (.mv (.tmp 9)), none⟩,
  ⟨(some 20), (.bin .neq (.tmp 19) (.const (Value.int .i64 (Int.ofNat 0)))), none⟩])
 (.cond (.tmp 20) none
 (.seq (.ops [⟨(some 21), (.mv (.tmp 9)), none⟩,
  ⟨(some 6), (.mv (.const (Value.int .u64 (Int.ofNat 0)))), none⟩,
  ⟨(some 7), (.mv (.tmp 21)), none⟩])
 .ret)
 .skip))
 (.seq (.ops [⟨(some 23), (.mv (.tmp 8)), none⟩,
  ⟨(some 24), (.mv (.tmp 2)), none⟩,
  ⟨(some 25), (.call 86 [(.tmp 23), (.const (Value.int .i64 (Int.ofNat 0))), (.tmp 24)]), none⟩,
  ⟨(some 22), (.mv (.tmp 25)), none⟩,
  ⟨(some 26), (.extract (.tmp 22) 0), none⟩,
  ⟨(some 27), (.extract (.tmp 22) 1), none⟩,
  ⟨(some 10), (.mv (.tmp 26)), none⟩,
  ⟨(some 11), (.mv (.tmp 27)), none⟩])
 (.seq (.ops [⟨(some 28), (.mv (.tmp 10)), none⟩,
  ⟨(some 6), (.mv (.tmp 28)), none⟩,
  ⟨(some 7), (.mv (.const (Value.int .i64 (Int.ofNat 0)))), none⟩])
 .ret))))),
 [(.tmp 6), (.tmp 7)], 3⟩
/- palisade/word.Load -/
def k86 : KFunc := ⟨(.seq (.ops [⟨(some 6), (.mv (.const (Value.int .u64 (Int.ofNat 0)))), none⟩,
  ⟨(some 7), (.mv (.const (Value.bool false))), none⟩])
 (.seq (.seq (.ops [⟨(some 11), (.mv (.tmp 2)), none⟩,
  ⟨(some 12), (.call 65 [(.tmp 11)]), none⟩,
  ⟨(some 13), (.un .not (.tmp 12)), none⟩,
  ⟨(some 14), (.mv (.tmp 13)), none⟩,
  ⟨(some 15), (.mv (.tmp 1)), (some (14, false))⟩,
  ⟨(some 16), (.bin .lss (.tmp 15) (.const (Value.int .i64 (Int.ofNat 0)))), (some (14, false))⟩,
  ⟨(some 17), (.pick (.tmp 14) (.const (Value.bool true)) (.tmp 16)), none⟩,
  ⟨(some 18), (.mv (.tmp 17)), none⟩,
  ⟨(some 19), (.mv (.tmp 1)), (some (18, false))⟩,
  ⟨(some 20), (.mv (.tmp 0)), (some (18, false))⟩,
  ⟨(some 21), (.len false (.tmp 20)), (some (18, false))⟩,
  ⟨(some 22), (.mv (.tmp 2)), (some (18, false))⟩,
  ⟨(some 23), (.bin .sub (.tmp 21) (.tmp 22)), (some (18, false))⟩,
  ⟨(some 24), (.bin .gtr (.tmp 19) (.tmp 23)), (some (18, false))⟩,
  ⟨(some 25), (.pick (.tmp 18) (.const (Value.bool true)) (.tmp 24)), none⟩])
 (.cond (.tmp 25) none
 (.seq (.ops [⟨(some 6), (.mv (.const (Value.int .u64 (Int.ofNat 0)))), none⟩,
  ⟨(some 7), (.mv (.const (Value.bool false))), none⟩])
 .ret)
 .skip))
 (.seq (.ops [⟨(some 8), (.mv (.const (Value.int .u64 (Int.ofNat 0)))), none⟩])
 (.seq (.seq (.ops [⟨(some 26), (.mv (.tmp 0)), none⟩,
  ⟨(some 27), (.mv (.tmp 1)), none⟩,
  ⟨(some 28), (.mv (.tmp 1)), none⟩,
  ⟨(some 29), (.mv (.tmp 2)), none⟩,
  ⟨(some 30), (.bin .add (.tmp 28) (.tmp 29)), none⟩,
  ⟨(some 31), (.slS (.tmp 26) (some (.tmp 27)) (some (.tmp 30)) none 1), none⟩,
  ⟨(some 32), (.len false (.tmp 31)), none⟩,
  ⟨(some 33), (.mv (.const (Value.int .i64 (Int.ofNat 0)))), none⟩])
 (.block 0 [2, 8] (.loop [2, 8, 31, 32, 33] (.seq (.ops [⟨(some 34), (.bin .lss (.tmp 33) (.tmp 32)), none⟩])
 (.seq (.cond (.tmp 34) none
 .skip
 (.exit 0))
 (.seq (.block 1 [2, 8, 31, 32, 33] (.seq (.ops [⟨(some 35), (.mv (.tmp 33)), none⟩,
  ⟨(some 36), (.ixS (.tmp 31) (.tmp 33) 1), none⟩,
  ⟨(some 37), (.load (.tmp 36) none), none⟩,
  ⟨(some 9), (.mv (.tmp 35)), none⟩,
  ⟨(some 10), (.mv (.tmp 37)), none⟩])
 (.ops [⟨(some 38), (.mv (.tmp 8)), none⟩,
  ⟨(some 39), (.mv (.tmp 10)), none⟩,
  ⟨(some 40), (.conv .u64 (.tmp 39)), none⟩,
  ⟨(some 41), (.mv (.tmp 9)), none⟩,
  ⟨(some 42), (.bin .mul (.const (Value.int .i64 (Int.ofNat 8))) (.tmp 41)), none⟩,
  ⟨(some 43), (.bin .shl (.tmp 40) (.tmp 42)), none⟩,
  ⟨(some 44), (.bin .or (.tmp 38) (.tmp 43)), none⟩,
  ⟨(some 8), (.mv (.tmp 44)), none⟩])))
 (.ops [⟨(some 45), (.bin .add (.tmp 33) (.const (Value.int .i64 (Int.ofNat 1)))), none⟩,
  ⟨(some 33), (.mv (.tmp 45)), none⟩])))))))
 (.seq (.seq (.ops [⟨(some 46), (.mv (.tmp 2)), none⟩,
  ⟨(some 47), (.bin .eql (.tmp 46) (.const (Value.int .i64 (Int.ofNat 4)))), none⟩])
 (.cond (.tmp 47) (some [8])
 (.ops [⟨(some 48), (.mv (.tmp 8)), none⟩,
  ⟨(some 49), (.conv .i32 (.tmp 48)), none⟩,
  ⟨(some 50), (.conv .i64 (.tmp 49)), none⟩,
  ⟨(some 51), (.conv .u64 (.tmp 50)), none⟩,
  ⟨(some 8), (.mv (.tmp 51)), none⟩])
 .skip))
 (.seq (.ops [⟨(some 52), (.mv (.tmp 8)), none⟩,
  ⟨(some 6), (.mv (.tmp 52)), none⟩,
  ⟨(some 7), (.mv (.const (Value.bool true))), none⟩])
 .ret)))))),
 [(.tmp 6), (.tmp 7)], 3⟩
def tableL : List (Nat × XFunc) := [(3, ⟨6129982163463555433620310795511210612196257642127032307, k3.erase⟩), (5, ⟨83076752212439681883110469879791615, k5.erase⟩), (6, ⟨271, k6.erase⟩), (7, ⟨4303421895, k7.erase⟩), (8, ⟨295166201190280110067, k8.erase⟩), (9, ⟨21, k9.erase⟩), (10, ⟨297453748188574930887, k10.erase⟩), (11, ⟨70368760965063, k11.erase⟩), (12, ⟨131187, k12.erase⟩), (14, ⟨274878185927, k14.erase⟩), (16, ⟨525, k16.erase⟩), (17, ⟨211121273307635, k17.erase⟩), (18, ⟨525, k18.erase⟩), (19, ⟨36894051097372559475, k19.erase⟩), (20, ⟨131123, k20.erase⟩), (21, ⟨33583167, k21.erase⟩), (22, ⟨65807, k22.erase⟩), (23, ⟨19, k23.erase⟩), (24, ⟨79537647819234150791575257075, k24.erase⟩), (25, ⟨10931571037335767127688464629435302936551, k25.erase⟩), (26, ⟨33816695, k26.erase⟩), (27, ⟨636146437687774788901228654351, k27.erase⟩), (28, ⟨67109079, k28.erase⟩), (29, ⟨5, k29.erase⟩), (30, ⟨21, k30.erase⟩), (31, ⟨537399539, k31.erase⟩), (32, ⟨15, k32.erase⟩), (33, ⟨967, k33.erase⟩), (34, ⟨2132167, k34.erase⟩), (35, ⟨4339, k35.erase⟩), (36, ⟨262599, k36.erase⟩), (37, ⟨5, k37.erase⟩), (38, ⟨67143879, k38.erase⟩), (39, ⟨5, k39.erase⟩), (40, ⟨139091, k40.erase⟩), (41, ⟨5, k41.erase⟩), (42, ⟨21, k42.erase⟩), (43, ⟨526095, k43.erase⟩), (44, ⟨524339, k44.erase⟩), (45, ⟨115, k45.erase⟩), (46, ⟨18907912675552324886471, k46.erase⟩), (47, ⟨45, k47.erase⟩), (48, ⟨139463, k48.erase⟩), (49, ⟨2114619, k49.erase⟩), (50, ⟨5, k50.erase⟩), (51, ⟨66483, k51.erase⟩), (52, ⟨150527, k52.erase⟩), (53, ⟨21, k53.erase⟩), (54, ⟨307, k54.erase⟩), (55, ⟨19, k55.erase⟩), (56, ⟨5, k56.erase⟩), (57, ⟨21, k57.erase⟩), (58, ⟨4196807, k58.erase⟩), (59, ⟨57971, k59.erase⟩), (60, ⟨140737488422899, k60.erase⟩), (61, ⟨19, k61.erase⟩), (62, ⟨15, k62.erase⟩), (63, ⟨15, k63.erase⟩), (64, ⟨66483, k64.erase⟩), (65, ⟨33013, k65.erase⟩), (81, ⟨4294967495, k81.erase⟩), (82, ⟨131267, k82.erase⟩), (83, ⟨32967, k83.erase⟩), (84, ⟨268435527, k84.erase⟩), (85, ⟨1050567, k85.erase⟩), (86, ⟨140769734166471, k86.erase⟩)]
def A : FuncId → Option XFunc := fun f => (Tr.ofPairs tableL .leaf).get f
theorem ok3 : callable Tryd.prog 3 = true ∧ compileFunc Tryd.prog tab mrows Tryd.f3 = some k3.erase := ⟨by kernel_rfl, by kernel_rfl⟩
theorem ok5 : callable Tryd.prog 5 = true ∧ compileFunc Tryd.prog tab mrows Tryd.f5 = some k5.erase := ⟨by kernel_rfl, by kernel_rfl⟩
theorem ok6 : callable Tryd.prog 6 = true ∧ compileFunc Tryd.prog tab mrows Tryd.f6 = some k6.erase := ⟨by kernel_rfl, by kernel_rfl⟩
theorem ok7 : callable Tryd.prog 7 = true ∧ compileFunc Tryd.prog tab mrows Tryd.f7 = some k7.erase := ⟨by kernel_rfl, by kernel_rfl⟩
theorem ok8 : callable Tryd.prog 8 = true ∧ compileFunc Tryd.prog tab mrows Tryd.f8 = some k8.erase := ⟨by kernel_rfl, by kernel_rfl⟩
theorem ok9 : callable Tryd.prog 9 = true ∧ compileFunc Tryd.prog tab mrows Tryd.f9 = some k9.erase := ⟨by kernel_rfl, by kernel_rfl⟩
theorem ok10 : callable Tryd.prog 10 = true ∧ compileFunc Tryd.prog tab mrows Tryd.f10 = some k10.erase := ⟨by kernel_rfl, by kernel_rfl⟩
theorem ok11 : callable Tryd.prog 11 = true ∧ compileFunc Tryd.prog tab mrows Tryd.f11 = some k11.erase := ⟨by kernel_rfl, by kernel_rfl⟩
theorem ok12 : callable Tryd.prog 12 = true ∧ compileFunc Tryd.prog tab mrows Tryd.f12 = some k12.erase := ⟨by kernel_rfl, by kernel_rfl⟩
theorem ok13 : callable Tryd.prog 13 = true ∧ compileFunc Tryd.prog tab mrows Tryd.f13 = some k13.erase := ⟨by kernel_rfl, by kernel_rfl⟩
theorem ok14 : callable Tryd.prog 14 = true ∧ compileFunc Tryd.prog tab mrows Tryd.f14 = some k14.erase := ⟨by kernel_rfl, by kernel_rfl⟩
theorem ok16 : callable Tryd.prog 16 = true ∧ compileFunc Tryd.prog tab mrows Tryd.f16 = some k16.erase := ⟨by kernel_rfl, by kernel_rfl⟩
theorem ok17 : callable Tryd.prog 17 = true ∧ compileFunc Tryd.prog tab mrows Tryd.f17 = some k17.erase := ⟨by kernel_rfl, by kernel_rfl⟩
theorem ok18 : callable Tryd.prog 18 = true ∧ compileFunc Tryd.prog tab mrows Tryd.f18 = some k18.erase := ⟨by kernel_rfl, by kernel_rfl⟩
theorem ok19 : callable Tryd.prog 19 = true ∧ compileFunc Tryd.prog tab mrows Tryd.f19 = some k19.erase := ⟨by kernel_rfl, by kernel_rfl⟩
theorem ok20 : callable Tryd.prog 20 = true ∧ compileFunc Tryd.prog tab mrows Tryd.f20 = some k20.erase := ⟨by kernel_rfl, by kernel_rfl⟩
theorem ok21 : callable Tryd.prog 21 = true ∧ compileFunc Tryd.prog tab mrows Tryd.f21 = some k21.erase := ⟨by kernel_rfl, by kernel_rfl⟩
theorem ok22 : callable Tryd.prog 22 = true ∧ compileFunc Tryd.prog tab mrows Tryd.f22 = some k22.erase := ⟨by kernel_rfl, by kernel_rfl⟩
theorem ok23 : callable Tryd.prog 23 = true ∧ compileFunc Tryd.prog tab mrows Tryd.f23 = some k23.erase := ⟨by kernel_rfl, by kernel_rfl⟩
theorem ok24 : callable Tryd.prog 24 = true ∧ compileFunc Tryd.prog tab mrows Tryd.f24 = some k24.erase := ⟨by kernel_rfl, by kernel_rfl⟩
theorem ok25 : callable Tryd.prog 25 = true ∧ compileFunc Tryd.prog tab mrows Tryd.f25 = some k25.erase := ⟨by kernel_rfl, by kernel_rfl⟩
theorem ok26 : callable Tryd.prog 26 = true ∧ compileFunc Tryd.prog tab mrows Tryd.f26 = some k26.erase := ⟨by kernel_rfl, by kernel_rfl⟩
theorem ok27 : callable Tryd.prog 27 = true ∧ compileFunc Tryd.prog tab mrows Tryd.f27 = some k27.erase := ⟨by kernel_rfl, by kernel_rfl⟩
theorem ok28 : callable Tryd.prog 28 = true ∧ compileFunc Tryd.prog tab mrows Tryd.f28 = some k28.erase := ⟨by kernel_rfl, by kernel_rfl⟩
theorem ok29 : callable Tryd.prog 29 = true ∧ compileFunc Tryd.prog tab mrows Tryd.f29 = some k29.erase := ⟨by kernel_rfl, by kernel_rfl⟩
theorem ok30 : callable Tryd.prog 30 = true ∧ compileFunc Tryd.prog tab mrows Tryd.f30 = some k30.erase := ⟨by kernel_rfl, by kernel_rfl⟩
theorem ok31 : callable Tryd.prog 31 = true ∧ compileFunc Tryd.prog tab mrows Tryd.f31 = some k31.erase := ⟨by kernel_rfl, by kernel_rfl⟩
theorem ok32 : callable Tryd.prog 32 = true ∧ compileFunc Tryd.prog tab mrows Tryd.f32 = some k32.erase := ⟨by kernel_rfl, by kernel_rfl⟩
theorem ok33 : callable Tryd.prog 33 = true ∧ compileFunc Tryd.prog tab mrows Tryd.f33 = some k33.erase := ⟨by kernel_rfl, by kernel_rfl⟩
theorem ok34 : callable Tryd.prog 34 = true ∧ compileFunc Tryd.prog tab mrows Tryd.f34 = some k34.erase := ⟨by kernel_rfl, by kernel_rfl⟩
theorem ok35 : callable Tryd.prog 35 = true ∧ compileFunc Tryd.prog tab mrows Tryd.f35 = some k35.erase := ⟨by kernel_rfl, by kernel_rfl⟩
theorem ok36 : callable Tryd.prog 36 = true ∧ compileFunc Tryd.prog tab mrows Tryd.f36 = some k36.erase := ⟨by kernel_rfl, by kernel_rfl⟩
theorem ok37 : callable Tryd.prog 37 = true ∧ compileFunc Tryd.prog tab mrows Tryd.f37 = some k37.erase := ⟨by kernel_rfl, by kernel_rfl⟩
theorem ok38 : callable Tryd.prog 38 = true ∧ compileFunc Tryd.prog tab mrows Tryd.f38 = some k38.erase := ⟨by kernel_rfl, by kernel_rfl⟩
theorem ok39 : callable Tryd.prog 39 = true ∧ compileFunc Tryd.prog tab mrows Tryd.f39 = some k39.erase := ⟨by kernel_rfl, by kernel_rfl⟩
theorem ok40 : callable Tryd.prog 40 = true ∧ compileFunc Tryd.prog tab mrows Tryd.f40 = some k40.erase := ⟨by kernel_rfl, by kernel_rfl⟩
theorem ok41 : callable Tryd.prog 41 = true ∧ compileFunc Tryd.prog tab mrows Tryd.f41 = some k41.erase := ⟨by kernel_rfl, by kernel_rfl⟩
theorem ok42 : callable Tryd.prog 42 = true ∧ compileFunc Tryd.prog tab mrows Tryd.f42 = some k42.erase := ⟨by kernel_rfl, by kernel_rfl⟩
theorem ok43 : callable Tryd.prog 43 = true ∧ compileFunc Tryd.prog tab mrows Tryd.f43 = some k43.erase := ⟨by kernel_rfl, by kernel_rfl⟩
theorem ok44 : callable Tryd.prog 44 = true ∧ compileFunc Tryd.prog tab mrows Tryd.f44 = some k44.erase := ⟨by kernel_rfl, by kernel_rfl⟩
theorem ok45 : callable Tryd.prog 45 = true ∧ compileFunc Tryd.prog tab mrows Tryd.f45 = some k45.erase := ⟨by kernel_rfl, by kernel_rfl⟩
theorem ok46 : callable Tryd.prog 46 = true ∧ compileFunc Tryd.prog tab mrows Tryd.f46 = some k46.erase := ⟨by kernel_rfl, by kernel_rfl⟩
theorem ok47 : callable Tryd.prog 47 = true ∧ compileFunc Tryd.prog tab mrows Tryd.f47 = some k47.erase := ⟨by kernel_rfl, by kernel_rfl⟩
theorem ok48 : callable Tryd.prog 48 = true ∧ compileFunc Tryd.prog tab mrows Tryd.f48 = some k48.erase := ⟨by kernel_rfl, by kernel_rfl⟩
theorem ok49 : callable Tryd.prog 49 = true ∧ compileFunc Tryd.prog tab mrows Tryd.f49 = some k49.erase := ⟨by kernel_rfl, by kernel_rfl⟩
theorem ok50 : callable Tryd.prog 50 = true ∧ compileFunc Tryd.prog tab mrows Tryd.f50 = some k50.erase := ⟨by kernel_rfl, by kernel_rfl⟩
theorem ok51 : callable Tryd.prog 51 = true ∧ compileFunc Tryd.prog tab mrows Tryd.f51 = some k51.erase := ⟨by kernel_rfl, by kernel_rfl⟩
theorem ok52 : callable Tryd.prog 52 = true ∧ compileFunc Tryd.prog tab mrows Tryd.f52 = some k52.erase := ⟨by kernel_rfl, by kernel_rfl⟩
theorem ok53 : callable Tryd.prog 53 = true ∧ compileFunc Tryd.prog tab mrows Tryd.f53 = some k53.erase := ⟨by kernel_rfl, by kernel_rfl⟩
theorem ok54 : callable Tryd.prog 54 = true ∧ compileFunc Tryd.prog tab mrows Tryd.f54 = some k54.erase := ⟨by kernel_rfl, by kernel_rfl⟩
theorem ok55 : callable Tryd.prog 55 = true ∧ compileFunc Tryd.prog tab mrows Tryd.f55 = some k55.erase := ⟨by kernel_rfl, by kernel_rfl⟩
theorem ok56 : callable Tryd.prog 56 = true ∧ compileFunc Tryd.prog tab mrows Tryd.f56 = some k56.erase := ⟨by kernel_rfl, by kernel_rfl⟩
theorem ok57 : callable Tryd.prog 57 = true ∧ compileFunc Tryd.prog tab mrows Tryd.f57 = some k57.erase := ⟨by kernel_rfl, by kernel_rfl⟩
theorem ok58 : callable Tryd.prog 58 = true ∧ compileFunc Tryd.prog tab mrows Tryd.f58 = some k58.erase := ⟨by kernel_rfl, by kernel_rfl⟩
theorem ok59 : callable Tryd.prog 59 = true ∧ compileFunc Tryd.prog tab mrows Tryd.f59 = some k59.erase := ⟨by kernel_rfl, by kernel_rfl⟩
theorem ok60 : callable Tryd.prog 60 = true ∧ compileFunc Tryd.prog tab mrows Tryd.f60 = some k60.erase := ⟨by kernel_rfl, by kernel_rfl⟩
theorem ok61 : callable Tryd.prog 61 = true ∧ compileFunc Tryd.prog tab mrows Tryd.f61 = some k61.erase := ⟨by kernel_rfl, by kernel_rfl⟩
theorem ok62 : callable Tryd.prog 62 = true ∧ compileFunc Tryd.prog tab mrows Tryd.f62 = some k62.erase := ⟨by kernel_rfl, by kernel_rfl⟩
theorem ok63 : callable Tryd.prog 63 = true ∧ compileFunc Tryd.prog tab mrows Tryd.f63 = some k63.erase := ⟨by kernel_rfl, by kernel_rfl⟩
theorem ok64 : callable Tryd.prog 64 = true ∧ compileFunc Tryd.prog tab mrows Tryd.f64 = some k64.erase := ⟨by kernel_rfl, by kernel_rfl⟩
theorem ok65 : callable Tryd.prog 65 = true ∧ compileFunc Tryd.prog tab mrows Tryd.f65 = some k65.erase := ⟨by kernel_rfl, by kernel_rfl⟩
theorem ok81 : callable Tryd.prog 81 = true ∧ compileFunc Tryd.prog tab mrows Tryd.f81 = some k81.erase := ⟨by kernel_rfl, by kernel_rfl⟩
theorem ok82 : callable Tryd.prog 82 = true ∧ compileFunc Tryd.prog tab mrows Tryd.f82 = some k82.erase := ⟨by kernel_rfl, by kernel_rfl⟩
theorem ok83 : callable Tryd.prog 83 = true ∧ compileFunc Tryd.prog tab mrows Tryd.f83 = some k83.erase := ⟨by kernel_rfl, by kernel_rfl⟩
theorem ok84 : callable Tryd.prog 84 = true ∧ compileFunc Tryd.prog tab mrows Tryd.f84 = some k84.erase := ⟨by kernel_rfl, by kernel_rfl⟩
theorem ok85 : callable Tryd.prog 85 = true ∧ compileFunc Tryd.prog tab mrows Tryd.f85 = some k85.erase := ⟨by kernel_rfl, by kernel_rfl⟩
theorem ok86 : callable Tryd.prog 86 = true ∧ compileFunc Tryd.prog tab mrows Tryd.f86 = some k86.erase := ⟨by kernel_rfl, by kernel_rfl⟩
theorem entries : ∀ p ∈ tableL, EntryOK Tryd.prog tab mrows p :=
  List.forall_mem_cons.2 ⟨⟨ok3.1, Tryd.f3, Tryd.func3, ok3.2⟩,
  List.forall_mem_cons.2 ⟨⟨ok5.1, Tryd.f5, Tryd.func5, ok5.2⟩,
  List.forall_mem_cons.2 ⟨⟨ok6.1, Tryd.f6, Tryd.func6, ok6.2⟩,
  List.forall_mem_cons.2 ⟨⟨ok7.1, Tryd.f7, Tryd.func7, ok7.2⟩,
  List.forall_mem_cons.2 ⟨⟨ok8.1, Tryd.f8, Tryd.func8, ok8.2⟩,
  List.forall_mem_cons.2 ⟨⟨ok9.1, Tryd.f9, Tryd.func9, ok9.2⟩,
  List.forall_mem_cons.2 ⟨⟨ok10.1, Tryd.f10, Tryd.func10, ok10.2⟩,
  List.forall_mem_cons.2 ⟨⟨ok11.1, Tryd.f11, Tryd.func11, ok11.2⟩,
  List.forall_mem_cons.2 ⟨⟨ok12.1, Tryd.f12, Tryd.func12, ok12.2⟩,
  List.forall_mem_cons.2 ⟨⟨ok14.1, Tryd.f14, Tryd.func14, ok14.2⟩,
  List.forall_mem_cons.2 ⟨⟨ok16.1, Tryd.f16, Tryd.func16, ok16.2⟩,
  List.forall_mem_cons.2 ⟨⟨ok17.1, Tryd.f17, Tryd.func17, ok17.2⟩,
  List.forall_mem_cons.2 ⟨⟨ok18.1, Tryd.f18, Tryd.func18, ok18.2⟩,
  List.forall_mem_cons.2 ⟨⟨ok19.1, Tryd.f19, Tryd.func19, ok19.2⟩,
  List.forall_mem_cons.2 ⟨⟨ok20.1, Tryd.f20, Tryd.func20, ok20.2⟩,
  List.forall_mem_cons.2 ⟨⟨ok21.1, Tryd.f21, Tryd.func21, ok21.2⟩,
  List.forall_mem_cons.2 ⟨⟨ok22.1, Tryd.f22, Tryd.func22, ok22.2⟩,
  List.forall_mem_cons.2 ⟨⟨ok23.1, Tryd.f23, Tryd.func23, ok23.2⟩,
  List.forall_mem_cons.2 ⟨⟨ok24.1, Tryd.f24, Tryd.func24, ok24.2⟩,
  List.forall_mem_cons.2 ⟨⟨ok25.1, Tryd.f25, Tryd.func25, ok25.2⟩,
  List.forall_mem_cons.2 ⟨⟨ok26.1, Tryd.f26, Tryd.func26, ok26.2⟩,
  List.forall_mem_cons.2 ⟨⟨ok27.1, Tryd.f27, Tryd.func27, ok27.2⟩,
  List.forall_mem_cons.2 ⟨⟨ok28.1, Tryd.f28, Tryd.func28, ok28.2⟩,
  List.forall_mem_cons.2 ⟨⟨ok29.1, Tryd.f29, Tryd.func29, ok29.2⟩,
  List.forall_mem_cons.2 ⟨⟨ok30.1, Tryd.f30, Tryd.func30, ok30.2⟩,
  List.forall_mem_cons.2 ⟨⟨ok31.1, Tryd.f31, Tryd.func31, ok31.2⟩,
  List.forall_mem_cons.2 ⟨⟨ok32.1, Tryd.f32, Tryd.func32, ok32.2⟩,
  List.forall_mem_cons.2 ⟨⟨ok33.1, Tryd.f33, Tryd.func33, ok33.2⟩,
  List.forall_mem_cons.2 ⟨⟨ok34.1, Tryd.f34, Tryd.func34, ok34.2⟩,
  List.forall_mem_cons.2 ⟨⟨ok35.1, Tryd.f35, Tryd.func35, ok35.2⟩,
  List.forall_mem_cons.2 ⟨⟨ok36.1, Tryd.f36, Tryd.func36, ok36.2⟩,
  List.forall_mem_cons.2 ⟨⟨ok37.1, Tryd.f37, Tryd.func37, ok37.2⟩,
  List.forall_mem_cons.2 ⟨⟨ok38.1, Tryd.f38, Tryd.func38, ok38.2⟩,
  List.forall_mem_cons.2 ⟨⟨ok39.1, Tryd.f39, Tryd.func39, ok39.2⟩,
  List.forall_mem_cons.2 ⟨⟨ok40.1, Tryd.f40, Tryd.func40, ok40.2⟩,
  List.forall_mem_cons.2 ⟨⟨ok41.1, Tryd.f41, Tryd.func41, ok41.2⟩,
  List.forall_mem_cons.2 ⟨⟨ok42.1, Tryd.f42, Tryd.func42, ok42.2⟩,
  List.forall_mem_cons.2 ⟨⟨ok43.1, Tryd.f43, Tryd.func43, ok43.2⟩,
  List.forall_mem_cons.2 ⟨⟨ok44.1, Tryd.f44, Tryd.func44, ok44.2⟩,
  List.forall_mem_cons.2 ⟨⟨ok45.1, Tryd.f45, Tryd.func45, ok45.2⟩,
  List.forall_mem_cons.2 ⟨⟨ok46.1, Tryd.f46, Tryd.func46, ok46.2⟩,
  List.forall_mem_cons.2 ⟨⟨ok47.1, Tryd.f47, Tryd.func47, ok47.2⟩,
  List.forall_mem_cons.2 ⟨⟨ok48.1, Tryd.f48, Tryd.func48, ok48.2⟩,
  List.forall_mem_cons.2 ⟨⟨ok49.1, Tryd.f49, Tryd.func49, ok49.2⟩,
  List.forall_mem_cons.2 ⟨⟨ok50.1, Tryd.f50, Tryd.func50, ok50.2⟩,
  List.forall_mem_cons.2 ⟨⟨ok51.1, Tryd.f51, Tryd.func51, ok51.2⟩,
  List.forall_mem_cons.2 ⟨⟨ok52.1, Tryd.f52, Tryd.func52, ok52.2⟩,
  List.forall_mem_cons.2 ⟨⟨ok53.1, Tryd.f53, Tryd.func53, ok53.2⟩,
  List.forall_mem_cons.2 ⟨⟨ok54.1, Tryd.f54, Tryd.func54, ok54.2⟩,
  List.forall_mem_cons.2 ⟨⟨ok55.1, Tryd.f55, Tryd.func55, ok55.2⟩,
  List.forall_mem_cons.2 ⟨⟨ok56.1, Tryd.f56, Tryd.func56, ok56.2⟩,
  List.forall_mem_cons.2 ⟨⟨ok57.1, Tryd.f57, Tryd.func57, ok57.2⟩,
  List.forall_mem_cons.2 ⟨⟨ok58.1, Tryd.f58, Tryd.func58, ok58.2⟩,
  List.forall_mem_cons.2 ⟨⟨ok59.1, Tryd.f59, Tryd.func59, ok59.2⟩,
  List.forall_mem_cons.2 ⟨⟨ok60.1, Tryd.f60, Tryd.func60, ok60.2⟩,
  List.forall_mem_cons.2 ⟨⟨ok61.1, Tryd.f61, Tryd.func61, ok61.2⟩,
  List.forall_mem_cons.2 ⟨⟨ok62.1, Tryd.f62, Tryd.func62, ok62.2⟩,
  List.forall_mem_cons.2 ⟨⟨ok63.1, Tryd.f63, Tryd.func63, ok63.2⟩,
  List.forall_mem_cons.2 ⟨⟨ok64.1, Tryd.f64, Tryd.func64, ok64.2⟩,
  List.forall_mem_cons.2 ⟨⟨ok65.1, Tryd.f65, Tryd.func65, ok65.2⟩,
  List.forall_mem_cons.2 ⟨⟨ok81.1, Tryd.f81, Tryd.func81, ok81.2⟩,
  List.forall_mem_cons.2 ⟨⟨ok82.1, Tryd.f82, Tryd.func82, ok82.2⟩,
  List.forall_mem_cons.2 ⟨⟨ok83.1, Tryd.f83, Tryd.func83, ok83.2⟩,
  List.forall_mem_cons.2 ⟨⟨ok84.1, Tryd.f84, Tryd.func84, ok84.2⟩,
  List.forall_mem_cons.2 ⟨⟨ok85.1, Tryd.f85, Tryd.func85, ok85.2⟩,
  List.forall_mem_cons.2 ⟨⟨ok86.1, Tryd.f86, Tryd.func86, ok86.2⟩,
  fun _ h => nomatch h⟩⟩⟩⟩⟩⟩⟩⟩⟩⟩⟩⟩⟩⟩⟩⟩⟩⟩⟩⟩⟩⟩⟩⟩⟩⟩⟩⟩⟩⟩⟩⟩⟩⟩⟩⟩⟩⟩⟩⟩⟩⟩⟩⟩⟩⟩⟩⟩⟩⟩⟩⟩⟩⟩⟩⟩⟩⟩⟩⟩⟩⟩⟩⟩⟩⟩
theorem aok : AOK Tryd.prog tab mrows (plainA A) := aok_of_list tableL entries
theorem ctx : Ctx Tryd.prog tab mrows := ⟨tabC_ok _, zeroC_ok _, rowsOK_of (by kernel_rfl), by decide +kernel, by kernel_rfl⟩
end Go.Proofs.YtjilfolpkkhfmaaDoor.Tab
