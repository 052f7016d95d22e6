/- The compiled functions of this program, and that they are what the model's code compiles to. Printed by a program of mine (wip/am/Print.lean). -/
import Derived.Test.YtejagglofobcgaaGreatDoorAM26
import Derived.Test.YtejagglofobcgaaGreatDoorProg
import Derived.KernelRfl
namespace Go.Proofs.YtejagglofobcgaaGreatDoor.Tab
open Go Go.AM Go.Proofs
set_option maxRecDepth 100000
noncomputable def tab : Tab := tabC Tryz.prog
def mrowsL : List (String × List (TypeId × FuncId)) := []
def mrows : String → List (TypeId × FuncId) := mrowsOf mrowsL
/- palisade/palisadelaw26.HyperNobody -/
def c4 : AFunc := ⟨(.seq (.ops [⟨(some 4), (.mv (.const (.bool false))), none⟩])
 (.seq (.seq (.ops [⟨(some 20), (.build [(.pointer none), (.pointer none), (.pointer none), (.pointer none), (.pointer none), (.pointer none), (.pointer none), (.int .i64 0), (.int .u64 0), (.map none), (.int .i64 0), (.slice none 0 0)] []), none⟩,
  ⟨(some 21), (.box (.tmp 20)), none⟩,
  ⟨(some 22), (.mkLit 2 1 [(.pointer none)] [(0, (.const (.pointer none))), (1, (.tmp 21))]), none⟩,
  ⟨(some 23), (.len false (.tmp 22)), none⟩,
  ⟨(some 24), (.mv (.const (.int .i64 0))), none⟩])
 (.block 0 (.loop (.seq (.ops [⟨(some 25), (.bin .lss (.tmp 24) (.tmp 23)), none⟩])
 (.seq (.cond (.tmp 25)
 .skip
 (.exit 0))
 (.seq (.block 1 (.seq (.ops [⟨(some 26), (.ixS (.tmp 22) (.tmp 24) 1), none⟩,
  ⟨(some 27), (.load (.tmp 26) none), none⟩,
  ⟨(some 6), (.mv (.tmp 27)), none⟩])
 (.seq (.ops [⟨(some 29), (.mv (.tmp 6)), none⟩,
  ⟨(some 30), (.build [(.int .i64 0), (.int .i64 0), (.int .i64 0), (.int .i64 0), (.int .i64 0), (.int .i64 0), (.slice none 0 0)] []), none⟩,
  ⟨(some 31), (.call 8 [(.tmp 29), (.tmp 30)]), none⟩,
  ⟨(some 28), (.mv (.tmp 31)), none⟩,
  ⟨(some 32), (.extract (.tmp 28) 0), none⟩,
  ⟨(some 33), (.extract (.tmp 28) 1), none⟩,
  ⟨(some 7), (.mv (.tmp 32)), none⟩,
  ⟨(some 8), (.mv (.tmp 33)), none⟩])
 (.seq (.ops [⟨(some 35), (.mv (.tmp 6)), none⟩,
  ⟨(some 36), (.mv (.tmp 0)), none⟩,
  ⟨(some 37), (.call 14 [(.tmp 35), (.tmp 36)]), none⟩,
  ⟨(some 34), (.mv (.tmp 37)), none⟩,
  ⟨(some 38), (.extract (.tmp 34) 0), none⟩,
  ⟨(some 39), (.extract (.tmp 34) 1), none⟩,
  ⟨(some 9), (.alloc [(.int .i64 0), (.int .i64 0), (.int .i64 0), (.int .i64 0), (.int .u64 0), (.int .u64 0)]), none⟩,
  ⟨none, (.store (.tmp 9) (.tmp 38) 6), none⟩,
  ⟨(some 10), (.mv (.tmp 39)), none⟩])
 (.seq (.ops [⟨(some 41), (.mv (.tmp 6)), none⟩,
  ⟨(some 42), (.mv (.tmp 0)), none⟩,
  ⟨(some 43), (.mv (.tmp 1)), none⟩,
  ⟨(some 44), (.call 15 [(.tmp 41), (.tmp 42), (.tmp 43)]), none⟩,
  ⟨(some 40), (.mv (.tmp 44)), none⟩,
  ⟨(some 45), (.extract (.tmp 40) 0), none⟩,
  ⟨(some 46), (.extract (.tmp 40) 1), none⟩,
  ⟨(some 11), (.mv (.tmp 45)), none⟩,
  ⟨(some 12), (.mv (.tmp 46)), none⟩])
 (.seq (.ops [⟨(some 48), (.mv (.tmp 6)), none⟩,
  ⟨(some 49), (.mv (.tmp 0)), none⟩,
  ⟨(some 50), (.call 16 [(.tmp 48), (.tmp 49), (.const (.int .i64 0))]), none⟩,
  ⟨(some 47), (.mv (.tmp 50)), none⟩,
  ⟨(some 51), (.extract (.tmp 47) 0), none⟩,
  ⟨(some 52), (.extract (.tmp 47) 1), none⟩,
  ⟨(some 13), (.alloc [(.int .u64 0), (.int .u64 0), (.int .u64 0), (.int .u64 0), (.int .u64 0), (.int .u64 0), (.int .u64 0), (.int .u64 0), (.int .u64 0), (.int .u64 0), (.int .u64 0), (.int .u64 0), (.int .u64 0), (.int .u64 0), (.int .u64 0), (.int .u64 0), (.int .u64 0), (.int .i64 0)]), none⟩,
  ⟨none, (.store (.tmp 13) (.tmp 51) 18), none⟩,
  ⟨(some 14), (.mv (.tmp 52)), none⟩])
 (.seq (.ops [⟨(some 54), (.mv (.tmp 6)), none⟩,
  ⟨(some 55), (.mv (.tmp 0)), none⟩,
  ⟨(some 56), (.call 13 [(.tmp 54), (.tmp 55), (.const (.int .i64 0))]), none⟩,
  ⟨(some 53), (.mv (.tmp 56)), none⟩,
  ⟨(some 57), (.extract (.tmp 53) 0), none⟩,
  ⟨(some 58), (.extract (.tmp 53) 1), none⟩,
  ⟨(some 15), (.mv (.tmp 57)), none⟩,
  ⟨(some 16), (.mv (.tmp 58)), none⟩])
 (.seq (.ops [⟨(some 60), (.mv (.tmp 6)), none⟩,
  ⟨(some 61), (.mv (.tmp 0)), none⟩,
  ⟨(some 62), (.call 17 [(.tmp 60), (.tmp 61), (.const (.int .i64 0))]), none⟩,
  ⟨(some 59), (.mv (.tmp 62)), none⟩,
  ⟨(some 63), (.extract (.tmp 59) 0), none⟩,
  ⟨(some 64), (.extract (.tmp 59) 1), none⟩,
  ⟨(some 65), (.extract (.tmp 59) 2), none⟩,
  ⟨(some 17), (.mv (.tmp 63)), none⟩,
  ⟨(some 18), (.mv (.tmp 64)), none⟩,
  ⟨(some 19), (.mv (.tmp 65)), none⟩])
 (.seq (.seq (.ops [⟨(some 66), (.mv (.tmp 7)), none⟩,
  ⟨(some 67), (.bin .neq (.tmp 66) (.const (.int .i64 0))), none⟩,
  ⟨(some 68), (.mv (.tmp 67)), none⟩,
  ⟨(some 69), (.mv (.tmp 8)), (some (68, false))⟩,
  ⟨(some 70), (.bin .neq (.tmp 69) (.const (.int .i64 1))), (some (68, false))⟩,
  ⟨(some 71), (.pick (.tmp 68) (.const (.bool true)) (.tmp 70)), none⟩,
  ⟨(some 72), (.mv (.tmp 71)), none⟩,
  ⟨(some 73), (.mv (.tmp 6)), (some (72, false))⟩,
  ⟨(some 74), (.mv (.tmp 0)), (some (72, false))⟩,
  ⟨(some 75), (.call 18 [(.tmp 73), (.tmp 74)]), (some (72, false))⟩,
  ⟨(some 76), (.bin .neq (.tmp 75) (.const (.int .i64 1))), (some (72, false))⟩,
  ⟨(some 77), (.pick (.tmp 72) (.const (.bool true)) (.tmp 76)), none⟩,
  ⟨(some 78), (.mv (.tmp 77)), none⟩,
  ⟨(some 79), (.load (.tmp 9) (some 6)), (some (78, false))⟩,
  ⟨(some 80), (.build [(.int .i64 0), (.int .i64 0), (.int .i64 0), (.int .i64 0), (.int .u64 0), (.int .u64 0)] []), (some (78, false))⟩,
  ⟨(some 81), (.eqFlat true [.i, .i, .i, .i, .i, .i] (.tmp 79) (.tmp 80)), (some (78, false))⟩,
  ⟨(some 82), (.pick (.tmp 78) (.const (.bool true)) (.tmp 81)), none⟩,
  ⟨(some 83), (.mv (.tmp 82)), none⟩,
  ⟨(some 84), (.mv (.tmp 10)), (some (83, false))⟩,
  ⟨(some 85), (.bin .neq (.tmp 84) (.const (.int .i64 1))), (some (83, false))⟩,
  ⟨(some 86), (.pick (.tmp 83) (.const (.bool true)) (.tmp 85)), none⟩,
  ⟨(some 87), (.mv (.tmp 86)), none⟩,
  ⟨(some 88), (.mv (.tmp 6)), (some (87, false))⟩,
  ⟨(some 89), (.call 19 [(.tmp 88), (.const (.int .i64 1))]), (some (87, false))⟩,
  ⟨(some 90), (.bin .neq (.tmp 89) (.const (.int .i64 1))), (some (87, false))⟩,
  ⟨(some 91), (.pick (.tmp 87) (.const (.bool true)) (.tmp 90)), none⟩,
  ⟨(some 92), (.mv (.tmp 91)), none⟩,
  ⟨(some 93), (.mv (.tmp 6)), (some (92, false))⟩,
  ⟨(some 94), (.call 20 [(.tmp 93), (.const (.int .i64 0))]), (some (92, false))⟩,
  ⟨(some 95), (.bin .neq (.tmp 94) (.const (.int .i64 1))), (some (92, false))⟩,
  ⟨(some 96), (.pick (.tmp 92) (.const (.bool true)) (.tmp 95)), none⟩,
  ⟨(some 97), (.mv (.tmp 96)), none⟩,
  ⟨(some 98), (.mv (.tmp 6)), (some (97, false))⟩,
  ⟨(some 99), (.mv (.tmp 0)), (some (97, false))⟩,
  ⟨(some 100), (.mv (.tmp 1)), (some (97, false))⟩,
  ⟨(some 101), (.call 21 [(.tmp 98), (.tmp 99), (.tmp 100)]), (some (97, false))⟩,
  ⟨(some 102), (.bin .neq (.tmp 101) (.const (.int .i64 1))), (some (97, false))⟩,
  ⟨(some 103), (.pick (.tmp 97) (.const (.bool true)) (.tmp 102)), none⟩,
  ⟨(some 104), (.mv (.tmp 103)), none⟩,
  ⟨(some 105), (.mv (.tmp 11)), (some (104, false))⟩,
  ⟨(some 106), (.bin .neq (.tmp 105) (.const (.int .i64 0))), (some (104, false))⟩,
  ⟨(some 107), (.pick (.tmp 104) (.const (.bool true)) (.tmp 106)), none⟩,
  ⟨(some 108), (.mv (.tmp 107)), none⟩,
  ⟨(some 109), (.mv (.tmp 12)), (some (108, false))⟩,
  ⟨(some 110), (.bin .neq (.tmp 109) (.const (.int .i64 1))), (some (108, false))⟩,
  ⟨(some 111), (.pick (.tmp 108) (.const (.bool true)) (.tmp 110)), none⟩,
  ⟨(some 112), (.mv (.tmp 111)), none⟩,
  ⟨(some 113), (.load (.tmp 13) (some 18)), (some (112, false))⟩,
  ⟨(some 114), (.build [(.int .u64 0), (.int .u64 0), (.int .u64 0), (.int .u64 0), (.int .u64 0), (.int .u64 0), (.int .u64 0), (.int .u64 0), (.int .u64 0), (.int .u64 0), (.int .u64 0), (.int .u64 0), (.int .u64 0), (.int .u64 0), (.int .u64 0), (.int .u64 0), (.int .u64 0), (.int .i64 0)] []), (some (112, false))⟩,
  ⟨(some 115), (.eqFlat true [.i, .i, .i, .i, .i, .i, .i, .i, .i, .i, .i, .i, .i, .i, .i, .i, .i, .i] (.tmp 113) (.tmp 114)), (some (112, false))⟩,
  ⟨(some 116), (.pick (.tmp 112) (.const (.bool true)) (.tmp 115)), none⟩,
  ⟨(some 117), (.mv (.tmp 116)), none⟩,
  ⟨(some 118), (.mv (.tmp 14)), (some (117, false))⟩,
  ⟨(some 119), (.pick (.tmp 117) (.const (.bool true)) (.tmp 118)), none⟩,
  ⟨(some 120), (.mv (.tmp 119)), none⟩,
  ⟨(some 121), (.mv (.tmp 15)), (some (120, false))⟩,
  ⟨(some 122), (.bin .neq (.tmp 121) (.const (.int .i64 0))), (some (120, false))⟩,
  ⟨(some 123), (.pick (.tmp 120) (.const (.bool true)) (.tmp 122)), none⟩,
  ⟨(some 124), (.mv (.tmp 123)), none⟩,
  ⟨(some 125), (.mv (.tmp 16)), (some (124, false))⟩,
  ⟨(some 126), (.pick (.tmp 124) (.const (.bool true)) (.tmp 125)), none⟩,
  ⟨(some 127), (.mv (.tmp 126)), none⟩,
  ⟨(some 128), (.mv (.tmp 17)), (some (127, false))⟩,
  ⟨(some 129), (.len false (.tmp 128)), (some (127, false))⟩,
  ⟨(some 130), (.bin .neq (.tmp 129) (.const (.int .i64 0))), (some (127, false))⟩,
  ⟨(some 131), (.pick (.tmp 127) (.const (.bool true)) (.tmp 130)), none⟩,
  ⟨(some 132), (.mv (.tmp 131)), none⟩,
  ⟨(some 133), (.mv (.tmp 18)), (some (132, false))⟩,
  ⟨(some 134), (.bin .neq (.tmp 133) (.const (.int .i64 0))), (some (132, false))⟩,
  ⟨(some 135), (.pick (.tmp 132) (.const (.bool true)) (.tmp 134)), none⟩,
  ⟨(some 136), (.mv (.tmp 135)), none⟩,
  ⟨(some 137), (.mv (.tmp 19)), (some (136, false))⟩,
  ⟨(some 138), (.pick (.tmp 136) (.const (.bool true)) (.tmp 137)), none⟩])
 (.cond (.tmp 138)
 (.seq (.ops [⟨(some 4), (.mv (.const (.bool false))), none⟩])
 .ret)
 .skip))
 (.seq (.ops [⟨(some 139), (.mv (.tmp 6)), none⟩,
  ⟨(some 140), (.mv (.tmp 0)), none⟩,
  ⟨(some 141), (.call 11 [(.tmp 139), (.tmp 140)]), none⟩,
  ⟨(some 142), (.eqv .ptr true (.tmp 141) (.const (.pointer none))), none⟩,
  ⟨(some 143), (.mv (.tmp 142)), none⟩,
  ⟨(some 144), (.mv (.tmp 6)), (some (143, false))⟩,
  ⟨(some 145), (.call 22 [(.tmp 144)]), (some (143, false))⟩,
  ⟨(some 146), (.eqv .ptr true (.tmp 145) (.const (.pointer none))), (some (143, false))⟩,
  ⟨(some 147), (.pick (.tmp 143) (.const (.bool true)) (.tmp 146)), none⟩,
  ⟨(some 148), (.mv (.tmp 147)), none⟩,
  ⟨(some 149), (.mv (.tmp 6)), (some (148, false))⟩,
  ⟨(some 150), (.call 23 [(.tmp 149)]), (some (148, false))⟩,
  ⟨(some 151), (.eqv .ptr true (.tmp 150) (.const (.pointer none))), (some (148, false))⟩,
  ⟨(some 152), (.pick (.tmp 148) (.const (.bool true)) (.tmp 151)), none⟩,
  ⟨(some 153), (.mv (.tmp 152)), none⟩,
  ⟨(some 154), (.mv (.tmp 6)), (some (153, false))⟩,
  ⟨(some 155), (.call 24 [(.tmp 154)]), (some (153, false))⟩,
  ⟨(some 156), (.eqv .ptr true (.tmp 155) (.const (.pointer none))), (some (153, false))⟩,
  ⟨(some 157), (.pick (.tmp 153) (.const (.bool true)) (.tmp 156)), none⟩,
  ⟨(some 158), (.mv (.tmp 157)), none⟩,
  ⟨(some 159), (.mv (.tmp 6)), (some (158, false))⟩,
  ⟨(some 160), (.call 25 [(.tmp 159)]), (some (158, false))⟩,
  ⟨(some 161), (.eqv .ptr true (.tmp 160) (.const (.pointer none))), (some (158, false))⟩,
  ⟨(some 162), (.pick (.tmp 158) (.const (.bool true)) (.tmp 161)), none⟩,
  ⟨(some 163), (.mv (.tmp 162)), none⟩,
  ⟨(some 164), (.mv (.tmp 6)), (some (163, false))⟩,
  ⟨(some 165), (.call 26 [(.tmp 164)]), (some (163, false))⟩,
  ⟨(some 166), (.bin .neq (.tmp 165) (.const (.int .u64 0))), (some (163, false))⟩,
  ⟨(some 167), (.pick (.tmp 163) (.const (.bool true)) (.tmp 166)), none⟩,
  ⟨(some 168), (.mv (.tmp 167)), none⟩,
  ⟨(some 169), (.mv (.tmp 6)), (some (168, false))⟩,
  ⟨(some 170), (.call 27 [(.tmp 169)]), (some (168, false))⟩,
  ⟨(some 171), (.len false (.tmp 170)), (some (168, false))⟩,
  ⟨(some 172), (.bin .neq (.tmp 171) (.const (.int .i64 0))), (some (168, false))⟩,
  ⟨(some 173), (.pick (.tmp 168) (.const (.bool true)) (.tmp 172)), none⟩])
 (.cond (.tmp 173)
 (.seq (.ops [⟨(some 4), (.mv (.const (.bool false))), none⟩])
 .ret)
 .skip)))))))))))
 (.ops [⟨(some 174), (.bin .add (.tmp 24) (.const (.int .i64 1))), none⟩,
  ⟨(some 24), (.mv (.tmp 174)), none⟩])))))))
 (.seq (.ops [⟨(some 4), (.mv (.const (.bool true))), none⟩])
 .ret))),
 [(.tmp 4)], 2⟩
/- (*palisade/hyper.Hyper).Create -/
def c8 : AFunc := ⟨(.seq (.ops [⟨(some 3), (.box (.tmp 1)), none⟩,
  ⟨(some 4), (.mv (.const (.int .i64 0))), none⟩,
  ⟨(some 5), (.mv (.const (.int .i64 0))), none⟩])
 (.seq (.block 0 (.seq (.ops [⟨(some 12), (.mv (.tmp 0)), none⟩,
  ⟨(some 13), (.call 39 [(.tmp 12)]), none⟩,
  ⟨(some 11), (.mv (.tmp 13)), none⟩])
 (.cond (.tmp 11)
 (.seq (.ops [⟨(some 4), (.mv (.const (.int .i64 0))), none⟩,
  ⟨(some 5), (.mv (.const (.int .i64 1))), none⟩])
 .ret)
 (.seq (.ops [⟨(some 15), (.mv (.tmp 0)), none⟩,
  ⟨(some 16), (.load (.tmp 3) (some 7)), none⟩,
  ⟨(some 17), (.call 40 [(.tmp 15), (.tmp 16)]), none⟩,
  ⟨(some 18), (.un .not (.tmp 17)), none⟩,
  ⟨(some 14), (.mv (.tmp 18)), none⟩])
 (.cond (.tmp 14)
 (.seq (.ops [⟨(some 4), (.mv (.const (.int .i64 0))), none⟩,
  ⟨(some 5), (.mv (.const (.int .i64 2))), none⟩])
 .ret)
 (.seq (.ops [⟨(some 20), (.mv (.tmp 0)), none⟩,
  ⟨(some 21), (.nilCheck (.tmp 20)), none⟩,
  ⟨(some 22), (.addOff (.tmp 21) 9), none⟩,
  ⟨(some 23), (.load (.tmp 22) none), none⟩,
  ⟨(some 24), (.lenMap (.tmp 23)), none⟩,
  ⟨(some 25), (.bin .geq (.tmp 24) (.const (.int .i64 16))), none⟩,
  ⟨(some 19), (.mv (.tmp 25)), none⟩])
 (.cond (.tmp 19)
 (.seq (.ops [⟨(some 4), (.mv (.const (.int .i64 0))), none⟩,
  ⟨(some 5), (.mv (.const (.int .i64 18))), none⟩])
 .ret)
 .skip)))))))
 (.seq (.ops [⟨(some 6), (.mv (.const (.int .i64 1))), none⟩])
 (.seq (.block 1 (.loop (.seq (.seq (.ops [⟨(some 26), (.mv (.tmp 0)), none⟩,
  ⟨(some 27), (.nilCheck (.tmp 26)), none⟩,
  ⟨(some 28), (.addOff (.tmp 27) 9), none⟩,
  ⟨(some 29), (.load (.tmp 28) none), none⟩,
  ⟨(some 30), (.mv (.tmp 6)), none⟩,
  ⟨(some 31), (.lookup (false, [.i]) (.tmp 29) (.tmp 30) (.pointer none) false), none⟩,
  ⟨(some 32), (.eqv .ptr true (.tmp 31) (.const (.pointer none))), none⟩])
 (.cond (.tmp 32)
 .skip
 (.exit 1)))
 (.block 2 (.ops [⟨(some 33), (.mv (.tmp 6)), none⟩,
  ⟨(some 34), (.bin .add (.tmp 33) (.const (.int .i64 1))), none⟩,
  ⟨(some 6), (.mv (.tmp 34)), none⟩])))))
 (.seq (.draw 1 [⟨0, [6], ⟨(some 35), (.mv (.tmp 6)), none⟩, 1, 644⟩,
  ⟨1, [3], ⟨(some 36), (.addOff (.tmp 3) 1), none⟩, 1, 644⟩,
  ⟨2, [36], ⟨(some 37), (.load (.tmp 36) none), none⟩, 1, 644⟩,
  ⟨4, [0], ⟨(some 39), (.mv (.tmp 0)), none⟩, 1, 644⟩,
  ⟨5, [39], ⟨(some 40), (.nilCheck (.tmp 39)), none⟩, 1, 644⟩,
  ⟨6, [40], ⟨(some 41), (.addOff (.tmp 40) 10), none⟩, 1, 644⟩,
  ⟨7, [41], ⟨(some 42), (.load (.tmp 41) none), none⟩, 1, 644⟩,
  ⟨8, [3], ⟨(some 43), (.addOff (.tmp 3) 3), none⟩, 1, 644⟩,
  ⟨9, [43], ⟨(some 44), (.load (.tmp 43) none), none⟩, 1, 644⟩,
  ⟨3, [], ⟨(some 38), (.call 41 []), none⟩, 1, 644⟩,
  ⟨10, [35, 37, 38, 42, 44], ⟨(some 45), (.build [(.int .i64 0), (.int .i64 0), (.pointer none), (.slice none 0 0), (.pointer none), (.pointer none), (.pointer none), (.pointer none), (.pointer none), (.pointer none), (.pointer none), (.pointer none), (.int .i64 0), (.int .i64 0), (.int .i64 0)] [(0, (1, (.tmp 35))), (1, (1, (.tmp 37))), (5, (1, (.tmp 38))), (12, (1, (.tmp 42))), (13, (1, (.tmp 44)))]), none⟩, 1, 0⟩,
  ⟨11, [45], ⟨(some 46), (.box (.tmp 45)), none⟩, 0, 0⟩,
  ⟨12, [46], ⟨(some 7), (.mv (.tmp 46)), none⟩, 1, 0⟩])
 (.seq (.seq (.ops [⟨(some 47), (.mv (.tmp 0)), none⟩,
  ⟨(some 48), (.mv (.tmp 7)), none⟩,
  ⟨(some 49), (.load (.tmp 3) (some 7)), none⟩,
  ⟨(some 50), (.call 42 [(.tmp 47), (.tmp 48), (.tmp 49)]), none⟩,
  ⟨(some 8), (.mv (.tmp 50)), none⟩])
 (.seq (.ops [⟨(some 51), (.mv (.tmp 8)), none⟩,
  ⟨(some 52), (.bin .neq (.tmp 51) (.const (.int .i64 0))), none⟩])
 (.cond (.tmp 52)
 (.seq (.ops [⟨(some 53), (.mv (.tmp 0)), none⟩,
  ⟨(some 54), (.mv (.tmp 7)), none⟩,
  ⟨(some 55), (.call 43 [(.tmp 53), (.tmp 54)]), none⟩])
 (.seq (.ops [⟨(some 56), (.mv (.tmp 8)), none⟩,
  ⟨(some 4), (.mv (.const (.int .i64 0))), none⟩,
  ⟨(some 5), (.mv (.tmp 56)), none⟩])
 .ret))
 .skip)))
 (.seq (.draw 0 [⟨0, [0], ⟨(some 57), (.mv (.tmp 0)), none⟩, 0, 40⟩,
  ⟨1, [57], ⟨(some 58), (.nilCheck (.tmp 57)), none⟩, 0, 40⟩,
  ⟨2, [58], ⟨(some 59), (.addOff (.tmp 58) 10), none⟩, 0, 40⟩,
  ⟨3, [59], ⟨(some 60), (.load (.tmp 59) none), none⟩, 0, 40⟩,
  ⟨4, [3], ⟨(some 61), (.addOff (.tmp 3) 3), none⟩, 0, 40⟩,
  ⟨5, [61], ⟨(some 62), (.load (.tmp 61) none), none⟩, 0, 40⟩,
  ⟨6, [60, 62], ⟨(some 63), (.bin .add (.tmp 60) (.tmp 62)), none⟩, 0, 0⟩,
  ⟨7, [57], ⟨(some 64), (.nilCheck (.tmp 57)), none⟩, 0, 0⟩,
  ⟨8, [64], ⟨(some 65), (.addOff (.tmp 64) 10), none⟩, 0, 0⟩,
  ⟨9, [65, 63], ⟨none, (.store (.tmp 65) (.tmp 63) 1), none⟩, 0, 0⟩])
 (.seq (.ops [⟨(some 66), (.mv (.tmp 0)), none⟩,
  ⟨(some 67), (.nilCheck (.tmp 66)), none⟩,
  ⟨(some 68), (.addOff (.tmp 67) 9), none⟩,
  ⟨(some 69), (.load (.tmp 68) none), none⟩,
  ⟨(some 70), (.mv (.tmp 6)), none⟩,
  ⟨(some 71), (.mv (.tmp 7)), none⟩,
  ⟨none, (.mapUpdate (false, [.i]) (.tmp 69) (.tmp 70) (.tmp 71)), none⟩])
 (.seq (.draw 0 [⟨0, [0], ⟨(some 72), (.mv (.tmp 0)), none⟩, 0, 72⟩,
  ⟨1, [72], ⟨(some 73), (.nilCheck (.tmp 72)), none⟩, 0, 72⟩,
  ⟨2, [73], ⟨(some 74), (.addOff (.tmp 73) 3), none⟩, 0, 72⟩,
  ⟨3, [74], ⟨(some 75), (.load (.tmp 74) none), none⟩, 0, 72⟩,
  ⟨4, [6], ⟨(some 76), (.mv (.tmp 6)), none⟩, 0, 72⟩,
  ⟨5, [3], ⟨(some 77), (.addOff (.tmp 3) 4), none⟩, 0, 72⟩,
  ⟨6, [77], ⟨(some 78), (.load (.tmp 77) none), none⟩, 0, 72⟩,
  ⟨7, [75, 76, 78], ⟨(some 79), (.call 44 [(.tmp 75), (.tmp 76), (.tmp 78)]), none⟩, 0, 0⟩])
 (.seq (.seq (.ops [⟨(some 80), (.mv (.tmp 7)), none⟩,
  ⟨(some 81), (.nilCheck (.tmp 80)), none⟩,
  ⟨(some 82), (.addOff (.tmp 81) 3), none⟩,
  ⟨(some 83), (.load (.tmp 82) none), none⟩,
  ⟨(some 84), (.len false (.tmp 83)), none⟩,
  ⟨(some 85), (.mv (.const (.int .i64 0))), none⟩])
 (.block 3 (.loop (.seq (.ops [⟨(some 86), (.bin .lss (.tmp 85) (.tmp 84)), none⟩])
 (.seq (.cond (.tmp 86)
 .skip
 (.exit 3))
 (.seq (.block 4 (.seq (.ops [⟨(some 87), (.mv (.tmp 85)), none⟩,
  ⟨(some 88), (.ixS (.tmp 83) (.tmp 85) 1), none⟩,
  ⟨(some 89), (.load (.tmp 88) none), none⟩,
  ⟨(some 9), (.mv (.tmp 87)), none⟩,
  ⟨(some 10), (.mv (.tmp 89)), none⟩])
 (.seq (.draw 0 [⟨0, [0], ⟨(some 90), (.mv (.tmp 0)), none⟩, 0, 1032⟩,
  ⟨1, [90], ⟨(some 91), (.nilCheck (.tmp 90)), none⟩, 0, 1032⟩,
  ⟨2, [91], ⟨(some 92), (.addOff (.tmp 91) 6), none⟩, 0, 1032⟩,
  ⟨3, [92], ⟨(some 93), (.load (.tmp 92) none), none⟩, 0, 1032⟩,
  ⟨4, [6], ⟨(some 94), (.mv (.tmp 6)), none⟩, 0, 1032⟩,
  ⟨5, [9], ⟨(some 95), (.mv (.tmp 9)), none⟩, 0, 1032⟩,
  ⟨7, [0], ⟨(some 97), (.mv (.tmp 0)), none⟩, 0, 1032⟩,
  ⟨8, [97], ⟨(some 98), (.nilCheck (.tmp 97)), none⟩, 0, 1032⟩,
  ⟨9, [98], ⟨(some 99), (.addOff (.tmp 98) 8), none⟩, 0, 1032⟩,
  ⟨10, [99], ⟨(some 100), (.load (.tmp 99) none), none⟩, 0, 1032⟩,
  ⟨6, [94, 95], ⟨(some 96), (.call 46 [(.tmp 94), (.tmp 95)]), none⟩, 0, 1032⟩,
  ⟨11, [93, 96, 100], ⟨(some 101), (.call 45 [(.tmp 93), (.tmp 96), (.tmp 100)]), none⟩, 0, 0⟩])
 (.seq (.draw 0 [⟨0, [0], ⟨(some 102), (.mv (.tmp 0)), none⟩, 0, 33032⟩,
  ⟨1, [102], ⟨(some 103), (.nilCheck (.tmp 102)), none⟩, 0, 33032⟩,
  ⟨2, [103], ⟨(some 104), (.addOff (.tmp 103) 5), none⟩, 0, 33032⟩,
  ⟨3, [104], ⟨(some 105), (.load (.tmp 104) none), none⟩, 0, 33032⟩,
  ⟨4, [6], ⟨(some 106), (.mv (.tmp 6)), none⟩, 0, 33032⟩,
  ⟨5, [9], ⟨(some 107), (.mv (.tmp 9)), none⟩, 0, 33032⟩,
  ⟨7, [3], ⟨(some 109), (.addOff (.tmp 3) 2), none⟩, 0, 33032⟩,
  ⟨8, [109], ⟨(some 110), (.load (.tmp 109) none), none⟩, 0, 33032⟩,
  ⟨9, [6], ⟨(some 111), (.mv (.tmp 6)), none⟩, 0, 33032⟩,
  ⟨10, [9], ⟨(some 112), (.mv (.tmp 9)), none⟩, 0, 33032⟩,
  ⟨12, [0], ⟨(some 114), (.mv (.tmp 0)), none⟩, 0, 33032⟩,
  ⟨13, [114], ⟨(some 115), (.nilCheck (.tmp 114)), none⟩, 0, 33032⟩,
  ⟨14, [115], ⟨(some 116), (.addOff (.tmp 115) 0), none⟩, 0, 33032⟩,
  ⟨15, [116], ⟨(some 117), (.load (.tmp 116) none), none⟩, 0, 33032⟩,
  ⟨6, [106, 107], ⟨(some 108), (.call 46 [(.tmp 106), (.tmp 107)]), none⟩, 0, 33032⟩,
  ⟨11, [111, 112], ⟨(some 113), (.call 46 [(.tmp 111), (.tmp 112)]), none⟩, 0, 33032⟩,
  ⟨16, [117], ⟨(some 118), (.call 48 [(.tmp 117)]), none⟩, 0, 264⟩,
  ⟨17, [113, 118], ⟨(some 119), (.bin .rem (.tmp 113) (.tmp 118)), none⟩, 0, 264⟩,
  ⟨18, [105, 108, 110, 119], ⟨(some 120), (.call 47 [(.tmp 105), (.tmp 108), (.tmp 110), (.tmp 119)]), none⟩, 0, 0⟩])
 (.seq (.ops [⟨(some 121), (.mv (.tmp 9)), none⟩,
  ⟨(some 122), (.bin .gtr (.tmp 121) (.const (.int .i64 0))), none⟩])
 (.cond (.tmp 122)
 (.seq (.draw 0 [⟨0, [0], ⟨(some 123), (.mv (.tmp 0)), none⟩, 0, 8⟩,
  ⟨1, [123], ⟨(some 124), (.nilCheck (.tmp 123)), none⟩, 0, 8⟩,
  ⟨2, [124], ⟨(some 125), (.addOff (.tmp 124) 5), none⟩, 0, 8⟩,
  ⟨3, [125], ⟨(some 126), (.load (.tmp 125) none), none⟩, 0, 8⟩,
  ⟨4, [6], ⟨(some 127), (.mv (.tmp 6)), none⟩, 0, 8⟩,
  ⟨5, [9], ⟨(some 128), (.mv (.tmp 9)), none⟩, 0, 8⟩,
  ⟨6, [127, 128], ⟨(some 129), (.call 46 [(.tmp 127), (.tmp 128)]), none⟩, 0, 8⟩,
  ⟨7, [126, 129], ⟨(some 130), (.call 49 [(.tmp 126), (.tmp 129)]), none⟩, 0, 0⟩])
 (.ops [⟨(some 131), (.mv (.tmp 10)), none⟩,
  ⟨(some 132), (.nilCheck (.tmp 131)), none⟩,
  ⟨(some 133), (.addOff (.tmp 132) 0), none⟩,
  ⟨(some 134), (.load (.tmp 133) none), none⟩,
  ⟨(some 135), (.call 50 [(.tmp 134)]), none⟩]))
 (.ops [⟨(some 136), (.mv (.tmp 10)), none⟩,
  ⟨(some 137), (.nilCheck (.tmp 136)), none⟩,
  ⟨(some 138), (.addOff (.tmp 137) 1), none⟩,
  ⟨none, (.store (.tmp 138) (.const (.bool true)) 1), none⟩])))))))
 (.ops [⟨(some 139), (.bin .add (.tmp 85) (.const (.int .i64 1))), none⟩,
  ⟨(some 85), (.mv (.tmp 139)), none⟩])))))))
 (.seq (.ops [⟨(some 140), (.mv (.tmp 6)), none⟩,
  ⟨(some 4), (.mv (.tmp 140)), none⟩,
  ⟨(some 5), (.mv (.const (.int .i64 0))), none⟩])
 .ret))))))))))),
 [(.tmp 4), (.tmp 5)], 2⟩
/- (*palisade/hyper.Hyper).Console -/
def c11 : AFunc := ⟨(.seq (.ops [⟨(some 4), (.mv (.const (.pointer none))), none⟩])
 (.seq (.ops [⟨(some 8), (.mv (.tmp 0)), none⟩,
  ⟨(some 9), (.mv (.tmp 1)), none⟩,
  ⟨(some 10), (.call 51 [(.tmp 8), (.tmp 9), (.const (.int .i64 0))]), none⟩,
  ⟨(some 7), (.mv (.tmp 10)), none⟩,
  ⟨(some 11), (.extract (.tmp 7) 0), none⟩,
  ⟨(some 12), (.extract (.tmp 7) 1), none⟩,
  ⟨(some 5), (.mv (.tmp 11)), none⟩,
  ⟨(some 6), (.mv (.tmp 12)), none⟩])
 (.seq (.seq (.ops [⟨(some 13), (.mv (.tmp 5)), none⟩,
  ⟨(some 14), (.eqv .ptr false (.tmp 13) (.const (.pointer none))), none⟩])
 (.cond (.tmp 14)
 (.seq (.ops [⟨(some 4), (.mv (.const (.pointer none))), none⟩])
 .ret)
 .skip))
 (.seq (.ops [⟨(some 15), (.mv (.tmp 5)), none⟩,
  ⟨(some 16), (.nilCheck (.tmp 15)), none⟩,
  ⟨(some 17), (.addOff (.tmp 16) 5), none⟩,
  ⟨(some 18), (.load (.tmp 17) none), none⟩,
  ⟨(some 4), (.mv (.tmp 18)), none⟩])
 .ret)))),
 [(.tmp 4)], 2⟩
/- (*palisade/hyper.Hyper).State -/
def c13 : AFunc := ⟨(.seq (.ops [⟨(some 6), (.mv (.const (.int .i64 0))), none⟩,
  ⟨(some 7), (.mv (.const (.bool false))), none⟩])
 (.seq (.ops [⟨(some 13), (.mv (.tmp 0)), none⟩,
  ⟨(some 14), (.mv (.tmp 1)), none⟩,
  ⟨(some 15), (.mv (.tmp 2)), none⟩,
  ⟨(some 16), (.call 51 [(.tmp 13), (.tmp 14), (.tmp 15)]), none⟩,
  ⟨(some 12), (.mv (.tmp 16)), none⟩,
  ⟨(some 17), (.extract (.tmp 12) 0), none⟩,
  ⟨(some 18), (.extract (.tmp 12) 1), none⟩,
  ⟨(some 8), (.mv (.tmp 17)), none⟩,
  ⟨(some 9), (.mv (.tmp 18)), none⟩])
 (.seq (.seq (.ops [⟨(some 19), (.mv (.tmp 9)), none⟩,
  ⟨(some 20), (.eqv .ptr false (.tmp 19) (.const (.pointer none))), none⟩])
 (.cond (.tmp 20)
 (.seq (.ops [⟨(some 6), (.mv (.const (.int .i64 0))), none⟩,
  ⟨(some 7), (.mv (.const (.bool false))), none⟩])
 .ret)
 .skip))
 (.seq (.seq (.ops [⟨(some 21), (.mv (.tmp 9)), none⟩,
  ⟨(some 22), (.nilCheck (.tmp 21)), none⟩,
  ⟨(some 23), (.addOff (.tmp 22) 1), none⟩,
  ⟨(some 24), (.load (.tmp 23) none), none⟩,
  ⟨(some 25), (.un .not (.tmp 24)), none⟩])
 (.cond (.tmp 25)
 (.seq (.ops [⟨(some 6), (.mv (.const (.int .i64 4))), none⟩,
  ⟨(some 7), (.mv (.const (.bool true))), none⟩])
 .ret)
 .skip))
 (.seq (.ops [⟨(some 27), (.mv (.tmp 9)), none⟩,
  ⟨(some 28), (.nilCheck (.tmp 27)), none⟩,
  ⟨(some 29), (.addOff (.tmp 28) 0), none⟩,
  ⟨(some 30), (.load (.tmp 29) none), none⟩,
  ⟨(some 31), (.call 54 [(.tmp 30)]), none⟩,
  ⟨(some 26), (.mv (.tmp 31)), none⟩,
  ⟨(some 32), (.extract (.tmp 26) 0), none⟩,
  ⟨(some 33), (.extract (.tmp 26) 1), none⟩,
  ⟨(some 10), (.mv (.tmp 32)), none⟩,
  ⟨(some 11), (.mv (.tmp 33)), none⟩])
 (.seq (.ops [⟨(some 34), (.mv (.tmp 10)), none⟩,
  ⟨(some 6), (.mv (.tmp 34)), none⟩,
  ⟨(some 7), (.mv (.const (.bool true))), none⟩])
 .ret)))))),
 [(.tmp 6), (.tmp 7)], 3⟩
/- (*palisade/hyper.Hyper).Step -/
def c14 : AFunc := ⟨(.seq (.ops [⟨(some 4), (.alloc [(.int .i64 0), (.int .i64 0), (.int .i64 0), (.int .i64 0), (.int .u64 0), (.int .u64 0)]), none⟩,
  ⟨(some 5), (.mv (.const (.int .i64 0))), none⟩])
 (.seq (.block 0 (.seq (.ops [⟨(some 16), (.mv (.tmp 0)), none⟩,
  ⟨(some 17), (.call 39 [(.tmp 16)]), none⟩,
  ⟨(some 15), (.mv (.tmp 17)), none⟩])
 (.cond (.tmp 15)
 (.seq (.ops [⟨(some 18), (.build [(.int .i64 0), (.int .i64 0), (.int .i64 0), (.int .i64 0), (.int .u64 0), (.int .u64 0)] []), none⟩,
  ⟨none, (.store (.tmp 4) (.tmp 18) 6), none⟩,
  ⟨(some 5), (.mv (.const (.int .i64 1))), none⟩])
 .ret)
 (.seq (.ops [⟨(some 20), (.mv (.tmp 1)), none⟩,
  ⟨(some 21), (.bin .lss (.tmp 20) (.const (.int .i64 0))), none⟩,
  ⟨(some 22), (.mv (.tmp 21)), none⟩,
  ⟨(some 23), (.mv (.tmp 1)), (some (22, false))⟩,
  ⟨(some 24), (.mv (.tmp 0)), (some (22, false))⟩,
  ⟨(some 25), (.nilCheck (.tmp 24)), (some (22, false))⟩,
  ⟨(some 26), (.addOff (.tmp 25) 0), (some (22, false))⟩,
  ⟨(some 27), (.load (.tmp 26) none), (some (22, false))⟩,
  ⟨(some 28), (.call 48 [(.tmp 27)]), (some (22, false))⟩,
  ⟨(some 29), (.bin .geq (.tmp 23) (.tmp 28)), (some (22, false))⟩,
  ⟨(some 30), (.pick (.tmp 22) (.const (.bool true)) (.tmp 29)), none⟩,
  ⟨(some 19), (.mv (.tmp 30)), none⟩])
 (.cond (.tmp 19)
 (.seq (.ops [⟨(some 31), (.build [(.int .i64 0), (.int .i64 0), (.int .i64 0), (.int .i64 0), (.int .u64 0), (.int .u64 0)] []), none⟩,
  ⟨none, (.store (.tmp 4) (.tmp 31) 6), none⟩,
  ⟨(some 5), (.mv (.const (.int .i64 2))), none⟩])
 .ret)
 .skip)))))
 (.seq (.seq (.ops [⟨(some 33), (.mv (.tmp 0)), none⟩,
  ⟨(some 34), (.nilCheck (.tmp 33)), none⟩,
  ⟨(some 35), (.addOff (.tmp 34) 4), none⟩,
  ⟨(some 36), (.load (.tmp 35) none), none⟩,
  ⟨(some 37), (.mv (.tmp 1)), none⟩,
  ⟨(some 38), (.call 55 [(.tmp 36), (.tmp 37)]), none⟩,
  ⟨(some 32), (.mv (.tmp 38)), none⟩,
  ⟨(some 39), (.extract (.tmp 32) 0), none⟩,
  ⟨(some 40), (.extract (.tmp 32) 1), none⟩,
  ⟨(some 6), (.mv (.tmp 39)), none⟩,
  ⟨(some 7), (.mv (.tmp 40)), none⟩])
 (.seq (.ops [⟨(some 41), (.mv (.tmp 7)), none⟩])
 (.cond (.tmp 41)
 (.seq (.ops [⟨(some 42), (.mv (.tmp 0)), none⟩,
  ⟨(some 43), (.mv (.tmp 1)), none⟩,
  ⟨(some 44), (.mv (.tmp 6)), none⟩,
  ⟨(some 45), (.call 56 [(.tmp 42), (.tmp 43), (.tmp 44)]), none⟩])
 (.seq (.ops [⟨(some 46), (.mv (.tmp 6)), none⟩,
  ⟨(some 47), (.build [(.int .i64 0), (.int .i64 0), (.int .i64 0), (.int .i64 0), (.int .u64 0), (.int .u64 0)] [(0, (1, (.const (.int .i64 9)))), (1, (1, (.tmp 46)))]), none⟩,
  ⟨none, (.store (.tmp 4) (.tmp 47) 6), none⟩,
  ⟨(some 5), (.mv (.const (.int .i64 0))), none⟩])
 .ret))
 .skip)))
 (.seq (.ops [⟨(some 49), (.mv (.tmp 0)), none⟩,
  ⟨(some 50), (.nilCheck (.tmp 49)), none⟩,
  ⟨(some 51), (.addOff (.tmp 50) 0), none⟩,
  ⟨(some 52), (.load (.tmp 51) none), none⟩,
  ⟨(some 53), (.mv (.tmp 1)), none⟩,
  ⟨(some 54), (.call 57 [(.tmp 52), (.tmp 53)]), none⟩,
  ⟨(some 48), (.mv (.tmp 54)), none⟩,
  ⟨(some 55), (.extract (.tmp 48) 0), none⟩,
  ⟨(some 56), (.extract (.tmp 48) 1), none⟩,
  ⟨(some 8), (.alloc [(.int .i64 0), (.int .u64 0), (.int .u64 0), (.int .u64 0), (.int .u64 0), (.int .u64 0), (.int .u64 0), (.int .u64 0), (.int .u64 0), (.int .u64 0), (.int .u64 0), (.int .u64 0), (.int .u64 0), (.int .u64 0), (.int .u64 0), (.int .u64 0), (.int .u64 0), (.int .u64 0), (.int .i64 0), (.pointer none), (.int .i64 0)]), none⟩,
  ⟨none, (.store (.tmp 8) (.tmp 55) 21), none⟩,
  ⟨(some 9), (.mv (.tmp 56)), none⟩])
 (.seq (.seq (.ops [⟨(some 57), (.mv (.tmp 9)), none⟩,
  ⟨(some 58), (.un .not (.tmp 57)), none⟩])
 (.cond (.tmp 58)
 (.seq (.ops [⟨(some 59), (.mv (.tmp 0)), none⟩,
  ⟨(some 60), (.mv (.tmp 1)), none⟩,
  ⟨(some 61), (.call 58 [(.tmp 59), (.tmp 60)]), none⟩,
  ⟨none, (.store (.tmp 4) (.tmp 61) 6), none⟩,
  ⟨(some 5), (.mv (.const (.int .i64 0))), none⟩])
 .ret)
 .skip))
 (.seq (.draw 0 [⟨0, [0], ⟨(some 62), (.mv (.tmp 0)), none⟩, 0, 104⟩,
  ⟨1, [62], ⟨(some 63), (.nilCheck (.tmp 62)), none⟩, 0, 104⟩,
  ⟨2, [63], ⟨(some 64), (.addOff (.tmp 63) 9), none⟩, 0, 104⟩,
  ⟨3, [64], ⟨(some 65), (.load (.tmp 64) none), none⟩, 0, 104⟩,
  ⟨4, [8], ⟨(some 66), (.addOff (.tmp 8) 0), none⟩, 0, 104⟩,
  ⟨5, [66], ⟨(some 67), (.load (.tmp 66) none), none⟩, 0, 104⟩,
  ⟨6, [65, 67], ⟨(some 68), (.lookup (false, [.i]) (.tmp 65) (.tmp 67) (.pointer none) false), none⟩, 0, 64⟩,
  ⟨7, [68], ⟨(some 10), (.mv (.tmp 68)), none⟩, 0, 0⟩])
 (.seq (.draw 0 [⟨0, [0], ⟨(some 70), (.mv (.tmp 0)), none⟩, 0, 20⟩,
  ⟨1, [8], ⟨(some 71), (.addOff (.tmp 8) 0), none⟩, 0, 20⟩,
  ⟨2, [71], ⟨(some 72), (.load (.tmp 71) none), none⟩, 0, 20⟩,
  ⟨3, [8], ⟨(some 73), (.addOff (.tmp 8) 19), none⟩, 0, 20⟩,
  ⟨4, [73], ⟨(some 74), (.load (.tmp 73) none), none⟩, 0, 20⟩,
  ⟨5, [74], ⟨(some 75), (.call 59 [(.tmp 74), (.const (.int .i64 11))]), none⟩, 0, 4⟩,
  ⟨6, [75], ⟨(some 76), (.conv .i64 (.tmp 75)), none⟩, 0, 4⟩,
  ⟨7, [70, 72, 76], ⟨(some 77), (.call 51 [(.tmp 70), (.tmp 72), (.tmp 76)]), none⟩, 0, 0⟩,
  ⟨8, [77], ⟨(some 69), (.mv (.tmp 77)), none⟩, 0, 0⟩,
  ⟨9, [69], ⟨(some 78), (.extract (.tmp 69) 0), none⟩, 0, 0⟩,
  ⟨10, [69], ⟨(some 79), (.extract (.tmp 69) 1), none⟩, 0, 0⟩,
  ⟨11, [78], ⟨(some 11), (.mv (.tmp 78)), none⟩, 0, 0⟩,
  ⟨12, [79], ⟨(some 12), (.mv (.tmp 79)), none⟩, 0, 0⟩])
 (.seq (.seq (.ops [⟨(some 80), (.mv (.tmp 0)), none⟩,
  ⟨(some 81), (.nilCheck (.tmp 80)), none⟩,
  ⟨(some 82), (.addOff (.tmp 81) 5), none⟩,
  ⟨(some 83), (.load (.tmp 82) none), none⟩,
  ⟨(some 84), (.mv (.tmp 1)), none⟩,
  ⟨(some 85), (.call 60 [(.tmp 83), (.tmp 84)]), none⟩])
 (.cond (.tmp 85)
 (.seq (.ops [⟨(some 86), (.mv (.tmp 0)), none⟩,
  ⟨(some 87), (.mv (.tmp 12)), none⟩,
  ⟨(some 88), (.call 61 [(.tmp 86), (.tmp 87)]), none⟩])
 (.seq (.ops [⟨(some 89), (.mv (.tmp 0)), none⟩,
  ⟨(some 90), (.mv (.tmp 12)), none⟩,
  ⟨(some 91), (.build [(.int .i64 0), (.int .u64 0), (.int .u64 0)] []), none⟩,
  ⟨(some 92), (.call 62 [(.tmp 89), (.const (.int .i64 8)), (.tmp 90), (.tmp 91)]), none⟩,
  ⟨none, (.store (.tmp 4) (.tmp 92) 6), none⟩,
  ⟨(some 5), (.mv (.const (.int .i64 0))), none⟩])
 .ret))
 .skip))
 (.seq (.ops [⟨(some 93), (.mv (.tmp 0)), none⟩,
  ⟨(some 94), (.mv (.tmp 10)), none⟩,
  ⟨(some 95), (.mv (.tmp 12)), none⟩,
  ⟨(some 96), (.call 63 [(.tmp 93), (.tmp 94), (.tmp 95)]), none⟩])
 (.seq (.ops [⟨(some 98), (.mv (.tmp 0)), none⟩,
  ⟨(some 99), (.nilCheck (.tmp 98)), none⟩,
  ⟨(some 100), (.addOff (.tmp 99) 0), none⟩,
  ⟨(some 101), (.load (.tmp 100) none), none⟩,
  ⟨(some 102), (.mv (.tmp 1)), none⟩,
  ⟨(some 103), (.call 64 [(.tmp 101), (.tmp 102)]), none⟩,
  ⟨(some 97), (.mv (.tmp 103)), none⟩,
  ⟨(some 104), (.extract (.tmp 97) 0), none⟩,
  ⟨(some 105), (.extract (.tmp 97) 1), none⟩,
  ⟨(some 13), (.alloc [(.int .i64 0), (.int .i64 0), (.int .u64 0), (.int .u64 0), (.bool false), (.bool false)]), none⟩,
  ⟨none, (.store (.tmp 13) (.tmp 104) 6), none⟩,
  ⟨(some 14), (.mv (.tmp 105)), none⟩])
 (.seq (.ops [⟨(some 106), (.mv (.tmp 0)), none⟩,
  ⟨(some 107), (.mv (.tmp 10)), none⟩,
  ⟨(some 108), (.mv (.tmp 12)), none⟩,
  ⟨(some 109), (.mv (.tmp 1)), none⟩,
  ⟨(some 110), (.load (.tmp 13) (some 6)), none⟩,
  ⟨(some 111), (.call 65 [(.tmp 106), (.tmp 107), (.tmp 108), (.tmp 109), (.tmp 110)]), none⟩,
  ⟨none, (.store (.tmp 4) (.tmp 111) 6), none⟩,
  ⟨(some 5), (.mv (.const (.int .i64 0))), none⟩])
 .ret))))))))))),
 [(.cell 4 (some 6)), (.tmp 5)], 2⟩
/- (*palisade/hyper.Hyper).Input -/
def c15 : AFunc := ⟨(.seq (.ops [⟨(some 6), (.mv (.const (.int .i64 0))), none⟩,
  ⟨(some 7), (.mv (.const (.int .i64 0))), none⟩])
 (.seq (.ops [⟨(some 13), (.mv (.tmp 0)), none⟩,
  ⟨(some 14), (.mv (.tmp 1)), none⟩,
  ⟨(some 15), (.call 51 [(.tmp 13), (.tmp 14), (.const (.int .i64 0))]), none⟩,
  ⟨(some 12), (.mv (.tmp 15)), none⟩,
  ⟨(some 16), (.extract (.tmp 12) 0), none⟩,
  ⟨(some 17), (.extract (.tmp 12) 1), none⟩,
  ⟨(some 8), (.mv (.tmp 16)), none⟩,
  ⟨(some 9), (.mv (.tmp 17)), none⟩])
 (.seq (.block 0 (.seq (.ops [⟨(some 19), (.mv (.tmp 0)), none⟩,
  ⟨(some 20), (.call 39 [(.tmp 19)]), none⟩,
  ⟨(some 18), (.mv (.tmp 20)), none⟩])
 (.cond (.tmp 18)
 (.seq (.ops [⟨(some 6), (.mv (.const (.int .i64 0))), none⟩,
  ⟨(some 7), (.mv (.const (.int .i64 1))), none⟩])
 .ret)
 (.seq (.ops [⟨(some 22), (.mv (.tmp 8)), none⟩,
  ⟨(some 23), (.eqv .ptr false (.tmp 22) (.const (.pointer none))), none⟩,
  ⟨(some 21), (.mv (.tmp 23)), none⟩])
 (.cond (.tmp 21)
 (.seq (.ops [⟨(some 6), (.mv (.const (.int .i64 0))), none⟩,
  ⟨(some 7), (.mv (.const (.int .i64 14))), none⟩])
 .ret)
 .skip)))))
 (.seq (.ops [⟨(some 25), (.mv (.tmp 8)), none⟩,
  ⟨(some 26), (.nilCheck (.tmp 25)), none⟩,
  ⟨(some 27), (.addOff (.tmp 26) 5), none⟩,
  ⟨(some 28), (.load (.tmp 27) none), none⟩,
  ⟨(some 29), (.mv (.tmp 2)), none⟩,
  ⟨(some 30), (.call 66 [(.tmp 28), (.tmp 29)]), none⟩,
  ⟨(some 24), (.mv (.tmp 30)), none⟩,
  ⟨(some 31), (.extract (.tmp 24) 0), none⟩,
  ⟨(some 32), (.extract (.tmp 24) 1), none⟩,
  ⟨(some 10), (.mv (.tmp 31)), none⟩,
  ⟨(some 11), (.mv (.tmp 32)), none⟩])
 (.seq (.ops [⟨(some 33), (.mv (.tmp 0)), none⟩,
  ⟨(some 34), (.mv (.tmp 8)), none⟩,
  ⟨(some 35), (.call 67 [(.tmp 33), (.tmp 34), (.const (.int .i64 3))]), none⟩])
 (.seq (.ops [⟨(some 36), (.mv (.tmp 10)), none⟩,
  ⟨(some 37), (.mv (.tmp 11)), none⟩,
  ⟨(some 6), (.mv (.tmp 36)), none⟩,
  ⟨(some 7), (.mv (.tmp 37)), none⟩])
 .ret)))))),
 [(.tmp 6), (.tmp 7)], 3⟩
/- (*palisade/hyper.Hyper).Regs -/
def c16 : AFunc := ⟨(.seq (.ops [⟨(some 6), (.alloc [(.int .u64 0), (.int .u64 0), (.int .u64 0), (.int .u64 0), (.int .u64 0), (.int .u64 0), (.int .u64 0), (.int .u64 0), (.int .u64 0), (.int .u64 0), (.int .u64 0), (.int .u64 0), (.int .u64 0), (.int .u64 0), (.int .u64 0), (.int .u64 0), (.int .u64 0), (.int .i64 0)]), none⟩,
  ⟨(some 7), (.mv (.const (.bool false))), none⟩])
 (.seq (.ops [⟨(some 11), (.mv (.tmp 0)), none⟩,
  ⟨(some 12), (.mv (.tmp 1)), none⟩,
  ⟨(some 13), (.mv (.tmp 2)), none⟩,
  ⟨(some 14), (.call 51 [(.tmp 11), (.tmp 12), (.tmp 13)]), none⟩,
  ⟨(some 10), (.mv (.tmp 14)), none⟩,
  ⟨(some 15), (.extract (.tmp 10) 0), none⟩,
  ⟨(some 16), (.extract (.tmp 10) 1), none⟩,
  ⟨(some 8), (.mv (.tmp 15)), none⟩,
  ⟨(some 9), (.mv (.tmp 16)), none⟩])
 (.seq (.seq (.ops [⟨(some 17), (.mv (.tmp 9)), none⟩,
  ⟨(some 18), (.eqv .ptr false (.tmp 17) (.const (.pointer none))), none⟩])
 (.cond (.tmp 18)
 (.seq (.ops [⟨(some 19), (.build [(.int .u64 0), (.int .u64 0), (.int .u64 0), (.int .u64 0), (.int .u64 0), (.int .u64 0), (.int .u64 0), (.int .u64 0), (.int .u64 0), (.int .u64 0), (.int .u64 0), (.int .u64 0), (.int .u64 0), (.int .u64 0), (.int .u64 0), (.int .u64 0), (.int .u64 0), (.int .i64 0)] []), none⟩,
  ⟨none, (.store (.tmp 6) (.tmp 19) 18), none⟩,
  ⟨(some 7), (.mv (.const (.bool false))), none⟩])
 .ret)
 .skip))
 (.seq (.draw 0 [⟨0, [9], ⟨(some 20), (.mv (.tmp 9)), none⟩, 0, 136⟩,
  ⟨1, [20], ⟨(some 21), (.nilCheck (.tmp 20)), none⟩, 0, 136⟩,
  ⟨2, [21], ⟨(some 22), (.addOff (.tmp 21) 0), none⟩, 0, 136⟩,
  ⟨3, [22], ⟨(some 23), (.load (.tmp 22) none), none⟩, 0, 136⟩,
  ⟨4, [0], ⟨(some 24), (.mv (.tmp 0)), none⟩, 0, 136⟩,
  ⟨5, [24], ⟨(some 25), (.nilCheck (.tmp 24)), none⟩, 0, 136⟩,
  ⟨6, [25], ⟨(some 26), (.addOff (.tmp 25) 0), none⟩, 0, 136⟩,
  ⟨7, [26], ⟨(some 27), (.load (.tmp 26) none), none⟩, 0, 136⟩,
  ⟨8, [23, 27], ⟨(some 28), (.call 68 [(.tmp 23), (.tmp 27)]), none⟩, 0, 0⟩,
  ⟨9, [6, 28], ⟨none, (.store (.tmp 6) (.tmp 28) 18), none⟩, 0, 0⟩,
  ⟨10, [], ⟨(some 7), (.mv (.const (.bool true))), none⟩, 0, 0⟩])
 .ret)))),
 [(.cell 6 (some 18)), (.tmp 7)], 3⟩
/- (*palisade/hyper.Hyper).Page -/
def c17 : AFunc := ⟨(.seq (.ops [⟨(some 6), (.mv (.const (.slice none 0 0))), none⟩,
  ⟨(some 7), (.mv (.const (.int .i64 0))), none⟩,
  ⟨(some 8), (.mv (.const (.bool false))), none⟩])
 (.seq (.ops [⟨(some 17), (.mv (.tmp 0)), none⟩,
  ⟨(some 18), (.mv (.tmp 1)), none⟩,
  ⟨(some 19), (.call 51 [(.tmp 17), (.tmp 18), (.const (.int .i64 0))]), none⟩,
  ⟨(some 16), (.mv (.tmp 19)), none⟩,
  ⟨(some 20), (.extract (.tmp 16) 0), none⟩,
  ⟨(some 21), (.extract (.tmp 16) 1), none⟩,
  ⟨(some 9), (.mv (.tmp 20)), none⟩,
  ⟨(some 10), (.mv (.tmp 21)), none⟩])
 (.seq (.seq (.ops [⟨(some 22), (.mv (.tmp 9)), none⟩,
  ⟨(some 23), (.eqv .ptr false (.tmp 22) (.const (.pointer none))), none⟩])
 (.cond (.tmp 23)
 (.seq (.ops [⟨(some 6), (.mv (.const (.slice none 0 0))), none⟩,
  ⟨(some 7), (.mv (.const (.int .i64 0))), none⟩,
  ⟨(some 8), (.mv (.const (.bool false))), none⟩])
 .ret)
 .skip))
 (.seq (.ops [⟨(some 25), (.mv (.tmp 9)), none⟩,
  ⟨(some 26), (.nilCheck (.tmp 25)), none⟩,
  ⟨(some 27), (.addOff (.tmp 26) 2), none⟩,
  ⟨(some 28), (.load (.tmp 27) none), none⟩,
  ⟨(some 29), (.mv (.tmp 2)), none⟩,
  ⟨(some 30), (.call 69 [(.tmp 28), (.tmp 29)]), none⟩,
  ⟨(some 24), (.mv (.tmp 30)), none⟩,
  ⟨(some 31), (.extract (.tmp 24) 0), none⟩,
  ⟨(some 32), (.extract (.tmp 24) 1), none⟩,
  ⟨(some 33), (.extract (.tmp 24) 2), none⟩,
  ⟨(some 12), (.alloc [(.bool false), (.bool false), (.bool false)]), none⟩,
  ⟨(some 11), (.mv (.tmp 31)), none⟩,
  ⟨none, (.store (.tmp 12) (.tmp 32) 3), none⟩,
  ⟨(some 13), (.mv (.tmp 33)), none⟩])
 (.seq (.seq (.ops [⟨(some 34), (.mv (.tmp 13)), none⟩,
  ⟨(some 35), (.un .not (.tmp 34)), none⟩])
 (.cond (.tmp 35)
 (.seq (.ops [⟨(some 6), (.mv (.const (.slice none 0 0))), none⟩,
  ⟨(some 7), (.mv (.const (.int .i64 0))), none⟩,
  ⟨(some 8), (.mv (.const (.bool false))), none⟩])
 .ret)
 .skip))
 (.seq (.ops [⟨(some 37), (.mv (.tmp 0)), none⟩,
  ⟨(some 38), (.nilCheck (.tmp 37)), none⟩,
  ⟨(some 39), (.addOff (.tmp 38) 0), none⟩,
  ⟨(some 40), (.load (.tmp 39) none), none⟩,
  ⟨(some 41), (.call 70 [(.tmp 40)]), none⟩,
  ⟨(some 42), (.mv (.tmp 11)), none⟩,
  ⟨(some 43), (.conv .u64 (.tmp 42)), none⟩,
  ⟨(some 44), (.bin .mul (.tmp 43) (.const (.int .u64 256))), none⟩,
  ⟨(some 45), (.call 71 [(.tmp 41), (.tmp 44), (.const (.int .i64 256))]), none⟩,
  ⟨(some 36), (.mv (.tmp 45)), none⟩,
  ⟨(some 46), (.extract (.tmp 36) 0), none⟩,
  ⟨(some 47), (.extract (.tmp 36) 1), none⟩,
  ⟨(some 14), (.mv (.tmp 46)), none⟩,
  ⟨(some 15), (.mv (.tmp 47)), none⟩])
 (.seq (.ops [⟨(some 48), (.mv (.tmp 14)), none⟩,
  ⟨(some 49), (.mv (.tmp 11)), none⟩,
  ⟨(some 6), (.mv (.tmp 48)), none⟩,
  ⟨(some 7), (.mv (.tmp 49)), none⟩,
  ⟨(some 8), (.mv (.const (.bool true))), none⟩])
 .ret))))))),
 [(.tmp 6), (.tmp 7), (.tmp 8)], 3⟩
/- (*palisade/hyper.Hyper).Destroy -/
def c18 : AFunc := ⟨(.seq (.ops [⟨(some 4), (.mv (.const (.int .i64 0))), none⟩])
 (.seq (.seq (.ops [⟨(some 11), (.mv (.tmp 0)), none⟩,
  ⟨(some 12), (.call 39 [(.tmp 11)]), none⟩])
 (.cond (.tmp 12)
 (.seq (.ops [⟨(some 4), (.mv (.const (.int .i64 1))), none⟩])
 .ret)
 .skip))
 (.seq (.ops [⟨(some 14), (.mv (.tmp 0)), none⟩,
  ⟨(some 15), (.nilCheck (.tmp 14)), none⟩,
  ⟨(some 16), (.addOff (.tmp 15) 9), none⟩,
  ⟨(some 17), (.load (.tmp 16) none), none⟩,
  ⟨(some 18), (.mv (.tmp 1)), none⟩,
  ⟨(some 19), (.lookup (false, [.i]) (.tmp 17) (.tmp 18) (.pointer none) true), none⟩,
  ⟨(some 13), (.mv (.tmp 19)), none⟩,
  ⟨(some 20), (.extract (.tmp 13) 0), none⟩,
  ⟨(some 21), (.extract (.tmp 13) 1), none⟩,
  ⟨(some 5), (.mv (.tmp 20)), none⟩,
  ⟨(some 6), (.mv (.tmp 21)), none⟩])
 (.seq (.block 0 (.seq (.ops [⟨(some 23), (.mv (.tmp 6)), none⟩,
  ⟨(some 24), (.un .not (.tmp 23)), none⟩,
  ⟨(some 22), (.mv (.tmp 24)), none⟩])
 (.cond (.tmp 22)
 (.seq (.ops [⟨(some 4), (.mv (.const (.int .i64 14))), none⟩])
 .ret)
 (.seq (.ops [⟨(some 26), (.mv (.tmp 5)), none⟩,
  ⟨(some 27), (.nilCheck (.tmp 26)), none⟩,
  ⟨(some 28), (.addOff (.tmp 27) 11), none⟩,
  ⟨(some 29), (.load (.tmp 28) none), none⟩,
  ⟨(some 30), (.call 72 [(.tmp 29)]), none⟩,
  ⟨(some 31), (.bin .gtr (.tmp 30) (.const (.int .i64 0))), none⟩,
  ⟨(some 32), (.mv (.tmp 31)), none⟩,
  ⟨(some 33), (.mv (.tmp 5)), (some (32, false))⟩,
  ⟨(some 34), (.nilCheck (.tmp 33)), (some (32, false))⟩,
  ⟨(some 35), (.addOff (.tmp 34) 14), (some (32, false))⟩,
  ⟨(some 36), (.load (.tmp 35) none), (some (32, false))⟩,
  ⟨(some 37), (.bin .gtr (.tmp 36) (.const (.int .i64 0))), (some (32, false))⟩,
  ⟨(some 38), (.pick (.tmp 32) (.const (.bool true)) (.tmp 37)), none⟩,
  ⟨(some 25), (.mv (.tmp 38)), none⟩])
 (.cond (.tmp 25)
 (.seq (.ops [⟨(some 4), (.mv (.const (.int .i64 17))), none⟩])
 .ret)
 .skip)))))
 (.seq (.seq (.ops [⟨(some 39), (.mv (.tmp 5)), none⟩,
  ⟨(some 40), (.nilCheck (.tmp 39)), none⟩,
  ⟨(some 41), (.addOff (.tmp 40) 3), none⟩,
  ⟨(some 42), (.load (.tmp 41) none), none⟩,
  ⟨(some 43), (.len false (.tmp 42)), none⟩,
  ⟨(some 44), (.mv (.const (.int .i64 0))), none⟩])
 (.block 1 (.loop (.seq (.ops [⟨(some 45), (.bin .lss (.tmp 44) (.tmp 43)), none⟩])
 (.seq (.cond (.tmp 45)
 .skip
 (.exit 1))
 (.seq (.block 2 (.seq (.ops [⟨(some 46), (.mv (.tmp 44)), none⟩,
  ⟨(some 47), (.ixS (.tmp 42) (.tmp 44) 1), none⟩,
  ⟨(some 48), (.load (.tmp 47) none), none⟩,
  ⟨(some 7), (.mv (.tmp 46)), none⟩,
  ⟨(some 8), (.mv (.tmp 48)), none⟩])
 (.seq (.seq (.ops [⟨(some 50), (.mv (.tmp 8)), none⟩,
  ⟨(some 51), (.nilCheck (.tmp 50)), none⟩,
  ⟨(some 52), (.addOff (.tmp 51) 0), none⟩,
  ⟨(some 53), (.load (.tmp 52) none), none⟩,
  ⟨(some 54), (.call 54 [(.tmp 53)]), none⟩,
  ⟨(some 49), (.mv (.tmp 54)), none⟩,
  ⟨(some 55), (.extract (.tmp 49) 0), none⟩,
  ⟨(some 56), (.extract (.tmp 49) 1), none⟩,
  ⟨(some 9), (.mv (.tmp 55)), none⟩,
  ⟨(some 10), (.mv (.tmp 56)), none⟩])
 (.seq (.ops [⟨(some 57), (.mv (.tmp 9)), none⟩,
  ⟨(some 58), (.bin .eql (.tmp 57) (.const (.int .i64 2))), none⟩])
 (.cond (.tmp 58)
 (.ops [⟨(some 59), (.mv (.tmp 0)), none⟩,
  ⟨(some 60), (.mv (.tmp 8)), none⟩,
  ⟨(some 61), (.call 61 [(.tmp 59), (.tmp 60)]), none⟩])
 .skip)))
 (.seq (.draw 0 [⟨0, [0], ⟨(some 62), (.mv (.tmp 0)), none⟩, 0, 8⟩,
  ⟨1, [62], ⟨(some 63), (.nilCheck (.tmp 62)), none⟩, 0, 8⟩,
  ⟨2, [63], ⟨(some 64), (.addOff (.tmp 63) 5), none⟩, 0, 8⟩,
  ⟨3, [64], ⟨(some 65), (.load (.tmp 64) none), none⟩, 0, 8⟩,
  ⟨4, [1], ⟨(some 66), (.mv (.tmp 1)), none⟩, 0, 8⟩,
  ⟨5, [7], ⟨(some 67), (.mv (.tmp 7)), none⟩, 0, 8⟩,
  ⟨6, [66, 67], ⟨(some 68), (.call 46 [(.tmp 66), (.tmp 67)]), none⟩, 0, 8⟩,
  ⟨7, [65, 68], ⟨(some 69), (.call 73 [(.tmp 65), (.tmp 68)]), none⟩, 0, 0⟩])
 (.draw 0 [⟨0, [0], ⟨(some 70), (.mv (.tmp 0)), none⟩, 0, 8⟩,
  ⟨1, [70], ⟨(some 71), (.nilCheck (.tmp 70)), none⟩, 0, 8⟩,
  ⟨2, [71], ⟨(some 72), (.addOff (.tmp 71) 6), none⟩, 0, 8⟩,
  ⟨3, [72], ⟨(some 73), (.load (.tmp 72) none), none⟩, 0, 8⟩,
  ⟨4, [1], ⟨(some 74), (.mv (.tmp 1)), none⟩, 0, 8⟩,
  ⟨5, [7], ⟨(some 75), (.mv (.tmp 7)), none⟩, 0, 8⟩,
  ⟨6, [74, 75], ⟨(some 76), (.call 46 [(.tmp 74), (.tmp 75)]), none⟩, 0, 8⟩,
  ⟨7, [73, 76], ⟨(some 77), (.call 74 [(.tmp 73), (.tmp 76)]), none⟩, 0, 0⟩])))))
 (.ops [⟨(some 78), (.bin .add (.tmp 44) (.const (.int .i64 1))), none⟩,
  ⟨(some 44), (.mv (.tmp 78)), none⟩])))))))
 (.seq (.ops [⟨(some 79), (.mv (.tmp 0)), none⟩,
  ⟨(some 80), (.mv (.tmp 5)), none⟩,
  ⟨(some 81), (.call 43 [(.tmp 79), (.tmp 80)]), none⟩])
 (.seq (.ops [⟨(some 82), (.mv (.tmp 0)), none⟩,
  ⟨(some 83), (.nilCheck (.tmp 82)), none⟩,
  ⟨(some 84), (.addOff (.tmp 83) 3), none⟩,
  ⟨(some 85), (.load (.tmp 84) none), none⟩,
  ⟨(some 86), (.mv (.tmp 1)), none⟩,
  ⟨(some 87), (.call 44 [(.tmp 85), (.tmp 86), (.const (.int .i64 (-1)))]), none⟩])
 (.seq (.block 3 (.loop (.seq (.seq (.ops [⟨(some 88), (.mv (.tmp 0)), none⟩,
  ⟨(some 89), (.nilCheck (.tmp 88)), none⟩,
  ⟨(some 90), (.addOff (.tmp 89) 3), none⟩,
  ⟨(some 91), (.load (.tmp 90) none), none⟩,
  ⟨(some 92), (.mv (.tmp 1)), none⟩,
  ⟨(some 93), (.call 75 [(.tmp 91), (.tmp 92)]), none⟩,
  ⟨(some 94), (.bin .gtr (.tmp 93) (.const (.int .i64 0))), none⟩])
 (.cond (.tmp 94)
 .skip
 (.exit 3)))
 (.block 4 (.ops [⟨(some 95), (.mv (.tmp 0)), none⟩,
  ⟨(some 96), (.nilCheck (.tmp 95)), none⟩,
  ⟨(some 97), (.addOff (.tmp 96) 3), none⟩,
  ⟨(some 98), (.load (.tmp 97) none), none⟩,
  ⟨(some 99), (.mv (.tmp 1)), none⟩,
  ⟨(some 100), (.call 76 [(.tmp 98), (.tmp 99)]), none⟩])))))
 (.seq (.ops [⟨(some 101), (.mv (.tmp 0)), none⟩,
  ⟨(some 102), (.nilCheck (.tmp 101)), none⟩,
  ⟨(some 103), (.addOff (.tmp 102) 9), none⟩,
  ⟨(some 104), (.load (.tmp 103) none), none⟩,
  ⟨(some 105), (.mv (.tmp 1)), none⟩,
  ⟨none, (.delete (false, [.i]) (.tmp 104) (.tmp 105)), none⟩])
 (.seq (.ops [⟨(some 4), (.mv (.const (.int .i64 0))), none⟩])
 .ret)))))))))),
 [(.tmp 4)], 2⟩
/- (*palisade/hyper.Hyper).Tick -/
def c19 : AFunc := ⟨(.seq (.ops [⟨(some 4), (.mv (.const (.int .i64 0))), none⟩])
 (.seq (.block 0 (.seq (.ops [⟨(some 9), (.mv (.tmp 0)), none⟩,
  ⟨(some 10), (.call 39 [(.tmp 9)]), none⟩,
  ⟨(some 8), (.mv (.tmp 10)), none⟩])
 (.cond (.tmp 8)
 (.seq (.ops [⟨(some 4), (.mv (.const (.int .i64 1))), none⟩])
 .ret)
 (.seq (.ops [⟨(some 12), (.mv (.tmp 1)), none⟩,
  ⟨(some 13), (.bin .lss (.tmp 12) (.const (.int .i64 0))), none⟩,
  ⟨(some 14), (.mv (.tmp 13)), none⟩,
  ⟨(some 15), (.mv (.tmp 1)), (some (14, false))⟩,
  ⟨(some 16), (.bin .gtr (.tmp 15) (.const (.int .i64 1048576))), (some (14, false))⟩,
  ⟨(some 17), (.pick (.tmp 14) (.const (.bool true)) (.tmp 16)), none⟩,
  ⟨(some 11), (.mv (.tmp 17)), none⟩])
 (.cond (.tmp 11)
 (.seq (.ops [⟨(some 4), (.mv (.const (.int .i64 2))), none⟩])
 .ret)
 .skip)))))
 (.seq (.ops [⟨(some 18), (.mv (.tmp 0)), none⟩,
  ⟨(some 19), (.nilCheck (.tmp 18)), none⟩,
  ⟨(some 20), (.addOff (.tmp 19) 8), none⟩,
  ⟨(some 21), (.load (.tmp 20) none), none⟩,
  ⟨(some 5), (.mv (.tmp 21)), none⟩])
 (.seq (.ops [⟨(some 22), (.mv (.tmp 0)), none⟩,
  ⟨(some 23), (.mv (.tmp 0)), none⟩,
  ⟨(some 24), (.nilCheck (.tmp 23)), none⟩,
  ⟨(some 25), (.addOff (.tmp 24) 8), none⟩,
  ⟨(some 26), (.load (.tmp 25) none), none⟩,
  ⟨(some 27), (.mv (.tmp 1)), none⟩,
  ⟨(some 28), (.conv .u64 (.tmp 27)), none⟩,
  ⟨(some 29), (.bin .add (.tmp 26) (.tmp 28)), none⟩,
  ⟨(some 30), (.minmax false [(.tmp 29), (.const (.int .u64 2305843009213693952))]), none⟩,
  ⟨(some 31), (.nilCheck (.tmp 22)), none⟩,
  ⟨(some 32), (.addOff (.tmp 31) 8), none⟩,
  ⟨none, (.store (.tmp 32) (.tmp 30) 1), none⟩])
 (.seq (.seq (.ops [⟨(some 33), (.mv (.tmp 0)), none⟩,
  ⟨(some 34), (.nilCheck (.tmp 33)), none⟩,
  ⟨(some 35), (.addOff (.tmp 34) 0), none⟩,
  ⟨(some 36), (.load (.tmp 35) none), none⟩,
  ⟨(some 37), (.call 48 [(.tmp 36)]), none⟩,
  ⟨(some 38), (.mv (.const (.int .i64 0))), none⟩])
 (.block 1 (.loop (.seq (.ops [⟨(some 39), (.bin .lss (.tmp 38) (.tmp 37)), none⟩])
 (.seq (.cond (.tmp 39)
 .skip
 (.exit 1))
 (.seq (.block 2 (.seq (.ops [⟨(some 40), (.mv (.tmp 38)), none⟩,
  ⟨(some 6), (.mv (.tmp 40)), none⟩])
 (.seq (.ops [⟨(some 41), (.mv (.tmp 0)), none⟩,
  ⟨(some 42), (.nilCheck (.tmp 41)), none⟩,
  ⟨(some 43), (.addOff (.tmp 42) 4), none⟩,
  ⟨(some 44), (.load (.tmp 43) none), none⟩,
  ⟨(some 45), (.mv (.tmp 6)), none⟩,
  ⟨(some 46), (.mv (.tmp 1)), none⟩,
  ⟨(some 47), (.conv .u64 (.tmp 46)), none⟩,
  ⟨(some 48), (.call 77 [(.tmp 44), (.tmp 45), (.tmp 47)]), none⟩])
 (.ops [⟨(some 49), (.mv (.tmp 0)), none⟩,
  ⟨(some 50), (.nilCheck (.tmp 49)), none⟩,
  ⟨(some 51), (.addOff (.tmp 50) 5), none⟩,
  ⟨(some 52), (.load (.tmp 51) none), none⟩,
  ⟨(some 53), (.mv (.tmp 6)), none⟩,
  ⟨(some 54), (.mv (.tmp 1)), none⟩,
  ⟨(some 55), (.call 78 [(.tmp 52), (.tmp 53), (.tmp 54)]), none⟩]))))
 (.ops [⟨(some 56), (.bin .add (.tmp 38) (.const (.int .i64 1))), none⟩,
  ⟨(some 38), (.mv (.tmp 56)), none⟩])))))))
 (.seq (.ops [⟨(some 57), (.mv (.tmp 0)), none⟩,
  ⟨(some 58), (.nilCheck (.tmp 57)), none⟩,
  ⟨(some 59), (.addOff (.tmp 58) 7), none⟩,
  ⟨(some 60), (.load (.tmp 59) none), none⟩,
  ⟨(some 61), (.conv .u64 (.tmp 60)), none⟩,
  ⟨(some 7), (.mv (.tmp 61)), none⟩])
 (.seq (.seq (.draw 0 [⟨0, [0], ⟨(some 62), (.mv (.tmp 0)), none⟩, 0, 8⟩,
  ⟨1, [62], ⟨(some 63), (.nilCheck (.tmp 62)), none⟩, 0, 8⟩,
  ⟨2, [63], ⟨(some 64), (.addOff (.tmp 63) 8), none⟩, 0, 8⟩,
  ⟨3, [64], ⟨(some 65), (.load (.tmp 64) none), none⟩, 0, 8⟩,
  ⟨4, [7], ⟨(some 66), (.mv (.tmp 7)), none⟩, 0, 8⟩,
  ⟨5, [65, 66], ⟨(some 67), (.bin .quo (.tmp 65) (.tmp 66)), none⟩, 0, 0⟩,
  ⟨6, [5], ⟨(some 68), (.mv (.tmp 5)), none⟩, 0, 8⟩,
  ⟨7, [7], ⟨(some 69), (.mv (.tmp 7)), none⟩, 0, 8⟩,
  ⟨8, [68, 69], ⟨(some 70), (.bin .quo (.tmp 68) (.tmp 69)), none⟩, 0, 8⟩,
  ⟨9, [67, 70], ⟨(some 71), (.bin .sub (.tmp 67) (.tmp 70)), none⟩, 0, 0⟩,
  ⟨10, [71], ⟨(some 72), (.minmax false [(.tmp 71), (.const (.int .u64 64))]), none⟩, 0, 0⟩,
  ⟨11, [], ⟨(some 73), (.mv (.const (.int .u64 0))), none⟩, 0, 8⟩])
 (.block 3 (.loop (.seq (.ops [⟨(some 74), (.bin .lss (.tmp 73) (.tmp 72)), none⟩])
 (.seq (.cond (.tmp 74)
 .skip
 (.exit 3))
 (.seq (.block 4 (.ops [⟨(some 75), (.mv (.tmp 0)), none⟩,
  ⟨(some 76), (.nilCheck (.tmp 75)), none⟩,
  ⟨(some 77), (.addOff (.tmp 76) 5), none⟩,
  ⟨(some 78), (.load (.tmp 77) none), none⟩,
  ⟨(some 79), (.call 79 [(.tmp 78)]), none⟩]))
 (.ops [⟨(some 80), (.bin .add (.tmp 73) (.const (.int .u64 1))), none⟩,
  ⟨(some 73), (.mv (.tmp 80)), none⟩])))))))
 (.seq (.ops [⟨(some 81), (.mv (.tmp 0)), none⟩,
  ⟨(some 82), (.call 80 [(.tmp 81)]), none⟩])
 (.seq (.ops [⟨(some 4), (.mv (.const (.int .i64 0))), none⟩])
 .ret))))))))),
 [(.tmp 4)], 2⟩
/- (*palisade/hyper.Hyper).Complete -/
def c20 : AFunc := ⟨(.seq (.ops [⟨(some 4), (.mv (.const (.int .i64 0))), none⟩])
 (.seq (.seq (.ops [⟨(some 8), (.mv (.tmp 0)), none⟩,
  ⟨(some 9), (.call 39 [(.tmp 8)]), none⟩])
 (.cond (.tmp 9)
 (.seq (.ops [⟨(some 4), (.mv (.const (.int .i64 1))), none⟩])
 .ret)
 .skip))
 (.seq (.draw 1 [⟨0, [0], ⟨(some 11), (.mv (.tmp 0)), none⟩, 1, 136⟩,
  ⟨1, [11], ⟨(some 12), (.nilCheck (.tmp 11)), none⟩, 1, 136⟩,
  ⟨2, [12], ⟨(some 13), (.addOff (.tmp 12) 2), none⟩, 1, 136⟩,
  ⟨3, [13], ⟨(some 14), (.load (.tmp 13) none), none⟩, 1, 136⟩,
  ⟨4, [0], ⟨(some 15), (.mv (.tmp 0)), none⟩, 1, 136⟩,
  ⟨5, [15], ⟨(some 16), (.nilCheck (.tmp 15)), none⟩, 1, 136⟩,
  ⟨6, [16], ⟨(some 17), (.addOff (.tmp 16) 0), none⟩, 1, 136⟩,
  ⟨7, [17], ⟨(some 18), (.load (.tmp 17) none), none⟩, 1, 136⟩,
  ⟨9, [1], ⟨(some 20), (.mv (.tmp 1)), none⟩, 1, 136⟩,
  ⟨8, [18], ⟨(some 19), (.call 70 [(.tmp 18)]), none⟩, 1, 8⟩,
  ⟨10, [14, 19, 20], ⟨(some 21), (.call 81 [(.tmp 14), (.tmp 19), (.tmp 20)]), none⟩, 1, 0⟩,
  ⟨11, [21], ⟨(some 10), (.mv (.tmp 21)), none⟩, 1, 0⟩,
  ⟨12, [10], ⟨(some 22), (.extract (.tmp 10) 0), none⟩, 1, 0⟩,
  ⟨13, [10], ⟨(some 23), (.extract (.tmp 10) 1), none⟩, 1, 0⟩,
  ⟨14, [], ⟨(some 5), (.alloc [(.int .i64 0), (.bool false), (.int .i64 0), (.int .i64 0)]), none⟩, 0, 136⟩,
  ⟨15, [5, 22], ⟨none, (.store (.tmp 5) (.tmp 22) 4), none⟩, 1, 0⟩,
  ⟨16, [23], ⟨(some 6), (.mv (.tmp 23)), none⟩, 1, 0⟩])
 (.seq (.seq (.ops [⟨(some 24), (.mv (.tmp 6)), none⟩,
  ⟨(some 25), (.bin .neq (.tmp 24) (.const (.int .i64 0))), none⟩,
  ⟨(some 26), (.mv (.tmp 25)), none⟩,
  ⟨(some 27), (.mv (.tmp 6)), (some (26, true))⟩,
  ⟨(some 28), (.mkIface 26 (.tmp 27)), (some (26, true))⟩,
  ⟨(some 29), (.mkIface 26 (.const (.int .i64 12))), (some (26, true))⟩,
  ⟨(some 30), (.call 82 [(.tmp 28), (.tmp 29)]), (some (26, true))⟩,
  ⟨(some 31), (.un .not (.tmp 30)), (some (26, true))⟩,
  ⟨(some 32), (.pick (.tmp 26) (.tmp 31) (.const (.bool false))), none⟩])
 (.cond (.tmp 32)
 (.seq (.ops [⟨(some 33), (.mv (.tmp 6)), none⟩,
  ⟨(some 4), (.mv (.tmp 33)), none⟩])
 .ret)
 .skip))
 (.seq (.seq (.draw 0 [⟨0, [0], ⟨(some 34), (.mv (.tmp 0)), none⟩, 0, 168⟩,
  ⟨1, [34], ⟨(some 35), (.nilCheck (.tmp 34)), none⟩, 0, 168⟩,
  ⟨2, [35], ⟨(some 36), (.addOff (.tmp 35) 9), none⟩, 0, 168⟩,
  ⟨3, [36], ⟨(some 37), (.load (.tmp 36) none), none⟩, 0, 168⟩,
  ⟨4, [5], ⟨(some 38), (.addOff (.tmp 5) 0), none⟩, 0, 168⟩,
  ⟨5, [38], ⟨(some 39), (.load (.tmp 38) none), none⟩, 0, 168⟩,
  ⟨6, [39], ⟨(some 40), (.bin .shr (.tmp 39) (.const (.int .u64 32))), none⟩, 0, 136⟩,
  ⟨7, [37, 40], ⟨(some 41), (.lookup (false, [.i]) (.tmp 37) (.tmp 40) (.pointer none) false), none⟩, 0, 128⟩,
  ⟨8, [41], ⟨(some 7), (.mv (.tmp 41)), none⟩, 0, 0⟩])
 (.seq (.ops [⟨(some 42), (.mv (.tmp 7)), none⟩,
  ⟨(some 43), (.eqv .ptr true (.tmp 42) (.const (.pointer none))), none⟩])
 (.cond (.tmp 43)
 (.seq (.draw 1 [⟨0, [7], ⟨(some 44), (.mv (.tmp 7)), none⟩, 1, 1032⟩,
  ⟨1, [44], ⟨(some 45), (.nilCheck (.tmp 44)), none⟩, 1, 1032⟩,
  ⟨2, [45], ⟨(some 46), (.addOff (.tmp 45) 11), none⟩, 1, 1032⟩,
  ⟨3, [46], ⟨(some 47), (.load (.tmp 46) none), none⟩, 1, 1032⟩,
  ⟨4, [0], ⟨(some 48), (.mv (.tmp 0)), none⟩, 1, 1032⟩,
  ⟨5, [7], ⟨(some 49), (.mv (.tmp 7)), none⟩, 1, 1032⟩,
  ⟨6, [48, 49], ⟨(some 50), (.build [(.pointer none), (.pointer none)] [(0, (1, (.tmp 48))), (1, (1, (.tmp 49)))]), none⟩, 1, 1032⟩,
  ⟨9, [5], ⟨(some 53), (.addOff (.tmp 5) 0), none⟩, 1, 1032⟩,
  ⟨10, [53], ⟨(some 54), (.load (.tmp 53) none), none⟩, 1, 1032⟩,
  ⟨7, [50], ⟨(some 51), (.box (.tmp 50)), none⟩, 0, 1032⟩,
  ⟨8, [51], ⟨(some 52), (.mkIface 179 (.tmp 51)), none⟩, 1, 1032⟩,
  ⟨11, [47, 52, 54], ⟨(some 55), (.call 83 [(.tmp 47), (.tmp 52), (.tmp 54)]), none⟩, 1, 0⟩])
 (.ops [⟨(some 56), (.mv (.tmp 0)), none⟩,
  ⟨(some 57), (.mv (.tmp 7)), none⟩,
  ⟨(some 58), (.call 67 [(.tmp 56), (.tmp 57), (.const (.int .i64 1))]), none⟩]))
 .skip)))
 (.seq (.ops [⟨(some 59), (.mv (.tmp 6)), none⟩,
  ⟨(some 4), (.mv (.tmp 59)), none⟩])
 .ret)))))),
 [(.tmp 4)], 2⟩
/- (*palisade/hyper.Hyper).Inject -/
def c21 : AFunc := ⟨(.seq (.ops [⟨(some 6), (.mv (.const (.int .i64 0))), none⟩])
 (.seq (.ops [⟨(some 11), (.mv (.tmp 0)), none⟩,
  ⟨(some 12), (.mv (.tmp 1)), none⟩,
  ⟨(some 13), (.call 51 [(.tmp 11), (.tmp 12), (.const (.int .i64 0))]), none⟩,
  ⟨(some 10), (.mv (.tmp 13)), none⟩,
  ⟨(some 14), (.extract (.tmp 10) 0), none⟩,
  ⟨(some 15), (.extract (.tmp 10) 1), none⟩,
  ⟨(some 7), (.mv (.tmp 14)), none⟩,
  ⟨(some 8), (.mv (.tmp 15)), none⟩])
 (.seq (.block 0 (.seq (.ops [⟨(some 17), (.mv (.tmp 0)), none⟩,
  ⟨(some 18), (.call 39 [(.tmp 17)]), none⟩,
  ⟨(some 16), (.mv (.tmp 18)), none⟩])
 (.cond (.tmp 16)
 (.seq (.ops [⟨(some 6), (.mv (.const (.int .i64 1))), none⟩])
 .ret)
 (.seq (.ops [⟨(some 20), (.mv (.tmp 7)), none⟩,
  ⟨(some 21), (.eqv .ptr false (.tmp 20) (.const (.pointer none))), none⟩,
  ⟨(some 19), (.mv (.tmp 21)), none⟩])
 (.cond (.tmp 19)
 (.seq (.ops [⟨(some 6), (.mv (.const (.int .i64 14))), none⟩])
 .ret)
 .skip)))))
 (.seq (.ops [⟨(some 22), (.mv (.tmp 0)), none⟩,
  ⟨(some 23), (.nilCheck (.tmp 22)), none⟩,
  ⟨(some 24), (.addOff (.tmp 23) 3), none⟩,
  ⟨(some 25), (.load (.tmp 24) none), none⟩,
  ⟨(some 26), (.mv (.tmp 1)), none⟩,
  ⟨(some 27), (.mv (.tmp 2)), none⟩,
  ⟨(some 28), (.call 84 [(.tmp 25), (.tmp 26), (.tmp 27)]), none⟩,
  ⟨(some 9), (.mv (.tmp 28)), none⟩])
 (.seq (.seq (.ops [⟨(some 29), (.mv (.tmp 9)), none⟩,
  ⟨(some 30), (.bin .eql (.tmp 29) (.const (.int .i64 0))), none⟩])
 (.cond (.tmp 30)
 (.ops [⟨(some 31), (.mv (.tmp 0)), none⟩,
  ⟨(some 32), (.mv (.tmp 7)), none⟩,
  ⟨(some 33), (.call 85 [(.tmp 31), (.tmp 32)]), none⟩])
 .skip))
 (.seq (.ops [⟨(some 34), (.mv (.tmp 9)), none⟩,
  ⟨(some 6), (.mv (.tmp 34)), none⟩])
 .ret)))))),
 [(.tmp 6)], 3⟩
/- (*palisade/hyper.Hyper).Machine -/
def c22 : AFunc := ⟨(.seq (.ops [⟨(some 2), (.mv (.const (.pointer none))), none⟩])
 (.seq (.seq (.ops [⟨(some 3), (.mv (.tmp 0)), none⟩,
  ⟨(some 4), (.call 39 [(.tmp 3)]), none⟩])
 (.cond (.tmp 4)
 (.seq (.ops [⟨(some 2), (.mv (.const (.pointer none))), none⟩])
 .ret)
 .skip))
 (.seq (.ops [⟨(some 5), (.mv (.tmp 0)), none⟩,
  ⟨(some 6), (.nilCheck (.tmp 5)), none⟩,
  ⟨(some 7), (.addOff (.tmp 6) 0), none⟩,
  ⟨(some 8), (.load (.tmp 7) none), none⟩,
  ⟨(some 2), (.mv (.tmp 8)), none⟩])
 .ret))),
 [(.tmp 2)], 1⟩
/- (*palisade/hyper.Hyper).Frames -/
def c23 : AFunc := ⟨(.seq (.ops [⟨(some 2), (.mv (.const (.pointer none))), none⟩])
 (.seq (.seq (.ops [⟨(some 3), (.mv (.tmp 0)), none⟩,
  ⟨(some 4), (.call 39 [(.tmp 3)]), none⟩])
 (.cond (.tmp 4)
 (.seq (.ops [⟨(some 2), (.mv (.const (.pointer none))), none⟩])
 .ret)
 .skip))
 (.seq (.ops [⟨(some 5), (.mv (.tmp 0)), none⟩,
  ⟨(some 6), (.nilCheck (.tmp 5)), none⟩,
  ⟨(some 7), (.addOff (.tmp 6) 1), none⟩,
  ⟨(some 8), (.load (.tmp 7) none), none⟩,
  ⟨(some 2), (.mv (.tmp 8)), none⟩])
 .ret))),
 [(.tmp 2)], 1⟩
/- (*palisade/hyper.Hyper).Disk -/
def c24 : AFunc := ⟨(.seq (.ops [⟨(some 2), (.mv (.const (.pointer none))), none⟩])
 (.seq (.seq (.ops [⟨(some 3), (.mv (.tmp 0)), none⟩,
  ⟨(some 4), (.call 39 [(.tmp 3)]), none⟩])
 (.cond (.tmp 4)
 (.seq (.ops [⟨(some 2), (.mv (.const (.pointer none))), none⟩])
 .ret)
 .skip))
 (.seq (.ops [⟨(some 5), (.mv (.tmp 0)), none⟩,
  ⟨(some 6), (.nilCheck (.tmp 5)), none⟩,
  ⟨(some 7), (.addOff (.tmp 6) 2), none⟩,
  ⟨(some 8), (.load (.tmp 7) none), none⟩,
  ⟨(some 2), (.mv (.tmp 8)), none⟩])
 .ret))),
 [(.tmp 2)], 1⟩
/- (*palisade/hyper.Hyper).Wire -/
def c25 : AFunc := ⟨(.seq (.ops [⟨(some 2), (.mv (.const (.pointer none))), none⟩])
 (.seq (.seq (.ops [⟨(some 3), (.mv (.tmp 0)), none⟩,
  ⟨(some 4), (.call 39 [(.tmp 3)]), none⟩])
 (.cond (.tmp 4)
 (.seq (.ops [⟨(some 2), (.mv (.const (.pointer none))), none⟩])
 .ret)
 .skip))
 (.seq (.ops [⟨(some 5), (.mv (.tmp 0)), none⟩,
  ⟨(some 6), (.nilCheck (.tmp 5)), none⟩,
  ⟨(some 7), (.addOff (.tmp 6) 3), none⟩,
  ⟨(some 8), (.load (.tmp 7) none), none⟩,
  ⟨(some 2), (.mv (.tmp 8)), none⟩])
 .ret))),
 [(.tmp 2)], 1⟩
/- (*palisade/hyper.Hyper).Now -/
def c26 : AFunc := ⟨(.seq (.ops [⟨(some 2), (.mv (.const (.int .u64 0))), none⟩])
 (.seq (.seq (.ops [⟨(some 3), (.mv (.tmp 0)), none⟩,
  ⟨(some 4), (.call 39 [(.tmp 3)]), none⟩])
 (.cond (.tmp 4)
 (.seq (.ops [⟨(some 2), (.mv (.const (.int .u64 0))), none⟩])
 .ret)
 .skip))
 (.seq (.ops [⟨(some 5), (.mv (.tmp 0)), none⟩,
  ⟨(some 6), (.nilCheck (.tmp 5)), none⟩,
  ⟨(some 7), (.addOff (.tmp 6) 8), none⟩,
  ⟨(some 8), (.load (.tmp 7) none), none⟩,
  ⟨(some 2), (.mv (.tmp 8)), none⟩])
 .ret))),
 [(.tmp 2)], 1⟩
/- (*palisade/hyper.Hyper).Guests -/
def c27 : AFunc := ⟨(.seq (.ops [⟨(some 2), (.mv (.const (.slice none 0 0))), none⟩])
 (.seq (.seq (.ops [⟨(some 3), (.mv (.tmp 0)), none⟩,
  ⟨(some 4), (.call 39 [(.tmp 3)]), none⟩])
 (.cond (.tmp 4)
 (.seq (.ops [⟨(some 2), (.mv (.const (.slice none 0 0))), none⟩])
 .ret)
 .skip))
 (.seq (.ops [⟨(some 5), (.mv (.tmp 0)), none⟩,
  ⟨(some 6), (.nilCheck (.tmp 5)), none⟩,
  ⟨(some 7), (.addOff (.tmp 6) 9), none⟩,
  ⟨(some 8), (.load (.tmp 7) none), none⟩,
  ⟨(some 9), (.call 87 [(.tmp 8)]), none⟩,
  ⟨(some 10), (.call 86 [(.tmp 9)]), none⟩,
  ⟨(some 2), (.mv (.tmp 10)), none⟩])
 .ret))),
 [(.tmp 2)], 1⟩
/- (*palisade/hyper.Hyper).none -/
def c39 : AFunc := ⟨(.seq (.ops [⟨(some 2), (.mv (.const (.bool false))), none⟩])
 (.seq (.ops [⟨(some 3), (.mv (.tmp 0)), none⟩,
  ⟨(some 4), (.eqv .ptr false (.tmp 3) (.const (.pointer none))), none⟩,
  ⟨(some 5), (.mv (.tmp 4)), none⟩,
  ⟨(some 6), (.mv (.tmp 0)), (some (5, false))⟩,
  ⟨(some 7), (.nilCheck (.tmp 6)), (some (5, false))⟩,
  ⟨(some 8), (.addOff (.tmp 7) 0), (some (5, false))⟩,
  ⟨(some 9), (.load (.tmp 8) none), (some (5, false))⟩,
  ⟨(some 10), (.eqv .ptr false (.tmp 9) (.const (.pointer none))), (some (5, false))⟩,
  ⟨(some 11), (.pick (.tmp 5) (.const (.bool true)) (.tmp 10)), none⟩,
  ⟨(some 2), (.mv (.tmp 11)), none⟩])
 .ret)),
 [(.tmp 2)], 1⟩
/- (*palisade/hyper.Hyper).of -/
def c51 : AFunc := ⟨(.seq (.ops [⟨(some 6), (.mv (.const (.pointer none))), none⟩,
  ⟨(some 7), (.mv (.const (.pointer none))), none⟩])
 (.seq (.seq (.ops [⟨(some 9), (.mv (.tmp 0)), none⟩,
  ⟨(some 10), (.call 39 [(.tmp 9)]), none⟩])
 (.cond (.tmp 10)
 (.seq (.ops [⟨(some 6), (.mv (.const (.pointer none))), none⟩,
  ⟨(some 7), (.mv (.const (.pointer none))), none⟩])
 .ret)
 .skip))
 (.seq (.ops [⟨(some 11), (.mv (.tmp 0)), none⟩,
  ⟨(some 12), (.nilCheck (.tmp 11)), none⟩,
  ⟨(some 13), (.addOff (.tmp 12) 9), none⟩,
  ⟨(some 14), (.load (.tmp 13) none), none⟩,
  ⟨(some 15), (.mv (.tmp 1)), none⟩,
  ⟨(some 16), (.lookup (false, [.i]) (.tmp 14) (.tmp 15) (.pointer none) false), none⟩,
  ⟨(some 8), (.mv (.tmp 16)), none⟩])
 (.seq (.seq (.ops [⟨(some 17), (.mv (.tmp 8)), none⟩,
  ⟨(some 18), (.eqv .ptr false (.tmp 17) (.const (.pointer none))), none⟩,
  ⟨(some 19), (.mv (.tmp 18)), none⟩,
  ⟨(some 20), (.mv (.tmp 2)), (some (19, false))⟩,
  ⟨(some 21), (.bin .lss (.tmp 20) (.const (.int .i64 0))), (some (19, false))⟩,
  ⟨(some 22), (.pick (.tmp 19) (.const (.bool true)) (.tmp 21)), none⟩,
  ⟨(some 23), (.mv (.tmp 22)), none⟩,
  ⟨(some 24), (.mv (.tmp 2)), (some (23, false))⟩,
  ⟨(some 25), (.mv (.tmp 8)), (some (23, false))⟩,
  ⟨(some 26), (.nilCheck (.tmp 25)), (some (23, false))⟩,
  ⟨(some 27), (.addOff (.tmp 26) 3), (some (23, false))⟩,
  ⟨(some 28), (.load (.tmp 27) none), (some (23, false))⟩,
  ⟨(some 29), (.len false (.tmp 28)), (some (23, false))⟩,
  ⟨(some 30), (.bin .geq (.tmp 24) (.tmp 29)), (some (23, false))⟩,
  ⟨(some 31), (.pick (.tmp 23) (.const (.bool true)) (.tmp 30)), none⟩])
 (.cond (.tmp 31)
 (.seq (.ops [⟨(some 6), (.mv (.const (.pointer none))), none⟩,
  ⟨(some 7), (.mv (.const (.pointer none))), none⟩])
 .ret)
 .skip))
 (.seq (.draw 0 [⟨0, [8], ⟨(some 32), (.mv (.tmp 8)), none⟩, 0, 144⟩,
  ⟨1, [8], ⟨(some 33), (.mv (.tmp 8)), none⟩, 0, 144⟩,
  ⟨2, [33], ⟨(some 34), (.nilCheck (.tmp 33)), none⟩, 0, 144⟩,
  ⟨3, [34], ⟨(some 35), (.addOff (.tmp 34) 3), none⟩, 0, 144⟩,
  ⟨4, [35], ⟨(some 36), (.load (.tmp 35) none), none⟩, 0, 144⟩,
  ⟨5, [2], ⟨(some 37), (.mv (.tmp 2)), none⟩, 0, 144⟩,
  ⟨6, [36, 37], ⟨(some 38), (.ixS (.tmp 36) (.tmp 37) 1), none⟩, 0, 128⟩,
  ⟨7, [38], ⟨(some 39), (.load (.tmp 38) none), none⟩, 0, 128⟩,
  ⟨8, [32], ⟨(some 6), (.mv (.tmp 32)), none⟩, 0, 144⟩,
  ⟨9, [39], ⟨(some 7), (.mv (.tmp 39)), none⟩, 0, 0⟩])
 .ret))))),
 [(.tmp 6), (.tmp 7)], 3⟩
def tableL : List (Nat × XFunc) := [(4, ⟨11972621413363205849651627136198286095031530104553427, c4⟩), (8, ⟨5316911983284734589973487346009001979, c8⟩), (11, ⟨16435, c11⟩), (13, ⟨34604743, c13⟩), (14, ⟨38685626515900708766136307, c14⟩), (15, ⟨2362823, c15⟩), (16, ⟨262855, c16⟩), (17, ⟨34368154567, c17⟩), (18, ⟨19807040628854380745273119731, c18⟩), (19, ⟨33056565381049589172723, c19⟩), (20, ⟨8800387990259, c20⟩), (21, ⟨1074332359, c21⟩), (22, ⟨21, c22⟩), (23, ⟨21, c23⟩), (24, ⟨21, c24⟩), (25, ⟨21, c25⟩), (26, ⟨21, c26⟩), (27, ⟨21, c27⟩), (39, ⟨5, c39⟩), (51, ⟨2147485127, c51⟩)]
def A : FuncId → Option XFunc := fun f => (Tr.ofPairs tableL .leaf).get f
theorem ok4 : callable Tryz.prog 4 = true ∧ compileFunc Tryz.prog tab mrows Tryz.f4 = some c4 := ⟨by kernel_rfl, by kernel_rfl⟩
theorem ok8 : callable Tryz.prog 8 = true ∧ compileFunc Tryz.prog tab mrows Tryz.f8 = some c8 := ⟨by kernel_rfl, by kernel_rfl⟩
theorem ok11 : callable Tryz.prog 11 = true ∧ compileFunc Tryz.prog tab mrows Tryz.f11 = some c11 := ⟨by kernel_rfl, by kernel_rfl⟩
theorem ok13 : callable Tryz.prog 13 = true ∧ compileFunc Tryz.prog tab mrows Tryz.f13 = some c13 := ⟨by kernel_rfl, by kernel_rfl⟩
theorem ok14 : callable Tryz.prog 14 = true ∧ compileFunc Tryz.prog tab mrows Tryz.f14 = some c14 := ⟨by kernel_rfl, by kernel_rfl⟩
theorem ok15 : callable Tryz.prog 15 = true ∧ compileFunc Tryz.prog tab mrows Tryz.f15 = some c15 := ⟨by kernel_rfl, by kernel_rfl⟩
theorem ok16 : callable Tryz.prog 16 = true ∧ compileFunc Tryz.prog tab mrows Tryz.f16 = some c16 := ⟨by kernel_rfl, by kernel_rfl⟩
theorem ok17 : callable Tryz.prog 17 = true ∧ compileFunc Tryz.prog tab mrows Tryz.f17 = some c17 := ⟨by kernel_rfl, by kernel_rfl⟩
theorem ok18 : callable Tryz.prog 18 = true ∧ compileFunc Tryz.prog tab mrows Tryz.f18 = some c18 := ⟨by kernel_rfl, by kernel_rfl⟩
theorem ok19 : callable Tryz.prog 19 = true ∧ compileFunc Tryz.prog tab mrows Tryz.f19 = some c19 := ⟨by kernel_rfl, by kernel_rfl⟩
theorem ok20 : callable Tryz.prog 20 = true ∧ compileFunc Tryz.prog tab mrows Tryz.f20 = some c20 := ⟨by kernel_rfl, by kernel_rfl⟩
theorem ok21 : callable Tryz.prog 21 = true ∧ compileFunc Tryz.prog tab mrows Tryz.f21 = some c21 := ⟨by kernel_rfl, by kernel_rfl⟩
theorem ok22 : callable Tryz.prog 22 = true ∧ compileFunc Tryz.prog tab mrows Tryz.f22 = some c22 := ⟨by kernel_rfl, by kernel_rfl⟩
theorem ok23 : callable Tryz.prog 23 = true ∧ compileFunc Tryz.prog tab mrows Tryz.f23 = some c23 := ⟨by kernel_rfl, by kernel_rfl⟩
theorem ok24 : callable Tryz.prog 24 = true ∧ compileFunc Tryz.prog tab mrows Tryz.f24 = some c24 := ⟨by kernel_rfl, by kernel_rfl⟩
theorem ok25 : callable Tryz.prog 25 = true ∧ compileFunc Tryz.prog tab mrows Tryz.f25 = some c25 := ⟨by kernel_rfl, by kernel_rfl⟩
theorem ok26 : callable Tryz.prog 26 = true ∧ compileFunc Tryz.prog tab mrows Tryz.f26 = some c26 := ⟨by kernel_rfl, by kernel_rfl⟩
theorem ok27 : callable Tryz.prog 27 = true ∧ compileFunc Tryz.prog tab mrows Tryz.f27 = some c27 := ⟨by kernel_rfl, by kernel_rfl⟩
theorem ok39 : callable Tryz.prog 39 = true ∧ compileFunc Tryz.prog tab mrows Tryz.f39 = some c39 := ⟨by kernel_rfl, by kernel_rfl⟩
theorem ok51 : callable Tryz.prog 51 = true ∧ compileFunc Tryz.prog tab mrows Tryz.f51 = some c51 := ⟨by kernel_rfl, by kernel_rfl⟩
theorem entries : ∀ p ∈ tableL, EntryOK Tryz.prog tab mrows p :=
  List.forall_mem_cons.2 ⟨⟨ok4.1, Tryz.f4, Tryz.func4, ok4.2⟩,
  List.forall_mem_cons.2 ⟨⟨ok8.1, Tryz.f8, Tryz.func8, ok8.2⟩,
  List.forall_mem_cons.2 ⟨⟨ok11.1, Tryz.f11, Tryz.func11, ok11.2⟩,
  List.forall_mem_cons.2 ⟨⟨ok13.1, Tryz.f13, Tryz.func13, ok13.2⟩,
  List.forall_mem_cons.2 ⟨⟨ok14.1, Tryz.f14, Tryz.func14, ok14.2⟩,
  List.forall_mem_cons.2 ⟨⟨ok15.1, Tryz.f15, Tryz.func15, ok15.2⟩,
  List.forall_mem_cons.2 ⟨⟨ok16.1, Tryz.f16, Tryz.func16, ok16.2⟩,
  List.forall_mem_cons.2 ⟨⟨ok17.1, Tryz.f17, Tryz.func17, ok17.2⟩,
  List.forall_mem_cons.2 ⟨⟨ok18.1, Tryz.f18, Tryz.func18, ok18.2⟩,
  List.forall_mem_cons.2 ⟨⟨ok19.1, Tryz.f19, Tryz.func19, ok19.2⟩,
  List.forall_mem_cons.2 ⟨⟨ok20.1, Tryz.f20, Tryz.func20, ok20.2⟩,
  List.forall_mem_cons.2 ⟨⟨ok21.1, Tryz.f21, Tryz.func21, ok21.2⟩,
  List.forall_mem_cons.2 ⟨⟨ok22.1, Tryz.f22, Tryz.func22, ok22.2⟩,
  List.forall_mem_cons.2 ⟨⟨ok23.1, Tryz.f23, Tryz.func23, ok23.2⟩,
  List.forall_mem_cons.2 ⟨⟨ok24.1, Tryz.f24, Tryz.func24, ok24.2⟩,
  List.forall_mem_cons.2 ⟨⟨ok25.1, Tryz.f25, Tryz.func25, ok25.2⟩,
  List.forall_mem_cons.2 ⟨⟨ok26.1, Tryz.f26, Tryz.func26, ok26.2⟩,
  List.forall_mem_cons.2 ⟨⟨ok27.1, Tryz.f27, Tryz.func27, ok27.2⟩,
  List.forall_mem_cons.2 ⟨⟨ok39.1, Tryz.f39, Tryz.func39, ok39.2⟩,
  List.forall_mem_cons.2 ⟨⟨ok51.1, Tryz.f51, Tryz.func51, ok51.2⟩,
  fun _ h => nomatch h⟩⟩⟩⟩⟩⟩⟩⟩⟩⟩⟩⟩⟩⟩⟩⟩⟩⟩⟩⟩
theorem aok : AOK Tryz.prog tab mrows (plainA A) := aok_of_list tableL entries
theorem ctx : Ctx Tryz.prog tab mrows := ⟨tabC_ok _, zeroC_ok _, rowsOK_of (by kernel_rfl), by decide +kernel, by kernel_rfl⟩
end Go.Proofs.YtejagglofobcgaaGreatDoor.Tab
