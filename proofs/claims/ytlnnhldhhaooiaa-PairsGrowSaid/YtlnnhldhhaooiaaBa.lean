import Derived.Test.YtlnnhldhhaooiaaAj

set_option linter.unusedVariables false
set_option linter.unusedSimpArgs false
set_option linter.unusedSectionVars false
set_option linter.unnecessarySimpa false

section
/- Printed by Tb.lean: the abstract machine's code of functions of the program. -/
namespace Go.Proofs.Tryt17A
open Go Go.AM

def M (f : Nat) : Bool := [3, 4, 5, 6, 8, 9, 10, 11, 13, 14, 15, 16, 17, 18, 19, 20, 24, 25, 26, 31, 32, 35, 42, 44, 45, 46].contains f

-- F3 resolvent/resolventlaw17.PairsTells
def c3_r0 : List AO := [
  ⟨some 6, .mv (.c (.bool false)), none⟩]
def c3_r1 : List AO := [
  ⟨some 25, .mv (.t 0), none⟩,
  ⟨some 26, .len 1 (.t 25), none⟩,
  ⟨some 27, .mv (.t 1), none⟩,
  ⟨some 28, .len 1 (.t 27), none⟩,
  ⟨some 29, .mv (.t 2), none⟩,
  ⟨some 30, .len 1 (.t 29), none⟩,
  ⟨some 31, .lit 3 [(.int .i64 0)] [(0, (.t 26)), (1, (.t 28)), (2, (.t 30))], none⟩,
  ⟨some 32, .callf 5 [(.t 31)], none⟩]
def c3_r2 : List AO := [
  ⟨some 33, .callf 6 [], none⟩,
  ⟨some 6, .mv (.t 33), none⟩]
def c3_r3 : List AO := [
  ⟨some 34, .mv (.t 0), none⟩,
  ⟨some 35, .append 2 16 (.c .nils) (.t 34), none⟩,
  ⟨some 7, .mv (.t 35), none⟩]
def c3_r4 : List AO := [
  ⟨some 36, .mv (.t 2), none⟩,
  ⟨some 37, .append 1 8 (.c .nils) (.t 36), none⟩,
  ⟨some 8, .mv (.t 37), none⟩]
def c3_r5 : List AO := [
  ⟨some 38, .mv (.t 0), none⟩,
  ⟨some 39, .callf 7 [(.t 38)], none⟩,
  ⟨some 40, .mv (.t 0), none⟩,
  ⟨some 41, .mv (.t 1), none⟩,
  ⟨some 42, .callf 8 [(.t 40), (.t 41)], none⟩,
  ⟨some 43, .mv (.t 0), none⟩,
  ⟨some 44, .mv (.t 2), none⟩,
  ⟨some 45, .callf 9 [(.t 43), (.t 44)], none⟩,
  ⟨some 46, .mv (.t 0), none⟩,
  ⟨some 47, .mv (.t 2), none⟩,
  ⟨some 48, .callf 10 [(.t 46), (.t 47)], none⟩,
  ⟨some 49, .mv (.t 0), none⟩,
  ⟨some 50, .mv (.t 2), none⟩,
  ⟨some 51, .callf 11 [(.t 49), (.t 50)], none⟩,
  ⟨some 52, .mv (.t 2), none⟩,
  ⟨some 53, .callf 12 [(.t 52)], none⟩,
  ⟨some 9, .mv (.t 39), none⟩,
  ⟨some 10, .mv (.t 42), none⟩,
  ⟨some 11, .mv (.t 45), none⟩,
  ⟨some 12, .mv (.t 48), none⟩,
  ⟨some 13, .mv (.t 51), none⟩,
  ⟨some 14, .mv (.t 53), none⟩]
def c3_r6 : List AO := [
  ⟨some 54, .mv (.t 9), none⟩,
  ⟨some 55, .callf 13 [(.t 54)], none⟩,
  ⟨some 56, .un .not (.t 55), none⟩,
  ⟨some 57, .mv (.t 56), none⟩,
  ⟨some 58, .mv (.t 10), some (57, false)⟩,
  ⟨some 59, .callf 13 [(.t 58)], some (57, false)⟩,
  ⟨some 60, .un .not (.t 59), some (57, false)⟩,
  ⟨some 61, .pick (.t 57) (.c (.bool true)) (.t 60), none⟩,
  ⟨some 62, .mv (.t 61), none⟩,
  ⟨some 63, .mv (.t 11), some (62, false)⟩,
  ⟨some 64, .callf 13 [(.t 63)], some (62, false)⟩,
  ⟨some 65, .un .not (.t 64), some (62, false)⟩,
  ⟨some 66, .pick (.t 62) (.c (.bool true)) (.t 65), none⟩,
  ⟨some 67, .mv (.t 66), none⟩,
  ⟨some 68, .mv (.t 12), some (67, false)⟩,
  ⟨some 69, .callf 13 [(.t 68)], some (67, false)⟩,
  ⟨some 70, .un .not (.t 69), some (67, false)⟩,
  ⟨some 71, .pick (.t 67) (.c (.bool true)) (.t 70), none⟩,
  ⟨some 72, .mv (.t 71), none⟩,
  ⟨some 73, .mv (.t 13), some (72, false)⟩,
  ⟨some 74, .callf 14 [(.t 73)], some (72, false)⟩,
  ⟨some 75, .un .not (.t 74), some (72, false)⟩,
  ⟨some 76, .pick (.t 72) (.c (.bool true)) (.t 75), none⟩,
  ⟨some 77, .mv (.t 76), none⟩,
  ⟨some 78, .mv (.t 14), some (77, false)⟩,
  ⟨some 79, .callf 14 [(.t 78)], some (77, false)⟩,
  ⟨some 80, .un .not (.t 79), some (77, false)⟩,
  ⟨some 81, .pick (.t 77) (.c (.bool true)) (.t 80), none⟩]
def c3_r7 : List AO := [
  ⟨some 6, .mv (.c (.bool false)), none⟩]
def c3_r8 : List AO := [
  ⟨some 82, .mv (.t 0), none⟩,
  ⟨some 83, .mv (.t 1), none⟩,
  ⟨some 84, .mv (.t 2), none⟩,
  ⟨some 85, .callf 15 [(.t 82), (.t 83), (.t 84)], none⟩,
  ⟨some 15, .mv (.t 85), none⟩]
def c3_r9 : List AO := [
  ⟨some 16, .mv (.c (.int .i64 0)), none⟩]
def c3_r10 : List AO := [
  ⟨some 86, .mv (.t 16), none⟩,
  ⟨some 87, .mv (.t 15), none⟩,
  ⟨some 88, .len 1 (.t 87), none⟩,
  ⟨some 89, .bin .lss (.t 86) (.t 88), none⟩]
def c3_r11 : List AO := [
  ⟨some 92, .mv (.t 15), none⟩,
  ⟨some 93, .mv (.t 16), none⟩,
  ⟨some 94, .ixs 1 (.t 92) (.t 93), none⟩,
  ⟨some 95, .load false 1 (.t 94), none⟩,
  ⟨some 17, .mv (.t 95), none⟩]
def c3_r12 : List AO := [
  ⟨some 96, .mv (.t 13), none⟩,
  ⟨some 97, .mv (.t 17), none⟩,
  ⟨some 98, .callf 16 [(.t 96), (.t 97)], none⟩,
  ⟨some 99, .mv (.t 0), none⟩,
  ⟨some 100, .mv (.t 2), none⟩,
  ⟨some 101, .mv (.t 17), none⟩,
  ⟨some 102, .callf 17 [(.t 99), (.t 100), (.t 101)], none⟩,
  ⟨some 103, .binb .neq (.t 98) (.t 102), none⟩,
  ⟨some 104, .mv (.t 103), none⟩,
  ⟨some 105, .mv (.t 14), some (104, false)⟩,
  ⟨some 106, .mv (.t 17), some (104, false)⟩,
  ⟨some 107, .callf 16 [(.t 105), (.t 106)], some (104, false)⟩,
  ⟨some 108, .mv (.t 2), some (104, false)⟩,
  ⟨some 109, .mv (.t 17), some (104, false)⟩,
  ⟨some 110, .callf 16 [(.t 108), (.t 109)], some (104, false)⟩,
  ⟨some 111, .binb .neq (.t 107) (.t 110), some (104, false)⟩,
  ⟨some 112, .pick (.t 104) (.c (.bool true)) (.t 111), none⟩]
def c3_r13 : List AO := [
  ⟨some 6, .mv (.c (.bool false)), none⟩]
def c3_r14 : List AO := [
  ⟨some 18, .mv (.c (.int .i64 0)), none⟩]
def c3_r15 : List AO := [
  ⟨some 113, .mv (.t 18), none⟩,
  ⟨some 114, .mv (.t 15), none⟩,
  ⟨some 115, .len 1 (.t 114), none⟩,
  ⟨some 116, .bin .lss (.t 113) (.t 115), none⟩]
def c3_r16 : List AO := [
  ⟨some 119, .mv (.t 15), none⟩,
  ⟨some 120, .mv (.t 18), none⟩,
  ⟨some 121, .ixs 1 (.t 119) (.t 120), none⟩,
  ⟨some 122, .load false 1 (.t 121), none⟩,
  ⟨some 19, .mv (.t 122), none⟩]
def c3_r17 : List AO := [
  ⟨some 123, .mv (.t 0), none⟩,
  ⟨some 124, .mv (.t 17), none⟩,
  ⟨some 125, .mv (.t 19), none⟩,
  ⟨some 126, .callf 18 [(.t 123), (.t 124), (.t 125)], none⟩,
  ⟨some 20, .mv (.t 126), none⟩]
def c3_r18 : List AO := [
  ⟨some 127, .mv (.t 0), none⟩,
  ⟨some 128, .mv (.t 17), none⟩,
  ⟨some 129, .mv (.t 19), none⟩,
  ⟨some 130, .callf 19 [(.t 127), (.t 128), (.t 129)], none⟩,
  ⟨some 131, .mv (.t 20), none⟩,
  ⟨some 132, .binb .neq (.t 130) (.t 131), none⟩,
  ⟨some 133, .mv (.t 132), none⟩,
  ⟨some 134, .mv (.t 9), some (133, false)⟩,
  ⟨some 135, .mv (.t 17), some (133, false)⟩,
  ⟨some 136, .mv (.t 19), some (133, false)⟩,
  ⟨some 137, .callf 18 [(.t 134), (.t 135), (.t 136)], some (133, false)⟩,
  ⟨some 138, .mv (.t 20), some (133, false)⟩,
  ⟨some 139, .binb .neq (.t 137) (.t 138), some (133, false)⟩,
  ⟨some 140, .pick (.t 133) (.c (.bool true)) (.t 139), none⟩,
  ⟨some 141, .mv (.t 140), none⟩,
  ⟨some 142, .mv (.t 10), some (141, false)⟩,
  ⟨some 143, .mv (.t 17), some (141, false)⟩,
  ⟨some 144, .mv (.t 19), some (141, false)⟩,
  ⟨some 145, .callf 18 [(.t 142), (.t 143), (.t 144)], some (141, false)⟩,
  ⟨some 146, .mv (.t 20), some (141, false)⟩,
  ⟨some 147, .mv (.t 146), some (141, false)⟩,
  ⟨some 148, .mv (.t 1), some (147, false)⟩,
  ⟨some 149, .mv (.t 17), some (147, false)⟩,
  ⟨some 150, .mv (.t 19), some (147, false)⟩,
  ⟨some 151, .callf 18 [(.t 148), (.t 149), (.t 150)], some (147, false)⟩,
  ⟨some 152, .pick (.t 147) (.c (.bool true)) (.t 151), some (141, false)⟩,
  ⟨some 153, .binb .neq (.t 145) (.t 152), some (141, false)⟩,
  ⟨some 154, .pick (.t 141) (.c (.bool true)) (.t 153), none⟩,
  ⟨some 155, .mv (.t 154), none⟩,
  ⟨some 156, .mv (.t 11), some (155, false)⟩,
  ⟨some 157, .mv (.t 17), some (155, false)⟩,
  ⟨some 158, .mv (.t 19), some (155, false)⟩,
  ⟨some 159, .callf 18 [(.t 156), (.t 157), (.t 158)], some (155, false)⟩,
  ⟨some 160, .mv (.t 20), some (155, false)⟩,
  ⟨some 161, .mv (.t 160), some (155, false)⟩,
  ⟨some 162, .mv (.t 17), some (161, false)⟩,
  ⟨some 163, .mv (.t 19), some (161, false)⟩,
  ⟨some 164, .bin .neq (.t 162) (.t 163), some (161, false)⟩,
  ⟨some 165, .mv (.t 164), some (161, false)⟩,
  ⟨some 166, .mv (.t 2), some (165, true)⟩,
  ⟨some 167, .mv (.t 17), some (165, true)⟩,
  ⟨some 168, .callf 16 [(.t 166), (.t 167)], some (165, true)⟩,
  ⟨some 169, .pick (.t 165) (.t 168) (.c (.bool false)), some (161, false)⟩,
  ⟨some 170, .mv (.t 169), some (161, false)⟩,
  ⟨some 171, .mv (.t 2), some (170, true)⟩,
  ⟨some 172, .mv (.t 19), some (170, true)⟩,
  ⟨some 173, .callf 16 [(.t 171), (.t 172)], some (170, true)⟩,
  ⟨some 174, .pick (.t 170) (.t 173) (.c (.bool false)), some (161, false)⟩,
  ⟨some 175, .pick (.t 161) (.c (.bool true)) (.t 174), some (155, false)⟩,
  ⟨some 176, .binb .neq (.t 159) (.t 175), some (155, false)⟩,
  ⟨some 177, .pick (.t 155) (.c (.bool true)) (.t 176), none⟩,
  ⟨some 178, .mv (.t 177), none⟩,
  ⟨some 179, .mv (.t 12), some (178, false)⟩,
  ⟨some 180, .mv (.t 17), some (178, false)⟩,
  ⟨some 181, .mv (.t 19), some (178, false)⟩,
  ⟨some 182, .callf 18 [(.t 179), (.t 180), (.t 181)], some (178, false)⟩,
  ⟨some 183, .mv (.t 20), some (178, false)⟩,
  ⟨some 184, .mv (.t 183), some (178, false)⟩,
  ⟨some 185, .mv (.t 2), some (184, true)⟩,
  ⟨some 186, .mv (.t 17), some (184, true)⟩,
  ⟨some 187, .callf 16 [(.t 185), (.t 186)], some (184, true)⟩,
  ⟨some 188, .un .not (.t 187), some (184, true)⟩,
  ⟨some 189, .pick (.t 184) (.t 188) (.c (.bool false)), some (178, false)⟩,
  ⟨some 190, .mv (.t 189), some (178, false)⟩,
  ⟨some 191, .mv (.t 2), some (190, true)⟩,
  ⟨some 192, .mv (.t 19), some (190, true)⟩,
  ⟨some 193, .callf 16 [(.t 191), (.t 192)], some (190, true)⟩,
  ⟨some 194, .un .not (.t 193), some (190, true)⟩,
  ⟨some 195, .pick (.t 190) (.t 194) (.c (.bool false)), some (178, false)⟩,
  ⟨some 196, .binb .neq (.t 182) (.t 195), some (178, false)⟩,
  ⟨some 197, .pick (.t 178) (.c (.bool true)) (.t 196), none⟩]
def c3_r19 : List AO := [
  ⟨some 6, .mv (.c (.bool false)), none⟩]
def c3_r20 : List AO := [
  ⟨some 117, .mv (.t 18), none⟩,
  ⟨some 118, .bin .add (.t 117) (.c (.int .i64 1)), none⟩,
  ⟨some 18, .mv (.t 118), none⟩]
def c3_lb1 : AC := (.seq (.seq (.region c3_r15 [] [])
 (.cond (.t 116) .skip (.exit 2)))
 (.seq (.block 3 (.seq (.region c3_r16 [] [])
 (.seq (.region c3_r17 [] [])
 (.seq (.region c3_r18 [] [])
 (.cond (.t 197) (.seq (.region c3_r19 [] [])
 .ret) .skip)))))
 (.region c3_r20 [] [])))
def c3_l1 : AC := .loop c3_lb1
def c3_r21 : List AO := [
  ⟨some 90, .mv (.t 16), none⟩,
  ⟨some 91, .bin .add (.t 90) (.c (.int .i64 1)), none⟩,
  ⟨some 16, .mv (.t 91), none⟩]
def c3_lb0 : AC := (.seq (.seq (.region c3_r10 [] [])
 (.cond (.t 89) .skip (.exit 0)))
 (.seq (.block 1 (.seq (.region c3_r11 [] [])
 (.seq (.seq (.region c3_r12 [] [])
 (.cond (.t 112) (.seq (.region c3_r13 [] [])
 .ret) .skip))
 (.seq (.region c3_r14 [] [])
 (.block 2 c3_l1)))))
 (.region c3_r21 [] [])))
def c3_l0 : AC := .loop c3_lb0
def c3_r22 : List AO := [
  ⟨some 21, .mv (.c (.int .i64 0)), none⟩]
def c3_r23 : List AO := [
  ⟨some 22, .mv (.c (.int .i64 0)), none⟩]
def c3_r24 : List AO := [
  ⟨some 198, .mv (.t 22), none⟩,
  ⟨some 199, .mv (.t 9), none⟩,
  ⟨some 200, .len 1 (.t 199), none⟩,
  ⟨some 201, .bin .lss (.t 198) (.t 200), none⟩]
def c3_r25 : List AO := [
  ⟨some 204, .mv (.t 0), none⟩,
  ⟨some 205, .mv (.t 9), none⟩,
  ⟨some 206, .mv (.t 22), none⟩,
  ⟨some 207, .ixs 2 (.t 205) (.t 206), none⟩,
  ⟨some 208, .ixa 2 1 (.t 207) (.c (.int .i64 0)), none⟩,
  ⟨some 209, .load false 1 (.t 208), none⟩,
  ⟨some 210, .mv (.t 9), none⟩,
  ⟨some 211, .mv (.t 22), none⟩,
  ⟨some 212, .ixs 2 (.t 210) (.t 211), none⟩,
  ⟨some 213, .ixa 2 1 (.t 212) (.c (.int .i64 1)), none⟩,
  ⟨some 214, .load false 1 (.t 213), none⟩,
  ⟨some 215, .callf 18 [(.t 204), (.t 209), (.t 214)], none⟩]
def c3_r26 : List AO := [
  ⟨some 216, .mv (.t 21), none⟩,
  ⟨some 217, .bin .add (.t 216) (.c (.int .i64 1)), none⟩,
  ⟨some 21, .mv (.t 217), none⟩]
def c3_r27 : List AO := [
  ⟨some 202, .mv (.t 22), none⟩,
  ⟨some 203, .bin .add (.t 202) (.c (.int .i64 1)), none⟩,
  ⟨some 22, .mv (.t 203), none⟩]
def c3_lb2 : AC := (.seq (.seq (.region c3_r24 [] [])
 (.cond (.t 201) .skip (.exit 4)))
 (.seq (.block 5 (.seq (.region c3_r25 [] [])
 (.cond (.t 215) (.region c3_r26 [] []) .skip)))
 (.region c3_r27 [] [])))
def c3_l2 : AC := .loop c3_lb2
def c3_r28 : List AO := [
  ⟨some 23, .mv (.c (.int .i64 0)), none⟩]
def c3_r29 : List AO := [
  ⟨some 218, .mv (.t 23), none⟩,
  ⟨some 219, .mv (.t 0), none⟩,
  ⟨some 220, .len 1 (.t 219), none⟩,
  ⟨some 221, .bin .lss (.t 218) (.t 220), none⟩]
def c3_r30 : List AO := [
  ⟨some 224, .mv (.t 0), none⟩,
  ⟨some 225, .mv (.t 23), none⟩,
  ⟨some 226, .ixs 2 (.t 224) (.t 225), none⟩,
  ⟨some 227, .load true 2 (.t 226), none⟩,
  ⟨some 228, .mv (.t 7), none⟩,
  ⟨some 229, .mv (.t 23), none⟩,
  ⟨some 230, .ixs 2 (.t 228) (.t 229), none⟩,
  ⟨some 231, .load true 2 (.t 230), none⟩,
  ⟨some 232, .eqa true [1, 1] (.t 227) (.t 231), none⟩]
def c3_r31 : List AO := [
  ⟨some 6, .mv (.c (.bool false)), none⟩]
def c3_r32 : List AO := [
  ⟨some 222, .mv (.t 23), none⟩,
  ⟨some 223, .bin .add (.t 222) (.c (.int .i64 1)), none⟩,
  ⟨some 23, .mv (.t 223), none⟩]
def c3_lb3 : AC := (.seq (.seq (.region c3_r29 [] [])
 (.cond (.t 221) .skip (.exit 6)))
 (.seq (.block 7 (.seq (.region c3_r30 [] [])
 (.cond (.t 232) (.seq (.region c3_r31 [] [])
 .ret) .skip)))
 (.region c3_r32 [] [])))
def c3_l3 : AC := .loop c3_lb3
def c3_r33 : List AO := [
  ⟨some 24, .mv (.c (.int .i64 0)), none⟩]
def c3_r34 : List AO := [
  ⟨some 233, .mv (.t 24), none⟩,
  ⟨some 234, .mv (.t 2), none⟩,
  ⟨some 235, .len 1 (.t 234), none⟩,
  ⟨some 236, .bin .lss (.t 233) (.t 235), none⟩]
def c3_r35 : List AO := [
  ⟨some 239, .mv (.t 2), none⟩,
  ⟨some 240, .mv (.t 24), none⟩,
  ⟨some 241, .ixs 1 (.t 239) (.t 240), none⟩,
  ⟨some 242, .load false 1 (.t 241), none⟩,
  ⟨some 243, .mv (.t 8), none⟩,
  ⟨some 244, .mv (.t 24), none⟩,
  ⟨some 245, .ixs 1 (.t 243) (.t 244), none⟩,
  ⟨some 246, .load false 1 (.t 245), none⟩,
  ⟨some 247, .bin .neq (.t 242) (.t 246), none⟩]
def c3_r36 : List AO := [
  ⟨some 6, .mv (.c (.bool false)), none⟩]
def c3_r37 : List AO := [
  ⟨some 237, .mv (.t 24), none⟩,
  ⟨some 238, .bin .add (.t 237) (.c (.int .i64 1)), none⟩,
  ⟨some 24, .mv (.t 238), none⟩]
def c3_lb4 : AC := (.seq (.seq (.region c3_r34 [] [])
 (.cond (.t 236) .skip (.exit 8)))
 (.seq (.block 9 (.seq (.region c3_r35 [] [])
 (.cond (.t 247) (.seq (.region c3_r36 [] [])
 .ret) .skip)))
 (.region c3_r37 [] [])))
def c3_l4 : AC := .loop c3_lb4
def c3_r38 : List AO := [
  ⟨some 248, .mv (.t 21), none⟩,
  ⟨some 249, .mv (.t 9), none⟩,
  ⟨some 250, .len 1 (.t 249), none⟩,
  ⟨some 251, .bin .eql (.t 248) (.t 250), none⟩,
  ⟨some 252, .mv (.t 251), none⟩,
  ⟨some 253, .callf 6 [], some (252, true)⟩,
  ⟨some 254, .pick (.t 252) (.t 253) (.c (.bool false)), none⟩,
  ⟨some 6, .mv (.t 254), none⟩]
def c3 : AC := (.seq (.region c3_r0 [] [])
 (.seq (.seq (.region c3_r1 [] [])
 (.cond (.t 32) (.seq (.region c3_r2 [] [])
 .ret) .skip))
 (.seq (.region c3_r3 [] [])
 (.seq (.region c3_r4 [] [])
 (.seq (.region c3_r5 [] [])
 (.seq (.seq (.region c3_r6 [] [])
 (.cond (.t 81) (.seq (.region c3_r7 [] [])
 .ret) .skip))
 (.seq (.region c3_r8 [] [])
 (.seq (.seq (.region c3_r9 [] [])
 (.block 0 c3_l0))
 (.seq (.region c3_r22 [] [])
 (.seq (.seq (.region c3_r23 [] [])
 (.block 4 c3_l2))
 (.seq (.seq (.region c3_r28 [] [])
 (.block 6 c3_l3))
 (.seq (.seq (.region c3_r33 [] [])
 (.block 8 c3_l4))
 (.seq (.region c3_r38 [] [])
 .ret)))))))))))))
def a3 : AFn := ⟨255, [.t 6], 2, c3⟩

-- F4 resolvent/resolventlaw17.PairsGrow
def c4_r0 : List AO := [
  ⟨some 8, .mv (.c (.bool false)), none⟩]
def c4_r1 : List AO := [
  ⟨some 21, .mv (.t 0), none⟩,
  ⟨some 22, .len 1 (.t 21), none⟩,
  ⟨some 23, .mv (.t 1), none⟩,
  ⟨some 24, .len 1 (.t 23), none⟩,
  ⟨some 25, .mv (.t 2), none⟩,
  ⟨some 26, .len 1 (.t 25), none⟩,
  ⟨some 27, .mv (.t 3), none⟩,
  ⟨some 28, .len 1 (.t 27), none⟩,
  ⟨some 29, .lit 4 [(.int .i64 0)] [(0, (.t 22)), (1, (.t 24)), (2, (.t 26)), (3, (.t 28))], none⟩,
  ⟨some 30, .callf 5 [(.t 29)], none⟩]
def c4_r2 : List AO := [
  ⟨some 31, .callf 6 [], none⟩,
  ⟨some 8, .mv (.t 31), none⟩]
def c4_r3 : List AO := [
  ⟨some 32, .mv (.t 0), none⟩,
  ⟨some 33, .mv (.t 1), none⟩,
  ⟨some 34, .callf 8 [(.t 32), (.t 33)], none⟩,
  ⟨some 9, .mv (.t 34), none⟩]
def c4_r4 : List AO := [
  ⟨some 35, .mv (.t 0), none⟩,
  ⟨some 36, .mv (.t 2), none⟩,
  ⟨some 37, .callf 9 [(.t 35), (.t 36)], none⟩,
  ⟨some 10, .mv (.t 37), none⟩]
def c4_r5 : List AO := [
  ⟨some 38, .mv (.t 2), none⟩,
  ⟨some 39, .append 1 8 (.c .nils) (.t 38), none⟩,
  ⟨some 40, .mv (.t 3), none⟩,
  ⟨some 41, .append 1 8 (.t 39) (.t 40), none⟩,
  ⟨some 11, .mv (.t 41), none⟩]
def c4_r6 : List AO := [
  ⟨some 42, .mv (.t 0), none⟩,
  ⟨some 43, .mv (.t 2), none⟩,
  ⟨some 44, .callf 11 [(.t 42), (.t 43)], none⟩,
  ⟨some 45, .mv (.t 9), none⟩,
  ⟨some 46, .mv (.t 2), none⟩,
  ⟨some 47, .callf 11 [(.t 45), (.t 46)], none⟩,
  ⟨some 48, .mv (.t 0), none⟩,
  ⟨some 49, .mv (.t 11), none⟩,
  ⟨some 50, .callf 11 [(.t 48), (.t 49)], none⟩,
  ⟨some 12, .mv (.t 44), none⟩,
  ⟨some 13, .mv (.t 47), none⟩,
  ⟨some 14, .mv (.t 50), none⟩]
def c4_r7 : List AO := [
  ⟨some 51, .mv (.t 9), none⟩,
  ⟨some 52, .mv (.t 1), none⟩,
  ⟨some 53, .mv (.t 0), none⟩,
  ⟨some 54, .callf 8 [(.t 52), (.t 53)], none⟩,
  ⟨some 55, .callf 20 [(.t 51), (.t 54)], none⟩,
  ⟨some 56, .un .not (.t 55), none⟩,
  ⟨some 57, .mv (.t 56), none⟩,
  ⟨some 58, .mv (.t 9), some (57, false)⟩,
  ⟨some 59, .mv (.t 0), some (57, false)⟩,
  ⟨some 60, .callf 8 [(.t 58), (.t 59)], some (57, false)⟩,
  ⟨some 61, .mv (.t 9), some (57, false)⟩,
  ⟨some 62, .callf 20 [(.t 60), (.t 61)], some (57, false)⟩,
  ⟨some 63, .un .not (.t 62), some (57, false)⟩,
  ⟨some 64, .pick (.t 57) (.c (.bool true)) (.t 63), none⟩,
  ⟨some 65, .mv (.t 64), none⟩,
  ⟨some 66, .mv (.t 10), some (65, false)⟩,
  ⟨some 67, .mv (.t 2), some (65, false)⟩,
  ⟨some 68, .callf 9 [(.t 66), (.t 67)], some (65, false)⟩,
  ⟨some 69, .mv (.t 10), some (65, false)⟩,
  ⟨some 70, .callf 20 [(.t 68), (.t 69)], some (65, false)⟩,
  ⟨some 71, .un .not (.t 70), some (65, false)⟩,
  ⟨some 72, .pick (.t 65) (.c (.bool true)) (.t 71), none⟩,
  ⟨some 73, .mv (.t 72), none⟩,
  ⟨some 74, .mv (.t 9), some (73, false)⟩,
  ⟨some 75, .callf 7 [(.t 74)], some (73, false)⟩,
  ⟨some 76, .mv (.t 9), some (73, false)⟩,
  ⟨some 77, .callf 20 [(.t 75), (.t 76)], some (73, false)⟩,
  ⟨some 78, .un .not (.t 77), some (73, false)⟩,
  ⟨some 79, .pick (.t 73) (.c (.bool true)) (.t 78), none⟩,
  ⟨some 80, .mv (.t 79), none⟩,
  ⟨some 81, .mv (.t 0), some (80, false)⟩,
  ⟨some 82, .callf 7 [(.t 81)], some (80, false)⟩,
  ⟨some 83, .callf 8 [(.t 82), (.c .nils)], some (80, false)⟩,
  ⟨some 84, .mv (.t 0), some (80, false)⟩,
  ⟨some 85, .callf 7 [(.t 84)], some (80, false)⟩,
  ⟨some 86, .callf 20 [(.t 83), (.t 85)], some (80, false)⟩,
  ⟨some 87, .un .not (.t 86), some (80, false)⟩,
  ⟨some 88, .pick (.t 80) (.c (.bool true)) (.t 87), none⟩]
def c4_r8 : List AO := [
  ⟨some 8, .mv (.c (.bool false)), none⟩]
def c4_r9 : List AO := [
  ⟨some 15, .mv (.c (.int .i64 0)), none⟩]
def c4_r10 : List AO := [
  ⟨some 89, .mv (.t 15), none⟩,
  ⟨some 90, .mv (.t 12), none⟩,
  ⟨some 91, .len 1 (.t 90), none⟩,
  ⟨some 92, .bin .lss (.t 89) (.t 91), none⟩]
def c4_r11 : List AO := [
  ⟨some 95, .mv (.t 13), none⟩,
  ⟨some 96, .mv (.t 12), none⟩,
  ⟨some 97, .mv (.t 15), none⟩,
  ⟨some 98, .ixs 1 (.t 96) (.t 97), none⟩,
  ⟨some 99, .load false 1 (.t 98), none⟩,
  ⟨some 100, .callf 16 [(.t 95), (.t 99)], none⟩,
  ⟨some 101, .un .not (.t 100), none⟩,
  ⟨some 102, .mv (.t 101), none⟩,
  ⟨some 103, .mv (.t 14), some (102, false)⟩,
  ⟨some 104, .mv (.t 12), some (102, false)⟩,
  ⟨some 105, .mv (.t 15), some (102, false)⟩,
  ⟨some 106, .ixs 1 (.t 104) (.t 105), some (102, false)⟩,
  ⟨some 107, .load false 1 (.t 106), some (102, false)⟩,
  ⟨some 108, .callf 16 [(.t 103), (.t 107)], some (102, false)⟩,
  ⟨some 109, .un .not (.t 108), some (102, false)⟩,
  ⟨some 110, .pick (.t 102) (.c (.bool true)) (.t 109), none⟩]
def c4_r12 : List AO := [
  ⟨some 8, .mv (.c (.bool false)), none⟩]
def c4_r13 : List AO := [
  ⟨some 93, .mv (.t 15), none⟩,
  ⟨some 94, .bin .add (.t 93) (.c (.int .i64 1)), none⟩,
  ⟨some 15, .mv (.t 94), none⟩]
def c4_lb0 : AC := (.seq (.seq (.region c4_r10 [] [])
 (.cond (.t 92) .skip (.exit 0)))
 (.seq (.block 1 (.seq (.region c4_r11 [] [])
 (.cond (.t 110) (.seq (.region c4_r12 [] [])
 .ret) .skip)))
 (.region c4_r13 [] [])))
def c4_l0 : AC := .loop c4_lb0
def c4_r14 : List AO := [
  ⟨some 111, .mv (.t 2), none⟩,
  ⟨some 112, .callf 12 [(.t 111)], none⟩,
  ⟨some 16, .mv (.t 112), none⟩]
def c4_r15 : List AO := [
  ⟨some 113, .mv (.t 10), none⟩,
  ⟨some 114, .mv (.t 2), none⟩,
  ⟨some 115, .callf 10 [(.t 113), (.t 114)], none⟩,
  ⟨some 17, .mv (.t 115), none⟩]
def c4_r16 : List AO := [
  ⟨some 18, .mv (.c (.int .i64 0)), none⟩]
def c4_r17 : List AO := [
  ⟨some 116, .mv (.t 18), none⟩,
  ⟨some 117, .mv (.t 16), none⟩,
  ⟨some 118, .len 1 (.t 117), none⟩,
  ⟨some 119, .bin .lss (.t 116) (.t 118), none⟩]
def c4_r18 : List AO := [
  ⟨some 122, .mv (.t 10), none⟩,
  ⟨some 123, .mv (.t 16), none⟩,
  ⟨some 124, .mv (.t 18), none⟩,
  ⟨some 125, .mv (.t 18), none⟩,
  ⟨some 126, .bin .add (.t 125) (.c (.int .i64 1)), none⟩,
  ⟨some 127, .slice 1 (.t 123) (some (.t 124)) (some (.t 126)) none, none⟩,
  ⟨some 128, .callf 11 [(.t 122), (.t 127)], none⟩,
  ⟨some 19, .mv (.t 128), none⟩]
def c4_r19 : List AO := [
  ⟨some 20, .mv (.c (.int .i64 0)), none⟩]
def c4_r20 : List AO := [
  ⟨some 129, .mv (.t 20), none⟩,
  ⟨some 130, .mv (.t 16), none⟩,
  ⟨some 131, .len 1 (.t 130), none⟩,
  ⟨some 132, .bin .lss (.t 129) (.t 131), none⟩]
def c4_r21 : List AO := [
  ⟨some 135, .mv (.t 19), none⟩,
  ⟨some 136, .mv (.t 16), none⟩,
  ⟨some 137, .mv (.t 20), none⟩,
  ⟨some 138, .ixs 1 (.t 136) (.t 137), none⟩,
  ⟨some 139, .load false 1 (.t 138), none⟩,
  ⟨some 140, .callf 16 [(.t 135), (.t 139)], none⟩,
  ⟨some 141, .un .not (.t 140), none⟩]
def c4_r22 : List AO := [
  ⟨some 8, .mv (.c (.bool false)), none⟩]
def c4_r23 : List AO := [
  ⟨some 133, .mv (.t 20), none⟩,
  ⟨some 134, .bin .add (.t 133) (.c (.int .i64 1)), none⟩,
  ⟨some 20, .mv (.t 134), none⟩]
def c4_lb2 : AC := (.seq (.seq (.region c4_r20 [] [])
 (.cond (.t 132) .skip (.exit 4)))
 (.seq (.block 5 (.seq (.region c4_r21 [] [])
 (.cond (.t 141) (.seq (.region c4_r22 [] [])
 .ret) .skip)))
 (.region c4_r23 [] [])))
def c4_l2 : AC := .loop c4_lb2
def c4_r24 : List AO := [
  ⟨some 142, .mv (.t 17), none⟩,
  ⟨some 143, .mv (.t 16), none⟩,
  ⟨some 144, .mv (.t 18), none⟩,
  ⟨some 145, .mv (.t 18), none⟩,
  ⟨some 146, .bin .add (.t 145) (.c (.int .i64 1)), none⟩,
  ⟨some 147, .slice 1 (.t 143) (some (.t 144)) (some (.t 146)) none, none⟩,
  ⟨some 148, .callf 11 [(.t 142), (.t 147)], none⟩,
  ⟨some 149, .len 1 (.t 148), none⟩,
  ⟨some 150, .bin .neq (.t 149) (.c (.int .i64 1)), none⟩]
def c4_r25 : List AO := [
  ⟨some 8, .mv (.c (.bool false)), none⟩]
def c4_r26 : List AO := [
  ⟨some 120, .mv (.t 18), none⟩,
  ⟨some 121, .bin .add (.t 120) (.c (.int .i64 1)), none⟩,
  ⟨some 18, .mv (.t 121), none⟩]
def c4_lb1 : AC := (.seq (.seq (.region c4_r17 [] [])
 (.cond (.t 119) .skip (.exit 2)))
 (.seq (.block 3 (.seq (.region c4_r18 [] [])
 (.seq (.seq (.region c4_r19 [] [])
 (.block 4 c4_l2))
 (.seq (.region c4_r24 [] [])
 (.cond (.t 150) (.seq (.region c4_r25 [] [])
 .ret) .skip)))))
 (.region c4_r26 [] [])))
def c4_l1 : AC := .loop c4_lb1
def c4_r27 : List AO := [
  ⟨some 151, .mv (.t 0), none⟩,
  ⟨some 152, .mv (.t 2), none⟩,
  ⟨some 153, .callf 10 [(.t 151), (.t 152)], none⟩,
  ⟨some 154, .mv (.t 17), none⟩,
  ⟨some 155, .callf 20 [(.t 153), (.t 154)], none⟩,
  ⟨some 156, .mv (.t 155), none⟩,
  ⟨some 157, .callf 6 [], some (156, true)⟩,
  ⟨some 158, .pick (.t 156) (.t 157) (.c (.bool false)), none⟩,
  ⟨some 8, .mv (.t 158), none⟩]
def c4 : AC := (.seq (.region c4_r0 [] [])
 (.seq (.seq (.region c4_r1 [] [])
 (.cond (.t 30) (.seq (.region c4_r2 [] [])
 .ret) .skip))
 (.seq (.region c4_r3 [] [])
 (.seq (.region c4_r4 [] [])
 (.seq (.region c4_r5 [] [])
 (.seq (.region c4_r6 [] [])
 (.seq (.seq (.region c4_r7 [] [])
 (.cond (.t 88) (.seq (.region c4_r8 [] [])
 .ret) .skip))
 (.seq (.seq (.region c4_r9 [] [])
 (.block 0 c4_l0))
 (.seq (.region c4_r14 [] [])
 (.seq (.region c4_r15 [] [])
 (.seq (.seq (.region c4_r16 [] [])
 (.block 2 c4_l1))
 (.seq (.region c4_r27 [] [])
 .ret))))))))))))
def a4 : AFn := ⟨159, [.t 8], 2, c4⟩

-- F5 resolvent/resolventlaw17.great
def c5_r0 : List AO := [
  ⟨some 2, .mv (.c (.bool false)), none⟩]
def c5_r1 : List AO := [
  ⟨some 3, .mv (.c (.int .i64 0)), none⟩]
def c5_r2 : List AO := [
  ⟨some 4, .mv (.t 3), none⟩,
  ⟨some 5, .mv (.t 0), none⟩,
  ⟨some 6, .len 1 (.t 5), none⟩,
  ⟨some 7, .bin .lss (.t 4) (.t 6), none⟩]
def c5_r3 : List AO := [
  ⟨some 10, .mv (.t 0), none⟩,
  ⟨some 11, .mv (.t 3), none⟩,
  ⟨some 12, .ixs 1 (.t 10) (.t 11), none⟩,
  ⟨some 13, .load false 1 (.t 12), none⟩,
  ⟨some 14, .bin .gtr (.t 13) (.c (.int .i64 40)), none⟩]
def c5_r4 : List AO := [
  ⟨some 2, .mv (.c (.bool true)), none⟩]
def c5_r5 : List AO := [
  ⟨some 8, .mv (.t 3), none⟩,
  ⟨some 9, .bin .add (.t 8) (.c (.int .i64 1)), none⟩,
  ⟨some 3, .mv (.t 9), none⟩]
def c5_lb0 : AC := (.seq (.seq (.region c5_r2 [] [])
 (.cond (.t 7) .skip (.exit 0)))
 (.seq (.block 1 (.seq (.region c5_r3 [] [])
 (.cond (.t 14) (.seq (.region c5_r4 [] [])
 .ret) .skip)))
 (.region c5_r5 [] [])))
def c5_l0 : AC := .loop c5_lb0
def c5_r6 : List AO := [
  ⟨some 2, .mv (.c (.bool false)), none⟩]
def c5 : AC := (.seq (.region c5_r0 [] [])
 (.seq (.seq (.region c5_r1 [] [])
 (.block 0 c5_l0))
 (.seq (.region c5_r6 [] [])
 .ret)))
def a5 : AFn := ⟨15, [.t 2], 2, c5⟩

-- F6 resolvent/resolventlaw17.wakes
def c6_r0 : List AO := [
  ⟨some 0, .mv (.c (.bool false)), none⟩]
def c6_r1 : List AO := [
  ⟨some 4, .build [(.int .i64 0), (.int .i64 0)] [(0, 1, (.c (.int .i64 3))), (1, 1, (.c (.int .i64 1)))], none⟩,
  ⟨some 5, .build [(.int .i64 0), (.int .i64 0)] [(0, 1, (.c (.int .i64 1))), (1, 1, (.c (.int .i64 3)))], none⟩,
  ⟨some 6, .build [(.int .i64 0), (.int .i64 0)] [(0, 1, (.c (.int .i64 2))), (1, 1, (.c (.int .i64 2)))], none⟩,
  ⟨some 7, .lit 3 [(.int .i64 0), (.int .i64 0)] [(0, (.t 4)), (1, (.t 5)), (2, (.t 6))], none⟩,
  ⟨some 8, .callf 7 [(.t 7)], none⟩,
  ⟨some 1, .mv (.t 8), none⟩]
def c6_r2 : List AO := [
  ⟨some 9, .build [(.int .i64 0), (.int .i64 0)] [(0, 1, (.c (.int .i64 1))), (1, 1, (.c (.int .i64 3)))], none⟩,
  ⟨some 10, .build [(.int .i64 0), (.int .i64 0)] [(0, 1, (.c (.int .i64 3))), (1, 1, (.c (.int .i64 5)))], none⟩,
  ⟨some 11, .lit 2 [(.int .i64 0), (.int .i64 0)] [(0, (.t 9)), (1, (.t 10))], none⟩,
  ⟨some 12, .lit 1 [(.int .i64 0)] [(0, (.c (.int .i64 3)))], none⟩,
  ⟨some 13, .callf 11 [(.t 11), (.t 12)], none⟩,
  ⟨some 2, .mv (.t 13), none⟩]
def c6_r3 : List AO := [
  ⟨some 14, .build [(.int .i64 0), (.int .i64 0)] [(0, 1, (.c (.int .i64 1))), (1, 1, (.c (.int .i64 3)))], none⟩,
  ⟨some 15, .build [(.int .i64 0), (.int .i64 0)] [(0, 1, (.c (.int .i64 2))), (1, 1, (.c (.int .i64 4)))], none⟩,
  ⟨some 16, .lit 2 [(.int .i64 0), (.int .i64 0)] [(0, (.t 14)), (1, (.t 15))], none⟩,
  ⟨some 17, .lit 1 [(.int .i64 0)] [(0, (.c (.int .i64 3)))], none⟩,
  ⟨some 18, .callf 10 [(.t 16), (.t 17)], none⟩,
  ⟨some 3, .mv (.t 18), none⟩]
def c6_r4 : List AO := [
  ⟨some 19, .mv (.t 1), none⟩,
  ⟨some 20, .len 1 (.t 19), none⟩,
  ⟨some 21, .bin .eql (.t 20) (.c (.int .i64 1)), none⟩,
  ⟨some 22, .mv (.t 21), none⟩,
  ⟨some 23, .mv (.t 1), some (22, true)⟩,
  ⟨some 24, .ixs 2 (.t 23) (.c (.int .i64 0)), some (22, true)⟩,
  ⟨some 25, .load true 2 (.t 24), some (22, true)⟩,
  ⟨some 26, .build [(.int .i64 0), (.int .i64 0)] [(0, 1, (.c (.int .i64 1))), (1, 1, (.c (.int .i64 3)))], some (22, true)⟩,
  ⟨some 27, .eqa false [1, 1] (.t 25) (.t 26), some (22, true)⟩,
  ⟨some 28, .pick (.t 22) (.t 27) (.c (.bool false)), none⟩,
  ⟨some 29, .mv (.t 28), none⟩,
  ⟨some 30, .mv (.t 2), some (29, true)⟩,
  ⟨some 31, .len 1 (.t 30), some (29, true)⟩,
  ⟨some 32, .bin .eql (.t 31) (.c (.int .i64 3)), some (29, true)⟩,
  ⟨some 33, .pick (.t 29) (.t 32) (.c (.bool false)), none⟩,
  ⟨some 34, .mv (.t 33), none⟩,
  ⟨some 35, .mv (.t 2), some (34, true)⟩,
  ⟨some 36, .ixs 1 (.t 35) (.c (.int .i64 2)), some (34, true)⟩,
  ⟨some 37, .load false 1 (.t 36), some (34, true)⟩,
  ⟨some 38, .bin .eql (.t 37) (.c (.int .i64 5)), some (34, true)⟩,
  ⟨some 39, .pick (.t 34) (.t 38) (.c (.bool false)), none⟩,
  ⟨some 40, .mv (.t 39), none⟩,
  ⟨some 41, .mv (.t 3), some (40, true)⟩,
  ⟨some 42, .len 1 (.t 41), some (40, true)⟩,
  ⟨some 43, .bin .eql (.t 42) (.c (.int .i64 1)), some (40, true)⟩,
  ⟨some 44, .pick (.t 40) (.t 43) (.c (.bool false)), none⟩,
  ⟨some 45, .mv (.t 44), none⟩,
  ⟨some 46, .mv (.t 3), some (45, true)⟩,
  ⟨some 47, .ixs 2 (.t 46) (.c (.int .i64 0)), some (45, true)⟩,
  ⟨some 48, .load true 2 (.t 47), some (45, true)⟩,
  ⟨some 49, .build [(.int .i64 0), (.int .i64 0)] [(0, 1, (.c (.int .i64 2))), (1, 1, (.c (.int .i64 4)))], some (45, true)⟩,
  ⟨some 50, .eqa false [1, 1] (.t 48) (.t 49), some (45, true)⟩,
  ⟨some 51, .pick (.t 45) (.t 50) (.c (.bool false)), none⟩,
  ⟨some 52, .mv (.t 51), none⟩,
  ⟨some 53, .build [(.int .i64 0), (.int .i64 0)] [(0, 1, (.c (.int .i64 1))), (1, 1, (.c (.int .i64 3)))], some (52, true)⟩,
  ⟨some 54, .lit 1 [(.int .i64 0), (.int .i64 0)] [(0, (.t 53))], some (52, true)⟩,
  ⟨some 55, .callf 19 [(.t 54), (.c (.int .i64 3)), (.c (.int .i64 1))], some (52, true)⟩,
  ⟨some 56, .pick (.t 52) (.t 55) (.c (.bool false)), none⟩,
  ⟨some 0, .mv (.t 56), none⟩]
def c6 : AC := (.seq (.region c6_r0 [] [])
 (.seq (.region c6_r1 [] [])
 (.seq (.region c6_r2 [] [])
 (.seq (.region c6_r3 [] [])
 (.seq (.region c6_r4 [] [])
 .ret)))))
def a6 : AFn := ⟨57, [.t 0], 2, c6⟩

-- F7 resolvent/pairs.Of
def c7_r0 : List AO := [
  ⟨some 2, .mv (.c .nils), none⟩]
def c7_r1 : List AO := [
  ⟨some 4, .mv (.t 0), none⟩,
  ⟨some 5, .callf 22 [(.t 4)], none⟩,
  ⟨some 6, .callf 21 [(.t 5)], none⟩,
  ⟨some 3, .mv (.t 6), none⟩]
def c7_r2 : List AO := [
  ⟨some 7, .mv (.t 3), none⟩,
  ⟨some 8, .callf 23 [(.t 7), (.c (.fn 24 []))], none⟩]
def c7_r3 : List AO := [
  ⟨some 9, .mv (.t 3), none⟩,
  ⟨some 10, .callf 27 [(.t 9)], none⟩,
  ⟨some 2, .mv (.t 10), none⟩]
def c7 : AC := (.seq (.region c7_r0 [] [])
 (.seq (.region c7_r1 [] [])
 (.seq (.region c7_r2 [] [])
 (.seq (.region c7_r3 [] [])
 .ret))))
def a7 : AFn := ⟨11, [.t 2], 3, c7⟩

-- F8 resolvent/pairs.Union
def c8_r0 : List AO := [
  ⟨some 4, .mv (.c .nils), none⟩]
def c8_r1 : List AO := [
  ⟨some 5, .mv (.t 0), none⟩,
  ⟨some 6, .mv (.t 1), none⟩,
  ⟨some 7, .lit 2 [.nils] [(0, (.t 5)), (1, (.t 6))], none⟩,
  ⟨some 8, .callf 28 [(.t 7)], none⟩,
  ⟨some 9, .callf 7 [(.t 8)], none⟩,
  ⟨some 4, .mv (.t 9), none⟩]
def c8 : AC := (.seq (.region c8_r0 [] [])
 (.seq (.region c8_r1 [] [])
 .ret))
def a8 : AFn := ⟨10, [.t 4], 2, c8⟩

-- F9 resolvent/pairs.Close
def c9_r0 : List AO := [
  ⟨some 4, .mv (.c .nils), none⟩]
def c9_r1 : List AO := [
  ⟨some 10, .mv (.t 0), none⟩,
  ⟨some 11, .callf 29 [(.t 10)], none⟩,
  ⟨some 5, .mv (.t 11), none⟩]
def c9_r2 : List AO := [
  ⟨some 12, .mv (.t 1), none⟩,
  ⟨some 13, .len 1 (.t 12), none⟩,
  ⟨some 14, .mv (.c (.int .i64 0)), none⟩]
def c9_r3 : List AO := [
  ⟨some 15, .bin .lss (.t 14) (.t 13), none⟩]
def c9_r4 : List AO := [
  ⟨some 16, .mv (.t 14), none⟩,
  ⟨some 17, .ixs 1 (.t 12) (.t 14), none⟩,
  ⟨some 18, .load false 1 (.t 17), none⟩,
  ⟨some 6, .mv (.t 16), none⟩,
  ⟨some 7, .mv (.t 18), none⟩]
def c9_r5 : List AO := [
  ⟨some 19, .mv (.t 1), none⟩,
  ⟨some 20, .mv (.t 6), none⟩,
  ⟨some 21, .slice 1 (.t 19) none (some (.t 20)) none, none⟩,
  ⟨some 22, .len 1 (.t 21), none⟩,
  ⟨some 23, .mv (.c (.int .i64 0)), none⟩]
def c9_r6 : List AO := [
  ⟨some 24, .bin .lss (.t 23) (.t 22), none⟩]
def c9_r7 : List AO := [
  ⟨some 25, .ixs 1 (.t 21) (.t 23), none⟩,
  ⟨some 26, .load false 1 (.t 25), none⟩,
  ⟨some 9, .mv (.t 26), none⟩]
def c9_r8 : List AO := [
  ⟨some 27, .mv (.t 5), none⟩,
  ⟨some 28, .mv (.t 7), none⟩,
  ⟨some 29, .mv (.t 9), none⟩,
  ⟨some 30, .build [(.int .i64 0), (.int .i64 0)] [(0, 1, (.t 28)), (1, 1, (.t 29))], none⟩,
  ⟨some 31, .lit 1 [(.int .i64 0), (.int .i64 0)] [(0, (.t 30))], none⟩,
  ⟨some 32, .append 2 16 (.t 27) (.t 31), none⟩,
  ⟨some 5, .mv (.t 32), none⟩]
def c9_r9 : List AO := [
  ⟨some 33, .bin .add (.t 23) (.c (.int .i64 1)), none⟩,
  ⟨some 23, .mv (.t 33), none⟩]
def c9_lb1 : AC := (.seq (.region c9_r6 [] [])
 (.seq (.cond (.t 24) .skip (.exit 2))
 (.seq (.block 3 (.seq (.region c9_r7 [] [])
 (.region c9_r8 [] [])))
 (.region c9_r9 [] []))))
def c9_l1 : AC := .loop c9_lb1
def c9_r10 : List AO := [
  ⟨some 34, .bin .add (.t 14) (.c (.int .i64 1)), none⟩,
  ⟨some 14, .mv (.t 34), none⟩]
def c9_lb0 : AC := (.seq (.region c9_r3 [] [])
 (.seq (.cond (.t 15) .skip (.exit 0))
 (.seq (.block 1 (.seq (.region c9_r4 [] [])
 (.seq (.region c9_r5 [] [])
 (.block 2 c9_l1))))
 (.region c9_r10 [] []))))
def c9_l0 : AC := .loop c9_lb0
def c9_r11 : List AO := [
  ⟨some 35, .mv (.t 5), none⟩,
  ⟨some 36, .callf 7 [(.t 35)], none⟩,
  ⟨some 4, .mv (.t 36), none⟩]
def c9 : AC := (.seq (.region c9_r0 [] [])
 (.seq (.region c9_r1 [] [])
 (.seq (.seq (.region c9_r2 [] [])
 (.block 0 c9_l0))
 (.seq (.region c9_r11 [] [])
 .ret))))
def a9 : AFn := ⟨37, [.t 4], 2, c9⟩

-- F10 resolvent/pairs.Without
def c10_r0 : List AO := [
  ⟨some 3, .box (.t 1), none⟩,
  ⟨some 4, .mv (.c .nils), none⟩]
def c10_r1 : List AO := [
  ⟨some 5, .mv (.t 0), none⟩,
  ⟨some 6, .callf 7 [(.t 5)], none⟩,
  ⟨some 7, .mkfn 31 [(.t 3)], none⟩,
  ⟨some 8, .callf 30 [(.t 6), (.t 7)], none⟩,
  ⟨some 4, .mv (.t 8), none⟩]
def c10 : AC := (.seq (.region c10_r0 [] [])
 (.seq (.region c10_r1 [] [])
 .ret))
def a10 : AFn := ⟨9, [.t 4], 2, c10⟩

-- F11 resolvent/pairs.Related
def c11_r0 : List AO := [
  ⟨some 4, .mv (.c .nils), none⟩]
def c11_r1 : List AO := [
  ⟨some 8, .mv (.t 1), none⟩,
  ⟨some 9, .callf 12 [(.t 8)], none⟩,
  ⟨some 5, .alloc [.nils], none⟩,
  ⟨none, .store 1 (.t 5) (.t 9), none⟩]
def c11_r2 : List AO := [
  ⟨some 10, .load false 1 (.t 5), none⟩,
  ⟨some 11, .callf 33 [(.t 10)], none⟩,
  ⟨some 6, .alloc [.nils], none⟩,
  ⟨none, .store 1 (.t 6) (.t 11), none⟩]
def c11_r3 : List AO := [
  ⟨some 12, .mv (.t 0), none⟩,
  ⟨some 13, .callf 22 [(.t 12)], none⟩]
def c11_r4 : List AO := [
  ⟨some 32, .load false 1 (.t 5), none⟩,
  ⟨some 33, .callf 12 [(.t 32)], none⟩,
  ⟨some 4, .mv (.t 33), none⟩]
def c11 : AC := (.seq (.region c11_r0 [] [])
 (.seq (.region c11_r1 [] [])
 (.seq (.region c11_r2 [] [])
 (.seq (.seq (.region c11_r3 [] [])
 (.block 0 (.rangef 11014 (.t 13))))
 (.seq (.region c11_r4 [] [])
 .ret)))))
def a11 : AFn := ⟨34, [.t 4], 2, c11⟩

def c11_a0_r0 : List AO := [
  ⟨some 7, .alloc [(.int .i64 0), (.int .i64 0)], none⟩,
  ⟨none, .store 2 (.t 7) (.t 14), none⟩]
def c11_b0_r0 : List AO := [
  ⟨some 15, .load false 1 (.t 6), none⟩,
  ⟨some 16, .ixa 2 1 (.t 7) (.c (.int .i64 0)), none⟩,
  ⟨some 17, .load false 1 (.t 16), none⟩,
  ⟨some 18, .callf 32 [(.t 15), (.t 17)], none⟩,
  ⟨some 19, .mv (.t 18), none⟩,
  ⟨some 20, .load false 1 (.t 6), some (19, false)⟩,
  ⟨some 21, .ixa 2 1 (.t 7) (.c (.int .i64 1)), some (19, false)⟩,
  ⟨some 22, .load false 1 (.t 21), some (19, false)⟩,
  ⟨some 23, .callf 32 [(.t 20), (.t 22)], some (19, false)⟩,
  ⟨some 24, .pick (.t 19) (.c (.bool true)) (.t 23), none⟩]
def c11_b0_r1 : List AO := [
  ⟨some 25, .load false 1 (.t 5), none⟩,
  ⟨some 26, .ixa 2 1 (.t 7) (.c (.int .i64 0)), none⟩,
  ⟨some 27, .load false 1 (.t 26), none⟩,
  ⟨some 28, .ixa 2 1 (.t 7) (.c (.int .i64 1)), none⟩,
  ⟨some 29, .load false 1 (.t 28), none⟩,
  ⟨some 30, .lit 2 [(.int .i64 0)] [(0, (.t 27)), (1, (.t 29))], none⟩,
  ⟨some 31, .append 1 8 (.t 25) (.t 30), none⟩,
  ⟨none, .store 1 (.t 5) (.t 31), none⟩]
def c11_a0 : AC := (.region c11_a0_r0 [] [])
def c11_b0 : AC := (.block 1 (.seq (.region c11_b0_r0 [] [])
 (.cond (.t 24) (.region c11_b0_r1 [] []) .skip)))

-- F12 resolvent/pairs.Places
def c12_r0 : List AO := [
  ⟨some 2, .mv (.c .nils), none⟩]
def c12_r1 : List AO := [
  ⟨some 4, .mv (.t 0), none⟩,
  ⟨some 5, .callf 33 [(.t 4)], none⟩,
  ⟨some 6, .callf 34 [(.t 5), (.c (.fn 35 []))], none⟩,
  ⟨some 3, .mv (.t 6), none⟩]
def c12_r2 : List AO := [
  ⟨some 7, .mv (.t 3), none⟩,
  ⟨some 8, .callf 36 [(.t 7)], none⟩]
def c12_r3 : List AO := [
  ⟨some 9, .mv (.t 3), none⟩,
  ⟨some 10, .callf 37 [(.t 9)], none⟩,
  ⟨some 2, .mv (.t 10), none⟩]
def c12 : AC := (.seq (.region c12_r0 [] [])
 (.seq (.region c12_r1 [] [])
 (.seq (.region c12_r2 [] [])
 (.seq (.region c12_r3 [] [])
 .ret))))
def a12 : AFn := ⟨11, [.t 2], 3, c12⟩

-- F13 resolvent/resolventref17.Form
def c13_r0 : List AO := [
  ⟨some 2, .mv (.c (.bool false)), none⟩]
def c13_r1 : List AO := [
  ⟨some 3, .mv (.c (.int .i64 0)), none⟩]
def c13_r2 : List AO := [
  ⟨some 4, .mv (.t 3), none⟩,
  ⟨some 5, .mv (.t 0), none⟩,
  ⟨some 6, .len 1 (.t 5), none⟩,
  ⟨some 7, .bin .lss (.t 4) (.t 6), none⟩]
def c13_r3 : List AO := [
  ⟨some 10, .mv (.t 0), none⟩,
  ⟨some 11, .mv (.t 3), none⟩,
  ⟨some 12, .ixs 2 (.t 10) (.t 11), none⟩,
  ⟨some 13, .ixa 2 1 (.t 12) (.c (.int .i64 0)), none⟩,
  ⟨some 14, .load false 1 (.t 13), none⟩,
  ⟨some 15, .bin .lss (.t 14) (.c (.int .i64 0)), none⟩,
  ⟨some 16, .mv (.t 15), none⟩,
  ⟨some 17, .mv (.t 0), some (16, false)⟩,
  ⟨some 18, .mv (.t 3), some (16, false)⟩,
  ⟨some 19, .ixs 2 (.t 17) (.t 18), some (16, false)⟩,
  ⟨some 20, .ixa 2 1 (.t 19) (.c (.int .i64 0)), some (16, false)⟩,
  ⟨some 21, .load false 1 (.t 20), some (16, false)⟩,
  ⟨some 22, .mv (.t 0), some (16, false)⟩,
  ⟨some 23, .mv (.t 3), some (16, false)⟩,
  ⟨some 24, .ixs 2 (.t 22) (.t 23), some (16, false)⟩,
  ⟨some 25, .ixa 2 1 (.t 24) (.c (.int .i64 1)), some (16, false)⟩,
  ⟨some 26, .load false 1 (.t 25), some (16, false)⟩,
  ⟨some 27, .bin .geq (.t 21) (.t 26), some (16, false)⟩,
  ⟨some 28, .pick (.t 16) (.c (.bool true)) (.t 27), none⟩]
def c13_r4 : List AO := [
  ⟨some 2, .mv (.c (.bool false)), none⟩]
def c13_r5 : List AO := [
  ⟨some 29, .mv (.t 3), none⟩,
  ⟨some 30, .bin .gtr (.t 29) (.c (.int .i64 0)), none⟩,
  ⟨some 31, .mv (.t 30), none⟩,
  ⟨some 32, .mv (.t 0), some (31, true)⟩,
  ⟨some 33, .mv (.t 3), some (31, true)⟩,
  ⟨some 34, .bin .sub (.t 33) (.c (.int .i64 1)), some (31, true)⟩,
  ⟨some 35, .ixs 2 (.t 32) (.t 34), some (31, true)⟩,
  ⟨some 36, .ixa 2 1 (.t 35) (.c (.int .i64 0)), some (31, true)⟩,
  ⟨some 37, .load false 1 (.t 36), some (31, true)⟩,
  ⟨some 38, .mv (.t 0), some (31, true)⟩,
  ⟨some 39, .mv (.t 3), some (31, true)⟩,
  ⟨some 40, .ixs 2 (.t 38) (.t 39), some (31, true)⟩,
  ⟨some 41, .ixa 2 1 (.t 40) (.c (.int .i64 0)), some (31, true)⟩,
  ⟨some 42, .load false 1 (.t 41), some (31, true)⟩,
  ⟨some 43, .bin .gtr (.t 37) (.t 42), some (31, true)⟩,
  ⟨some 44, .mv (.t 43), some (31, true)⟩,
  ⟨some 45, .mv (.t 0), some (44, false)⟩,
  ⟨some 46, .mv (.t 3), some (44, false)⟩,
  ⟨some 47, .bin .sub (.t 46) (.c (.int .i64 1)), some (44, false)⟩,
  ⟨some 48, .ixs 2 (.t 45) (.t 47), some (44, false)⟩,
  ⟨some 49, .ixa 2 1 (.t 48) (.c (.int .i64 0)), some (44, false)⟩,
  ⟨some 50, .load false 1 (.t 49), some (44, false)⟩,
  ⟨some 51, .mv (.t 0), some (44, false)⟩,
  ⟨some 52, .mv (.t 3), some (44, false)⟩,
  ⟨some 53, .ixs 2 (.t 51) (.t 52), some (44, false)⟩,
  ⟨some 54, .ixa 2 1 (.t 53) (.c (.int .i64 0)), some (44, false)⟩,
  ⟨some 55, .load false 1 (.t 54), some (44, false)⟩,
  ⟨some 56, .bin .eql (.t 50) (.t 55), some (44, false)⟩,
  ⟨some 57, .mv (.t 56), some (44, false)⟩,
  ⟨some 58, .mv (.t 0), some (57, true)⟩,
  ⟨some 59, .mv (.t 3), some (57, true)⟩,
  ⟨some 60, .bin .sub (.t 59) (.c (.int .i64 1)), some (57, true)⟩,
  ⟨some 61, .ixs 2 (.t 58) (.t 60), some (57, true)⟩,
  ⟨some 62, .ixa 2 1 (.t 61) (.c (.int .i64 1)), some (57, true)⟩,
  ⟨some 63, .load false 1 (.t 62), some (57, true)⟩,
  ⟨some 64, .mv (.t 0), some (57, true)⟩,
  ⟨some 65, .mv (.t 3), some (57, true)⟩,
  ⟨some 66, .ixs 2 (.t 64) (.t 65), some (57, true)⟩,
  ⟨some 67, .ixa 2 1 (.t 66) (.c (.int .i64 1)), some (57, true)⟩,
  ⟨some 68, .load false 1 (.t 67), some (57, true)⟩,
  ⟨some 69, .bin .geq (.t 63) (.t 68), some (57, true)⟩,
  ⟨some 70, .pick (.t 57) (.t 69) (.c (.bool false)), some (44, false)⟩,
  ⟨some 71, .pick (.t 44) (.c (.bool true)) (.t 70), some (31, true)⟩,
  ⟨some 72, .pick (.t 31) (.t 71) (.c (.bool false)), none⟩]
def c13_r6 : List AO := [
  ⟨some 2, .mv (.c (.bool false)), none⟩]
def c13_r7 : List AO := [
  ⟨some 8, .mv (.t 3), none⟩,
  ⟨some 9, .bin .add (.t 8) (.c (.int .i64 1)), none⟩,
  ⟨some 3, .mv (.t 9), none⟩]
def c13_lb0 : AC := (.seq (.seq (.region c13_r2 [] [])
 (.cond (.t 7) .skip (.exit 0)))
 (.seq (.block 1 (.seq (.seq (.region c13_r3 [] [])
 (.cond (.t 28) (.seq (.region c13_r4 [] [])
 .ret) .skip))
 (.seq (.region c13_r5 [] [])
 (.cond (.t 72) (.seq (.region c13_r6 [] [])
 .ret) .skip))))
 (.region c13_r7 [] [])))
def c13_l0 : AC := .loop c13_lb0
def c13_r8 : List AO := [
  ⟨some 2, .mv (.c (.bool true)), none⟩]
def c13 : AC := (.seq (.region c13_r0 [] [])
 (.seq (.seq (.region c13_r1 [] [])
 (.block 0 c13_l0))
 (.seq (.region c13_r8 [] [])
 .ret)))
def a13 : AFn := ⟨73, [.t 2], 2, c13⟩

-- F14 resolvent/resolventref17.Rising
def c14_r0 : List AO := [
  ⟨some 2, .mv (.c (.bool false)), none⟩]
def c14_r1 : List AO := [
  ⟨some 3, .mv (.c (.int .i64 0)), none⟩]
def c14_r2 : List AO := [
  ⟨some 4, .mv (.t 3), none⟩,
  ⟨some 5, .mv (.t 0), none⟩,
  ⟨some 6, .len 1 (.t 5), none⟩,
  ⟨some 7, .bin .lss (.t 4) (.t 6), none⟩]
def c14_r3 : List AO := [
  ⟨some 10, .mv (.t 0), none⟩,
  ⟨some 11, .mv (.t 3), none⟩,
  ⟨some 12, .ixs 1 (.t 10) (.t 11), none⟩,
  ⟨some 13, .load false 1 (.t 12), none⟩,
  ⟨some 14, .bin .lss (.t 13) (.c (.int .i64 0)), none⟩,
  ⟨some 15, .mv (.t 14), none⟩,
  ⟨some 16, .mv (.t 3), some (15, false)⟩,
  ⟨some 17, .bin .gtr (.t 16) (.c (.int .i64 0)), some (15, false)⟩,
  ⟨some 18, .mv (.t 17), some (15, false)⟩,
  ⟨some 19, .mv (.t 0), some (18, true)⟩,
  ⟨some 20, .mv (.t 3), some (18, true)⟩,
  ⟨some 21, .bin .sub (.t 20) (.c (.int .i64 1)), some (18, true)⟩,
  ⟨some 22, .ixs 1 (.t 19) (.t 21), some (18, true)⟩,
  ⟨some 23, .load false 1 (.t 22), some (18, true)⟩,
  ⟨some 24, .mv (.t 0), some (18, true)⟩,
  ⟨some 25, .mv (.t 3), some (18, true)⟩,
  ⟨some 26, .ixs 1 (.t 24) (.t 25), some (18, true)⟩,
  ⟨some 27, .load false 1 (.t 26), some (18, true)⟩,
  ⟨some 28, .bin .geq (.t 23) (.t 27), some (18, true)⟩,
  ⟨some 29, .pick (.t 18) (.t 28) (.c (.bool false)), some (15, false)⟩,
  ⟨some 30, .pick (.t 15) (.c (.bool true)) (.t 29), none⟩]
def c14_r4 : List AO := [
  ⟨some 2, .mv (.c (.bool false)), none⟩]
def c14_r5 : List AO := [
  ⟨some 8, .mv (.t 3), none⟩,
  ⟨some 9, .bin .add (.t 8) (.c (.int .i64 1)), none⟩,
  ⟨some 3, .mv (.t 9), none⟩]
def c14_lb0 : AC := (.seq (.seq (.region c14_r2 [] [])
 (.cond (.t 7) .skip (.exit 0)))
 (.seq (.block 1 (.seq (.region c14_r3 [] [])
 (.cond (.t 30) (.seq (.region c14_r4 [] [])
 .ret) .skip)))
 (.region c14_r5 [] [])))
def c14_l0 : AC := .loop c14_lb0
def c14_r6 : List AO := [
  ⟨some 2, .mv (.c (.bool true)), none⟩]
def c14 : AC := (.seq (.region c14_r0 [] [])
 (.seq (.seq (.region c14_r1 [] [])
 (.block 0 c14_l0))
 (.seq (.region c14_r6 [] [])
 .ret)))
def a14 : AFn := ⟨31, [.t 2], 2, c14⟩

-- F15 resolvent/resolventlaw17.ends
def c15_r0 : List AO := [
  ⟨some 6, .mv (.c .nils), none⟩]
def c15_r1 : List AO := [
  ⟨some 10, .lit 4 [(.int .i64 0)] [(0, (.c (.int .i64 (-1)))), (1, (.c (.int .i64 0))), (2, (.c (.int .i64 1))), (3, (.c (.int .i64 7)))], none⟩,
  ⟨some 11, .mv (.t 2), none⟩,
  ⟨some 12, .append 1 8 (.t 10) (.t 11), none⟩,
  ⟨some 7, .mv (.t 12), none⟩]
def c15_r2 : List AO := [
  ⟨some 8, .mv (.c (.int .i64 0)), none⟩]
def c15_r3 : List AO := [
  ⟨some 13, .mv (.t 8), none⟩,
  ⟨some 14, .mv (.t 0), none⟩,
  ⟨some 15, .len 1 (.t 14), none⟩,
  ⟨some 16, .bin .lss (.t 13) (.t 15), none⟩]
def c15_r4 : List AO := [
  ⟨some 19, .mv (.t 7), none⟩,
  ⟨some 20, .mv (.t 0), none⟩,
  ⟨some 21, .mv (.t 8), none⟩,
  ⟨some 22, .ixs 2 (.t 20) (.t 21), none⟩,
  ⟨some 23, .ixa 2 1 (.t 22) (.c (.int .i64 0)), none⟩,
  ⟨some 24, .load false 1 (.t 23), none⟩,
  ⟨some 25, .mv (.t 0), none⟩,
  ⟨some 26, .mv (.t 8), none⟩,
  ⟨some 27, .ixs 2 (.t 25) (.t 26), none⟩,
  ⟨some 28, .ixa 2 1 (.t 27) (.c (.int .i64 1)), none⟩,
  ⟨some 29, .load false 1 (.t 28), none⟩,
  ⟨some 30, .lit 2 [(.int .i64 0)] [(0, (.t 24)), (1, (.t 29))], none⟩,
  ⟨some 31, .append 1 8 (.t 19) (.t 30), none⟩,
  ⟨some 7, .mv (.t 31), none⟩]
def c15_r5 : List AO := [
  ⟨some 17, .mv (.t 8), none⟩,
  ⟨some 18, .bin .add (.t 17) (.c (.int .i64 1)), none⟩,
  ⟨some 8, .mv (.t 18), none⟩]
def c15_lb0 : AC := (.seq (.seq (.region c15_r3 [] [])
 (.cond (.t 16) .skip (.exit 0)))
 (.seq (.block 1 (.region c15_r4 [] []))
 (.region c15_r5 [] [])))
def c15_l0 : AC := .loop c15_lb0
def c15_r6 : List AO := [
  ⟨some 9, .mv (.c (.int .i64 0)), none⟩]
def c15_r7 : List AO := [
  ⟨some 32, .mv (.t 9), none⟩,
  ⟨some 33, .mv (.t 1), none⟩,
  ⟨some 34, .len 1 (.t 33), none⟩,
  ⟨some 35, .bin .lss (.t 32) (.t 34), none⟩]
def c15_r8 : List AO := [
  ⟨some 38, .mv (.t 7), none⟩,
  ⟨some 39, .mv (.t 1), none⟩,
  ⟨some 40, .mv (.t 9), none⟩,
  ⟨some 41, .ixs 2 (.t 39) (.t 40), none⟩,
  ⟨some 42, .ixa 2 1 (.t 41) (.c (.int .i64 0)), none⟩,
  ⟨some 43, .load false 1 (.t 42), none⟩,
  ⟨some 44, .mv (.t 1), none⟩,
  ⟨some 45, .mv (.t 9), none⟩,
  ⟨some 46, .ixs 2 (.t 44) (.t 45), none⟩,
  ⟨some 47, .ixa 2 1 (.t 46) (.c (.int .i64 1)), none⟩,
  ⟨some 48, .load false 1 (.t 47), none⟩,
  ⟨some 49, .lit 2 [(.int .i64 0)] [(0, (.t 43)), (1, (.t 48))], none⟩,
  ⟨some 50, .append 1 8 (.t 38) (.t 49), none⟩,
  ⟨some 7, .mv (.t 50), none⟩]
def c15_r9 : List AO := [
  ⟨some 36, .mv (.t 9), none⟩,
  ⟨some 37, .bin .add (.t 36) (.c (.int .i64 1)), none⟩,
  ⟨some 9, .mv (.t 37), none⟩]
def c15_lb1 : AC := (.seq (.seq (.region c15_r7 [] [])
 (.cond (.t 35) .skip (.exit 2)))
 (.seq (.block 3 (.region c15_r8 [] []))
 (.region c15_r9 [] [])))
def c15_l1 : AC := .loop c15_lb1
def c15_r10 : List AO := [
  ⟨some 51, .mv (.t 7), none⟩,
  ⟨some 6, .mv (.t 51), none⟩]
def c15 : AC := (.seq (.region c15_r0 [] [])
 (.seq (.region c15_r1 [] [])
 (.seq (.seq (.region c15_r2 [] [])
 (.block 0 c15_l0))
 (.seq (.seq (.region c15_r6 [] [])
 (.block 2 c15_l1))
 (.seq (.region c15_r10 [] [])
 .ret)))))
def a15 : AFn := ⟨52, [.t 6], 2, c15⟩

-- F16 resolvent/resolventref17.In
def c16_r0 : List AO := [
  ⟨some 4, .mv (.c (.bool false)), none⟩]
def c16_r1 : List AO := [
  ⟨some 5, .mv (.c (.int .i64 0)), none⟩]
def c16_r2 : List AO := [
  ⟨some 6, .mv (.t 5), none⟩,
  ⟨some 7, .mv (.t 0), none⟩,
  ⟨some 8, .len 1 (.t 7), none⟩,
  ⟨some 9, .bin .lss (.t 6) (.t 8), none⟩]
def c16_r3 : List AO := [
  ⟨some 12, .mv (.t 0), none⟩,
  ⟨some 13, .mv (.t 5), none⟩,
  ⟨some 14, .ixs 1 (.t 12) (.t 13), none⟩,
  ⟨some 15, .load false 1 (.t 14), none⟩,
  ⟨some 16, .mv (.t 1), none⟩,
  ⟨some 17, .bin .eql (.t 15) (.t 16), none⟩,
  ⟨some 18, .mv (.t 17), none⟩,
  ⟨some 19, .mv (.t 1), some (18, true)⟩,
  ⟨some 20, .bin .geq (.t 19) (.c (.int .i64 0)), some (18, true)⟩,
  ⟨some 21, .pick (.t 18) (.t 20) (.c (.bool false)), none⟩]
def c16_r4 : List AO := [
  ⟨some 4, .mv (.c (.bool true)), none⟩]
def c16_r5 : List AO := [
  ⟨some 10, .mv (.t 5), none⟩,
  ⟨some 11, .bin .add (.t 10) (.c (.int .i64 1)), none⟩,
  ⟨some 5, .mv (.t 11), none⟩]
def c16_lb0 : AC := (.seq (.seq (.region c16_r2 [] [])
 (.cond (.t 9) .skip (.exit 0)))
 (.seq (.block 1 (.seq (.region c16_r3 [] [])
 (.cond (.t 21) (.seq (.region c16_r4 [] [])
 .ret) .skip)))
 (.region c16_r5 [] [])))
def c16_l0 : AC := .loop c16_lb0
def c16_r6 : List AO := [
  ⟨some 4, .mv (.c (.bool false)), none⟩]
def c16 : AC := (.seq (.region c16_r0 [] [])
 (.seq (.seq (.region c16_r1 [] [])
 (.block 0 c16_l0))
 (.seq (.region c16_r6 [] [])
 .ret)))
def a16 : AFn := ⟨22, [.t 4], 2, c16⟩

-- F17 resolvent/resolventref17.Related
def c17_r0 : List AO := [
  ⟨some 6, .mv (.c (.bool false)), none⟩]
def c17_r1 : List AO := [
  ⟨some 8, .mv (.t 1), none⟩,
  ⟨some 9, .mv (.t 2), none⟩,
  ⟨some 10, .callf 16 [(.t 8), (.t 9)], none⟩]
def c17_r2 : List AO := [
  ⟨some 6, .mv (.c (.bool true)), none⟩]
def c17_r3 : List AO := [
  ⟨some 7, .mv (.c (.int .i64 0)), none⟩]
def c17_r4 : List AO := [
  ⟨some 11, .mv (.t 7), none⟩,
  ⟨some 12, .mv (.t 1), none⟩,
  ⟨some 13, .len 1 (.t 12), none⟩,
  ⟨some 14, .bin .lss (.t 11) (.t 13), none⟩]
def c17_r5 : List AO := [
  ⟨some 17, .mv (.t 0), none⟩,
  ⟨some 18, .mv (.t 1), none⟩,
  ⟨some 19, .mv (.t 7), none⟩,
  ⟨some 20, .ixs 1 (.t 18) (.t 19), none⟩,
  ⟨some 21, .load false 1 (.t 20), none⟩,
  ⟨some 22, .mv (.t 2), none⟩,
  ⟨some 23, .callf 18 [(.t 17), (.t 21), (.t 22)], none⟩]
def c17_r6 : List AO := [
  ⟨some 6, .mv (.c (.bool true)), none⟩]
def c17_r7 : List AO := [
  ⟨some 15, .mv (.t 7), none⟩,
  ⟨some 16, .bin .add (.t 15) (.c (.int .i64 1)), none⟩,
  ⟨some 7, .mv (.t 16), none⟩]
def c17_lb0 : AC := (.seq (.seq (.region c17_r4 [] [])
 (.cond (.t 14) .skip (.exit 0)))
 (.seq (.block 1 (.seq (.region c17_r5 [] [])
 (.cond (.t 23) (.seq (.region c17_r6 [] [])
 .ret) .skip)))
 (.region c17_r7 [] [])))
def c17_l0 : AC := .loop c17_lb0
def c17_r8 : List AO := [
  ⟨some 6, .mv (.c (.bool false)), none⟩]
def c17 : AC := (.seq (.region c17_r0 [] [])
 (.seq (.seq (.region c17_r1 [] [])
 (.cond (.t 10) (.seq (.region c17_r2 [] [])
 .ret) .skip))
 (.seq (.seq (.region c17_r3 [] [])
 (.block 0 c17_l0))
 (.seq (.region c17_r8 [] [])
 .ret))))
def a17 : AFn := ⟨24, [.t 6], 2, c17⟩

-- F18 resolvent/resolventref17.Has
def c18_r0 : List AO := [
  ⟨some 6, .mv (.c (.bool false)), none⟩]
def c18_r1 : List AO := [
  ⟨some 8, .mv (.t 1), none⟩,
  ⟨some 9, .bin .lss (.t 8) (.c (.int .i64 0)), none⟩,
  ⟨some 10, .mv (.t 9), none⟩,
  ⟨some 11, .mv (.t 2), some (10, false)⟩,
  ⟨some 12, .bin .lss (.t 11) (.c (.int .i64 0)), some (10, false)⟩,
  ⟨some 13, .pick (.t 10) (.c (.bool true)) (.t 12), none⟩,
  ⟨some 14, .mv (.t 13), none⟩,
  ⟨some 15, .mv (.t 1), some (14, false)⟩,
  ⟨some 16, .mv (.t 2), some (14, false)⟩,
  ⟨some 17, .bin .eql (.t 15) (.t 16), some (14, false)⟩,
  ⟨some 18, .pick (.t 14) (.c (.bool true)) (.t 17), none⟩]
def c18_r2 : List AO := [
  ⟨some 6, .mv (.c (.bool false)), none⟩]
def c18_r3 : List AO := [
  ⟨some 7, .mv (.c (.int .i64 0)), none⟩]
def c18_r4 : List AO := [
  ⟨some 19, .mv (.t 7), none⟩,
  ⟨some 20, .mv (.t 0), none⟩,
  ⟨some 21, .len 1 (.t 20), none⟩,
  ⟨some 22, .bin .lss (.t 19) (.t 21), none⟩]
def c18_r5 : List AO := [
  ⟨some 25, .mv (.t 0), none⟩,
  ⟨some 26, .mv (.t 7), none⟩,
  ⟨some 27, .ixs 2 (.t 25) (.t 26), none⟩,
  ⟨some 28, .ixa 2 1 (.t 27) (.c (.int .i64 0)), none⟩,
  ⟨some 29, .load false 1 (.t 28), none⟩,
  ⟨some 30, .mv (.t 1), none⟩,
  ⟨some 31, .bin .eql (.t 29) (.t 30), none⟩,
  ⟨some 32, .mv (.t 31), none⟩,
  ⟨some 33, .mv (.t 0), some (32, true)⟩,
  ⟨some 34, .mv (.t 7), some (32, true)⟩,
  ⟨some 35, .ixs 2 (.t 33) (.t 34), some (32, true)⟩,
  ⟨some 36, .ixa 2 1 (.t 35) (.c (.int .i64 1)), some (32, true)⟩,
  ⟨some 37, .load false 1 (.t 36), some (32, true)⟩,
  ⟨some 38, .mv (.t 2), some (32, true)⟩,
  ⟨some 39, .bin .eql (.t 37) (.t 38), some (32, true)⟩,
  ⟨some 40, .pick (.t 32) (.t 39) (.c (.bool false)), none⟩,
  ⟨some 41, .mv (.t 40), none⟩,
  ⟨some 42, .mv (.t 0), some (41, false)⟩,
  ⟨some 43, .mv (.t 7), some (41, false)⟩,
  ⟨some 44, .ixs 2 (.t 42) (.t 43), some (41, false)⟩,
  ⟨some 45, .ixa 2 1 (.t 44) (.c (.int .i64 0)), some (41, false)⟩,
  ⟨some 46, .load false 1 (.t 45), some (41, false)⟩,
  ⟨some 47, .mv (.t 2), some (41, false)⟩,
  ⟨some 48, .bin .eql (.t 46) (.t 47), some (41, false)⟩,
  ⟨some 49, .mv (.t 48), some (41, false)⟩,
  ⟨some 50, .mv (.t 0), some (49, true)⟩,
  ⟨some 51, .mv (.t 7), some (49, true)⟩,
  ⟨some 52, .ixs 2 (.t 50) (.t 51), some (49, true)⟩,
  ⟨some 53, .ixa 2 1 (.t 52) (.c (.int .i64 1)), some (49, true)⟩,
  ⟨some 54, .load false 1 (.t 53), some (49, true)⟩,
  ⟨some 55, .mv (.t 1), some (49, true)⟩,
  ⟨some 56, .bin .eql (.t 54) (.t 55), some (49, true)⟩,
  ⟨some 57, .pick (.t 49) (.t 56) (.c (.bool false)), some (41, false)⟩,
  ⟨some 58, .pick (.t 41) (.c (.bool true)) (.t 57), none⟩]
def c18_r6 : List AO := [
  ⟨some 6, .mv (.c (.bool true)), none⟩]
def c18_r7 : List AO := [
  ⟨some 23, .mv (.t 7), none⟩,
  ⟨some 24, .bin .add (.t 23) (.c (.int .i64 1)), none⟩,
  ⟨some 7, .mv (.t 24), none⟩]
def c18_lb0 : AC := (.seq (.seq (.region c18_r4 [] [])
 (.cond (.t 22) .skip (.exit 0)))
 (.seq (.block 1 (.seq (.region c18_r5 [] [])
 (.cond (.t 58) (.seq (.region c18_r6 [] [])
 .ret) .skip)))
 (.region c18_r7 [] [])))
def c18_l0 : AC := .loop c18_lb0
def c18_r8 : List AO := [
  ⟨some 6, .mv (.c (.bool false)), none⟩]
def c18 : AC := (.seq (.region c18_r0 [] [])
 (.seq (.seq (.region c18_r1 [] [])
 (.cond (.t 18) (.seq (.region c18_r2 [] [])
 .ret) .skip))
 (.seq (.seq (.region c18_r3 [] [])
 (.block 0 c18_l0))
 (.seq (.region c18_r8 [] [])
 .ret))))
def a18 : AFn := ⟨59, [.t 6], 2, c18⟩

-- F19 resolvent/pairs.Has
def c19_r0 : List AO := [
  ⟨some 6, .alloc [(.bool false)], none⟩]
def c19_r1 : List AO := [
  ⟨some 9, .mv (.t 1), none⟩,
  ⟨some 10, .mv (.t 2), none⟩,
  ⟨some 11, .mn [(.t 9), (.t 10)], none⟩,
  ⟨some 12, .mv (.t 1), none⟩,
  ⟨some 13, .mv (.t 2), none⟩,
  ⟨some 14, .mx [(.t 12), (.t 13)], none⟩,
  ⟨some 15, .build [(.int .i64 0), (.int .i64 0)] [(0, 1, (.t 11)), (1, 1, (.t 14))], none⟩,
  ⟨some 7, .alloc [(.int .i64 0), (.int .i64 0)], none⟩,
  ⟨none, .store 2 (.t 7) (.t 15), none⟩]
def c19_r2 : List AO := [
  ⟨some 16, .mv (.t 0), none⟩,
  ⟨some 17, .callf 22 [(.t 16)], none⟩]
def c19_r3 : List AO := [
  ⟨none, .store 1 (.t 6) (.c (.bool false)), none⟩]
def c19 : AC := (.seq (.region c19_r0 [] [])
 (.seq (.region c19_r1 [] [])
 (.seq (.seq (.region c19_r2 [] [])
 (.block 0 (.rangef 19018 (.t 17))))
 (.seq (.region c19_r3 [] [])
 .ret))))
def a19 : AFn := ⟨22, [.cell 6 false 1], 2, c19⟩

def c19_a0_r0 : List AO := [
  ⟨some 8, .alloc [(.int .i64 0), (.int .i64 0)], none⟩,
  ⟨none, .store 2 (.t 8) (.t 18), none⟩]
def c19_b0_r0 : List AO := [
  ⟨some 19, .load true 2 (.t 8), none⟩,
  ⟨some 20, .load true 2 (.t 7), none⟩,
  ⟨some 21, .eqa false [1, 1] (.t 19) (.t 20), none⟩]
def c19_b0_r1 : List AO := [
  ⟨none, .store 1 (.t 6) (.c (.bool true)), none⟩]
def c19_a0 : AC := (.region c19_a0_r0 [] [])
def c19_b0 : AC := (.block 1 (.seq (.region c19_b0_r0 [] [])
 (.cond (.t 21) (.seq (.region c19_b0_r1 [] [])
 .ret) .skip)))

-- F20 resolvent/resolventlaw17.same
def c20_r0 : List AO := [
  ⟨some 4, .mv (.c (.bool false)), none⟩]
def c20_r1 : List AO := [
  ⟨some 6, .mv (.t 0), none⟩,
  ⟨some 7, .len 1 (.t 6), none⟩,
  ⟨some 8, .mv (.t 1), none⟩,
  ⟨some 9, .len 1 (.t 8), none⟩,
  ⟨some 10, .bin .neq (.t 7) (.t 9), none⟩]
def c20_r2 : List AO := [
  ⟨some 4, .mv (.c (.bool false)), none⟩]
def c20_r3 : List AO := [
  ⟨some 5, .mv (.c (.int .i64 0)), none⟩]
def c20_r4 : List AO := [
  ⟨some 11, .mv (.t 5), none⟩,
  ⟨some 12, .mv (.t 0), none⟩,
  ⟨some 13, .len 1 (.t 12), none⟩,
  ⟨some 14, .bin .lss (.t 11) (.t 13), none⟩]
def c20_r5 : List AO := [
  ⟨some 17, .mv (.t 0), none⟩,
  ⟨some 18, .mv (.t 5), none⟩,
  ⟨some 19, .ixs 2 (.t 17) (.t 18), none⟩,
  ⟨some 20, .load true 2 (.t 19), none⟩,
  ⟨some 21, .mv (.t 1), none⟩,
  ⟨some 22, .mv (.t 5), none⟩,
  ⟨some 23, .ixs 2 (.t 21) (.t 22), none⟩,
  ⟨some 24, .load true 2 (.t 23), none⟩,
  ⟨some 25, .eqa true [1, 1] (.t 20) (.t 24), none⟩]
def c20_r6 : List AO := [
  ⟨some 4, .mv (.c (.bool false)), none⟩]
def c20_r7 : List AO := [
  ⟨some 15, .mv (.t 5), none⟩,
  ⟨some 16, .bin .add (.t 15) (.c (.int .i64 1)), none⟩,
  ⟨some 5, .mv (.t 16), none⟩]
def c20_lb0 : AC := (.seq (.seq (.region c20_r4 [] [])
 (.cond (.t 14) .skip (.exit 0)))
 (.seq (.block 1 (.seq (.region c20_r5 [] [])
 (.cond (.t 25) (.seq (.region c20_r6 [] [])
 .ret) .skip)))
 (.region c20_r7 [] [])))
def c20_l0 : AC := .loop c20_lb0
def c20_r8 : List AO := [
  ⟨some 4, .mv (.c (.bool true)), none⟩]
def c20 : AC := (.seq (.region c20_r0 [] [])
 (.seq (.seq (.region c20_r1 [] [])
 (.cond (.t 10) (.seq (.region c20_r2 [] [])
 .ret) .skip))
 (.seq (.seq (.region c20_r3 [] [])
 (.block 0 c20_l0))
 (.seq (.region c20_r8 [] [])
 .ret))))
def a20 : AFn := ⟨26, [.t 4], 2, c20⟩

-- F21 slices.Collect[[2]int]
def c21_r0 : List AO := [
  ⟨some 2, .mv (.c .nils), none⟩]
def c21_r1 : List AO := [
  ⟨some 3, .mv (.t 0), none⟩,
  ⟨some 4, .callf 38 [(.c .nils), (.t 3)], none⟩,
  ⟨some 2, .mv (.t 4), none⟩]
def c21 : AC := (.seq (.region c21_r0 [] [])
 (.seq (.region c21_r1 [] [])
 .ret))
def a21 : AFn := ⟨5, [.t 2], 3, c21⟩

-- F22 resolvent/pairs.good
def c22_r0 : List AO := [
  ⟨some 1, .box (.t 0), none⟩,
  ⟨some 2, .mv (.c .nilf), none⟩]
def c22_r1 : List AO := [
  ⟨some 3, .mkfn 39 [(.t 1)], none⟩,
  ⟨some 2, .mv (.t 3), none⟩]
def c22 : AC := (.seq (.region c22_r0 [] [])
 (.seq (.region c22_r1 [] [])
 .ret))
def a22 : AFn := ⟨4, [.t 2], 0, c22⟩

-- F24 resolvent/pairs.Of$1
def c24_r0 : List AO := [
  ⟨some 2, .box (.t 0), none⟩,
  ⟨some 3, .box (.t 1), none⟩,
  ⟨some 4, .mv (.c (.int .i64 0)), none⟩]
def c24_r1 : List AO := [
  ⟨some 5, .ixa 2 1 (.t 2) (.c (.int .i64 0)), none⟩,
  ⟨some 6, .load false 1 (.t 5), none⟩,
  ⟨some 7, .ixa 2 1 (.t 3) (.c (.int .i64 0)), none⟩,
  ⟨some 8, .load false 1 (.t 7), none⟩,
  ⟨some 9, .callf 26 [(.t 6), (.t 8)], none⟩,
  ⟨some 10, .ixa 2 1 (.t 2) (.c (.int .i64 1)), none⟩,
  ⟨some 11, .load false 1 (.t 10), none⟩,
  ⟨some 12, .ixa 2 1 (.t 3) (.c (.int .i64 1)), none⟩,
  ⟨some 13, .load false 1 (.t 12), none⟩,
  ⟨some 14, .callf 26 [(.t 11), (.t 13)], none⟩,
  ⟨some 15, .lit 2 [(.int .i64 0)] [(0, (.t 9)), (1, (.t 14))], none⟩,
  ⟨some 16, .callf 25 [(.t 15)], none⟩,
  ⟨some 4, .mv (.t 16), none⟩]
def c24 : AC := (.seq (.region c24_r0 [] [])
 (.seq (.region c24_r1 [] [])
 .ret))
def a24 : AFn := ⟨17, [.t 4], 2, c24⟩

-- F25 cmp.Or[int]
def c25_r0 : List AO := [
  ⟨some 2, .mv (.c (.int .i64 0)), none⟩]
def c25_r1 : List AO := [
  ⟨some 3, .mv (.c (.int .i64 0)), none⟩]
def c25_r2 : List AO := [
  ⟨some 6, .mv (.t 0), none⟩,
  ⟨some 7, .len 1 (.t 6), none⟩,
  ⟨some 8, .mv (.c (.int .i64 0)), none⟩]
def c25_r3 : List AO := [
  ⟨some 9, .bin .lss (.t 8) (.t 7), none⟩]
def c25_r4 : List AO := [
  ⟨some 10, .ixs 1 (.t 6) (.t 8), none⟩,
  ⟨some 11, .load false 1 (.t 10), none⟩,
  ⟨some 5, .mv (.t 11), none⟩]
def c25_r5 : List AO := [
  ⟨some 12, .mv (.t 5), none⟩,
  ⟨some 13, .mv (.t 3), none⟩,
  ⟨some 14, .bin .neq (.t 12) (.t 13), none⟩]
def c25_r6 : List AO := [
  ⟨some 15, .mv (.t 5), none⟩,
  ⟨some 2, .mv (.t 15), none⟩]
def c25_r7 : List AO := [
  ⟨some 16, .bin .add (.t 8) (.c (.int .i64 1)), none⟩,
  ⟨some 8, .mv (.t 16), none⟩]
def c25_lb0 : AC := (.seq (.region c25_r3 [] [])
 (.seq (.cond (.t 9) .skip (.exit 0))
 (.seq (.block 1 (.seq (.region c25_r4 [] [])
 (.seq (.region c25_r5 [] [])
 (.cond (.t 14) (.seq (.region c25_r6 [] [])
 .ret) .skip))))
 (.region c25_r7 [] []))))
def c25_l0 : AC := .loop c25_lb0
def c25_r8 : List AO := [
  ⟨some 17, .mv (.t 3), none⟩,
  ⟨some 2, .mv (.t 17), none⟩]
def c25 : AC := (.seq (.region c25_r0 [] [])
 (.seq (.region c25_r1 [] [])
 (.seq (.seq (.region c25_r2 [] [])
 (.block 0 c25_l0))
 (.seq (.region c25_r8 [] [])
 .ret))))
def a25 : AFn := ⟨18, [.t 2], 2, c25⟩

-- F26 cmp.Compare[int]
def c26_r0 : List AO := [
  ⟨some 4, .mv (.c (.int .i64 0)), none⟩]
def c26_r1 : List AO := [
  ⟨some 7, .mv (.t 0), none⟩,
  ⟨some 8, .callf 42 [(.t 7)], none⟩,
  ⟨some 5, .mv (.t 8), none⟩]
def c26_r2 : List AO := [
  ⟨some 9, .mv (.t 1), none⟩,
  ⟨some 10, .callf 42 [(.t 9)], none⟩,
  ⟨some 6, .mv (.t 10), none⟩]
def c26_r3 : List AO := [
  ⟨some 11, .mv (.t 5), none⟩]
def c26_r4 : List AO := [
  ⟨some 12, .mv (.t 6), none⟩]
def c26_r5 : List AO := [
  ⟨some 4, .mv (.c (.int .i64 0)), none⟩]
def c26_r6 : List AO := [
  ⟨some 4, .mv (.c (.int .i64 (-1))), none⟩]
def c26_r7 : List AO := [
  ⟨some 13, .mv (.t 6), none⟩]
def c26_r8 : List AO := [
  ⟨some 4, .mv (.c (.int .i64 1)), none⟩]
def c26_r9 : List AO := [
  ⟨some 14, .mv (.t 0), none⟩,
  ⟨some 15, .mv (.t 1), none⟩,
  ⟨some 16, .bin .lss (.t 14) (.t 15), none⟩]
def c26_r10 : List AO := [
  ⟨some 4, .mv (.c (.int .i64 (-1))), none⟩]
def c26_r11 : List AO := [
  ⟨some 17, .mv (.t 0), none⟩,
  ⟨some 18, .mv (.t 1), none⟩,
  ⟨some 19, .bin .gtr (.t 17) (.t 18), none⟩]
def c26_r12 : List AO := [
  ⟨some 4, .mv (.c (.int .i64 1)), none⟩]
def c26_r13 : List AO := [
  ⟨some 4, .mv (.c (.int .i64 0)), none⟩]
def c26 : AC := (.seq (.region c26_r0 [] [])
 (.seq (.region c26_r1 [] [])
 (.seq (.region c26_r2 [] [])
 (.seq (.seq (.region c26_r3 [] [])
 (.cond (.t 11) (.seq (.seq (.region c26_r4 [] [])
 (.cond (.t 12) (.seq (.region c26_r5 [] [])
 .ret) .skip))
 (.seq (.region c26_r6 [] [])
 .ret)) .skip))
 (.seq (.seq (.region c26_r7 [] [])
 (.cond (.t 13) (.seq (.region c26_r8 [] [])
 .ret) .skip))
 (.seq (.seq (.region c26_r9 [] [])
 (.cond (.t 16) (.seq (.region c26_r10 [] [])
 .ret) .skip))
 (.seq (.seq (.region c26_r11 [] [])
 (.cond (.t 19) (.seq (.region c26_r12 [] [])
 .ret) .skip))
 (.seq (.region c26_r13 [] [])
 .ret))))))))
def a26 : AFn := ⟨20, [.t 4], 2, c26⟩

-- F27 slices.Compact[[][2]int,[2]int]
def c27_r0 : List AO := [
  ⟨some 2, .mv (.c .nils), none⟩]
def c27_r1 : List AO := [
  ⟨some 6, .mv (.t 0), none⟩,
  ⟨some 7, .len 1 (.t 6), none⟩,
  ⟨some 8, .bin .lss (.t 7) (.c (.int .i64 2)), none⟩]
def c27_r2 : List AO := [
  ⟨some 9, .mv (.t 0), none⟩,
  ⟨some 2, .mv (.t 9), none⟩]
def c27_r3 : List AO := [
  ⟨some 3, .mv (.c (.int .i64 1)), none⟩]
def c27_r4 : List AO := [
  ⟨some 10, .mv (.t 3), none⟩,
  ⟨some 11, .mv (.t 0), none⟩,
  ⟨some 12, .len 1 (.t 11), none⟩,
  ⟨some 13, .bin .lss (.t 10) (.t 12), none⟩]
def c27_r5 : List AO := [
  ⟨some 16, .mv (.t 0), none⟩,
  ⟨some 17, .mv (.t 3), none⟩,
  ⟨some 18, .ixs 2 (.t 16) (.t 17), none⟩,
  ⟨some 19, .load true 2 (.t 18), none⟩,
  ⟨some 20, .mv (.t 0), none⟩,
  ⟨some 21, .mv (.t 3), none⟩,
  ⟨some 22, .bin .sub (.t 21) (.c (.int .i64 1)), none⟩,
  ⟨some 23, .ixs 2 (.t 20) (.t 22), none⟩,
  ⟨some 24, .load true 2 (.t 23), none⟩,
  ⟨some 25, .eqa false [1, 1] (.t 19) (.t 24), none⟩]
def c27_r6 : List AO := [
  ⟨some 26, .mv (.t 0), none⟩,
  ⟨some 27, .mv (.t 3), none⟩,
  ⟨some 28, .slice 2 (.t 26) (some (.t 27)) none none, none⟩,
  ⟨some 4, .mv (.t 28), none⟩]
def c27_r7 : List AO := [
  ⟨some 5, .mv (.c (.int .i64 1)), none⟩]
def c27_r8 : List AO := [
  ⟨some 29, .mv (.t 5), none⟩,
  ⟨some 30, .mv (.t 4), none⟩,
  ⟨some 31, .len 1 (.t 30), none⟩,
  ⟨some 32, .bin .lss (.t 29) (.t 31), none⟩]
def c27_r9 : List AO := [
  ⟨some 35, .mv (.t 4), none⟩,
  ⟨some 36, .mv (.t 5), none⟩,
  ⟨some 37, .ixs 2 (.t 35) (.t 36), none⟩,
  ⟨some 38, .load true 2 (.t 37), none⟩,
  ⟨some 39, .mv (.t 4), none⟩,
  ⟨some 40, .mv (.t 5), none⟩,
  ⟨some 41, .bin .sub (.t 40) (.c (.int .i64 1)), none⟩,
  ⟨some 42, .ixs 2 (.t 39) (.t 41), none⟩,
  ⟨some 43, .load true 2 (.t 42), none⟩,
  ⟨some 44, .eqa true [1, 1] (.t 38) (.t 43), none⟩]
def c27_r10 : List AO := [
  ⟨some 45, .mv (.t 0), none⟩,
  ⟨some 46, .mv (.t 3), none⟩,
  ⟨some 47, .mv (.t 4), none⟩,
  ⟨some 48, .mv (.t 5), none⟩,
  ⟨some 49, .ixs 2 (.t 47) (.t 48), none⟩,
  ⟨some 50, .load true 2 (.t 49), none⟩,
  ⟨some 51, .ixs 2 (.t 45) (.t 46), none⟩,
  ⟨none, .store 2 (.t 51) (.t 50), none⟩]
def c27_r11 : List AO := [
  ⟨some 52, .mv (.t 3), none⟩,
  ⟨some 53, .bin .add (.t 52) (.c (.int .i64 1)), none⟩,
  ⟨some 3, .mv (.t 53), none⟩]
def c27_r12 : List AO := [
  ⟨some 33, .mv (.t 5), none⟩,
  ⟨some 34, .bin .add (.t 33) (.c (.int .i64 1)), none⟩,
  ⟨some 5, .mv (.t 34), none⟩]
def c27_lb1 : AC := (.seq (.seq (.region c27_r8 [] [])
 (.cond (.t 32) .skip (.exit 2)))
 (.seq (.block 3 (.seq (.region c27_r9 [] [])
 (.cond (.t 44) (.seq (.region c27_r10 [] [])
 (.region c27_r11 [] [])) .skip)))
 (.region c27_r12 [] [])))
def c27_l1 : AC := .loop c27_lb1
def c27_r13 : List AO := [
  ⟨some 54, .mv (.t 0), none⟩,
  ⟨some 55, .mv (.t 3), none⟩,
  ⟨some 56, .slice 2 (.t 54) (some (.t 55)) none none, none⟩,
  ⟨none, .clear [(.int .i64 0), (.int .i64 0)] (.t 56), none⟩]
def c27_r14 : List AO := [
  ⟨some 57, .mv (.t 0), none⟩,
  ⟨some 58, .mv (.t 3), none⟩,
  ⟨some 59, .slice 2 (.t 57) none (some (.t 58)) none, none⟩,
  ⟨some 2, .mv (.t 59), none⟩]
def c27_r15 : List AO := [
  ⟨some 14, .mv (.t 3), none⟩,
  ⟨some 15, .bin .add (.t 14) (.c (.int .i64 1)), none⟩,
  ⟨some 3, .mv (.t 15), none⟩]
def c27_lb0 : AC := (.seq (.seq (.region c27_r4 [] [])
 (.cond (.t 13) .skip (.exit 0)))
 (.seq (.block 1 (.seq (.region c27_r5 [] [])
 (.cond (.t 25) (.seq (.region c27_r6 [] [])
 (.seq (.seq (.region c27_r7 [] [])
 (.block 2 c27_l1))
 (.seq (.region c27_r13 [] [])
 (.seq (.region c27_r14 [] [])
 .ret)))) .skip)))
 (.region c27_r15 [] [])))
def c27_l0 : AC := .loop c27_lb0
def c27_r16 : List AO := [
  ⟨some 60, .mv (.t 0), none⟩,
  ⟨some 2, .mv (.t 60), none⟩]
def c27 : AC := (.seq (.region c27_r0 [] [])
 (.seq (.seq (.region c27_r1 [] [])
 (.cond (.t 8) (.seq (.region c27_r2 [] [])
 .ret) .skip))
 (.seq (.seq (.region c27_r3 [] [])
 (.block 0 c27_l0))
 (.seq (.region c27_r16 [] [])
 .ret))))
def a27 : AFn := ⟨61, [.t 2], 0, c27⟩

-- F28 slices.Concat[[][2]int,[2]int]
def c28_r0 : List AO := [
  ⟨some 2, .mv (.c .nils), none⟩]
def c28_r1 : List AO := [
  ⟨some 3, .mv (.c (.int .i64 0)), none⟩]
def c28_r2 : List AO := [
  ⟨some 9, .mv (.t 0), none⟩,
  ⟨some 10, .len 1 (.t 9), none⟩,
  ⟨some 11, .mv (.c (.int .i64 0)), none⟩]
def c28_r3 : List AO := [
  ⟨some 12, .bin .lss (.t 11) (.t 10), none⟩]
def c28_r4 : List AO := [
  ⟨some 13, .ixs 1 (.t 9) (.t 11), none⟩,
  ⟨some 14, .load false 1 (.t 13), none⟩,
  ⟨some 5, .mv (.t 14), none⟩]
def c28_r5 : List AO := [
  ⟨some 15, .mv (.t 3), none⟩,
  ⟨some 16, .mv (.t 5), none⟩,
  ⟨some 17, .len 1 (.t 16), none⟩,
  ⟨some 18, .bin .add (.t 15) (.t 17), none⟩,
  ⟨some 3, .mv (.t 18), none⟩]
def c28_r6 : List AO := [
  ⟨some 19, .mv (.t 3), none⟩,
  ⟨some 20, .bin .lss (.t 19) (.c (.int .i64 0)), none⟩]
def c28_r7 : List AO := [
  ⟨some 21, .mkif 9 (.c (.str [108, 101, 110, 32, 111, 117, 116, 32, 111, 102, 32, 114, 97, 110, 103, 101])), none⟩,
  ⟨none, .bad, none⟩]
def c28_r8 : List AO := [
  ⟨some 22, .bin .add (.t 11) (.c (.int .i64 1)), none⟩,
  ⟨some 11, .mv (.t 22), none⟩]
def c28_lb0 : AC := (.seq (.region c28_r3 [] [])
 (.seq (.cond (.t 12) .skip (.exit 0))
 (.seq (.block 1 (.seq (.region c28_r4 [] [])
 (.seq (.region c28_r5 [] [])
 (.seq (.region c28_r6 [] [])
 (.cond (.t 20) (.region c28_r7 [] []) .skip)))))
 (.region c28_r8 [] []))))
def c28_l0 : AC := .loop c28_lb0
def c28_r9 : List AO := [
  ⟨some 23, .mv (.t 3), none⟩,
  ⟨some 24, .callf 43 [(.c .nils), (.t 23)], none⟩,
  ⟨some 6, .mv (.t 24), none⟩]
def c28_r10 : List AO := [
  ⟨some 25, .mv (.t 0), none⟩,
  ⟨some 26, .len 1 (.t 25), none⟩,
  ⟨some 27, .mv (.c (.int .i64 0)), none⟩]
def c28_r11 : List AO := [
  ⟨some 28, .bin .lss (.t 27) (.t 26), none⟩]
def c28_r12 : List AO := [
  ⟨some 29, .ixs 1 (.t 25) (.t 27), none⟩,
  ⟨some 30, .load false 1 (.t 29), none⟩,
  ⟨some 8, .mv (.t 30), none⟩]
def c28_r13 : List AO := [
  ⟨some 31, .mv (.t 6), none⟩,
  ⟨some 32, .mv (.t 8), none⟩,
  ⟨some 33, .append 2 16 (.t 31) (.t 32), none⟩,
  ⟨some 6, .mv (.t 33), none⟩]
def c28_r14 : List AO := [
  ⟨some 34, .bin .add (.t 27) (.c (.int .i64 1)), none⟩,
  ⟨some 27, .mv (.t 34), none⟩]
def c28_lb1 : AC := (.seq (.region c28_r11 [] [])
 (.seq (.cond (.t 28) .skip (.exit 2))
 (.seq (.block 3 (.seq (.region c28_r12 [] [])
 (.region c28_r13 [] [])))
 (.region c28_r14 [] []))))
def c28_l1 : AC := .loop c28_lb1
def c28_r15 : List AO := [
  ⟨some 35, .mv (.t 6), none⟩,
  ⟨some 2, .mv (.t 35), none⟩]
def c28 : AC := (.seq (.region c28_r0 [] [])
 (.seq (.region c28_r1 [] [])
 (.seq (.seq (.region c28_r2 [] [])
 (.block 0 c28_l0))
 (.seq (.region c28_r9 [] [])
 (.seq (.seq (.region c28_r10 [] [])
 (.block 2 c28_l1))
 (.seq (.region c28_r15 [] [])
 .ret))))))
def a28 : AFn := ⟨36, [.t 2], 3, c28⟩

-- F29 slices.Clone[[][2]int,[2]int]
def c29_r0 : List AO := [
  ⟨some 2, .mv (.c .nils), none⟩]
def c29_r1 : List AO := [
  ⟨some 3, .mv (.t 0), none⟩,
  ⟨some 4, .eqn 0 false (.t 3), none⟩]
def c29_r2 : List AO := [
  ⟨some 2, .mv (.c .nils), none⟩]
def c29_r3 : List AO := [
  ⟨some 5, .lit 0 [(.int .i64 0), (.int .i64 0)] [], none⟩,
  ⟨some 6, .mv (.t 0), none⟩,
  ⟨some 7, .append 2 16 (.t 5) (.t 6), none⟩,
  ⟨some 2, .mv (.t 7), none⟩]
def c29 : AC := (.seq (.region c29_r0 [] [])
 (.seq (.seq (.region c29_r1 [] [])
 (.cond (.t 4) (.seq (.region c29_r2 [] [])
 .ret) .skip))
 (.seq (.region c29_r3 [] [])
 .ret)))
def a29 : AFn := ⟨8, [.t 2], 3, c29⟩

-- F30 slices.DeleteFunc[[][2]int,[2]int]
def c30_r0 : List AO := [
  ⟨some 4, .mv (.c .nils), none⟩]
def c30_r1 : List AO := [
  ⟨some 8, .mv (.t 0), none⟩,
  ⟨some 9, .mv (.t 1), none⟩,
  ⟨some 10, .callf 44 [(.t 8), (.t 9)], none⟩,
  ⟨some 5, .mv (.t 10), none⟩]
def c30_r2 : List AO := [
  ⟨some 11, .mv (.t 5), none⟩,
  ⟨some 12, .bin .eql (.t 11) (.c (.int .i64 (-1))), none⟩]
def c30_r3 : List AO := [
  ⟨some 13, .mv (.t 0), none⟩,
  ⟨some 4, .mv (.t 13), none⟩]
def c30_r4 : List AO := [
  ⟨some 14, .mv (.t 5), none⟩,
  ⟨some 15, .bin .add (.t 14) (.c (.int .i64 1)), none⟩,
  ⟨some 6, .mv (.t 15), none⟩]
def c30_r5 : List AO := [
  ⟨some 16, .mv (.t 6), none⟩,
  ⟨some 17, .mv (.t 0), none⟩,
  ⟨some 18, .len 1 (.t 17), none⟩,
  ⟨some 19, .bin .lss (.t 16) (.t 18), none⟩]
def c30_r6 : List AO := [
  ⟨some 22, .mv (.t 0), none⟩,
  ⟨some 23, .mv (.t 6), none⟩,
  ⟨some 24, .ixs 2 (.t 22) (.t 23), none⟩,
  ⟨some 25, .load true 2 (.t 24), none⟩,
  ⟨some 7, .alloc [(.int .i64 0), (.int .i64 0)], none⟩,
  ⟨none, .store 2 (.t 7) (.t 25), none⟩]
def c30_r7 : List AO := [
  ⟨some 26, .mv (.t 1), none⟩,
  ⟨some 27, .load true 2 (.t 7), none⟩,
  ⟨some 28, .callv (.t 26) [(.t 27)], none⟩,
  ⟨some 29, .un .not (.t 28), none⟩]
def c30_r8 : List AO := [
  ⟨some 30, .mv (.t 0), none⟩,
  ⟨some 31, .mv (.t 5), none⟩,
  ⟨some 32, .load true 2 (.t 7), none⟩,
  ⟨some 33, .ixs 2 (.t 30) (.t 31), none⟩,
  ⟨none, .store 2 (.t 33) (.t 32), none⟩]
def c30_r9 : List AO := [
  ⟨some 34, .mv (.t 5), none⟩,
  ⟨some 35, .bin .add (.t 34) (.c (.int .i64 1)), none⟩,
  ⟨some 5, .mv (.t 35), none⟩]
def c30_r10 : List AO := [
  ⟨some 20, .mv (.t 6), none⟩,
  ⟨some 21, .bin .add (.t 20) (.c (.int .i64 1)), none⟩,
  ⟨some 6, .mv (.t 21), none⟩]
def c30_lb0 : AC := (.seq (.seq (.region c30_r5 [] [])
 (.cond (.t 19) .skip (.exit 0)))
 (.seq (.block 1 (.seq (.region c30_r6 [] [])
 (.seq (.region c30_r7 [] [])
 (.cond (.t 29) (.seq (.region c30_r8 [] [])
 (.region c30_r9 [] [])) .skip))))
 (.region c30_r10 [] [])))
def c30_l0 : AC := .loop c30_lb0
def c30_r11 : List AO := [
  ⟨some 36, .mv (.t 0), none⟩,
  ⟨some 37, .mv (.t 5), none⟩,
  ⟨some 38, .slice 2 (.t 36) (some (.t 37)) none none, none⟩,
  ⟨none, .clear [(.int .i64 0), (.int .i64 0)] (.t 38), none⟩]
def c30_r12 : List AO := [
  ⟨some 39, .mv (.t 0), none⟩,
  ⟨some 40, .mv (.t 5), none⟩,
  ⟨some 41, .slice 2 (.t 39) none (some (.t 40)) none, none⟩,
  ⟨some 4, .mv (.t 41), none⟩]
def c30 : AC := (.seq (.region c30_r0 [] [])
 (.seq (.region c30_r1 [] [])
 (.seq (.seq (.region c30_r2 [] [])
 (.cond (.t 12) (.seq (.region c30_r3 [] [])
 .ret) .skip))
 (.seq (.seq (.region c30_r4 [] [])
 (.block 0 c30_l0))
 (.seq (.region c30_r11 [] [])
 (.seq (.region c30_r12 [] [])
 .ret))))))
def a30 : AFn := ⟨42, [.t 4], 0, c30⟩

-- F31 resolvent/pairs.Without$1
def c31_r0 : List AO := [
  ⟨some 2, .box (.t 0), none⟩,
  ⟨some 3, .mv (.c (.bool false)), none⟩]
def c31_r1 : List AO := [
  ⟨some 4, .load false 1 (.t 1), none⟩,
  ⟨some 5, .ixa 2 1 (.t 2) (.c (.int .i64 0)), none⟩,
  ⟨some 6, .load false 1 (.t 5), none⟩,
  ⟨some 7, .callf 32 [(.t 4), (.t 6)], none⟩,
  ⟨some 8, .mv (.t 7), none⟩,
  ⟨some 9, .load false 1 (.t 1), some (8, false)⟩,
  ⟨some 10, .ixa 2 1 (.t 2) (.c (.int .i64 1)), some (8, false)⟩,
  ⟨some 11, .load false 1 (.t 10), some (8, false)⟩,
  ⟨some 12, .callf 32 [(.t 9), (.t 11)], some (8, false)⟩,
  ⟨some 13, .pick (.t 8) (.c (.bool true)) (.t 12), none⟩,
  ⟨some 3, .mv (.t 13), none⟩]
def c31 : AC := (.seq (.region c31_r0 [] [])
 (.seq (.region c31_r1 [] [])
 .ret))
def a31 : AFn := ⟨14, [.t 3], 2, c31⟩

-- F32 slices.Contains[[]int,int]
def c32_r0 : List AO := [
  ⟨some 4, .mv (.c (.bool false)), none⟩]
def c32_r1 : List AO := [
  ⟨some 5, .mv (.t 0), none⟩,
  ⟨some 6, .mv (.t 1), none⟩,
  ⟨some 7, .callf 45 [(.t 5), (.t 6)], none⟩,
  ⟨some 8, .bin .geq (.t 7) (.c (.int .i64 0)), none⟩,
  ⟨some 4, .mv (.t 8), none⟩]
def c32 : AC := (.seq (.region c32_r0 [] [])
 (.seq (.region c32_r1 [] [])
 .ret))
def a32 : AFn := ⟨9, [.t 4], 2, c32⟩

-- F33 slices.Clone[[]int,int]
def c33_r0 : List AO := [
  ⟨some 2, .mv (.c .nils), none⟩]
def c33_r1 : List AO := [
  ⟨some 3, .mv (.t 0), none⟩,
  ⟨some 4, .eqn 0 false (.t 3), none⟩]
def c33_r2 : List AO := [
  ⟨some 2, .mv (.c .nils), none⟩]
def c33_r3 : List AO := [
  ⟨some 5, .lit 0 [(.int .i64 0)] [], none⟩,
  ⟨some 6, .mv (.t 0), none⟩,
  ⟨some 7, .append 1 8 (.t 5) (.t 6), none⟩,
  ⟨some 2, .mv (.t 7), none⟩]
def c33 : AC := (.seq (.region c33_r0 [] [])
 (.seq (.seq (.region c33_r1 [] [])
 (.cond (.t 4) (.seq (.region c33_r2 [] [])
 .ret) .skip))
 (.seq (.region c33_r3 [] [])
 .ret)))
def a33 : AFn := ⟨8, [.t 2], 3, c33⟩

-- F34 slices.DeleteFunc[[]int,int]
def c34_r0 : List AO := [
  ⟨some 4, .mv (.c .nils), none⟩]
def c34_r1 : List AO := [
  ⟨some 8, .mv (.t 0), none⟩,
  ⟨some 9, .mv (.t 1), none⟩,
  ⟨some 10, .callf 46 [(.t 8), (.t 9)], none⟩,
  ⟨some 5, .mv (.t 10), none⟩]
def c34_r2 : List AO := [
  ⟨some 11, .mv (.t 5), none⟩,
  ⟨some 12, .bin .eql (.t 11) (.c (.int .i64 (-1))), none⟩]
def c34_r3 : List AO := [
  ⟨some 13, .mv (.t 0), none⟩,
  ⟨some 4, .mv (.t 13), none⟩]
def c34_r4 : List AO := [
  ⟨some 14, .mv (.t 5), none⟩,
  ⟨some 15, .bin .add (.t 14) (.c (.int .i64 1)), none⟩,
  ⟨some 6, .mv (.t 15), none⟩]
def c34_r5 : List AO := [
  ⟨some 16, .mv (.t 6), none⟩,
  ⟨some 17, .mv (.t 0), none⟩,
  ⟨some 18, .len 1 (.t 17), none⟩,
  ⟨some 19, .bin .lss (.t 16) (.t 18), none⟩]
def c34_r6 : List AO := [
  ⟨some 22, .mv (.t 0), none⟩,
  ⟨some 23, .mv (.t 6), none⟩,
  ⟨some 24, .ixs 1 (.t 22) (.t 23), none⟩,
  ⟨some 25, .load false 1 (.t 24), none⟩,
  ⟨some 7, .mv (.t 25), none⟩]
def c34_r7 : List AO := [
  ⟨some 26, .mv (.t 1), none⟩,
  ⟨some 27, .mv (.t 7), none⟩,
  ⟨some 28, .callv (.t 26) [(.t 27)], none⟩,
  ⟨some 29, .un .not (.t 28), none⟩]
def c34_r8 : List AO := [
  ⟨some 30, .mv (.t 0), none⟩,
  ⟨some 31, .mv (.t 5), none⟩,
  ⟨some 32, .mv (.t 7), none⟩,
  ⟨some 33, .ixs 1 (.t 30) (.t 31), none⟩,
  ⟨none, .store 1 (.t 33) (.t 32), none⟩]
def c34_r9 : List AO := [
  ⟨some 34, .mv (.t 5), none⟩,
  ⟨some 35, .bin .add (.t 34) (.c (.int .i64 1)), none⟩,
  ⟨some 5, .mv (.t 35), none⟩]
def c34_r10 : List AO := [
  ⟨some 20, .mv (.t 6), none⟩,
  ⟨some 21, .bin .add (.t 20) (.c (.int .i64 1)), none⟩,
  ⟨some 6, .mv (.t 21), none⟩]
def c34_lb0 : AC := (.seq (.seq (.region c34_r5 [] [])
 (.cond (.t 19) .skip (.exit 0)))
 (.seq (.block 1 (.seq (.region c34_r6 [] [])
 (.seq (.region c34_r7 [] [])
 (.cond (.t 29) (.seq (.region c34_r8 [] [])
 (.region c34_r9 [] [])) .skip))))
 (.region c34_r10 [] [])))
def c34_l0 : AC := .loop c34_lb0
def c34_r11 : List AO := [
  ⟨some 36, .mv (.t 0), none⟩,
  ⟨some 37, .mv (.t 5), none⟩,
  ⟨some 38, .slice 1 (.t 36) (some (.t 37)) none none, none⟩,
  ⟨none, .clear [(.int .i64 0)] (.t 38), none⟩]
def c34_r12 : List AO := [
  ⟨some 39, .mv (.t 0), none⟩,
  ⟨some 40, .mv (.t 5), none⟩,
  ⟨some 41, .slice 1 (.t 39) none (some (.t 40)) none, none⟩,
  ⟨some 4, .mv (.t 41), none⟩]
def c34 : AC := (.seq (.region c34_r0 [] [])
 (.seq (.region c34_r1 [] [])
 (.seq (.seq (.region c34_r2 [] [])
 (.cond (.t 12) (.seq (.region c34_r3 [] [])
 .ret) .skip))
 (.seq (.seq (.region c34_r4 [] [])
 (.block 0 c34_l0))
 (.seq (.region c34_r11 [] [])
 (.seq (.region c34_r12 [] [])
 .ret))))))
def a34 : AFn := ⟨42, [.t 4], 0, c34⟩

-- F35 resolvent/pairs.Places$1
def c35_r0 : List AO := [
  ⟨some 2, .mv (.c (.bool false)), none⟩]
def c35_r1 : List AO := [
  ⟨some 3, .mv (.t 0), none⟩,
  ⟨some 4, .bin .lss (.t 3) (.c (.int .i64 0)), none⟩,
  ⟨some 2, .mv (.t 4), none⟩]
def c35 : AC := (.seq (.region c35_r0 [] [])
 (.seq (.region c35_r1 [] [])
 .ret))
def a35 : AFn := ⟨5, [.t 2], 2, c35⟩

-- F37 slices.Compact[[]int,int]
def c37_r0 : List AO := [
  ⟨some 2, .mv (.c .nils), none⟩]
def c37_r1 : List AO := [
  ⟨some 6, .mv (.t 0), none⟩,
  ⟨some 7, .len 1 (.t 6), none⟩,
  ⟨some 8, .bin .lss (.t 7) (.c (.int .i64 2)), none⟩]
def c37_r2 : List AO := [
  ⟨some 9, .mv (.t 0), none⟩,
  ⟨some 2, .mv (.t 9), none⟩]
def c37_r3 : List AO := [
  ⟨some 3, .mv (.c (.int .i64 1)), none⟩]
def c37_r4 : List AO := [
  ⟨some 10, .mv (.t 3), none⟩,
  ⟨some 11, .mv (.t 0), none⟩,
  ⟨some 12, .len 1 (.t 11), none⟩,
  ⟨some 13, .bin .lss (.t 10) (.t 12), none⟩]
def c37_r5 : List AO := [
  ⟨some 16, .mv (.t 0), none⟩,
  ⟨some 17, .mv (.t 3), none⟩,
  ⟨some 18, .ixs 1 (.t 16) (.t 17), none⟩,
  ⟨some 19, .load false 1 (.t 18), none⟩,
  ⟨some 20, .mv (.t 0), none⟩,
  ⟨some 21, .mv (.t 3), none⟩,
  ⟨some 22, .bin .sub (.t 21) (.c (.int .i64 1)), none⟩,
  ⟨some 23, .ixs 1 (.t 20) (.t 22), none⟩,
  ⟨some 24, .load false 1 (.t 23), none⟩,
  ⟨some 25, .bin .eql (.t 19) (.t 24), none⟩]
def c37_r6 : List AO := [
  ⟨some 26, .mv (.t 0), none⟩,
  ⟨some 27, .mv (.t 3), none⟩,
  ⟨some 28, .slice 1 (.t 26) (some (.t 27)) none none, none⟩,
  ⟨some 4, .mv (.t 28), none⟩]
def c37_r7 : List AO := [
  ⟨some 5, .mv (.c (.int .i64 1)), none⟩]
def c37_r8 : List AO := [
  ⟨some 29, .mv (.t 5), none⟩,
  ⟨some 30, .mv (.t 4), none⟩,
  ⟨some 31, .len 1 (.t 30), none⟩,
  ⟨some 32, .bin .lss (.t 29) (.t 31), none⟩]
def c37_r9 : List AO := [
  ⟨some 35, .mv (.t 4), none⟩,
  ⟨some 36, .mv (.t 5), none⟩,
  ⟨some 37, .ixs 1 (.t 35) (.t 36), none⟩,
  ⟨some 38, .load false 1 (.t 37), none⟩,
  ⟨some 39, .mv (.t 4), none⟩,
  ⟨some 40, .mv (.t 5), none⟩,
  ⟨some 41, .bin .sub (.t 40) (.c (.int .i64 1)), none⟩,
  ⟨some 42, .ixs 1 (.t 39) (.t 41), none⟩,
  ⟨some 43, .load false 1 (.t 42), none⟩,
  ⟨some 44, .bin .neq (.t 38) (.t 43), none⟩]
def c37_r10 : List AO := [
  ⟨some 45, .mv (.t 0), none⟩,
  ⟨some 46, .mv (.t 3), none⟩,
  ⟨some 47, .mv (.t 4), none⟩,
  ⟨some 48, .mv (.t 5), none⟩,
  ⟨some 49, .ixs 1 (.t 47) (.t 48), none⟩,
  ⟨some 50, .load false 1 (.t 49), none⟩,
  ⟨some 51, .ixs 1 (.t 45) (.t 46), none⟩,
  ⟨none, .store 1 (.t 51) (.t 50), none⟩]
def c37_r11 : List AO := [
  ⟨some 52, .mv (.t 3), none⟩,
  ⟨some 53, .bin .add (.t 52) (.c (.int .i64 1)), none⟩,
  ⟨some 3, .mv (.t 53), none⟩]
def c37_r12 : List AO := [
  ⟨some 33, .mv (.t 5), none⟩,
  ⟨some 34, .bin .add (.t 33) (.c (.int .i64 1)), none⟩,
  ⟨some 5, .mv (.t 34), none⟩]
def c37_lb1 : AC := (.seq (.seq (.region c37_r8 [] [])
 (.cond (.t 32) .skip (.exit 2)))
 (.seq (.block 3 (.seq (.region c37_r9 [] [])
 (.cond (.t 44) (.seq (.region c37_r10 [] [])
 (.region c37_r11 [] [])) .skip)))
 (.region c37_r12 [] [])))
def c37_l1 : AC := .loop c37_lb1
def c37_r13 : List AO := [
  ⟨some 54, .mv (.t 0), none⟩,
  ⟨some 55, .mv (.t 3), none⟩,
  ⟨some 56, .slice 1 (.t 54) (some (.t 55)) none none, none⟩,
  ⟨none, .clear [(.int .i64 0)] (.t 56), none⟩]
def c37_r14 : List AO := [
  ⟨some 57, .mv (.t 0), none⟩,
  ⟨some 58, .mv (.t 3), none⟩,
  ⟨some 59, .slice 1 (.t 57) none (some (.t 58)) none, none⟩,
  ⟨some 2, .mv (.t 59), none⟩]
def c37_r15 : List AO := [
  ⟨some 14, .mv (.t 3), none⟩,
  ⟨some 15, .bin .add (.t 14) (.c (.int .i64 1)), none⟩,
  ⟨some 3, .mv (.t 15), none⟩]
def c37_lb0 : AC := (.seq (.seq (.region c37_r4 [] [])
 (.cond (.t 13) .skip (.exit 0)))
 (.seq (.block 1 (.seq (.region c37_r5 [] [])
 (.cond (.t 25) (.seq (.region c37_r6 [] [])
 (.seq (.seq (.region c37_r7 [] [])
 (.block 2 c37_l1))
 (.seq (.region c37_r13 [] [])
 (.seq (.region c37_r14 [] [])
 .ret)))) .skip)))
 (.region c37_r15 [] [])))
def c37_l0 : AC := .loop c37_lb0
def c37_r16 : List AO := [
  ⟨some 60, .mv (.t 0), none⟩,
  ⟨some 2, .mv (.t 60), none⟩]
def c37 : AC := (.seq (.region c37_r0 [] [])
 (.seq (.seq (.region c37_r1 [] [])
 (.cond (.t 8) (.seq (.region c37_r2 [] [])
 .ret) .skip))
 (.seq (.seq (.region c37_r3 [] [])
 (.block 0 c37_l0))
 (.seq (.region c37_r16 [] [])
 .ret))))
def a37 : AFn := ⟨61, [.t 2], 0, c37⟩

-- F38 slices.AppendSeq[[][2]int,[2]int]
def c38_r0 : List AO := [
  ⟨some 2, .box (.t 0), none⟩,
  ⟨some 4, .mv (.c .nils), none⟩]
def c38_r1 : List AO := [
  ⟨some 6, .mv (.t 1), none⟩]
def c38_r2 : List AO := [
  ⟨some 12, .load false 1 (.t 2), none⟩,
  ⟨some 4, .mv (.t 12), none⟩]
def c38 : AC := (.seq (.region c38_r0 [] [])
 (.seq (.seq (.region c38_r1 [] [])
 (.block 0 (.rangef 38007 (.t 6))))
 (.seq (.region c38_r2 [] [])
 .ret)))
def a38 : AFn := ⟨13, [.t 4], 3, c38⟩

def c38_a0_r0 : List AO := [
  ⟨some 5, .alloc [(.int .i64 0), (.int .i64 0)], none⟩,
  ⟨none, .store 2 (.t 5) (.t 7), none⟩]
def c38_b0_r0 : List AO := [
  ⟨some 8, .load false 1 (.t 2), none⟩,
  ⟨some 9, .load true 2 (.t 5), none⟩,
  ⟨some 10, .lit 1 [(.int .i64 0), (.int .i64 0)] [(0, (.t 9))], none⟩,
  ⟨some 11, .append 2 16 (.t 8) (.t 10), none⟩,
  ⟨none, .store 1 (.t 2) (.t 11), none⟩]
def c38_a0 : AC := (.region c38_a0_r0 [] [])
def c38_b0 : AC := (.block 1 (.region c38_b0_r0 [] []))

-- F39 resolvent/pairs.good$1
def c39_r0 : List AO := [
  ⟨some 5, .load false 1 (.t 1), none⟩,
  ⟨some 6, .len 1 (.t 5), none⟩,
  ⟨some 7, .mv (.c (.int .i64 0)), none⟩]
def c39_r1 : List AO := [
  ⟨some 8, .bin .lss (.t 7) (.t 6), none⟩]
def c39_r2 : List AO := [
  ⟨some 9, .ixs 2 (.t 5) (.t 7), none⟩,
  ⟨some 10, .load true 2 (.t 9), none⟩,
  ⟨some 4, .alloc [(.int .i64 0), (.int .i64 0)], none⟩,
  ⟨none, .store 2 (.t 4) (.t 10), none⟩]
def c39_r3 : List AO := [
  ⟨some 11, .ixa 2 1 (.t 4) (.c (.int .i64 0)), none⟩,
  ⟨some 12, .load false 1 (.t 11), none⟩,
  ⟨some 13, .ixa 2 1 (.t 4) (.c (.int .i64 1)), none⟩,
  ⟨some 14, .load false 1 (.t 13), none⟩,
  ⟨some 15, .mn [(.t 12), (.t 14)], none⟩,
  ⟨some 16, .ixa 2 1 (.t 4) (.c (.int .i64 0)), none⟩,
  ⟨some 17, .load false 1 (.t 16), none⟩,
  ⟨some 18, .ixa 2 1 (.t 4) (.c (.int .i64 1)), none⟩,
  ⟨some 19, .load false 1 (.t 18), none⟩,
  ⟨some 20, .mx [(.t 17), (.t 19)], none⟩,
  ⟨some 21, .build [(.int .i64 0), (.int .i64 0)] [(0, 1, (.t 15)), (1, 1, (.t 20))], none⟩,
  ⟨none, .store 2 (.t 4) (.t 21), none⟩]
def c39_r4 : List AO := [
  ⟨some 22, .ixa 2 1 (.t 4) (.c (.int .i64 0)), none⟩,
  ⟨some 23, .load false 1 (.t 22), none⟩,
  ⟨some 24, .bin .geq (.t 23) (.c (.int .i64 0)), none⟩,
  ⟨some 25, .mv (.t 24), none⟩,
  ⟨some 26, .ixa 2 1 (.t 4) (.c (.int .i64 0)), some (25, true)⟩,
  ⟨some 27, .load false 1 (.t 26), some (25, true)⟩,
  ⟨some 28, .ixa 2 1 (.t 4) (.c (.int .i64 1)), some (25, true)⟩,
  ⟨some 29, .load false 1 (.t 28), some (25, true)⟩,
  ⟨some 30, .bin .neq (.t 27) (.t 29), some (25, true)⟩,
  ⟨some 31, .pick (.t 25) (.t 30) (.c (.bool false)), none⟩,
  ⟨some 32, .mv (.t 31), none⟩,
  ⟨some 33, .mv (.t 0), some (32, true)⟩,
  ⟨some 34, .load true 2 (.t 4), some (32, true)⟩,
  ⟨some 35, .callv (.t 33) [(.t 34)], some (32, true)⟩,
  ⟨some 36, .un .not (.t 35), some (32, true)⟩,
  ⟨some 37, .pick (.t 32) (.t 36) (.c (.bool false)), none⟩]
def c39_r5 : List AO := [
  ⟨some 38, .bin .add (.t 7) (.c (.int .i64 1)), none⟩,
  ⟨some 7, .mv (.t 38), none⟩]
def c39_lb0 : AC := (.seq (.region c39_r1 [] [])
 (.seq (.cond (.t 8) .skip (.exit 0))
 (.seq (.block 1 (.seq (.region c39_r2 [] [])
 (.seq (.region c39_r3 [] [])
 (.seq (.region c39_r4 [] [])
 (.cond (.t 37) .ret .skip)))))
 (.region c39_r5 [] []))))
def c39_l0 : AC := .loop c39_lb0
def c39 : AC := (.seq (.region c39_r0 [] [])
 (.block 0 c39_l0))
def a39 : AFn := ⟨39, [], 0, c39⟩

-- F42 cmp.isNaN[int]
def c42_r0 : List AO := [
  ⟨some 2, .mv (.c (.bool false)), none⟩]
def c42_r1 : List AO := [
  ⟨some 3, .mv (.t 0), none⟩,
  ⟨some 4, .mv (.t 0), none⟩,
  ⟨some 5, .bin .neq (.t 3) (.t 4), none⟩,
  ⟨some 2, .mv (.t 5), none⟩]
def c42 : AC := (.seq (.region c42_r0 [] [])
 (.seq (.region c42_r1 [] [])
 .ret))
def a42 : AFn := ⟨6, [.t 2], 2, c42⟩

-- F43 slices.Grow[[][2]int,[2]int]
def c43_r0 : List AO := [
  ⟨some 4, .mv (.c .nils), none⟩]
def c43_r1 : List AO := [
  ⟨some 5, .mv (.t 1), none⟩,
  ⟨some 6, .bin .lss (.t 5) (.c (.int .i64 0)), none⟩]
def c43_r2 : List AO := [
  ⟨some 7, .mkif 9 (.c (.str [99, 97, 110, 110, 111, 116, 32, 98, 101, 32, 110, 101, 103, 97, 116, 105, 118, 101])), none⟩,
  ⟨none, .bad, none⟩]
def c43_r3 : List AO := [
  ⟨some 8, .mv (.t 1), none⟩,
  ⟨some 9, .mv (.t 0), none⟩,
  ⟨some 10, .cap (.t 9), none⟩,
  ⟨some 11, .mv (.t 0), none⟩,
  ⟨some 12, .len 1 (.t 11), none⟩,
  ⟨some 13, .bin .sub (.t 10) (.t 12), none⟩,
  ⟨some 14, .bin .sub (.t 8) (.t 13), none⟩,
  ⟨some 1, .mv (.t 14), none⟩]
def c43_r4 : List AO := [
  ⟨some 15, .mv (.t 1), none⟩,
  ⟨some 16, .bin .gtr (.t 15) (.c (.int .i64 0)), none⟩]
def c43_r5 : List AO := [
  ⟨some 17, .mv (.t 0), none⟩,
  ⟨some 18, .mv (.t 0), none⟩,
  ⟨some 19, .cap (.t 18), none⟩,
  ⟨some 20, .slice 2 (.t 17) none (some (.t 19)) none, none⟩,
  ⟨some 21, .mv (.t 1), none⟩,
  ⟨some 22, .appz [(.int .i64 0), (.int .i64 0)] 16 (.t 20) (.t 21), none⟩,
  ⟨some 23, .mv (.t 0), none⟩,
  ⟨some 24, .len 1 (.t 23), none⟩,
  ⟨some 25, .slice 2 (.t 22) none (some (.t 24)) none, none⟩,
  ⟨some 0, .mv (.t 25), none⟩]
def c43_r6 : List AO := [
  ⟨some 26, .mv (.t 0), none⟩,
  ⟨some 4, .mv (.t 26), none⟩]
def c43 : AC := (.seq (.region c43_r0 [] [])
 (.seq (.seq (.region c43_r1 [] [])
 (.cond (.t 6) (.region c43_r2 [] []) .skip))
 (.seq (.seq (.region c43_r3 [] [])
 (.seq (.region c43_r4 [] [])
 (.cond (.t 16) (.region c43_r5 [] []) .skip)))
 (.seq (.region c43_r6 [] [])
 .ret))))
def a43 : AFn := ⟨27, [.t 4], 3, c43⟩

-- F44 slices.IndexFunc[[][2]int,[2]int]
def c44_r0 : List AO := [
  ⟨some 4, .mv (.c (.int .i64 0)), none⟩]
def c44_r1 : List AO := [
  ⟨some 6, .mv (.t 0), none⟩,
  ⟨some 7, .len 1 (.t 6), none⟩,
  ⟨some 8, .mv (.c (.int .i64 0)), none⟩]
def c44_r2 : List AO := [
  ⟨some 9, .bin .lss (.t 8) (.t 7), none⟩]
def c44_r3 : List AO := [
  ⟨some 10, .mv (.t 8), none⟩,
  ⟨some 5, .mv (.t 10), none⟩]
def c44_r4 : List AO := [
  ⟨some 11, .mv (.t 1), none⟩,
  ⟨some 12, .mv (.t 0), none⟩,
  ⟨some 13, .mv (.t 5), none⟩,
  ⟨some 14, .ixs 2 (.t 12) (.t 13), none⟩,
  ⟨some 15, .load true 2 (.t 14), none⟩,
  ⟨some 16, .callv (.t 11) [(.t 15)], none⟩]
def c44_r5 : List AO := [
  ⟨some 17, .mv (.t 5), none⟩,
  ⟨some 4, .mv (.t 17), none⟩]
def c44_r6 : List AO := [
  ⟨some 18, .bin .add (.t 8) (.c (.int .i64 1)), none⟩,
  ⟨some 8, .mv (.t 18), none⟩]
def c44_lb0 : AC := (.seq (.region c44_r2 [] [])
 (.seq (.cond (.t 9) .skip (.exit 0))
 (.seq (.block 1 (.seq (.region c44_r3 [] [])
 (.seq (.region c44_r4 [] [])
 (.cond (.t 16) (.seq (.region c44_r5 [] [])
 .ret) .skip))))
 (.region c44_r6 [] []))))
def c44_l0 : AC := .loop c44_lb0
def c44_r7 : List AO := [
  ⟨some 4, .mv (.c (.int .i64 (-1))), none⟩]
def c44 : AC := (.seq (.region c44_r0 [] [])
 (.seq (.seq (.region c44_r1 [] [])
 (.block 0 c44_l0))
 (.seq (.region c44_r7 [] [])
 .ret)))
def a44 : AFn := ⟨19, [.t 4], 2, c44⟩

-- F45 slices.Index[[]int,int]
def c45_r0 : List AO := [
  ⟨some 4, .mv (.c (.int .i64 0)), none⟩]
def c45_r1 : List AO := [
  ⟨some 6, .mv (.t 0), none⟩,
  ⟨some 7, .len 1 (.t 6), none⟩,
  ⟨some 8, .mv (.c (.int .i64 0)), none⟩]
def c45_r2 : List AO := [
  ⟨some 9, .bin .lss (.t 8) (.t 7), none⟩]
def c45_r3 : List AO := [
  ⟨some 10, .mv (.t 8), none⟩,
  ⟨some 5, .mv (.t 10), none⟩]
def c45_r4 : List AO := [
  ⟨some 11, .mv (.t 1), none⟩,
  ⟨some 12, .mv (.t 0), none⟩,
  ⟨some 13, .mv (.t 5), none⟩,
  ⟨some 14, .ixs 1 (.t 12) (.t 13), none⟩,
  ⟨some 15, .load false 1 (.t 14), none⟩,
  ⟨some 16, .bin .eql (.t 11) (.t 15), none⟩]
def c45_r5 : List AO := [
  ⟨some 17, .mv (.t 5), none⟩,
  ⟨some 4, .mv (.t 17), none⟩]
def c45_r6 : List AO := [
  ⟨some 18, .bin .add (.t 8) (.c (.int .i64 1)), none⟩,
  ⟨some 8, .mv (.t 18), none⟩]
def c45_lb0 : AC := (.seq (.region c45_r2 [] [])
 (.seq (.cond (.t 9) .skip (.exit 0))
 (.seq (.block 1 (.seq (.region c45_r3 [] [])
 (.seq (.region c45_r4 [] [])
 (.cond (.t 16) (.seq (.region c45_r5 [] [])
 .ret) .skip))))
 (.region c45_r6 [] []))))
def c45_l0 : AC := .loop c45_lb0
def c45_r7 : List AO := [
  ⟨some 4, .mv (.c (.int .i64 (-1))), none⟩]
def c45 : AC := (.seq (.region c45_r0 [] [])
 (.seq (.seq (.region c45_r1 [] [])
 (.block 0 c45_l0))
 (.seq (.region c45_r7 [] [])
 .ret)))
def a45 : AFn := ⟨19, [.t 4], 2, c45⟩

-- F46 slices.IndexFunc[[]int,int]
def c46_r0 : List AO := [
  ⟨some 4, .mv (.c (.int .i64 0)), none⟩]
def c46_r1 : List AO := [
  ⟨some 6, .mv (.t 0), none⟩,
  ⟨some 7, .len 1 (.t 6), none⟩,
  ⟨some 8, .mv (.c (.int .i64 0)), none⟩]
def c46_r2 : List AO := [
  ⟨some 9, .bin .lss (.t 8) (.t 7), none⟩]
def c46_r3 : List AO := [
  ⟨some 10, .mv (.t 8), none⟩,
  ⟨some 5, .mv (.t 10), none⟩]
def c46_r4 : List AO := [
  ⟨some 11, .mv (.t 1), none⟩,
  ⟨some 12, .mv (.t 0), none⟩,
  ⟨some 13, .mv (.t 5), none⟩,
  ⟨some 14, .ixs 1 (.t 12) (.t 13), none⟩,
  ⟨some 15, .load false 1 (.t 14), none⟩,
  ⟨some 16, .callv (.t 11) [(.t 15)], none⟩]
def c46_r5 : List AO := [
  ⟨some 17, .mv (.t 5), none⟩,
  ⟨some 4, .mv (.t 17), none⟩]
def c46_r6 : List AO := [
  ⟨some 18, .bin .add (.t 8) (.c (.int .i64 1)), none⟩,
  ⟨some 8, .mv (.t 18), none⟩]
def c46_lb0 : AC := (.seq (.region c46_r2 [] [])
 (.seq (.cond (.t 9) .skip (.exit 0))
 (.seq (.block 1 (.seq (.region c46_r3 [] [])
 (.seq (.region c46_r4 [] [])
 (.cond (.t 16) (.seq (.region c46_r5 [] [])
 .ret) .skip))))
 (.region c46_r6 [] []))))
def c46_l0 : AC := .loop c46_lb0
def c46_r7 : List AO := [
  ⟨some 4, .mv (.c (.int .i64 (-1))), none⟩]
def c46 : AC := (.seq (.region c46_r0 [] [])
 (.seq (.seq (.region c46_r1 [] [])
 (.block 0 c46_l0))
 (.seq (.region c46_r7 [] [])
 .ret)))
def a46 : AFn := ⟨19, [.t 4], 2, c46⟩

def loops : List (Nat × List Nat × AC × AC) := [(11014, [14], c11_a0, c11_b0), (19018, [18], c19_a0, c19_b0), (38007, [7], c38_a0, c38_b0)]
def fns (p23 : Nat → List AV → Heap → Option (AV × Heap)) (p36 : Nat → List AV → Heap → Option (AV × Heap)) : List (Option AFun) := [
  none,
  none,
  none,
  some (.code a3),
  some (.code a4),
  some (.code a5),
  some (.code a6),
  some (.code a7),
  some (.code a8),
  some (.code a9),
  some (.code a10),
  some (.code a11),
  some (.code a12),
  some (.code a13),
  some (.code a14),
  some (.code a15),
  some (.code a16),
  some (.code a17),
  some (.code a18),
  some (.code a19),
  some (.code a20),
  some (.code a21),
  some (.code a22),
  some (.prim p23),
  some (.code a24),
  some (.code a25),
  some (.code a26),
  some (.code a27),
  some (.code a28),
  some (.code a29),
  some (.code a30),
  some (.code a31),
  some (.code a32),
  some (.code a33),
  some (.code a34),
  some (.code a35),
  some (.prim p36),
  some (.code a37),
  some (.code a38),
  some (.code a39),
  none,
  none,
  some (.code a42),
  some (.code a43),
  some (.code a44),
  some (.code a45),
  some (.code a46)]
def T (p23 : Nat → List AV → Heap → Option (AV × Heap)) (p36 : Nat → List AV → Heap → Option (AV × Heap)) : Tab := ⟨fun i => ((fns p23 p36)[i]?).join, fun l => (loops.find? (·.1 == l)).map (·.2)⟩

end Go.Proofs.Tryt17A
end
