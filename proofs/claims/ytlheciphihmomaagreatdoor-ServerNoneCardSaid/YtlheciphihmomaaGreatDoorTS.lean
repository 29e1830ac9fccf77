/- The table of types and the orders of drawn regions of a program, checked (printed by tools/mk.py). -/
import Derived.Test.YtlheciphihmomaaGreatDoorSkZN
import Derived.Test.YtlheciphihmomaaGreatDoorProg
set_option linter.all false
open Go Go.Sk Go.Proofs
namespace TS
noncomputable section
def tb : Tb := ⟨177, .n (.n (.n (.n (.n (.n (.n (.e) (some (.arr 256 256 4, 256, 125)) (.e)) (some (.fn, 8, 62)) (.n (.e) (some (.fn, 8, 94)) (.n (.e) (some (.fn, 8, 158)) (.e)))) (some (.ptr 40, 8, 30)) (.n (.n (.e) (some (.tup [109, 109], 0, 110)) (.n (.e) (some (.strct 11 [12, 12, 109, 169, 5, 5, 170, 171, 159, 172, 173], 48, 174)) (.e))) (some (.tup [9, 45, 34], 0, 46)) (.n (.e) (some (.tup [77, 3], 0, 78)) (.n (.e) (some (.fn, 8, 142)) (.e))))) (some (.strct 2 [9, 12], 24, 13)) (.n (.n (.n (.e) (some (.int .u64, 8, 118)) (.e)) (some (.fn, 8, 54)) (.n (.e) (some (.ptr 88, 8, 86)) (.n (.e) (some (.strct 3 [9, 9, 114], 48, 149)) (.e)))) (some (.strct 3 [9, 3, 3], 32, 22)) (.n (.n (.e) (some (.arr 10 10 9, 160, 102)) (.n (.e) (some (.strct 0 [165], 0, 166)) (.e))) (some (.fn, 8, 38)) (.n (.e) (some (.fn, 8, 70)) (.n (.e) (some (.arr 65 65 5, 65, 134)) (.e)))))) (some (.int .u8, 1, 5)) (.n (.n (.n (.n (.e) (some (.fn, 8, 122)) (.e)) (some (.fn, 8, 57)) (.n (.e) (some (.ptr 77, 8, 90)) (.n (.e) (some (.arr 256 256 5, 256, 154)) (.e)))) (some (.fn, 8, 26)) (.n (.n (.e) (some (.fn, 8, 106)) (.n (.e) (some (.int .u8, 1, 5)) (.e))) (some (.fn, 8, 42)) (.n (.e) (some (.fn, 8, 74)) (.n (.e) (some (.fn, 8, 138)) (.e))))) (some (.str, 16, 9)) (.n (.n (.n (.e) (some (.ifc false, 16, 113)) (.e)) (some (.fn, 8, 50)) (.n (.e) (some (.fn, 8, 82)) (.n (.e) (some (.fn, 8, 146)) (.e)))) (some (.strct 1 [17], 8, 18)) (.n (.n (.e) (some (.fn, 8, 98)) (.n (.e) (some (.strct 1 [9], 16, 161)) (.e))) (some (.sl 9, 24, 34)) (.n (.e) (some (.fn, 8, 66)) (.n (.e) (some (.ptr 126, 8, 130)) (.e))))))) (some (.int .i64, 8, 2)) (.n (.n (.n (.n (.n (.e) (some (.fn, 8, 124)) (.e)) (some (.fn, 8, 60)) (.n (.e) (some (.tup [9, 4], 0, 92)) (.n (.e) (some (.strct 2 [5, 5], 2, 155)) (.e)))) (some (.ptr 52, 8, 28)) (.n (.n (.e) (some (.fn, 8, 108)) (.n (.e) (some (.int .i32, 4, 21)) (.e))) (some (.fn, 8, 44)) (.n (.e) (some (.strct 3 [3, 9, 2], 32, 76)) (.n (.e) (some (.int .i64, 8, 3)) (.e))))) (some (.int .u64, 8, 12)) (.n (.n (.n (.e) (some (.fn, 8, 116)) (.e)) (some (.strct 11 [23, 32, 3, 9, 34, 32, 4, 4, 4], 136, 51)) (.n (.e) (some (.fn, 8, 84)) (.n (.e) (some (.fn, 8, 148)) (.e)))) (some (.ifc true, 16, 20)) (.n (.n (.e) (some (.fn, 8, 100)) (.n (.e) (some (.strct 4 [17, 17, 17, 9], 40, 163)) (.e))) (some (.strct 3 [9, 34, 2], 48, 35)) (.n (.e) (some (.fn, 8, 68)) (.n (.e) (some (.fn, 8, 132)) (.e)))))) (some (.bool, 1, 4)) (.n (.n (.n (.n (.e) (some (.fn, 8, 120)) (.e)) (some (.fn, 8, 56)) (.n (.e) (some (.strct 1 [9], 16, 87)) (.n (.e) (some (.arr 32 32 5, 32, 152)) (.e)))) (some (.sl 32, 24, 24)) (.n (.n (.e) (some (.fn, 8, 104)) (.n (.e) (some (.fn, 8, 168)) (.e))) (some (.strct 11 [23, 32, 3, 9, 34, 32, 4, 4, 4], 136, 39)) (.n (.e) (some (.fn, 8, 72)) (.n (.e) (some (.fn, 8, 136)) (.e))))) (some (.strct 4 [2, 3, 4, 6], 24, 7)) (.n (.n (.n (.e) (some (.fn, 8, 112)) (.n (.e) (some (.other, 8, 176)) (.e))) (some (.fn, 8, 48)) (.n (.e) (some (.fn, 8, 80)) (.n (.e) (some (.fn, 8, 144)) (.e)))) (some (.ptr 167, 8, 16)) (.n (.n (.e) (some (.fn, 8, 96)) (.n (.e) (some (.ptr 162, 8, 160)) (.e))) (some (.sl 5, 24, 32)) (.n (.e) (some (.fn, 8, 64)) (.n (.e) (some (.fn, 8, 128)) (.e)))))))) (some (.tup [], 0, 0)) (.n (.n (.n (.n (.n (.n (.e) (some (.arr 256 256 4, 256, 125)) (.e)) (some (.fn, 8, 61)) (.n (.e) (some (.fn, 8, 93)) (.n (.e) (some (.arr 32 16 156, 32, 157)) (.e)))) (some (.fn, 8, 29)) (.n (.n (.e) (some (.int .u32, 4, 109)) (.n (.e) (some (.int .i32, 4, 21)) (.e))) (some (.sl 36, 24, 45)) (.n (.e) (some (.strct 3 [3, 9, 2], 32, 76)) (.n (.e) (some (.tup [118, 114], 0, 141)) (.e))))) (some (.strct 2 [9, 12], 24, 13)) (.n (.n (.n (.e) (some (.arr 24 24 5, 24, 117)) (.e)) (some (.fn, 8, 53)) (.n (.e) (some (.fn, 8, 85)) (.n (.e) (some (.strct 3 [9, 9, 114], 48, 149)) (.e)))) (some (.int .i32, 4, 21)) (.n (.n (.e) (some (.int .u64, 8, 101)) (.n (.e) (some (.arr 0 0 16, 0, 165)) (.e))) (some (.tup [36, 32, 4], 0, 37)) (.n (.e) (some (.fn, 8, 69)) (.n (.e) (some (.arr 20 20 118, 160, 133)) (.e)))))) (some (.int .u8, 1, 5)) (.n (.n (.n (.n (.e) (some (.tup [32, 9], 0, 121)) (.e)) (some (.fn, 8, 57)) (.n (.e) (some (.fn, 8, 89)) (.n (.e) (some (.arr 64 64 5, 64, 153)) (.e)))) (some (.sl 3, 24, 25)) (.n (.n (.e) (some (.fn, 8, 105)) (.n (.e) (some (.int .u8, 1, 5)) (.e))) (some (.fn, 8, 41)) (.n (.e) (some (.fn, 8, 73)) (.n (.e) (some (.tup [21, 3], 0, 137)) (.e))))) (some (.str, 16, 9)) (.n (.n (.n (.e) (some (.ifc false, 16, 113)) (.e)) (some (.fn, 8, 49)) (.n (.e) (some (.fn, 8, 81)) (.n (.e) (some (.fn, 8, 145)) (.e)))) (some (.ptr 175, 8, 17)) (.n (.n (.e) (some (.fn, 8, 97)) (.n (.e) (some (.strct 1 [9], 16, 161)) (.e))) (some (.fn, 8, 33)) (.n (.e) (some (.tup [32, 32, 4], 0, 65)) (.n (.e) (some (.fn, 8, 129)) (.e))))))) (some (.fn, 8, 1)) (.n (.n (.n (.n (.n (.e) (some (.fn, 8, 123)) (.e)) (some (.fn, 8, 59)) (.n (.e) (some (.fn, 8, 91)) (.n (.e) (some (.strct 2 [5, 5], 2, 155)) (.e)))) (some (.fn, 8, 27)) (.n (.n (.e) (some (.fn, 8, 107)) (.n (.e) (some (.fn, 8, 171)) (.e))) (some (.fn, 8, 43)) (.n (.e) (some (.fn, 8, 75)) (.n (.e) (some (.fn, 8, 139)) (.e))))) (some (.str, 16, 9)) (.n (.n (.n (.e) (some (.tup [2, 114], 0, 115)) (.e)) (some (.strct 11 [23, 32, 3, 9, 34, 32, 4, 4, 4], 136, 51)) (.n (.e) (some (.fn, 8, 83)) (.n (.e) (some (.fn, 8, 147)) (.e)))) (some (.strct 1 [17], 8, 18)) (.n (.n (.e) (some (.fn, 8, 99)) (.n (.e) (some (.strct 4 [17, 17, 17, 9], 40, 163)) (.e))) (some (.strct 3 [9, 34, 2], 48, 35)) (.n (.e) (some (.tup [24, 32], 0, 67)) (.n (.e) (some (.fn, 8, 131)) (.e)))))) (some (.int .i64, 8, 3)) (.n (.n (.n (.n (.e) (some (.fn, 8, 119)) (.e)) (some (.fn, 8, 55)) (.n (.e) (some (.strct 1 [9], 16, 87)) (.n (.e) (some (.fn, 8, 151)) (.e)))) (some (.strct 3 [9, 3, 3], 32, 22)) (.n (.n (.e) (some (.fn, 8, 103)) (.n (.e) (some (.strct 0 [165], 0, 166)) (.e))) (some (.strct 11 [23, 32, 3, 9, 34, 32, 4, 4, 4], 136, 39)) (.n (.e) (some (.tup [9, 9, 4], 0, 71)) (.n (.e) (some (.fn, 8, 135)) (.e))))) (some (.strct 4 [2, 3, 4, 6], 24, 7)) (.n (.n (.n (.e) (some (.fn, 8, 111)) (.n (.e) (some (.strct 11 [12, 12, 109, 169, 5, 5, 170, 171, 159, 172, 173], 48, 174)) (.e))) (some (.fn, 8, 47)) (.n (.e) (some (.fn, 8, 79)) (.n (.e) (some (.ptr 150, 8, 143)) (.e)))) (some (.ptr 164, 8, 15)) (.n (.n (.e) (some (.tup [2, 4], 0, 95)) (.n (.e) (some (.ptr 5, 8, 159)) (.e))) (some (.fn, 8, 31)) (.n (.e) (some (.fn, 8, 62)) (.n (.e) (some (.tup [126, 4], 0, 127)) (.e)))))))), 10, [], [], [0]⟩
def body (f : Func) : Code := f.body.getD .skip
def m2 : Mt := ⟨[], []⟩
def m3 : Mt := ⟨[], [(5, [.o 0, .o 2, .n 1 [0] [28], .chk 2, .n 3 [2, 1, 0] [], .n 4 [1, 3, 0, 2] [], .n 5 [3, 4, 0, 1, 2] []]), (12, [.o 0, .o 1, .o 4, .o 5, .n 2 [0, 1] [43, 42], .o 3, .n 6 [4, 5, 2, 0, 1] [41], .chk 3, .o 7, .o 8]), (19, [.o 0, .o 1, .o 2, .o 3, .o 4, .o 5, .o 6, .o 7, .o 8, .o 9, .n 10 [0, 9, 4, 8, 3, 7, 2, 6, 1, 5] [], .o 11, .o 12, .o 13, .o 14, .o 15, .o 16, .o 17, .o 18, .o 19, .o 20, .o 21, .o 22, .o 23, .o 24, .o 25, .o 29, .o 30, .o 31, .n 26 [24, 25, 22, 21, 12, 20, 11, 10, 14, 19, 0, 9, 13, 18, 4, 8, 17, 3, 7, 16, 2, 6, 15, 1, 5] [101, 100, 99, 93], .n 27 [23, 26, 22, 24, 25, 21, 12, 20, 11, 10, 14, 19, 0, 9, 13, 18, 4, 8, 17, 3, 7, 16, 2, 6, 15, 1, 5] [101, 100, 99], .o 28, .n 32 [30, 31, 27, 22, 23, 26, 21, 12, 24, 25, 20, 11, 10, 14, 19, 0, 9, 13, 18, 4, 8, 17, 3, 7, 16, 2, 6, 15, 1, 5] [98, 99], .chk 28, .n 33 [29, 32, 22, 30, 31, 27, 21, 12, 23, 26, 20, 11, 10, 24, 25, 14, 19, 0, 9, 13, 18, 4, 8, 17, 3, 7, 16, 2, 6, 15, 1, 5] [98], .chk 28, .o 34, .o 35, .o 36]), (22, [.o 0, .o 2, .o 3, .o 4, .o 5, .n 1 [0] [114, 113, 112, 111], .chk 5, .chk 4, .chk 3, .o 6])]⟩
def m4 : Mt := ⟨[], [(11, [.o 0, .o 2, .n 1 [0] [47], .chk 2, .n 3 [2, 1, 0] [], .n 4 [1, 3, 0, 2] [], .n 5 [3, 4, 0, 1, 2] []]), (21, [.o 0, .o 1, .o 2, .o 3, .o 4, .o 5, .o 6, .o 7, .n 8 [3, 7, 2, 6, 0, 1, 4, 5] [], .o 9, .o 10, .o 11, .o 12, .o 13, .o 14, .o 15, .o 16, .o 17, .o 18, .o 19, .o 20])]⟩
def m5 : Mt := ⟨[], [(12, [.o 0, .n 1 [0] [], .o 2, .o 3, .o 4, .o 5, .o 6, .o 7, .o 8, .o 9, .o 10, .o 11, .o 12, .o 13, .o 14, .o 15, .o 16, .o 17, .o 18, .o 19, .o 20, .o 21, .o 22, .o 23, .o 24]), (20, [.o 0, .o 1, .o 2, .o 3, .o 4, .o 5, .o 6, .o 7, .o 8, .o 9, .o 10])]⟩
def m6 : Mt := ⟨[], []⟩
def m7 : Mt := ⟨[], []⟩
def m8 : Mt := ⟨[(8, 2)], []⟩
def m9 : Mt := ⟨[], []⟩
def m10 : Mt := ⟨[], []⟩
def m11 : Mt := ⟨[], []⟩
def m12 : Mt := ⟨[], []⟩
def m13 : Mt := ⟨[], []⟩
def m14 : Mt := ⟨[], [(3, [.o 0, .o 1, .o 2, .o 3, .o 4, .o 5, .o 6, .o 7, .o 10, .o 11, .o 12, .o 13, .n 8 [7, 6, 5, 4] [28, 27, 26, 25, 18, 17, 16, 15], .chk 13, .chk 12, .chk 11, .chk 3, .chk 2, .chk 1, .o 9, .n 14 [13, 8, 12, 7, 11, 6, 10, 5, 4] [24, 18, 17, 16, 15], .chk 3, .chk 2, .chk 1, .n 15 [9, 14, 0, 1, 2, 3, 4, 5, 6, 7, 8, 13, 12, 11, 10] [], .n 16 [14, 15, 0, 1, 2, 3, 4, 5, 6, 7, 8, 9, 10, 11, 12, 13] [], .n 17 [16, 0, 1, 2, 3, 4, 5, 6, 7, 8, 9, 10, 11, 12, 13, 14, 15] []])]⟩
def m15 : Mt := ⟨[], [(6, [.o 0, .o 1, .o 2, .o 3, .o 4, .o 5, .o 6, .o 7, .o 8, .o 9, .o 10])]⟩
def m16 : Mt := ⟨[], []⟩
def m17 : Mt := ⟨[], []⟩
def m18 : Mt := ⟨[], []⟩
def m19 : Mt := ⟨[], []⟩
def m20 : Mt := ⟨[], [(12, [.o 0, .o 1, .o 2, .o 4, .o 5, .o 6, .o 7, .n 3 [0, 2, 1] [54, 53, 52, 51], .chk 7, .chk 6, .n 8 [4, 7, 3, 6, 0, 2, 5, 1] [], .n 9 [3, 8, 0, 1, 2, 4, 7, 6, 5] [], .n 10 [8, 9, 0, 1, 2, 3, 4, 5, 6, 7] []])]⟩
def m21 : Mt := ⟨[], []⟩
def m22 : Mt := ⟨[], []⟩
def m23 : Mt := ⟨[], []⟩
def m24 : Mt := ⟨[], []⟩
def m25 : Mt := ⟨[], [(4, [.o 0, .o 1, .o 2, .n 3 [1, 2] [11], .chk 0, .n 4 [0, 3, 1, 2] [], .n 5 [4, 0, 1, 2, 3] []]), (10, [.o 0, .o 1, .o 2, .o 3, .o 4, .n 5 [4, 2, 0, 3] [57], .chk 1, .o 6, .o 7, .n 8 [7, 5, 0, 1, 2, 3, 4, 6] []]), (11, [.o 0, .o 1, .n 2 [1] [63], .chk 0, .n 3 [0, 2, 1] [], .n 4 [3, 0, 1, 2] []]), (15, [.o 0, .o 1, .n 2 [1] [85], .chk 0, .n 3 [0, 2, 1] [], .n 4 [3, 0, 1, 2] []])]⟩
def m26 : Mt := ⟨[], [(13, [.o 0, .o 1, .o 2, .o 3, .o 4, .o 5, .o 6, .o 7, .o 8, .o 9, .o 10, .o 11, .n 12 [11, 9, 0, 1, 2, 3, 4, 5, 6, 7, 8, 10] []]), (14, [.o 0, .o 1, .o 2, .o 3, .o 4, .o 5, .o 6, .o 7, .o 8, .o 9, .o 10, .n 11 [1, 10, 4, 9, 3, 8, 2, 7, 6, 5] [83], .o 12, .n 13 [12, 11, 0, 1, 2, 3, 4, 5, 6, 7, 8, 9, 10] []])]⟩
def m27 : Mt := ⟨[], []⟩
def m28 : Mt := ⟨[], []⟩
def m29 : Mt := ⟨[], []⟩
def m30 : Mt := ⟨[], []⟩
def m31 : Mt := ⟨[], []⟩
def m32 : Mt := ⟨[], []⟩
def m33 : Mt := ⟨[], []⟩
def m34 : Mt := ⟨[], []⟩
def m35 : Mt := ⟨[], []⟩
def m36 : Mt := ⟨[], []⟩
def m37 : Mt := ⟨[], []⟩
def m38 : Mt := ⟨[], [(13, [.o 0, .o 1, .o 2, .o 3, .n 4 [3, 1, 2] [34], .chk 0, .n 5 [0, 4, 3, 1, 2] [], .n 6 [4, 5, 0, 1, 2, 3] [], .n 7 [6, 0, 1, 2, 3, 4, 5] []])]⟩
def m39 : Mt := ⟨[], [(9, [.o 0, .o 1, .o 2, .o 3, .n 4 [0] [32, 31, 30], .n 5 [3, 4, 0, 1, 2] [], .n 6 [5, 0, 1, 2, 3, 4] []])]⟩
def m40 : Mt := ⟨[], [(9, [.o 0, .o 1, .o 2, .o 3, .n 4 [0] [45, 44, 43], .n 5 [3, 4, 0, 1, 2] []])]⟩
def m41 : Mt := ⟨[], [(12, [.o 0, .o 1, .o 2, .o 3, .o 4, .o 5, .o 6, .o 7, .o 8, .o 9, .o 10, .o 11, .n 12 [11, 10, 9, 8, 7] [41, 40, 39, 38, 37, 36, 35], .chk 4, .chk 3, .chk 2, .chk 1, .o 13, .o 14, .n 15 [14, 12, 0, 1, 2, 3, 4, 5, 6, 7, 8, 9, 10, 11, 13] []]), (16, [.o 0, .o 1, .o 2, .o 3, .o 4, .o 5, .o 6, .o 7]), (18, [.o 0, .o 1, .o 2, .o 3, .o 4, .o 5, .n 6 [5, 0, 4] [68, 67, 66], .chk 3, .chk 2, .o 7, .o 8, .n 9 [8, 3, 6, 0, 1, 2, 4, 5, 7] []])]⟩
def m42 : Mt := ⟨[], []⟩
def m43 : Mt := ⟨[], []⟩
def m44 : Mt := ⟨[], []⟩
def m45 : Mt := ⟨[], []⟩
def m46 : Mt := ⟨[], []⟩
def m47 : Mt := ⟨[(30, 2)], []⟩
def m48 : Mt := ⟨[], [(3, [.o 0, .o 1, .o 2, .o 3, .o 4, .o 5, .o 6, .o 7, .o 8, .n 9 [2, 0, 1] [21, 20, 19, 18, 17, 16], .n 10 [8, 9, 0, 1, 2, 3, 4, 5, 6, 7] [], .n 11 [10, 0, 1, 2, 3, 4, 5, 6, 7, 8, 9] []])]⟩
def m49 : Mt := ⟨[], []⟩
def m50 : Mt := ⟨[], []⟩
def m51 : Mt := ⟨[], [(2, [.o 0, .o 1, .o 2, .o 3, .o 4, .o 5, .o 6, .o 7, .o 8, .o 9, .n 10 [9, 8, 7, 6, 5] [11, 10, 9, 8, 7], .chk 4, .chk 3, .chk 2, .chk 1, .o 11, .n 12 [11, 10, 4, 9, 3, 8, 2, 7, 1, 6, 0, 5] [], .n 13 [12, 0, 1, 2, 3, 4, 5, 6, 7, 8, 9, 10, 11] []])]⟩
def m52 : Mt := ⟨[], [(3, [.o 0, .o 1, .o 2, .o 3, .o 4, .o 5, .o 6, .o 7, .n 8 [7, 1, 6, 0, 5, 4, 3, 2] []]), (5, [.o 0, .o 1, .o 2, .o 3, .o 4, .o 5, .n 6 [5, 0, 4] [27, 26, 25], .chk 3, .chk 2, .o 7, .o 8, .n 9 [8, 3, 6, 0, 1, 2, 4, 5, 7] []])]⟩
def m53 : Mt := ⟨[], [(6, [.o 0, .o 1, .o 2, .o 3, .o 4, .o 5, .o 6, .o 7, .o 8, .o 9, .o 10, .n 11 [10, 4, 9, 3, 8, 2, 7, 1, 6, 0, 5] []]), (8, [.o 0, .o 1, .o 2, .o 3, .o 4, .o 5, .o 6, .o 7, .o 8, .n 9 [5, 8, 4, 7, 3, 6, 2] [39, 38], .o 10, .o 11, .n 12 [11, 9, 0, 2, 3, 4, 5, 6, 7, 8, 10] [39], .o 13, .o 14, .n 15 [14, 12, 0, 1, 2, 3, 4, 5, 6, 7, 8, 9, 10, 11, 13] []])]⟩
def m54 : Mt := ⟨[], []⟩
def m55 : Mt := ⟨[], []⟩
def m56 : Mt := ⟨[], []⟩
def m57 : Mt := ⟨[], [(14, [.o 0, .o 1, .o 2, .o 3, .o 4, .o 5, .o 6, .n 7 [2, 0, 1, 3] [61, 60, 59], .n 8 [6, 7, 0, 1, 2, 3, 4, 5] []])]⟩
def m58 : Mt := ⟨[], []⟩
def m59 : Mt := ⟨[], [(9, [.o 0, .o 1, .o 2, .o 3, .o 4, .o 5, .o 6, .o 7, .o 8, .o 9, .o 10])]⟩
def m60 : Mt := ⟨[], [(3, [.o 0, .o 1, .o 2, .o 3, .o 4, .o 5, .o 6, .o 7, .o 8, .n 9 [2, 0, 1] [21, 20, 19, 18, 17, 16], .n 10 [8, 9, 0, 1, 2, 3, 4, 5, 6, 7] [], .n 11 [10, 0, 1, 2, 3, 4, 5, 6, 7, 8, 9] []])]⟩
def m61 : Mt := ⟨[], []⟩
def m62 : Mt := ⟨[], []⟩
def m63 : Mt := ⟨[], []⟩
def m64 : Mt := ⟨[], []⟩
def m65 : Mt := ⟨[], [(1, [.o 0, .o 2, .o 3, .n 1 [0] [7, 6], .chk 3, .chk 2, .n 4 [3, 1, 2, 0] [], .o 5, .n 6 [5, 4, 0, 1, 2, 3] []])]⟩
def m66 : Mt := ⟨[], []⟩
def m67 : Mt := ⟨[], []⟩
def m68 : Mt := ⟨[(5, 2)], []⟩
def m69 : Mt := ⟨[], []⟩
def m70 : Mt := ⟨[], []⟩
def m71 : Mt := ⟨[], [(8, [.o 0, .o 1, .o 2, .o 3, .o 4, .o 5, .o 6, .n 7 [2, 0, 1] [38, 37, 36, 35], .n 8 [6, 7, 0, 1, 2, 3, 4, 5] [], .n 9 [8, 0, 1, 2, 3, 4, 5, 6, 7] []])]⟩
def m72 : Mt := ⟨[], []⟩
def m73 : Mt := ⟨[], []⟩
def m74 : Mt := ⟨[], [(4, [.o 0, .o 1, .o 2, .o 3, .o 4, .o 5, .o 6, .o 7, .n 8 [7, 4, 6, 5] [12, 11, 10, 9], .chk 3, .o 9, .n 10 [9, 8, 0, 1, 2, 3, 4, 5, 6, 7] []])]⟩
def m75 : Mt := ⟨[], []⟩
def m76 : Mt := ⟨[], []⟩
def m77 : Mt := ⟨[], []⟩
def m78 : Mt := ⟨[], []⟩
def m80 : Mt := ⟨[], []⟩
def m81 : Mt := ⟨[], [(8, [.o 0, .o 1, .o 2, .o 3, .o 4, .o 5, .o 6, .o 7, .o 8, .o 9, .o 10, .o 11]), (16, [.o 0, .o 1, .o 2, .o 3, .o 4, .o 5, .o 6, .o 7, .o 8, .o 9, .o 10, .o 11, .o 12, .o 13, .o 14])]⟩
def m82 : Mt := ⟨[], []⟩
def m83 : Mt := ⟨[], []⟩
def m84 : Mt := ⟨[], []⟩
def m85 : Mt := ⟨[], []⟩
def m86 : Mt := ⟨[], [(6, [.o 0, .o 1, .o 2, .n 3 [0] [47, 46], .n 4 [2, 3, 0, 1] []])]⟩
def m87 : Mt := ⟨[], []⟩
def m88 : Mt := ⟨[], []⟩
def m89 : Mt := ⟨[], []⟩
def m90 : Mt := ⟨[], []⟩
def m91 : Mt := ⟨[], []⟩
def m93 : Mt := ⟨[], []⟩
def m96 : Mt := ⟨[], []⟩
def m97 : Mt := ⟨[], []⟩
def m98 : Mt := ⟨[], []⟩
def m99 : Mt := ⟨[], [(4, [.o 0, .o 1, .o 2, .o 4, .o 5, .n 3 [0, 2, 1] [27, 26], .n 6 [3, 5, 0, 2, 4, 1] [], .n 7 [6, 0, 1, 2, 3, 4, 5] []])]⟩
def m100 : Mt := ⟨[], []⟩
def m101 : Mt := ⟨[], []⟩
def m102 : Mt := ⟨[], []⟩
def m103 : Mt := ⟨[], []⟩
def m104 : Mt := ⟨[], [(7, [.o 0, .o 1, .o 2, .o 3, .o 4, .o 5, .o 6, .o 7, .o 8, .o 9, .o 10, .o 11, .n 12 [11, 8, 0, 1, 2, 6, 7] [52, 51, 47, 46, 45], .o 13, .n 14 [13, 10, 12, 0, 1, 2, 3, 4, 5, 6, 7, 8, 9, 11] []]), (8, [.o 0, .o 1, .o 2, .o 3, .o 4, .o 5, .o 6, .o 7, .o 8, .o 9, .o 10, .o 11, .n 12 [11, 8, 0, 1, 2, 6, 7] [65, 64, 60, 59, 58], .o 13, .n 14 [13, 10, 12, 0, 1, 2, 3, 4, 5, 6, 7, 8, 9, 11] []]), (9, [.o 0, .o 1, .o 2, .o 3, .o 4, .o 5, .o 6, .o 7, .o 8, .o 9, .o 10, .o 11, .n 12 [11, 8, 0, 1, 2, 6, 7] [78, 77, 73, 72, 71], .o 13, .n 14 [13, 10, 12, 0, 1, 2, 3, 4, 5, 6, 7, 8, 9, 11] []]), (10, [.o 0, .o 1, .o 2, .o 3, .o 4, .o 5, .o 6, .o 7, .o 8, .o 9, .o 10, .o 11, .n 12 [11, 8, 0, 1, 2, 6, 7] [91, 90, 86, 85, 84], .o 13, .n 14 [13, 10, 12, 0, 1, 2, 3, 4, 5, 6, 7, 8, 9, 11] []]), (17, [.o 0, .o 1, .o 2, .o 3, .o 4, .o 5, .o 6, .o 7, .o 8, .o 9, .o 10, .o 11, .n 12 [11, 8, 0, 1, 2, 6, 7] [120, 119, 115, 114, 113], .o 13, .n 14 [13, 10, 12, 0, 1, 2, 3, 4, 5, 6, 7, 8, 9, 11] []]), (18, [.o 0, .o 1, .o 2, .o 3, .o 4, .o 5, .o 6, .o 7, .o 8, .o 9, .o 10, .o 11, .n 12 [11, 8, 0, 1, 2, 6, 7] [133, 132, 128, 127, 126], .o 13, .n 14 [13, 10, 12, 0, 1, 2, 3, 4, 5, 6, 7, 8, 9, 11] []]), (23, [.o 0, .o 1, .o 2, .o 3, .o 4, .o 5, .o 6, .o 7, .o 8, .o 9, .o 10, .o 11, .n 12 [11, 8, 0, 1, 2, 6, 7] [155, 154, 150, 149, 148], .o 13, .n 14 [13, 10, 12, 0, 1, 2, 3, 4, 5, 6, 7, 8, 9, 11] []])]⟩
def m105 : Mt := ⟨[], []⟩
def m106 : Mt := ⟨[], []⟩
def m107 : Mt := ⟨[], []⟩
def m108 : Mt := ⟨[], []⟩
def m109 : Mt := ⟨[], []⟩
def m110 : Mt := ⟨[], []⟩
def m111 : Mt := ⟨[], []⟩
def m112 : Mt := ⟨[], []⟩
def m113 : Mt := ⟨[], []⟩
def m114 : Mt := ⟨[], []⟩
def m115 : Mt := ⟨[], []⟩
def m116 : Mt := ⟨[], []⟩
def m117 : Mt := ⟨[], []⟩
def m118 : Mt := ⟨[], []⟩
def m119 : Mt := ⟨[], []⟩
def m120 : Mt := ⟨[], []⟩
def m121 : Mt := ⟨[], []⟩
def m122 : Mt := ⟨[], []⟩
def m123 : Mt := ⟨[], []⟩
def m124 : Mt := ⟨[], []⟩
def m125 : Mt := ⟨[], []⟩
def m126 : Mt := ⟨[], []⟩
def m127 : Mt := ⟨[], []⟩
def m128 : Mt := ⟨[], []⟩
def m129 : Mt := ⟨[], [(1, [.o 0, .o 1, .o 3, .n 2 [1] [8, 5], .chk 3, .o 4, .n 5 [4, 0, 2, 3, 1] [], .n 6 [5, 2, 0, 1, 3, 4] []])]⟩
def m130 : Mt := ⟨[], [(1, [.o 0, .o 1, .o 3, .n 2 [1] [8, 5], .chk 3, .o 4, .n 5 [4, 0, 2, 3, 1] [], .n 6 [5, 2, 0, 1, 3, 4] []])]⟩
def m131 : Mt := ⟨[], []⟩
def m132 : Mt := ⟨[], []⟩
def m133 : Mt := ⟨[], []⟩
def m134 : Mt := ⟨[], []⟩
def m135 : Mt := ⟨[], []⟩
def m136 : Mt := ⟨[], []⟩
def m137 : Mt := ⟨[], [(6, [.o 0, .o 1, .o 2, .o 3, .o 4, .o 5, .o 6]), (7, [.o 0, .o 1, .o 2, .o 3, .o 4, .o 5, .o 6, .n 7 [3, 6, 0, 2, 4, 5, 1] [], .n 8 [7, 0, 1, 2, 3, 4, 5, 6] []]), (14, [.o 0, .o 1, .o 2, .o 3, .o 4, .o 5, .o 6, .o 7, .o 8, .o 9, .o 10]), (31, [.o 0, .o 1, .o 2, .o 3, .o 4, .o 5, .o 6, .o 7, .o 8, .o 9, .o 10])]⟩
def m138 : Mt := ⟨[], []⟩
def m139 : Mt := ⟨[], []⟩
def m140 : Mt := ⟨[], []⟩
def m141 : Mt := ⟨[], []⟩
def m142 : Mt := ⟨[], []⟩
def m143 : Mt := ⟨[], []⟩
def m172 : Mt := ⟨[], []⟩
theorem g3 : goodC tb m3 (body Tryz.f3) = true := by decide +kernel
theorem g4 : goodC tb m4 (body Tryz.f4) = true := by decide +kernel
theorem g5 : goodC tb m5 (body Tryz.f5) = true := by decide +kernel
theorem g6 : goodC tb m6 (body Tryz.f6) = true := by decide +kernel
theorem g7 : goodC tb m7 (body Tryz.f7) = true := by decide +kernel
theorem g8 : goodC tb m8 (body Tryz.f8) = true := by decide +kernel
theorem g9 : goodC tb m9 (body Tryz.f9) = true := by decide +kernel
theorem g10 : goodC tb m10 (body Tryz.f10) = true := by decide +kernel
theorem g11 : goodC tb m11 (body Tryz.f11) = true := by decide +kernel
theorem g12 : goodC tb m12 (body Tryz.f12) = true := by decide +kernel
theorem g13 : goodC tb m13 (body Tryz.f13) = true := by decide +kernel
theorem g14 : goodC tb m14 (body Tryz.f14) = true := by decide +kernel
theorem g15 : goodC tb m15 (body Tryz.f15) = true := by decide +kernel
theorem g16 : goodC tb m16 (body Tryz.f16) = true := by decide +kernel
theorem g17 : goodC tb m17 (body Tryz.f17) = true := by decide +kernel
theorem g18 : goodC tb m18 (body Tryz.f18) = true := by decide +kernel
theorem g19 : goodC tb m19 (body Tryz.f19) = true := by decide +kernel
theorem g20 : goodC tb m20 (body Tryz.f20) = true := by decide +kernel
theorem g21 : goodC tb m21 (body Tryz.f21) = true := by decide +kernel
theorem g22 : goodC tb m22 (body Tryz.f22) = true := by decide +kernel
theorem g23 : goodC tb m23 (body Tryz.f23) = true := by decide +kernel
theorem g24 : goodC tb m24 (body Tryz.f24) = true := by decide +kernel
theorem g25 : goodC tb m25 (body Tryz.f25) = true := by decide +kernel
theorem g26 : goodC tb m26 (body Tryz.f26) = true := by decide +kernel
theorem g27 : goodC tb m27 (body Tryz.f27) = true := by decide +kernel
theorem g28 : goodC tb m28 (body Tryz.f28) = true := by decide +kernel
theorem g29 : goodC tb m29 (body Tryz.f29) = true := by decide +kernel
theorem g30 : goodC tb m30 (body Tryz.f30) = true := by decide +kernel
theorem g31 : goodC tb m31 (body Tryz.f31) = true := by decide +kernel
theorem g32 : goodC tb m32 (body Tryz.f32) = true := by decide +kernel
theorem g33 : goodC tb m33 (body Tryz.f33) = true := by decide +kernel
theorem g34 : goodC tb m34 (body Tryz.f34) = true := by decide +kernel
theorem g35 : goodC tb m35 (body Tryz.f35) = true := by decide +kernel
theorem g36 : goodC tb m36 (body Tryz.f36) = true := by decide +kernel
theorem g37 : goodC tb m37 (body Tryz.f37) = true := by decide +kernel
theorem g38 : goodC tb m38 (body Tryz.f38) = true := by decide +kernel
theorem g39 : goodC tb m39 (body Tryz.f39) = true := by decide +kernel
theorem g40 : goodC tb m40 (body Tryz.f40) = true := by decide +kernel
theorem g41 : goodC tb m41 (body Tryz.f41) = true := by decide +kernel
theorem g42 : goodC tb m42 (body Tryz.f42) = true := by decide +kernel
theorem g43 : goodC tb m43 (body Tryz.f43) = true := by decide +kernel
theorem g44 : goodC tb m44 (body Tryz.f44) = true := by decide +kernel
theorem g45 : goodC tb m45 (body Tryz.f45) = true := by decide +kernel
theorem g46 : goodC tb m46 (body Tryz.f46) = true := by decide +kernel
theorem g47 : goodC tb m47 (body Tryz.f47) = true := by decide +kernel
theorem g48 : goodC tb m48 (body Tryz.f48) = true := by decide +kernel
theorem g49 : goodC tb m49 (body Tryz.f49) = true := by decide +kernel
theorem g50 : goodC tb m50 (body Tryz.f50) = true := by decide +kernel
theorem g51 : goodC tb m51 (body Tryz.f51) = true := by decide +kernel
theorem g52 : goodC tb m52 (body Tryz.f52) = true := by decide +kernel
theorem g53 : goodC tb m53 (body Tryz.f53) = true := by decide +kernel
theorem g54 : goodC tb m54 (body Tryz.f54) = true := by decide +kernel
theorem g55 : goodC tb m55 (body Tryz.f55) = true := by decide +kernel
theorem g56 : goodC tb m56 (body Tryz.f56) = true := by decide +kernel
theorem g57 : goodC tb m57 (body Tryz.f57) = true := by decide +kernel
theorem g58 : goodC tb m58 (body Tryz.f58) = true := by decide +kernel
theorem g59 : goodC tb m59 (body Tryz.f59) = true := by decide +kernel
theorem g60 : goodC tb m60 (body Tryz.f60) = true := by decide +kernel
theorem g61 : goodC tb m61 (body Tryz.f61) = true := by decide +kernel
theorem g62 : goodC tb m62 (body Tryz.f62) = true := by decide +kernel
theorem g63 : goodC tb m63 (body Tryz.f63) = true := by decide +kernel
theorem g64 : goodC tb m64 (body Tryz.f64) = true := by decide +kernel
theorem g65 : goodC tb m65 (body Tryz.f65) = true := by decide +kernel
theorem g66 : goodC tb m66 (body Tryz.f66) = true := by decide +kernel
theorem g67 : goodC tb m67 (body Tryz.f67) = true := by decide +kernel
theorem g68 : goodC tb m68 (body Tryz.f68) = true := by decide +kernel
theorem g69 : goodC tb m69 (body Tryz.f69) = true := by decide +kernel
theorem g70 : goodC tb m70 (body Tryz.f70) = true := by decide +kernel
theorem g71 : goodC tb m71 (body Tryz.f71) = true := by decide +kernel
theorem g72 : goodC tb m72 (body Tryz.f72) = true := by decide +kernel
theorem g73 : goodC tb m73 (body Tryz.f73) = true := by decide +kernel
theorem g74 : goodC tb m74 (body Tryz.f74) = true := by decide +kernel
theorem g75 : goodC tb m75 (body Tryz.f75) = true := by decide +kernel
theorem g76 : goodC tb m76 (body Tryz.f76) = true := by decide +kernel
theorem g77 : goodC tb m77 (body Tryz.f77) = true := by decide +kernel
theorem g78 : goodC tb m78 (body Tryz.f78) = true := by decide +kernel
theorem g80 : goodC tb m80 (body Tryz.f80) = true := by decide +kernel
theorem g81 : goodC tb m81 (body Tryz.f81) = true := by decide +kernel
theorem g82 : goodC tb m82 (body Tryz.f82) = true := by decide +kernel
theorem g83 : goodC tb m83 (body Tryz.f83) = true := by decide +kernel
theorem g84 : goodC tb m84 (body Tryz.f84) = true := by decide +kernel
theorem g85 : goodC tb m85 (body Tryz.f85) = true := by decide +kernel
theorem g86 : goodC tb m86 (body Tryz.f86) = true := by decide +kernel
theorem g87 : goodC tb m87 (body Tryz.f87) = true := by decide +kernel
theorem g88 : goodC tb m88 (body Tryz.f88) = true := by decide +kernel
theorem g89 : goodC tb m89 (body Tryz.f89) = true := by decide +kernel
theorem g90 : goodC tb m90 (body Tryz.f90) = true := by decide +kernel
theorem g91 : goodC tb m91 (body Tryz.f91) = true := by decide +kernel
theorem g93 : goodC tb m93 (body Tryz.f93) = true := by decide +kernel
theorem g96 : goodC tb m96 (body Tryz.f96) = true := by decide +kernel
theorem g97 : goodC tb m97 (body Tryz.f97) = true := by decide +kernel
theorem g98 : goodC tb m98 (body Tryz.f98) = true := by decide +kernel
theorem g99 : goodC tb m99 (body Tryz.f99) = true := by decide +kernel
theorem g100 : goodC tb m100 (body Tryz.f100) = true := by decide +kernel
theorem g101 : goodC tb m101 (body Tryz.f101) = true := by decide +kernel
theorem g102 : goodC tb m102 (body Tryz.f102) = true := by decide +kernel
theorem g103 : goodC tb m103 (body Tryz.f103) = true := by decide +kernel
theorem g104 : goodC tb m104 (body Tryz.f104) = true := by decide +kernel
theorem g105 : goodC tb m105 (body Tryz.f105) = true := by decide +kernel
theorem g106 : goodC tb m106 (body Tryz.f106) = true := by decide +kernel
theorem g107 : goodC tb m107 (body Tryz.f107) = true := by decide +kernel
theorem g108 : goodC tb m108 (body Tryz.f108) = true := by decide +kernel
theorem g109 : goodC tb m109 (body Tryz.f109) = true := by decide +kernel
theorem g110 : goodC tb m110 (body Tryz.f110) = true := by decide +kernel
theorem g111 : goodC tb m111 (body Tryz.f111) = true := by decide +kernel
theorem g112 : goodC tb m112 (body Tryz.f112) = true := by decide +kernel
theorem g113 : goodC tb m113 (body Tryz.f113) = true := by decide +kernel
theorem g114 : goodC tb m114 (body Tryz.f114) = true := by decide +kernel
theorem g115 : goodC tb m115 (body Tryz.f115) = true := by decide +kernel
theorem g116 : goodC tb m116 (body Tryz.f116) = true := by decide +kernel
theorem g117 : goodC tb m117 (body Tryz.f117) = true := by decide +kernel
theorem g118 : goodC tb m118 (body Tryz.f118) = true := by decide +kernel
theorem g119 : goodC tb m119 (body Tryz.f119) = true := by decide +kernel
theorem g120 : goodC tb m120 (body Tryz.f120) = true := by decide +kernel
theorem g121 : goodC tb m121 (body Tryz.f121) = true := by decide +kernel
theorem g122 : goodC tb m122 (body Tryz.f122) = true := by decide +kernel
theorem g123 : goodC tb m123 (body Tryz.f123) = true := by decide +kernel
theorem g124 : goodC tb m124 (body Tryz.f124) = true := by decide +kernel
theorem g125 : goodC tb m125 (body Tryz.f125) = true := by decide +kernel
theorem g126 : goodC tb m126 (body Tryz.f126) = true := by decide +kernel
theorem g127 : goodC tb m127 (body Tryz.f127) = true := by decide +kernel
theorem g128 : goodC tb m128 (body Tryz.f128) = true := by decide +kernel
theorem g129 : goodC tb m129 (body Tryz.f129) = true := by decide +kernel
theorem g130 : goodC tb m130 (body Tryz.f130) = true := by decide +kernel
theorem g131 : goodC tb m131 (body Tryz.f131) = true := by decide +kernel
theorem g132 : goodC tb m132 (body Tryz.f132) = true := by decide +kernel
theorem g133 : goodC tb m133 (body Tryz.f133) = true := by decide +kernel
theorem g134 : goodC tb m134 (body Tryz.f134) = true := by decide +kernel
theorem g135 : goodC tb m135 (body Tryz.f135) = true := by decide +kernel
theorem g136 : goodC tb m136 (body Tryz.f136) = true := by decide +kernel
theorem g137 : goodC tb m137 (body Tryz.f137) = true := by decide +kernel
theorem g138 : goodC tb m138 (body Tryz.f138) = true := by decide +kernel
theorem g139 : goodC tb m139 (body Tryz.f139) = true := by decide +kernel
theorem g140 : goodC tb m140 (body Tryz.f140) = true := by decide +kernel
theorem g141 : goodC tb m141 (body Tryz.f141) = true := by decide +kernel
theorem g142 : goodC tb m142 (body Tryz.f142) = true := by decide +kernel
theorem g143 : goodC tb m143 (body Tryz.f143) = true := by decide +kernel
theorem g172 : goodC tb m172 (body Tryz.f172) = true := by decide +kernel
theorem mixed : Tryz.prog.follows .mixedOrders = true := by decide +kernel
theorem tbOK : TbOK tb Tryz.prog := tbOK_of (by decide +kernel) (by rfl)
noncomputable def fi3 : Fi := ⟨body Tryz.f3, Tryz.f3.ntmps, Tryz.f3.results.toList, m3⟩
noncomputable def fi4 : Fi := ⟨body Tryz.f4, Tryz.f4.ntmps, Tryz.f4.results.toList, m4⟩
noncomputable def fi5 : Fi := ⟨body Tryz.f5, Tryz.f5.ntmps, Tryz.f5.results.toList, m5⟩
noncomputable def fi6 : Fi := ⟨body Tryz.f6, Tryz.f6.ntmps, Tryz.f6.results.toList, m6⟩
noncomputable def fi7 : Fi := ⟨body Tryz.f7, Tryz.f7.ntmps, Tryz.f7.results.toList, m7⟩
noncomputable def fi8 : Fi := ⟨body Tryz.f8, Tryz.f8.ntmps, Tryz.f8.results.toList, m8⟩
noncomputable def fi9 : Fi := ⟨body Tryz.f9, Tryz.f9.ntmps, Tryz.f9.results.toList, m9⟩
noncomputable def fi10 : Fi := ⟨body Tryz.f10, Tryz.f10.ntmps, Tryz.f10.results.toList, m10⟩
noncomputable def fi11 : Fi := ⟨body Tryz.f11, Tryz.f11.ntmps, Tryz.f11.results.toList, m11⟩
noncomputable def fi12 : Fi := ⟨body Tryz.f12, Tryz.f12.ntmps, Tryz.f12.results.toList, m12⟩
noncomputable def fi13 : Fi := ⟨body Tryz.f13, Tryz.f13.ntmps, Tryz.f13.results.toList, m13⟩
noncomputable def fi14 : Fi := ⟨body Tryz.f14, Tryz.f14.ntmps, Tryz.f14.results.toList, m14⟩
noncomputable def fi15 : Fi := ⟨body Tryz.f15, Tryz.f15.ntmps, Tryz.f15.results.toList, m15⟩
noncomputable def fi16 : Fi := ⟨body Tryz.f16, Tryz.f16.ntmps, Tryz.f16.results.toList, m16⟩
noncomputable def fi17 : Fi := ⟨body Tryz.f17, Tryz.f17.ntmps, Tryz.f17.results.toList, m17⟩
noncomputable def fi18 : Fi := ⟨body Tryz.f18, Tryz.f18.ntmps, Tryz.f18.results.toList, m18⟩
noncomputable def fi19 : Fi := ⟨body Tryz.f19, Tryz.f19.ntmps, Tryz.f19.results.toList, m19⟩
noncomputable def fi20 : Fi := ⟨body Tryz.f20, Tryz.f20.ntmps, Tryz.f20.results.toList, m20⟩
noncomputable def fi21 : Fi := ⟨body Tryz.f21, Tryz.f21.ntmps, Tryz.f21.results.toList, m21⟩
noncomputable def fi22 : Fi := ⟨body Tryz.f22, Tryz.f22.ntmps, Tryz.f22.results.toList, m22⟩
noncomputable def fi23 : Fi := ⟨body Tryz.f23, Tryz.f23.ntmps, Tryz.f23.results.toList, m23⟩
noncomputable def fi24 : Fi := ⟨body Tryz.f24, Tryz.f24.ntmps, Tryz.f24.results.toList, m24⟩
noncomputable def fi25 : Fi := ⟨body Tryz.f25, Tryz.f25.ntmps, Tryz.f25.results.toList, m25⟩
noncomputable def fi26 : Fi := ⟨body Tryz.f26, Tryz.f26.ntmps, Tryz.f26.results.toList, m26⟩
noncomputable def fi27 : Fi := ⟨body Tryz.f27, Tryz.f27.ntmps, Tryz.f27.results.toList, m27⟩
noncomputable def fi28 : Fi := ⟨body Tryz.f28, Tryz.f28.ntmps, Tryz.f28.results.toList, m28⟩
noncomputable def fi29 : Fi := ⟨body Tryz.f29, Tryz.f29.ntmps, Tryz.f29.results.toList, m29⟩
noncomputable def fi30 : Fi := ⟨body Tryz.f30, Tryz.f30.ntmps, Tryz.f30.results.toList, m30⟩
noncomputable def fi31 : Fi := ⟨body Tryz.f31, Tryz.f31.ntmps, Tryz.f31.results.toList, m31⟩
noncomputable def fi32 : Fi := ⟨body Tryz.f32, Tryz.f32.ntmps, Tryz.f32.results.toList, m32⟩
noncomputable def fi33 : Fi := ⟨body Tryz.f33, Tryz.f33.ntmps, Tryz.f33.results.toList, m33⟩
noncomputable def fi34 : Fi := ⟨body Tryz.f34, Tryz.f34.ntmps, Tryz.f34.results.toList, m34⟩
noncomputable def fi35 : Fi := ⟨body Tryz.f35, Tryz.f35.ntmps, Tryz.f35.results.toList, m35⟩
noncomputable def fi36 : Fi := ⟨body Tryz.f36, Tryz.f36.ntmps, Tryz.f36.results.toList, m36⟩
noncomputable def fi37 : Fi := ⟨body Tryz.f37, Tryz.f37.ntmps, Tryz.f37.results.toList, m37⟩
noncomputable def fi38 : Fi := ⟨body Tryz.f38, Tryz.f38.ntmps, Tryz.f38.results.toList, m38⟩
noncomputable def fi39 : Fi := ⟨body Tryz.f39, Tryz.f39.ntmps, Tryz.f39.results.toList, m39⟩
noncomputable def fi40 : Fi := ⟨body Tryz.f40, Tryz.f40.ntmps, Tryz.f40.results.toList, m40⟩
noncomputable def fi41 : Fi := ⟨body Tryz.f41, Tryz.f41.ntmps, Tryz.f41.results.toList, m41⟩
noncomputable def fi42 : Fi := ⟨body Tryz.f42, Tryz.f42.ntmps, Tryz.f42.results.toList, m42⟩
noncomputable def fi43 : Fi := ⟨body Tryz.f43, Tryz.f43.ntmps, Tryz.f43.results.toList, m43⟩
noncomputable def fi44 : Fi := ⟨body Tryz.f44, Tryz.f44.ntmps, Tryz.f44.results.toList, m44⟩
noncomputable def fi45 : Fi := ⟨body Tryz.f45, Tryz.f45.ntmps, Tryz.f45.results.toList, m45⟩
noncomputable def fi46 : Fi := ⟨body Tryz.f46, Tryz.f46.ntmps, Tryz.f46.results.toList, m46⟩
noncomputable def fi47 : Fi := ⟨body Tryz.f47, Tryz.f47.ntmps, Tryz.f47.results.toList, m47⟩
noncomputable def fi48 : Fi := ⟨body Tryz.f48, Tryz.f48.ntmps, Tryz.f48.results.toList, m48⟩
noncomputable def fi49 : Fi := ⟨body Tryz.f49, Tryz.f49.ntmps, Tryz.f49.results.toList, m49⟩
noncomputable def fi50 : Fi := ⟨body Tryz.f50, Tryz.f50.ntmps, Tryz.f50.results.toList, m50⟩
noncomputable def fi51 : Fi := ⟨body Tryz.f51, Tryz.f51.ntmps, Tryz.f51.results.toList, m51⟩
noncomputable def fi52 : Fi := ⟨body Tryz.f52, Tryz.f52.ntmps, Tryz.f52.results.toList, m52⟩
noncomputable def fi53 : Fi := ⟨body Tryz.f53, Tryz.f53.ntmps, Tryz.f53.results.toList, m53⟩
noncomputable def fi54 : Fi := ⟨body Tryz.f54, Tryz.f54.ntmps, Tryz.f54.results.toList, m54⟩
noncomputable def fi55 : Fi := ⟨body Tryz.f55, Tryz.f55.ntmps, Tryz.f55.results.toList, m55⟩
noncomputable def fi56 : Fi := ⟨body Tryz.f56, Tryz.f56.ntmps, Tryz.f56.results.toList, m56⟩
noncomputable def fi57 : Fi := ⟨body Tryz.f57, Tryz.f57.ntmps, Tryz.f57.results.toList, m57⟩
noncomputable def fi58 : Fi := ⟨body Tryz.f58, Tryz.f58.ntmps, Tryz.f58.results.toList, m58⟩
noncomputable def fi59 : Fi := ⟨body Tryz.f59, Tryz.f59.ntmps, Tryz.f59.results.toList, m59⟩
noncomputable def fi60 : Fi := ⟨body Tryz.f60, Tryz.f60.ntmps, Tryz.f60.results.toList, m60⟩
noncomputable def fi61 : Fi := ⟨body Tryz.f61, Tryz.f61.ntmps, Tryz.f61.results.toList, m61⟩
noncomputable def fi62 : Fi := ⟨body Tryz.f62, Tryz.f62.ntmps, Tryz.f62.results.toList, m62⟩
noncomputable def fi63 : Fi := ⟨body Tryz.f63, Tryz.f63.ntmps, Tryz.f63.results.toList, m63⟩
noncomputable def fi64 : Fi := ⟨body Tryz.f64, Tryz.f64.ntmps, Tryz.f64.results.toList, m64⟩
noncomputable def fi65 : Fi := ⟨body Tryz.f65, Tryz.f65.ntmps, Tryz.f65.results.toList, m65⟩
noncomputable def fi66 : Fi := ⟨body Tryz.f66, Tryz.f66.ntmps, Tryz.f66.results.toList, m66⟩
noncomputable def fi67 : Fi := ⟨body Tryz.f67, Tryz.f67.ntmps, Tryz.f67.results.toList, m67⟩
noncomputable def fi68 : Fi := ⟨body Tryz.f68, Tryz.f68.ntmps, Tryz.f68.results.toList, m68⟩
noncomputable def fi69 : Fi := ⟨body Tryz.f69, Tryz.f69.ntmps, Tryz.f69.results.toList, m69⟩
noncomputable def fi70 : Fi := ⟨body Tryz.f70, Tryz.f70.ntmps, Tryz.f70.results.toList, m70⟩
noncomputable def fi71 : Fi := ⟨body Tryz.f71, Tryz.f71.ntmps, Tryz.f71.results.toList, m71⟩
noncomputable def fi72 : Fi := ⟨body Tryz.f72, Tryz.f72.ntmps, Tryz.f72.results.toList, m72⟩
noncomputable def fi73 : Fi := ⟨body Tryz.f73, Tryz.f73.ntmps, Tryz.f73.results.toList, m73⟩
noncomputable def fi74 : Fi := ⟨body Tryz.f74, Tryz.f74.ntmps, Tryz.f74.results.toList, m74⟩
noncomputable def fi75 : Fi := ⟨body Tryz.f75, Tryz.f75.ntmps, Tryz.f75.results.toList, m75⟩
noncomputable def fi76 : Fi := ⟨body Tryz.f76, Tryz.f76.ntmps, Tryz.f76.results.toList, m76⟩
noncomputable def fi77 : Fi := ⟨body Tryz.f77, Tryz.f77.ntmps, Tryz.f77.results.toList, m77⟩
noncomputable def fi78 : Fi := ⟨body Tryz.f78, Tryz.f78.ntmps, Tryz.f78.results.toList, m78⟩
noncomputable def fi80 : Fi := ⟨body Tryz.f80, Tryz.f80.ntmps, Tryz.f80.results.toList, m80⟩
noncomputable def fi81 : Fi := ⟨body Tryz.f81, Tryz.f81.ntmps, Tryz.f81.results.toList, m81⟩
noncomputable def fi82 : Fi := ⟨body Tryz.f82, Tryz.f82.ntmps, Tryz.f82.results.toList, m82⟩
noncomputable def fi83 : Fi := ⟨body Tryz.f83, Tryz.f83.ntmps, Tryz.f83.results.toList, m83⟩
noncomputable def fi84 : Fi := ⟨body Tryz.f84, Tryz.f84.ntmps, Tryz.f84.results.toList, m84⟩
noncomputable def fi85 : Fi := ⟨body Tryz.f85, Tryz.f85.ntmps, Tryz.f85.results.toList, m85⟩
noncomputable def fi86 : Fi := ⟨body Tryz.f86, Tryz.f86.ntmps, Tryz.f86.results.toList, m86⟩
noncomputable def fi87 : Fi := ⟨body Tryz.f87, Tryz.f87.ntmps, Tryz.f87.results.toList, m87⟩
noncomputable def fi88 : Fi := ⟨body Tryz.f88, Tryz.f88.ntmps, Tryz.f88.results.toList, m88⟩
noncomputable def fi89 : Fi := ⟨body Tryz.f89, Tryz.f89.ntmps, Tryz.f89.results.toList, m89⟩
noncomputable def fi90 : Fi := ⟨body Tryz.f90, Tryz.f90.ntmps, Tryz.f90.results.toList, m90⟩
noncomputable def fi91 : Fi := ⟨body Tryz.f91, Tryz.f91.ntmps, Tryz.f91.results.toList, m91⟩
noncomputable def fi93 : Fi := ⟨body Tryz.f93, Tryz.f93.ntmps, Tryz.f93.results.toList, m93⟩
noncomputable def fi96 : Fi := ⟨body Tryz.f96, Tryz.f96.ntmps, Tryz.f96.results.toList, m96⟩
noncomputable def fi97 : Fi := ⟨body Tryz.f97, Tryz.f97.ntmps, Tryz.f97.results.toList, m97⟩
noncomputable def fi98 : Fi := ⟨body Tryz.f98, Tryz.f98.ntmps, Tryz.f98.results.toList, m98⟩
noncomputable def fi99 : Fi := ⟨body Tryz.f99, Tryz.f99.ntmps, Tryz.f99.results.toList, m99⟩
noncomputable def fi100 : Fi := ⟨body Tryz.f100, Tryz.f100.ntmps, Tryz.f100.results.toList, m100⟩
noncomputable def fi101 : Fi := ⟨body Tryz.f101, Tryz.f101.ntmps, Tryz.f101.results.toList, m101⟩
noncomputable def fi102 : Fi := ⟨body Tryz.f102, Tryz.f102.ntmps, Tryz.f102.results.toList, m102⟩
noncomputable def fi103 : Fi := ⟨body Tryz.f103, Tryz.f103.ntmps, Tryz.f103.results.toList, m103⟩
noncomputable def fi104 : Fi := ⟨body Tryz.f104, Tryz.f104.ntmps, Tryz.f104.results.toList, m104⟩
noncomputable def fi105 : Fi := ⟨body Tryz.f105, Tryz.f105.ntmps, Tryz.f105.results.toList, m105⟩
noncomputable def fi106 : Fi := ⟨body Tryz.f106, Tryz.f106.ntmps, Tryz.f106.results.toList, m106⟩
noncomputable def fi107 : Fi := ⟨body Tryz.f107, Tryz.f107.ntmps, Tryz.f107.results.toList, m107⟩
noncomputable def fi108 : Fi := ⟨body Tryz.f108, Tryz.f108.ntmps, Tryz.f108.results.toList, m108⟩
noncomputable def fi109 : Fi := ⟨body Tryz.f109, Tryz.f109.ntmps, Tryz.f109.results.toList, m109⟩
noncomputable def fi110 : Fi := ⟨body Tryz.f110, Tryz.f110.ntmps, Tryz.f110.results.toList, m110⟩
noncomputable def fi111 : Fi := ⟨body Tryz.f111, Tryz.f111.ntmps, Tryz.f111.results.toList, m111⟩
noncomputable def fi112 : Fi := ⟨body Tryz.f112, Tryz.f112.ntmps, Tryz.f112.results.toList, m112⟩
noncomputable def fi113 : Fi := ⟨body Tryz.f113, Tryz.f113.ntmps, Tryz.f113.results.toList, m113⟩
noncomputable def fi114 : Fi := ⟨body Tryz.f114, Tryz.f114.ntmps, Tryz.f114.results.toList, m114⟩
noncomputable def fi115 : Fi := ⟨body Tryz.f115, Tryz.f115.ntmps, Tryz.f115.results.toList, m115⟩
noncomputable def fi116 : Fi := ⟨body Tryz.f116, Tryz.f116.ntmps, Tryz.f116.results.toList, m116⟩
noncomputable def fi117 : Fi := ⟨body Tryz.f117, Tryz.f117.ntmps, Tryz.f117.results.toList, m117⟩
noncomputable def fi118 : Fi := ⟨body Tryz.f118, Tryz.f118.ntmps, Tryz.f118.results.toList, m118⟩
noncomputable def fi119 : Fi := ⟨body Tryz.f119, Tryz.f119.ntmps, Tryz.f119.results.toList, m119⟩
noncomputable def fi120 : Fi := ⟨body Tryz.f120, Tryz.f120.ntmps, Tryz.f120.results.toList, m120⟩
noncomputable def fi121 : Fi := ⟨body Tryz.f121, Tryz.f121.ntmps, Tryz.f121.results.toList, m121⟩
noncomputable def fi122 : Fi := ⟨body Tryz.f122, Tryz.f122.ntmps, Tryz.f122.results.toList, m122⟩
noncomputable def fi123 : Fi := ⟨body Tryz.f123, Tryz.f123.ntmps, Tryz.f123.results.toList, m123⟩
noncomputable def fi124 : Fi := ⟨body Tryz.f124, Tryz.f124.ntmps, Tryz.f124.results.toList, m124⟩
noncomputable def fi125 : Fi := ⟨body Tryz.f125, Tryz.f125.ntmps, Tryz.f125.results.toList, m125⟩
noncomputable def fi126 : Fi := ⟨body Tryz.f126, Tryz.f126.ntmps, Tryz.f126.results.toList, m126⟩
noncomputable def fi127 : Fi := ⟨body Tryz.f127, Tryz.f127.ntmps, Tryz.f127.results.toList, m127⟩
noncomputable def fi128 : Fi := ⟨body Tryz.f128, Tryz.f128.ntmps, Tryz.f128.results.toList, m128⟩
noncomputable def fi129 : Fi := ⟨body Tryz.f129, Tryz.f129.ntmps, Tryz.f129.results.toList, m129⟩
noncomputable def fi130 : Fi := ⟨body Tryz.f130, Tryz.f130.ntmps, Tryz.f130.results.toList, m130⟩
noncomputable def fi131 : Fi := ⟨body Tryz.f131, Tryz.f131.ntmps, Tryz.f131.results.toList, m131⟩
noncomputable def fi132 : Fi := ⟨body Tryz.f132, Tryz.f132.ntmps, Tryz.f132.results.toList, m132⟩
noncomputable def fi133 : Fi := ⟨body Tryz.f133, Tryz.f133.ntmps, Tryz.f133.results.toList, m133⟩
noncomputable def fi134 : Fi := ⟨body Tryz.f134, Tryz.f134.ntmps, Tryz.f134.results.toList, m134⟩
noncomputable def fi135 : Fi := ⟨body Tryz.f135, Tryz.f135.ntmps, Tryz.f135.results.toList, m135⟩
noncomputable def fi136 : Fi := ⟨body Tryz.f136, Tryz.f136.ntmps, Tryz.f136.results.toList, m136⟩
noncomputable def fi137 : Fi := ⟨body Tryz.f137, Tryz.f137.ntmps, Tryz.f137.results.toList, m137⟩
noncomputable def fi138 : Fi := ⟨body Tryz.f138, Tryz.f138.ntmps, Tryz.f138.results.toList, m138⟩
noncomputable def fi139 : Fi := ⟨body Tryz.f139, Tryz.f139.ntmps, Tryz.f139.results.toList, m139⟩
noncomputable def fi140 : Fi := ⟨body Tryz.f140, Tryz.f140.ntmps, Tryz.f140.results.toList, m140⟩
noncomputable def fi141 : Fi := ⟨body Tryz.f141, Tryz.f141.ntmps, Tryz.f141.results.toList, m141⟩
noncomputable def fi142 : Fi := ⟨body Tryz.f142, Tryz.f142.ntmps, Tryz.f142.results.toList, m142⟩
noncomputable def fi143 : Fi := ⟨body Tryz.f143, Tryz.f143.ntmps, Tryz.f143.results.toList, m143⟩
noncomputable def fi172 : Fi := ⟨body Tryz.f172, Tryz.f172.ntmps, Tryz.f172.results.toList, m172⟩
noncomputable def fis : List (Nat × Fi) := [(3, fi3), (4, fi4), (5, fi5), (6, fi6), (7, fi7), (8, fi8), (9, fi9), (10, fi10), (11, fi11), (12, fi12), (13, fi13), (14, fi14), (15, fi15), (16, fi16), (17, fi17), (18, fi18), (19, fi19), (20, fi20), (21, fi21), (22, fi22), (23, fi23), (24, fi24), (25, fi25), (26, fi26), (27, fi27), (28, fi28), (29, fi29), (30, fi30), (31, fi31), (32, fi32), (33, fi33), (34, fi34), (35, fi35), (36, fi36), (37, fi37), (38, fi38), (39, fi39), (40, fi40), (41, fi41), (42, fi42), (43, fi43), (44, fi44), (45, fi45), (46, fi46), (47, fi47), (48, fi48), (49, fi49), (50, fi50), (51, fi51), (52, fi52), (53, fi53), (54, fi54), (55, fi55), (56, fi56), (57, fi57), (58, fi58), (59, fi59), (60, fi60), (61, fi61), (62, fi62), (63, fi63), (64, fi64), (65, fi65), (66, fi66), (67, fi67), (68, fi68), (69, fi69), (70, fi70), (71, fi71), (72, fi72), (73, fi73), (74, fi74), (75, fi75), (76, fi76), (77, fi77), (78, fi78), (80, fi80), (81, fi81), (82, fi82), (83, fi83), (84, fi84), (85, fi85), (86, fi86), (87, fi87), (88, fi88), (89, fi89), (90, fi90), (91, fi91), (93, fi93), (96, fi96), (97, fi97), (98, fi98), (99, fi99), (100, fi100), (101, fi101), (102, fi102), (103, fi103), (104, fi104), (105, fi105), (106, fi106), (107, fi107), (108, fi108), (109, fi109), (110, fi110), (111, fi111), (112, fi112), (113, fi113), (114, fi114), (115, fi115), (116, fi116), (117, fi117), (118, fi118), (119, fi119), (120, fi120), (121, fi121), (122, fi122), (123, fi123), (124, fi124), (125, fi125), (126, fi126), (127, fi127), (128, fi128), (129, fi129), (130, fi130), (131, fi131), (132, fi132), (133, fi133), (134, fi134), (135, fi135), (136, fi136), (137, fi137), (138, fi138), (139, fi139), (140, fi140), (141, fi141), (142, fi142), (143, fi143), (172, fi172)]
theorem fisOK : ∀ x, x ∈ fis → FiOK tb Tryz.prog x.1 x.2 := by
  intro x hx
  simp only [fis, List.mem_cons, List.not_mem_nil, or_false] at hx
  rcases hx with rfl | rfl | rfl | rfl | rfl | rfl | rfl | rfl | rfl | rfl | rfl | rfl | rfl | rfl | rfl | rfl | rfl | rfl | rfl | rfl | rfl | rfl | rfl | rfl | rfl | rfl | rfl | rfl | rfl | rfl | rfl | rfl | rfl | rfl | rfl | rfl | rfl | rfl | rfl | rfl | rfl | rfl | rfl | rfl | rfl | rfl | rfl | rfl | rfl | rfl | rfl | rfl | rfl | rfl | rfl | rfl | rfl | rfl | rfl | rfl | rfl | rfl | rfl | rfl | rfl | rfl | rfl | rfl | rfl | rfl | rfl | rfl | rfl | rfl | rfl | rfl | rfl | rfl | rfl | rfl | rfl | rfl | rfl | rfl | rfl | rfl | rfl | rfl | rfl | rfl | rfl | rfl | rfl | rfl | rfl | rfl | rfl | rfl | rfl | rfl | rfl | rfl | rfl | rfl | rfl | rfl | rfl | rfl | rfl | rfl | rfl | rfl | rfl | rfl | rfl | rfl | rfl | rfl | rfl | rfl | rfl | rfl | rfl | rfl | rfl | rfl | rfl | rfl | rfl | rfl | rfl | rfl | rfl | rfl | rfl | rfl | rfl | rfl
  · exact ⟨Tryz.f3, Tryz.func3, rfl, rfl, rfl, by decide +kernel, g3⟩
  · exact ⟨Tryz.f4, Tryz.func4, rfl, rfl, rfl, by decide +kernel, g4⟩
  · exact ⟨Tryz.f5, Tryz.func5, rfl, rfl, rfl, by decide +kernel, g5⟩
  · exact ⟨Tryz.f6, Tryz.func6, rfl, rfl, rfl, by decide +kernel, g6⟩
  · exact ⟨Tryz.f7, Tryz.func7, rfl, rfl, rfl, by decide +kernel, g7⟩
  · exact ⟨Tryz.f8, Tryz.func8, rfl, rfl, rfl, by decide +kernel, g8⟩
  · exact ⟨Tryz.f9, Tryz.func9, rfl, rfl, rfl, by decide +kernel, g9⟩
  · exact ⟨Tryz.f10, Tryz.func10, rfl, rfl, rfl, by decide +kernel, g10⟩
  · exact ⟨Tryz.f11, Tryz.func11, rfl, rfl, rfl, by decide +kernel, g11⟩
  · exact ⟨Tryz.f12, Tryz.func12, rfl, rfl, rfl, by decide +kernel, g12⟩
  · exact ⟨Tryz.f13, Tryz.func13, rfl, rfl, rfl, by decide +kernel, g13⟩
  · exact ⟨Tryz.f14, Tryz.func14, rfl, rfl, rfl, by decide +kernel, g14⟩
  · exact ⟨Tryz.f15, Tryz.func15, rfl, rfl, rfl, by decide +kernel, g15⟩
  · exact ⟨Tryz.f16, Tryz.func16, rfl, rfl, rfl, by decide +kernel, g16⟩
  · exact ⟨Tryz.f17, Tryz.func17, rfl, rfl, rfl, by decide +kernel, g17⟩
  · exact ⟨Tryz.f18, Tryz.func18, rfl, rfl, rfl, by decide +kernel, g18⟩
  · exact ⟨Tryz.f19, Tryz.func19, rfl, rfl, rfl, by decide +kernel, g19⟩
  · exact ⟨Tryz.f20, Tryz.func20, rfl, rfl, rfl, by decide +kernel, g20⟩
  · exact ⟨Tryz.f21, Tryz.func21, rfl, rfl, rfl, by decide +kernel, g21⟩
  · exact ⟨Tryz.f22, Tryz.func22, rfl, rfl, rfl, by decide +kernel, g22⟩
  · exact ⟨Tryz.f23, Tryz.func23, rfl, rfl, rfl, by decide +kernel, g23⟩
  · exact ⟨Tryz.f24, Tryz.func24, rfl, rfl, rfl, by decide +kernel, g24⟩
  · exact ⟨Tryz.f25, Tryz.func25, rfl, rfl, rfl, by decide +kernel, g25⟩
  · exact ⟨Tryz.f26, Tryz.func26, rfl, rfl, rfl, by decide +kernel, g26⟩
  · exact ⟨Tryz.f27, Tryz.func27, rfl, rfl, rfl, by decide +kernel, g27⟩
  · exact ⟨Tryz.f28, Tryz.func28, rfl, rfl, rfl, by decide +kernel, g28⟩
  · exact ⟨Tryz.f29, Tryz.func29, rfl, rfl, rfl, by decide +kernel, g29⟩
  · exact ⟨Tryz.f30, Tryz.func30, rfl, rfl, rfl, by decide +kernel, g30⟩
  · exact ⟨Tryz.f31, Tryz.func31, rfl, rfl, rfl, by decide +kernel, g31⟩
  · exact ⟨Tryz.f32, Tryz.func32, rfl, rfl, rfl, by decide +kernel, g32⟩
  · exact ⟨Tryz.f33, Tryz.func33, rfl, rfl, rfl, by decide +kernel, g33⟩
  · exact ⟨Tryz.f34, Tryz.func34, rfl, rfl, rfl, by decide +kernel, g34⟩
  · exact ⟨Tryz.f35, Tryz.func35, rfl, rfl, rfl, by decide +kernel, g35⟩
  · exact ⟨Tryz.f36, Tryz.func36, rfl, rfl, rfl, by decide +kernel, g36⟩
  · exact ⟨Tryz.f37, Tryz.func37, rfl, rfl, rfl, by decide +kernel, g37⟩
  · exact ⟨Tryz.f38, Tryz.func38, rfl, rfl, rfl, by decide +kernel, g38⟩
  · exact ⟨Tryz.f39, Tryz.func39, rfl, rfl, rfl, by decide +kernel, g39⟩
  · exact ⟨Tryz.f40, Tryz.func40, rfl, rfl, rfl, by decide +kernel, g40⟩
  · exact ⟨Tryz.f41, Tryz.func41, rfl, rfl, rfl, by decide +kernel, g41⟩
  · exact ⟨Tryz.f42, Tryz.func42, rfl, rfl, rfl, by decide +kernel, g42⟩
  · exact ⟨Tryz.f43, Tryz.func43, rfl, rfl, rfl, by decide +kernel, g43⟩
  · exact ⟨Tryz.f44, Tryz.func44, rfl, rfl, rfl, by decide +kernel, g44⟩
  · exact ⟨Tryz.f45, Tryz.func45, rfl, rfl, rfl, by decide +kernel, g45⟩
  · exact ⟨Tryz.f46, Tryz.func46, rfl, rfl, rfl, by decide +kernel, g46⟩
  · exact ⟨Tryz.f47, Tryz.func47, rfl, rfl, rfl, by decide +kernel, g47⟩
  · exact ⟨Tryz.f48, Tryz.func48, rfl, rfl, rfl, by decide +kernel, g48⟩
  · exact ⟨Tryz.f49, Tryz.func49, rfl, rfl, rfl, by decide +kernel, g49⟩
  · exact ⟨Tryz.f50, Tryz.func50, rfl, rfl, rfl, by decide +kernel, g50⟩
  · exact ⟨Tryz.f51, Tryz.func51, rfl, rfl, rfl, by decide +kernel, g51⟩
  · exact ⟨Tryz.f52, Tryz.func52, rfl, rfl, rfl, by decide +kernel, g52⟩
  · exact ⟨Tryz.f53, Tryz.func53, rfl, rfl, rfl, by decide +kernel, g53⟩
  · exact ⟨Tryz.f54, Tryz.func54, rfl, rfl, rfl, by decide +kernel, g54⟩
  · exact ⟨Tryz.f55, Tryz.func55, rfl, rfl, rfl, by decide +kernel, g55⟩
  · exact ⟨Tryz.f56, Tryz.func56, rfl, rfl, rfl, by decide +kernel, g56⟩
  · exact ⟨Tryz.f57, Tryz.func57, rfl, rfl, rfl, by decide +kernel, g57⟩
  · exact ⟨Tryz.f58, Tryz.func58, rfl, rfl, rfl, by decide +kernel, g58⟩
  · exact ⟨Tryz.f59, Tryz.func59, rfl, rfl, rfl, by decide +kernel, g59⟩
  · exact ⟨Tryz.f60, Tryz.func60, rfl, rfl, rfl, by decide +kernel, g60⟩
  · exact ⟨Tryz.f61, Tryz.func61, rfl, rfl, rfl, by decide +kernel, g61⟩
  · exact ⟨Tryz.f62, Tryz.func62, rfl, rfl, rfl, by decide +kernel, g62⟩
  · exact ⟨Tryz.f63, Tryz.func63, rfl, rfl, rfl, by decide +kernel, g63⟩
  · exact ⟨Tryz.f64, Tryz.func64, rfl, rfl, rfl, by decide +kernel, g64⟩
  · exact ⟨Tryz.f65, Tryz.func65, rfl, rfl, rfl, by decide +kernel, g65⟩
  · exact ⟨Tryz.f66, Tryz.func66, rfl, rfl, rfl, by decide +kernel, g66⟩
  · exact ⟨Tryz.f67, Tryz.func67, rfl, rfl, rfl, by decide +kernel, g67⟩
  · exact ⟨Tryz.f68, Tryz.func68, rfl, rfl, rfl, by decide +kernel, g68⟩
  · exact ⟨Tryz.f69, Tryz.func69, rfl, rfl, rfl, by decide +kernel, g69⟩
  · exact ⟨Tryz.f70, Tryz.func70, rfl, rfl, rfl, by decide +kernel, g70⟩
  · exact ⟨Tryz.f71, Tryz.func71, rfl, rfl, rfl, by decide +kernel, g71⟩
  · exact ⟨Tryz.f72, Tryz.func72, rfl, rfl, rfl, by decide +kernel, g72⟩
  · exact ⟨Tryz.f73, Tryz.func73, rfl, rfl, rfl, by decide +kernel, g73⟩
  · exact ⟨Tryz.f74, Tryz.func74, rfl, rfl, rfl, by decide +kernel, g74⟩
  · exact ⟨Tryz.f75, Tryz.func75, rfl, rfl, rfl, by decide +kernel, g75⟩
  · exact ⟨Tryz.f76, Tryz.func76, rfl, rfl, rfl, by decide +kernel, g76⟩
  · exact ⟨Tryz.f77, Tryz.func77, rfl, rfl, rfl, by decide +kernel, g77⟩
  · exact ⟨Tryz.f78, Tryz.func78, rfl, rfl, rfl, by decide +kernel, g78⟩
  · exact ⟨Tryz.f80, Tryz.func80, rfl, rfl, rfl, by decide +kernel, g80⟩
  · exact ⟨Tryz.f81, Tryz.func81, rfl, rfl, rfl, by decide +kernel, g81⟩
  · exact ⟨Tryz.f82, Tryz.func82, rfl, rfl, rfl, by decide +kernel, g82⟩
  · exact ⟨Tryz.f83, Tryz.func83, rfl, rfl, rfl, by decide +kernel, g83⟩
  · exact ⟨Tryz.f84, Tryz.func84, rfl, rfl, rfl, by decide +kernel, g84⟩
  · exact ⟨Tryz.f85, Tryz.func85, rfl, rfl, rfl, by decide +kernel, g85⟩
  · exact ⟨Tryz.f86, Tryz.func86, rfl, rfl, rfl, by decide +kernel, g86⟩
  · exact ⟨Tryz.f87, Tryz.func87, rfl, rfl, rfl, by decide +kernel, g87⟩
  · exact ⟨Tryz.f88, Tryz.func88, rfl, rfl, rfl, by decide +kernel, g88⟩
  · exact ⟨Tryz.f89, Tryz.func89, rfl, rfl, rfl, by decide +kernel, g89⟩
  · exact ⟨Tryz.f90, Tryz.func90, rfl, rfl, rfl, by decide +kernel, g90⟩
  · exact ⟨Tryz.f91, Tryz.func91, rfl, rfl, rfl, by decide +kernel, g91⟩
  · exact ⟨Tryz.f93, Tryz.func93, rfl, rfl, rfl, by decide +kernel, g93⟩
  · exact ⟨Tryz.f96, Tryz.func96, rfl, rfl, rfl, by decide +kernel, g96⟩
  · exact ⟨Tryz.f97, Tryz.func97, rfl, rfl, rfl, by decide +kernel, g97⟩
  · exact ⟨Tryz.f98, Tryz.func98, rfl, rfl, rfl, by decide +kernel, g98⟩
  · exact ⟨Tryz.f99, Tryz.func99, rfl, rfl, rfl, by decide +kernel, g99⟩
  · exact ⟨Tryz.f100, Tryz.func100, rfl, rfl, rfl, by decide +kernel, g100⟩
  · exact ⟨Tryz.f101, Tryz.func101, rfl, rfl, rfl, by decide +kernel, g101⟩
  · exact ⟨Tryz.f102, Tryz.func102, rfl, rfl, rfl, by decide +kernel, g102⟩
  · exact ⟨Tryz.f103, Tryz.func103, rfl, rfl, rfl, by decide +kernel, g103⟩
  · exact ⟨Tryz.f104, Tryz.func104, rfl, rfl, rfl, by decide +kernel, g104⟩
  · exact ⟨Tryz.f105, Tryz.func105, rfl, rfl, rfl, by decide +kernel, g105⟩
  · exact ⟨Tryz.f106, Tryz.func106, rfl, rfl, rfl, by decide +kernel, g106⟩
  · exact ⟨Tryz.f107, Tryz.func107, rfl, rfl, rfl, by decide +kernel, g107⟩
  · exact ⟨Tryz.f108, Tryz.func108, rfl, rfl, rfl, by decide +kernel, g108⟩
  · exact ⟨Tryz.f109, Tryz.func109, rfl, rfl, rfl, by decide +kernel, g109⟩
  · exact ⟨Tryz.f110, Tryz.func110, rfl, rfl, rfl, by decide +kernel, g110⟩
  · exact ⟨Tryz.f111, Tryz.func111, rfl, rfl, rfl, by decide +kernel, g111⟩
  · exact ⟨Tryz.f112, Tryz.func112, rfl, rfl, rfl, by decide +kernel, g112⟩
  · exact ⟨Tryz.f113, Tryz.func113, rfl, rfl, rfl, by decide +kernel, g113⟩
  · exact ⟨Tryz.f114, Tryz.func114, rfl, rfl, rfl, by decide +kernel, g114⟩
  · exact ⟨Tryz.f115, Tryz.func115, rfl, rfl, rfl, by decide +kernel, g115⟩
  · exact ⟨Tryz.f116, Tryz.func116, rfl, rfl, rfl, by decide +kernel, g116⟩
  · exact ⟨Tryz.f117, Tryz.func117, rfl, rfl, rfl, by decide +kernel, g117⟩
  · exact ⟨Tryz.f118, Tryz.func118, rfl, rfl, rfl, by decide +kernel, g118⟩
  · exact ⟨Tryz.f119, Tryz.func119, rfl, rfl, rfl, by decide +kernel, g119⟩
  · exact ⟨Tryz.f120, Tryz.func120, rfl, rfl, rfl, by decide +kernel, g120⟩
  · exact ⟨Tryz.f121, Tryz.func121, rfl, rfl, rfl, by decide +kernel, g121⟩
  · exact ⟨Tryz.f122, Tryz.func122, rfl, rfl, rfl, by decide +kernel, g122⟩
  · exact ⟨Tryz.f123, Tryz.func123, rfl, rfl, rfl, by decide +kernel, g123⟩
  · exact ⟨Tryz.f124, Tryz.func124, rfl, rfl, rfl, by decide +kernel, g124⟩
  · exact ⟨Tryz.f125, Tryz.func125, rfl, rfl, rfl, by decide +kernel, g125⟩
  · exact ⟨Tryz.f126, Tryz.func126, rfl, rfl, rfl, by decide +kernel, g126⟩
  · exact ⟨Tryz.f127, Tryz.func127, rfl, rfl, rfl, by decide +kernel, g127⟩
  · exact ⟨Tryz.f128, Tryz.func128, rfl, rfl, rfl, by decide +kernel, g128⟩
  · exact ⟨Tryz.f129, Tryz.func129, rfl, rfl, rfl, by decide +kernel, g129⟩
  · exact ⟨Tryz.f130, Tryz.func130, rfl, rfl, rfl, by decide +kernel, g130⟩
  · exact ⟨Tryz.f131, Tryz.func131, rfl, rfl, rfl, by decide +kernel, g131⟩
  · exact ⟨Tryz.f132, Tryz.func132, rfl, rfl, rfl, by decide +kernel, g132⟩
  · exact ⟨Tryz.f133, Tryz.func133, rfl, rfl, rfl, by decide +kernel, g133⟩
  · exact ⟨Tryz.f134, Tryz.func134, rfl, rfl, rfl, by decide +kernel, g134⟩
  · exact ⟨Tryz.f135, Tryz.func135, rfl, rfl, rfl, by decide +kernel, g135⟩
  · exact ⟨Tryz.f136, Tryz.func136, rfl, rfl, rfl, by decide +kernel, g136⟩
  · exact ⟨Tryz.f137, Tryz.func137, rfl, rfl, rfl, by decide +kernel, g137⟩
  · exact ⟨Tryz.f138, Tryz.func138, rfl, rfl, rfl, by decide +kernel, g138⟩
  · exact ⟨Tryz.f139, Tryz.func139, rfl, rfl, rfl, by decide +kernel, g139⟩
  · exact ⟨Tryz.f140, Tryz.func140, rfl, rfl, rfl, by decide +kernel, g140⟩
  · exact ⟨Tryz.f141, Tryz.func141, rfl, rfl, rfl, by decide +kernel, g141⟩
  · exact ⟨Tryz.f142, Tryz.func142, rfl, rfl, rfl, by decide +kernel, g142⟩
  · exact ⟨Tryz.f143, Tryz.func143, rfl, rfl, rfl, by decide +kernel, g143⟩
  · exact ⟨Tryz.f172, Tryz.func172, rfl, rfl, rfl, by decide +kernel, g172⟩
end
end TS
