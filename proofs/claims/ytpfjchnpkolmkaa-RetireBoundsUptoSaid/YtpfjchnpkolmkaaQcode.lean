import Derived.Test.YtpfjchnpkolmkaaQbody
import Derived.Test.YtpfjchnpkolmkaaQeval
import Derived.Test.YtpfjchnpkolmkaaProg
import Derived.KernelRfl
set_option maxRecDepth 100000
namespace Go.Proofs.Ytpfjchnpkolmkaa
open Go Go.Pi
/- gleaninglaw20.RetireBounds -/
def c3_2 : CC := (.seq (.seq (.run [⟨(some 67), none, (Op.move (Operand.tmp 11))⟩, ⟨(some 68), none, (Op.move (Operand.tmp 10))⟩, ⟨(some 69), none, (Op.binOp BinOp.lss 3 (Operand.tmp 67) (Operand.tmp 68) 3)⟩]) (.cond (Operand.tmp 69) .skip (.exit 2))) (.seq (.block 3 (.seq (.draw [⟨(some 72), none, (Op.move (Operand.tmp 0))⟩, ⟨(some 73), none, (Op.move (Operand.tmp 11))⟩, ⟨(some 74), none, (Op.indexAddr 22 (Operand.tmp 72) (Operand.tmp 73))⟩, ⟨(some 75), none, (Op.fieldAddr 27 (Operand.tmp 74) 0)⟩, ⟨(some 76), none, (Op.load 3 (Operand.tmp 75))⟩, ⟨(some 77), none, (Op.move (Operand.tmp 0))⟩, ⟨(some 78), none, (Op.move (Operand.tmp 10))⟩, ⟨(some 79), none, (Op.indexAddr 22 (Operand.tmp 77) (Operand.tmp 78))⟩, ⟨(some 80), none, (Op.fieldAddr 27 (Operand.tmp 79) 0)⟩, ⟨(some 81), none, (Op.load 3 (Operand.tmp 80))⟩, ⟨(some 82), none, (Op.binOp BinOp.eql 3 (Operand.tmp 76) (Operand.tmp 81) 3)⟩] [0, 0, 3, 7, 15, 0, 0, 96, 224, 480, 1023]) (.cond (Operand.tmp 82) (.seq (.run [⟨(some 8), none, (Op.assign (Operand.const (Value.bool true)))⟩]) .ret) .skip))) (.run [⟨(some 70), none, (Op.move (Operand.tmp 11))⟩, ⟨(some 71), none, (Op.binOp BinOp.add 3 (Operand.tmp 70) (Operand.const (Value.int IntKind.i64 1)) 3)⟩, ⟨(some 11), none, (Op.assign (Operand.tmp 71))⟩])))
def c3_0 : CC := (.seq (.seq (.run [⟨(some 47), none, (Op.move (Operand.tmp 10))⟩, ⟨(some 48), none, (Op.move (Operand.tmp 0))⟩, ⟨(some 49), none, (Op.call { callee := (Callee.builtin Builtin.len), args := #[(Operand.tmp 48)], argTypes := #[22] })⟩, ⟨(some 50), none, (Op.binOp BinOp.lss 3 (Operand.tmp 47) (Operand.tmp 49) 3)⟩]) (.cond (Operand.tmp 50) .skip (.exit 0))) (.seq (.block 1 (.seq (.seq (.run [⟨(some 53), none, (Op.move (Operand.tmp 0))⟩, ⟨(some 54), none, (Op.move (Operand.tmp 10))⟩, ⟨(some 55), none, (Op.indexAddr 22 (Operand.tmp 53) (Operand.tmp 54))⟩, ⟨(some 56), none, (Op.fieldAddr 27 (Operand.tmp 55) 1)⟩, ⟨(some 57), none, (Op.load 3 (Operand.tmp 56))⟩, ⟨(some 58), none, (Op.binOp BinOp.lss 3 (Operand.tmp 57) (Operand.const (Value.int IntKind.i64 0)) 3)⟩, ⟨(some 59), none, (Op.move (Operand.tmp 58))⟩, ⟨(some 60), (some (59, false)), (Op.move (Operand.tmp 0))⟩, ⟨(some 61), (some (59, false)), (Op.move (Operand.tmp 10))⟩, ⟨(some 62), (some (59, false)), (Op.indexAddr 22 (Operand.tmp 60) (Operand.tmp 61))⟩, ⟨(some 63), (some (59, false)), (Op.fieldAddr 27 (Operand.tmp 62) 1)⟩, ⟨(some 64), (some (59, false)), (Op.load 3 (Operand.tmp 63))⟩, ⟨(some 65), (some (59, false)), (Op.binOp BinOp.gtr 3 (Operand.tmp 64) (Operand.const (Value.int IntKind.i64 1099511627776)) 3)⟩, ⟨(some 66), none, (Op.pick (Operand.tmp 59) (Operand.const (Value.bool true)) (Operand.tmp 65))⟩]) (.cond (Operand.tmp 66) (.seq (.run [⟨(some 8), none, (Op.assign (Operand.const (Value.bool true)))⟩]) .ret) .skip)) (.seq (.run [⟨(some 11), none, (Op.assign (Operand.const (Value.int IntKind.i64 0)))⟩]) (.block 2 (.loop ([(0, none), (1, none), (2, none), (3, none), (10, none), (11, none)], []) c3_2))))) (.run [⟨(some 51), none, (Op.move (Operand.tmp 10))⟩, ⟨(some 52), none, (Op.binOp BinOp.add 3 (Operand.tmp 51) (Operand.const (Value.int IntKind.i64 1)) 3)⟩, ⟨(some 10), none, (Op.assign (Operand.tmp 52))⟩])))
def c3_6 : CC := (.seq (.seq (.run [⟨(some 95), none, (Op.move (Operand.tmp 18))⟩, ⟨(some 96), none, (Op.move (Operand.tmp 13))⟩, ⟨(some 97), none, (Op.call { callee := (Callee.builtin Builtin.len), args := #[(Operand.tmp 96)], argTypes := #[22] })⟩, ⟨(some 98), none, (Op.binOp BinOp.lss 3 (Operand.tmp 95) (Operand.tmp 97) 3)⟩]) (.cond (Operand.tmp 98) .skip (.exit 6))) (.seq (.block 7 (.seq (.draw [⟨(some 101), none, (Op.move (Operand.tmp 13))⟩, ⟨(some 102), none, (Op.move (Operand.tmp 18))⟩, ⟨(some 103), none, (Op.indexAddr 22 (Operand.tmp 101) (Operand.tmp 102))⟩, ⟨(some 104), none, (Op.fieldAddr 27 (Operand.tmp 103) 0)⟩, ⟨(some 105), none, (Op.load 3 (Operand.tmp 104))⟩, ⟨(some 106), none, (Op.move (Operand.tmp 12))⟩, ⟨(some 107), none, (Op.move (Operand.tmp 14))⟩, ⟨(some 108), none, (Op.indexAddr 28 (Operand.tmp 106) (Operand.tmp 107))⟩, ⟨(some 109), none, (Op.load 3 (Operand.tmp 108))⟩, ⟨(some 110), none, (Op.binOp BinOp.eql 3 (Operand.tmp 105) (Operand.tmp 109) 3)⟩] [0, 0, 3, 7, 15, 0, 0, 96, 224, 511]) (.cond (Operand.tmp 110) (.run [⟨(some 111), none, (Op.move (Operand.tmp 18))⟩, ⟨(some 16), none, (Op.assign (Operand.tmp 111))⟩]) (.run [⟨(some 112), none, (Op.move (Operand.tmp 15))⟩, ⟨(some 113), none, (Op.move (Operand.tmp 13))⟩, ⟨(some 114), none, (Op.move (Operand.tmp 18))⟩, ⟨(some 115), none, (Op.indexAddr 22 (Operand.tmp 113) (Operand.tmp 114))⟩, ⟨(some 116), none, (Op.load 27 (Operand.tmp 115))⟩, ⟨(some 117), none, (Op.buildSlice 22 1 #[(0, (Operand.tmp 116))])⟩, ⟨(some 118), none, (Op.call { callee := (Callee.builtin Builtin.append), args := #[(Operand.tmp 112), (Operand.tmp 117)], argTypes := #[22, 22] })⟩, ⟨(some 15), none, (Op.assign (Operand.tmp 118))⟩])))) (.run [⟨(some 99), none, (Op.move (Operand.tmp 18))⟩, ⟨(some 100), none, (Op.binOp BinOp.add 3 (Operand.tmp 99) (Operand.const (Value.int IntKind.i64 1)) 3)⟩, ⟨(some 18), none, (Op.assign (Operand.tmp 100))⟩])))
def c3_8 : CC := (.seq (.seq (.run [⟨(some 121), none, (Op.move (Operand.tmp 19))⟩, ⟨(some 122), none, (Op.move (Operand.tmp 13))⟩, ⟨(some 123), none, (Op.call { callee := (Callee.builtin Builtin.len), args := #[(Operand.tmp 122)], argTypes := #[22] })⟩, ⟨(some 124), none, (Op.binOp BinOp.lss 3 (Operand.tmp 121) (Operand.tmp 123) 3)⟩]) (.cond (Operand.tmp 124) .skip (.exit 8))) (.seq (.block 9 (.draw [⟨(some 127), none, (Op.move (Operand.tmp 17))⟩, ⟨(some 128), none, (Op.move (Operand.tmp 127))⟩, ⟨(some 129), (some (128, true)), (Op.move (Operand.tmp 13))⟩, ⟨(some 130), (some (128, true)), (Op.move (Operand.tmp 19))⟩, ⟨(some 131), (some (128, true)), (Op.indexAddr 22 (Operand.tmp 129) (Operand.tmp 130))⟩, ⟨(some 132), (some (128, true)), (Op.fieldAddr 27 (Operand.tmp 131) 1)⟩, ⟨(some 133), (some (128, true)), (Op.load 3 (Operand.tmp 132))⟩, ⟨(some 134), (some (128, true)), (Op.move (Operand.tmp 13))⟩, ⟨(some 135), (some (128, true)), (Op.move (Operand.tmp 16))⟩, ⟨(some 136), (some (128, true)), (Op.indexAddr 22 (Operand.tmp 134) (Operand.tmp 135))⟩, ⟨(some 137), (some (128, true)), (Op.fieldAddr 27 (Operand.tmp 136) 1)⟩, ⟨(some 138), (some (128, true)), (Op.load 3 (Operand.tmp 137))⟩, ⟨(some 139), (some (128, true)), (Op.binOp BinOp.geq 3 (Operand.tmp 133) (Operand.tmp 138) 3)⟩, ⟨(some 140), none, (Op.pick (Operand.tmp 128) (Operand.tmp 139) (Operand.const (Value.bool false)))⟩, ⟨(some 17), none, (Op.assign (Operand.tmp 140))⟩] [0, 1, 3, 3, 15, 31, 63, 3, 3, 387, 899, 1923, 4095, 8191, 16383])) (.run [⟨(some 125), none, (Op.move (Operand.tmp 19))⟩, ⟨(some 126), none, (Op.binOp BinOp.add 3 (Operand.tmp 125) (Operand.const (Value.int IntKind.i64 1)) 3)⟩, ⟨(some 19), none, (Op.assign (Operand.tmp 126))⟩])))
def c3_4 : CC := (.seq (.seq (.run [⟨(some 89), none, (Op.move (Operand.tmp 14))⟩, ⟨(some 90), none, (Op.move (Operand.tmp 12))⟩, ⟨(some 91), none, (Op.call { callee := (Callee.builtin Builtin.len), args := #[(Operand.tmp 90)], argTypes := #[28] })⟩, ⟨(some 92), none, (Op.binOp BinOp.lss 3 (Operand.tmp 89) (Operand.tmp 91) 3)⟩]) (.cond (Operand.tmp 92) .skip (.exit 4))) (.seq (.block 5 (.seq (.run [⟨(some 15), none, (Op.assign (Operand.const (Value.slice none 0 0)))⟩]) (.seq (.run [⟨(some 16), none, (Op.assign (Operand.const (Value.int IntKind.i64 (-1))))⟩]) (.seq (.run [⟨(some 17), none, (Op.assign (Operand.const (Value.bool true)))⟩]) (.seq (.seq (.run [⟨(some 18), none, (Op.assign (Operand.const (Value.int IntKind.i64 0)))⟩]) (.block 6 (.loop ([(1, none), (2, none), (3, none), (12, some 3), (13, some 27), (14, none), (15, some 27), (16, none), (17, none), (18, none)], []) c3_6))) (.seq (.seq (.run [⟨(some 119), none, (Op.move (Operand.tmp 16))⟩, ⟨(some 120), none, (Op.binOp BinOp.lss 3 (Operand.tmp 119) (Operand.const (Value.int IntKind.i64 0)) 3)⟩]) (.cond (Operand.tmp 120) (.seq (.run [⟨(some 8), none, (Op.assign (Operand.const (Value.bool false)))⟩]) .ret) .skip)) (.seq (.seq (.run [⟨(some 19), none, (Op.assign (Operand.const (Value.int IntKind.i64 0)))⟩]) (.block 8 (.loop ([(1, none), (2, none), (3, none), (12, some 3), (13, some 27), (14, none), (15, some 27), (16, none), (17, none), (19, none)], []) c3_8))) (.seq (.run [⟨(some 141), none, (Op.move (Operand.tmp 1))⟩, ⟨(some 142), none, (Op.move (Operand.tmp 13))⟩, ⟨(some 143), none, (Op.move (Operand.tmp 16))⟩, ⟨(some 144), none, (Op.indexAddr 22 (Operand.tmp 142) (Operand.tmp 143))⟩, ⟨(some 145), none, (Op.fieldAddr 27 (Operand.tmp 144) 1)⟩, ⟨(some 146), none, (Op.load 3 (Operand.tmp 145))⟩, ⟨(some 147), none, (Op.binOp BinOp.sub 3 (Operand.tmp 141) (Operand.tmp 146) 3)⟩, ⟨(some 148), none, (Op.move (Operand.tmp 2))⟩, ⟨(some 149), none, (Op.binOp BinOp.gtr 3 (Operand.tmp 147) (Operand.tmp 148) 3)⟩, ⟨(some 20), none, (Op.assign (Operand.tmp 149))⟩]) (.seq (.seq (.run [⟨(some 150), none, (Op.move (Operand.tmp 20))⟩, ⟨(some 151), none, (Op.unOp UnOp.not 4 (Operand.tmp 150))⟩, ⟨(some 152), none, (Op.move (Operand.tmp 151))⟩, ⟨(some 153), (some (152, true)), (Op.move (Operand.tmp 17))⟩, ⟨(some 154), (some (152, true)), (Op.unOp UnOp.not 4 (Operand.tmp 153))⟩, ⟨(some 155), (some (152, true)), (Op.move (Operand.tmp 154))⟩, ⟨(some 156), (some (155, false)), (Op.move (Operand.tmp 13))⟩, ⟨(some 157), (some (155, false)), (Op.call { callee := (Callee.value (Operand.func 9)), args := #[(Operand.tmp 156)], argTypes := #[22] })⟩, ⟨(some 158), (some (155, false)), (Op.move (Operand.tmp 3))⟩, ⟨(some 159), (some (155, false)), (Op.binOp BinOp.leq 3 (Operand.tmp 157) (Operand.tmp 158) 3)⟩, ⟨(some 160), (some (152, true)), (Op.pick (Operand.tmp 155) (Operand.const (Value.bool true)) (Operand.tmp 159))⟩, ⟨(some 161), (some (152, true)), (Op.move (Operand.tmp 160))⟩, ⟨(some 162), (some (161, false)), (Op.move (Operand.tmp 13))⟩, ⟨(some 163), (some (161, false)), (Op.call { callee := (Callee.builtin Builtin.len), args := #[(Operand.tmp 162)], argTypes := #[22] })⟩, ⟨(some 164), (some (161, false)), (Op.binOp BinOp.lss 3 (Operand.tmp 163) (Operand.const (Value.int IntKind.i64 2)) 3)⟩, ⟨(some 165), (some (152, true)), (Op.pick (Operand.tmp 161) (Operand.const (Value.bool true)) (Operand.tmp 164))⟩, ⟨(some 166), none, (Op.pick (Operand.tmp 152) (Operand.tmp 165) (Operand.const (Value.bool false)))⟩]) (.cond (Operand.tmp 166) (.seq (.run [⟨(some 8), none, (Op.assign (Operand.const (Value.bool false)))⟩]) .ret) .skip)) (.run [⟨(some 167), none, (Op.move (Operand.tmp 15))⟩, ⟨(some 13), none, (Op.assign (Operand.tmp 167))⟩])))))))))) (.run [⟨(some 93), none, (Op.move (Operand.tmp 14))⟩, ⟨(some 94), none, (Op.binOp BinOp.add 3 (Operand.tmp 93) (Operand.const (Value.int IntKind.i64 1)) 3)⟩, ⟨(some 14), none, (Op.assign (Operand.tmp 94))⟩])))
def c3_10 : CC := (.seq (.seq (.run [⟨(some 168), none, (Op.move (Operand.tmp 21))⟩, ⟨(some 169), none, (Op.move (Operand.tmp 13))⟩, ⟨(some 170), none, (Op.call { callee := (Callee.builtin Builtin.len), args := #[(Operand.tmp 169)], argTypes := #[22] })⟩, ⟨(some 171), none, (Op.binOp BinOp.lss 3 (Operand.tmp 168) (Operand.tmp 170) 3)⟩]) (.cond (Operand.tmp 171) .skip (.exit 10))) (.seq (.block 11 (.seq (.run [⟨(some 174), none, (Op.move (Operand.tmp 1))⟩, ⟨(some 175), none, (Op.move (Operand.tmp 13))⟩, ⟨(some 176), none, (Op.move (Operand.tmp 21))⟩, ⟨(some 177), none, (Op.indexAddr 22 (Operand.tmp 175) (Operand.tmp 176))⟩, ⟨(some 178), none, (Op.fieldAddr 27 (Operand.tmp 177) 1)⟩, ⟨(some 179), none, (Op.load 3 (Operand.tmp 178))⟩, ⟨(some 180), none, (Op.binOp BinOp.sub 3 (Operand.tmp 174) (Operand.tmp 179) 3)⟩, ⟨(some 181), none, (Op.move (Operand.tmp 2))⟩, ⟨(some 182), none, (Op.binOp BinOp.gtr 3 (Operand.tmp 180) (Operand.tmp 181) 3)⟩]) (.cond (Operand.tmp 182) (.seq (.run [⟨(some 8), none, (Op.assign (Operand.const (Value.bool false)))⟩]) .ret) .skip))) (.run [⟨(some 172), none, (Op.move (Operand.tmp 21))⟩, ⟨(some 173), none, (Op.binOp BinOp.add 3 (Operand.tmp 172) (Operand.const (Value.int IntKind.i64 1)) 3)⟩, ⟨(some 21), none, (Op.assign (Operand.tmp 173))⟩])))
def c3 : CC := (.seq (.run [⟨(some 8), none, (Op.assign (Operand.const (Value.bool false)))⟩]) (.seq (.run [⟨(some 22), none, (Op.call { callee := (Callee.value (Operand.func 6)), args := #[], argTypes := #[] })⟩, ⟨(some 9), none, (Op.assign (Operand.tmp 22))⟩]) (.seq (.seq (.run [⟨(some 23), none, (Op.move (Operand.tmp 9))⟩, ⟨(some 24), none, (Op.unOp UnOp.not 4 (Operand.tmp 23))⟩, ⟨(some 25), none, (Op.move (Operand.tmp 24))⟩, ⟨(some 26), (some (25, false)), (Op.move (Operand.tmp 0))⟩, ⟨(some 27), (some (25, false)), (Op.call { callee := (Callee.value (Operand.func 7)), args := #[(Operand.tmp 26)], argTypes := #[22] })⟩, ⟨(some 28), (some (25, false)), (Op.unOp UnOp.not 4 (Operand.tmp 27))⟩, ⟨(some 29), none, (Op.pick (Operand.tmp 25) (Operand.const (Value.bool true)) (Operand.tmp 28))⟩, ⟨(some 30), none, (Op.move (Operand.tmp 29))⟩, ⟨(some 31), (some (30, false)), (Op.move (Operand.tmp 1))⟩, ⟨(some 32), (some (30, false)), (Op.binOp BinOp.lss 3 (Operand.tmp 31) (Operand.const (Value.int IntKind.i64 0)) 3)⟩, ⟨(some 33), none, (Op.pick (Operand.tmp 30) (Operand.const (Value.bool true)) (Operand.tmp 32))⟩, ⟨(some 34), none, (Op.move (Operand.tmp 33))⟩, ⟨(some 35), (some (34, false)), (Op.move (Operand.tmp 1))⟩, ⟨(some 36), (some (34, false)), (Op.binOp BinOp.gtr 3 (Operand.tmp 35) (Operand.const (Value.int IntKind.i64 1099511627776)) 3)⟩, ⟨(some 37), none, (Op.pick (Operand.tmp 34) (Operand.const (Value.bool true)) (Operand.tmp 36))⟩, ⟨(some 38), none, (Op.move (Operand.tmp 37))⟩, ⟨(some 39), (some (38, false)), (Op.move (Operand.tmp 2))⟩, ⟨(some 40), (some (38, false)), (Op.binOp BinOp.lss 3 (Operand.tmp 39) (Operand.const (Value.int IntKind.i64 0)) 3)⟩, ⟨(some 41), none, (Op.pick (Operand.tmp 38) (Operand.const (Value.bool true)) (Operand.tmp 40))⟩, ⟨(some 42), none, (Op.move (Operand.tmp 41))⟩, ⟨(some 43), (some (42, false)), (Op.move (Operand.tmp 2))⟩, ⟨(some 44), (some (42, false)), (Op.binOp BinOp.gtr 3 (Operand.tmp 43) (Operand.const (Value.int IntKind.i64 1073741824)) 3)⟩, ⟨(some 45), none, (Op.pick (Operand.tmp 42) (Operand.const (Value.bool true)) (Operand.tmp 44))⟩]) (.cond (Operand.tmp 45) (.seq (.run [⟨(some 46), none, (Op.move (Operand.tmp 9))⟩, ⟨(some 8), none, (Op.assign (Operand.tmp 46))⟩]) .ret) .skip)) (.seq (.seq (.run [⟨(some 10), none, (Op.assign (Operand.const (Value.int IntKind.i64 0)))⟩]) (.block 0 (.loop ([(0, none), (1, none), (2, none), (3, none), (10, none)], []) c3_0))) (.seq (.run [⟨(some 83), none, (Op.move (Operand.tmp 0))⟩, ⟨(some 84), none, (Op.move (Operand.tmp 1))⟩, ⟨(some 85), none, (Op.move (Operand.tmp 2))⟩, ⟨(some 86), none, (Op.move (Operand.tmp 3))⟩, ⟨(some 87), none, (Op.call { callee := (Callee.value (Operand.func 8)), args := #[(Operand.tmp 83), (Operand.tmp 84), (Operand.tmp 85), (Operand.tmp 86)], argTypes := #[22, 3, 3, 3] })⟩, ⟨(some 12), none, (Op.assign (Operand.tmp 87))⟩]) (.seq (.run [⟨(some 88), none, (Op.move (Operand.tmp 0))⟩, ⟨(some 13), none, (Op.assign (Operand.tmp 88))⟩]) (.seq (.seq (.run [⟨(some 14), none, (Op.assign (Operand.const (Value.int IntKind.i64 0)))⟩]) (.block 4 (.loop ([(1, none), (2, none), (3, none), (12, some 3), (13, some 27), (14, none)], []) c3_4))) (.seq (.seq (.run [⟨(some 21), none, (Op.assign (Operand.const (Value.int IntKind.i64 0)))⟩]) (.block 10 (.loop ([(1, none), (2, none), (3, none), (13, some 27), (21, none)], []) c3_10))) (.seq (.run [⟨(some 183), none, (Op.move (Operand.tmp 13))⟩, ⟨(some 184), none, (Op.call { callee := (Callee.builtin Builtin.len), args := #[(Operand.tmp 183)], argTypes := #[22] })⟩, ⟨(some 185), none, (Op.binOp BinOp.lss 3 (Operand.tmp 184) (Operand.const (Value.int IntKind.i64 2)) 3)⟩, ⟨(some 186), none, (Op.move (Operand.tmp 185))⟩, ⟨(some 187), (some (186, false)), (Op.move (Operand.tmp 13))⟩, ⟨(some 188), (some (186, false)), (Op.call { callee := (Callee.value (Operand.func 9)), args := #[(Operand.tmp 187)], argTypes := #[22] })⟩, ⟨(some 189), (some (186, false)), (Op.move (Operand.tmp 3))⟩, ⟨(some 190), (some (186, false)), (Op.binOp BinOp.leq 3 (Operand.tmp 188) (Operand.tmp 189) 3)⟩, ⟨(some 191), none, (Op.pick (Operand.tmp 186) (Operand.const (Value.bool true)) (Operand.tmp 190))⟩, ⟨(some 8), none, (Op.assign (Operand.tmp 191))⟩]) .ret)))))))))
def k3 : Nat → List (Nat × Option Nat) × List Nat := fun | 0 => ([(0, none), (1, none), (2, none), (3, none), (10, none)], []) | 2 => ([(0, none), (1, none), (2, none), (3, none), (10, none), (11, none)], []) | 4 => ([(1, none), (2, none), (3, none), (12, some 3), (13, some 27), (14, none)], []) | 6 => ([(1, none), (2, none), (3, none), (12, some 3), (13, some 27), (14, none), (15, some 27), (16, none), (17, none), (18, none)], []) | 8 => ([(1, none), (2, none), (3, none), (12, some 3), (13, some 27), (14, none), (15, some 27), (16, none), (17, none), (19, none)], []) | 10 => ([(1, none), (2, none), (3, none), (13, some 27), (21, none)], []) | _ => ([], [])
/- gleaninglaw20.RetireNone -/
def c4_0 : CC := (.seq (.seq (.run [⟨(some 24), none, (Op.move (Operand.tmp 6))⟩, ⟨(some 25), none, (Op.move (Operand.tmp 0))⟩, ⟨(some 26), none, (Op.call { callee := (Callee.builtin Builtin.len), args := #[(Operand.tmp 25)], argTypes := #[22] })⟩, ⟨(some 27), none, (Op.binOp BinOp.lss 3 (Operand.tmp 24) (Operand.tmp 26) 3)⟩]) (.cond (Operand.tmp 27) .skip (.exit 0))) (.seq (.block 1 (.seq (.run [⟨(some 30), none, (Op.move (Operand.tmp 0))⟩, ⟨(some 31), none, (Op.move (Operand.tmp 6))⟩, ⟨(some 32), none, (Op.indexAddr 22 (Operand.tmp 30) (Operand.tmp 31))⟩, ⟨(some 33), none, (Op.load 27 (Operand.tmp 32))⟩, ⟨(some 34), none, (Op.call { callee := (Callee.value (Operand.func 10)), args := #[(Operand.tmp 33)], argTypes := #[27] })⟩, ⟨(some 35), none, (Op.unOp UnOp.not 4 (Operand.tmp 34))⟩, ⟨(some 36), none, (Op.move (Operand.tmp 35))⟩, ⟨(some 37), (some (36, false)), (Op.move (Operand.tmp 0))⟩, ⟨(some 38), (some (36, false)), (Op.move (Operand.tmp 6))⟩, ⟨(some 39), (some (36, false)), (Op.indexAddr 22 (Operand.tmp 37) (Operand.tmp 38))⟩, ⟨(some 40), (some (36, false)), (Op.fieldAddr 27 (Operand.tmp 39) 1)⟩, ⟨(some 41), (some (36, false)), (Op.load 3 (Operand.tmp 40))⟩, ⟨(some 42), (some (36, false)), (Op.move (Operand.tmp 1))⟩, ⟨(some 43), (some (36, false)), (Op.binOp BinOp.gtr 3 (Operand.tmp 41) (Operand.tmp 42) 3)⟩, ⟨(some 44), none, (Op.pick (Operand.tmp 36) (Operand.const (Value.bool true)) (Operand.tmp 43))⟩, ⟨(some 45), none, (Op.move (Operand.tmp 44))⟩, ⟨(some 46), (some (45, false)), (Op.move (Operand.tmp 1))⟩, ⟨(some 47), (some (45, false)), (Op.binOp BinOp.gtr 3 (Operand.tmp 46) (Operand.const (Value.int IntKind.i64 1099511627776)) 3)⟩, ⟨(some 48), none, (Op.pick (Operand.tmp 45) (Operand.const (Value.bool true)) (Operand.tmp 47))⟩]) (.cond (Operand.tmp 48) (.seq (.run [⟨(some 4), none, (Op.assign (Operand.const (Value.bool true)))⟩]) .ret) .skip))) (.run [⟨(some 28), none, (Op.move (Operand.tmp 6))⟩, ⟨(some 29), none, (Op.binOp BinOp.add 3 (Operand.tmp 28) (Operand.const (Value.int IntKind.i64 1)) 3)⟩, ⟨(some 6), none, (Op.assign (Operand.tmp 29))⟩])))
def c4 : CC := (.seq (.run [⟨(some 4), none, (Op.assign (Operand.const (Value.bool false)))⟩]) (.seq (.run [⟨(some 10), none, (Op.call { callee := (Callee.value (Operand.func 6)), args := #[], argTypes := #[] })⟩, ⟨(some 5), none, (Op.assign (Operand.tmp 10))⟩]) (.seq (.seq (.run [⟨(some 11), none, (Op.move (Operand.tmp 5))⟩, ⟨(some 12), none, (Op.unOp UnOp.not 4 (Operand.tmp 11))⟩, ⟨(some 13), none, (Op.move (Operand.tmp 12))⟩, ⟨(some 14), (some (13, false)), (Op.move (Operand.tmp 0))⟩, ⟨(some 15), (some (13, false)), (Op.call { callee := (Callee.value (Operand.func 7)), args := #[(Operand.tmp 14)], argTypes := #[22] })⟩, ⟨(some 16), (some (13, false)), (Op.unOp UnOp.not 4 (Operand.tmp 15))⟩, ⟨(some 17), none, (Op.pick (Operand.tmp 13) (Operand.const (Value.bool true)) (Operand.tmp 16))⟩, ⟨(some 18), none, (Op.move (Operand.tmp 17))⟩, ⟨(some 19), (some (18, false)), (Op.move (Operand.tmp 0))⟩, ⟨(some 20), (some (18, false)), (Op.call { callee := (Callee.builtin Builtin.len), args := #[(Operand.tmp 19)], argTypes := #[22] })⟩, ⟨(some 21), (some (18, false)), (Op.binOp BinOp.lss 3 (Operand.tmp 20) (Operand.const (Value.int IntKind.i64 1)) 3)⟩, ⟨(some 22), none, (Op.pick (Operand.tmp 18) (Operand.const (Value.bool true)) (Operand.tmp 21))⟩]) (.cond (Operand.tmp 22) (.seq (.run [⟨(some 23), none, (Op.move (Operand.tmp 5))⟩, ⟨(some 4), none, (Op.assign (Operand.tmp 23))⟩]) .ret) .skip)) (.seq (.seq (.run [⟨(some 6), none, (Op.assign (Operand.const (Value.int IntKind.i64 0)))⟩]) (.block 0 (.loop ([(0, none), (1, none), (6, none)], []) c4_0))) (.seq (.run [⟨(some 49), none, (Op.move (Operand.tmp 0))⟩, ⟨(some 50), none, (Op.move (Operand.tmp 1))⟩, ⟨(some 51), none, (Op.move (Operand.tmp 0))⟩, ⟨(some 52), none, (Op.call { callee := (Callee.value (Operand.func 9)), args := #[(Operand.tmp 51)], argTypes := #[22] })⟩, ⟨(some 53), none, (Op.call { callee := (Callee.value (Operand.func 8)), args := #[(Operand.tmp 49), (Operand.tmp 50), (Operand.const (Value.int IntKind.i64 1099511627776)), (Operand.tmp 52)], argTypes := #[22, 3, 3, 3] })⟩, ⟨(some 7), none, (Op.assign (Operand.tmp 53))⟩]) (.seq (.run [⟨(some 54), none, (Op.move (Operand.tmp 0))⟩, ⟨(some 55), none, (Op.move (Operand.tmp 1))⟩, ⟨(some 56), none, (Op.call { callee := (Callee.value (Operand.func 8)), args := #[(Operand.tmp 54), (Operand.tmp 55), (Operand.const (Value.int IntKind.i64 1099511627776)), (Operand.const (Value.int IntKind.i64 0))], argTypes := #[22, 3, 3, 3] })⟩, ⟨(some 8), none, (Op.assign (Operand.tmp 56))⟩]) (.seq (.run [⟨(some 57), none, (Op.move (Operand.tmp 0))⟩, ⟨(some 58), none, (Op.move (Operand.tmp 1))⟩, ⟨(some 59), none, (Op.call { callee := (Callee.value (Operand.func 8)), args := #[(Operand.tmp 57), (Operand.tmp 58), (Operand.const (Value.int IntKind.i64 (-1))), (Operand.const (Value.int IntKind.i64 1099511627776))], argTypes := #[22, 3, 3, 3] })⟩, ⟨(some 9), none, (Op.assign (Operand.tmp 59))⟩]) (.seq (.run [⟨(some 60), none, (Op.move (Operand.tmp 7))⟩, ⟨(some 61), none, (Op.call { callee := (Callee.builtin Builtin.len), args := #[(Operand.tmp 60)], argTypes := #[28] })⟩, ⟨(some 62), none, (Op.binOp BinOp.eql 3 (Operand.tmp 61) (Operand.const (Value.int IntKind.i64 0)) 3)⟩, ⟨(some 63), none, (Op.move (Operand.tmp 62))⟩, ⟨(some 64), (some (63, true)), (Op.move (Operand.tmp 8))⟩, ⟨(some 65), (some (63, true)), (Op.call { callee := (Callee.builtin Builtin.len), args := #[(Operand.tmp 64)], argTypes := #[28] })⟩, ⟨(some 66), (some (63, true)), (Op.move (Operand.tmp 0))⟩, ⟨(some 67), (some (63, true)), (Op.call { callee := (Callee.builtin Builtin.len), args := #[(Operand.tmp 66)], argTypes := #[22] })⟩, ⟨(some 68), (some (63, true)), (Op.binOp BinOp.sub 3 (Operand.tmp 67) (Operand.const (Value.int IntKind.i64 1)) 3)⟩, ⟨(some 69), (some (63, true)), (Op.binOp BinOp.eql 3 (Operand.tmp 65) (Operand.tmp 68) 3)⟩, ⟨(some 70), none, (Op.pick (Operand.tmp 63) (Operand.tmp 69) (Operand.const (Value.bool false)))⟩, ⟨(some 71), none, (Op.move (Operand.tmp 70))⟩, ⟨(some 72), (some (71, true)), (Op.move (Operand.tmp 9))⟩, ⟨(some 73), (some (71, true)), (Op.call { callee := (Callee.builtin Builtin.len), args := #[(Operand.tmp 72)], argTypes := #[28] })⟩, ⟨(some 74), (some (71, true)), (Op.move (Operand.tmp 0))⟩, ⟨(some 75), (some (71, true)), (Op.call { callee := (Callee.builtin Builtin.len), args := #[(Operand.tmp 74)], argTypes := #[22] })⟩, ⟨(some 76), (some (71, true)), (Op.binOp BinOp.eql 3 (Operand.tmp 73) (Operand.tmp 75) 3)⟩, ⟨(some 77), none, (Op.pick (Operand.tmp 71) (Operand.tmp 76) (Operand.const (Value.bool false)))⟩, ⟨(some 4), none, (Op.assign (Operand.tmp 77))⟩]) .ret))))))))
def k4 : Nat → List (Nat × Option Nat) × List Nat := fun | 0 => ([(0, none), (1, none), (6, none)], []) | _ => ([], [])
/- gleaninglaw20.RetireMore -/
def c5_2 : CC := (.seq (.seq (.run [⟨(some 108), none, (Op.move (Operand.tmp 15))⟩, ⟨(some 109), none, (Op.move (Operand.tmp 14))⟩, ⟨(some 110), none, (Op.binOp BinOp.lss 3 (Operand.tmp 108) (Operand.tmp 109) 3)⟩]) (.cond (Operand.tmp 110) .skip (.exit 2))) (.seq (.block 3 (.seq (.draw [⟨(some 113), none, (Op.move (Operand.tmp 0))⟩, ⟨(some 114), none, (Op.move (Operand.tmp 15))⟩, ⟨(some 115), none, (Op.indexAddr 22 (Operand.tmp 113) (Operand.tmp 114))⟩, ⟨(some 116), none, (Op.fieldAddr 27 (Operand.tmp 115) 0)⟩, ⟨(some 117), none, (Op.load 3 (Operand.tmp 116))⟩, ⟨(some 118), none, (Op.move (Operand.tmp 0))⟩, ⟨(some 119), none, (Op.move (Operand.tmp 14))⟩, ⟨(some 120), none, (Op.indexAddr 22 (Operand.tmp 118) (Operand.tmp 119))⟩, ⟨(some 121), none, (Op.fieldAddr 27 (Operand.tmp 120) 0)⟩, ⟨(some 122), none, (Op.load 3 (Operand.tmp 121))⟩, ⟨(some 123), none, (Op.binOp BinOp.eql 3 (Operand.tmp 117) (Operand.tmp 122) 3)⟩] [0, 0, 3, 7, 15, 0, 0, 96, 224, 480, 1023]) (.cond (Operand.tmp 123) (.seq (.run [⟨(some 12), none, (Op.assign (Operand.const (Value.bool true)))⟩]) .ret) .skip))) (.run [⟨(some 111), none, (Op.move (Operand.tmp 15))⟩, ⟨(some 112), none, (Op.binOp BinOp.add 3 (Operand.tmp 111) (Operand.const (Value.int IntKind.i64 1)) 3)⟩, ⟨(some 15), none, (Op.assign (Operand.tmp 112))⟩])))
def c5_0 : CC := (.seq (.seq (.run [⟨(some 70), none, (Op.move (Operand.tmp 14))⟩, ⟨(some 71), none, (Op.move (Operand.tmp 0))⟩, ⟨(some 72), none, (Op.call { callee := (Callee.builtin Builtin.len), args := #[(Operand.tmp 71)], argTypes := #[22] })⟩, ⟨(some 73), none, (Op.binOp BinOp.lss 3 (Operand.tmp 70) (Operand.tmp 72) 3)⟩]) (.cond (Operand.tmp 73) .skip (.exit 0))) (.seq (.block 1 (.seq (.seq (.draw [⟨(some 76), none, (Op.move (Operand.tmp 0))⟩, ⟨(some 77), none, (Op.move (Operand.tmp 14))⟩, ⟨(some 78), none, (Op.indexAddr 22 (Operand.tmp 76) (Operand.tmp 77))⟩, ⟨(some 79), none, (Op.fieldAddr 27 (Operand.tmp 78) 1)⟩, ⟨(some 80), none, (Op.load 3 (Operand.tmp 79))⟩, ⟨(some 81), none, (Op.binOp BinOp.lss 3 (Operand.tmp 80) (Operand.const (Value.int IntKind.i64 0)) 3)⟩, ⟨(some 82), none, (Op.move (Operand.tmp 81))⟩, ⟨(some 83), (some (82, false)), (Op.move (Operand.tmp 0))⟩, ⟨(some 84), (some (82, false)), (Op.move (Operand.tmp 14))⟩, ⟨(some 85), (some (82, false)), (Op.indexAddr 22 (Operand.tmp 83) (Operand.tmp 84))⟩, ⟨(some 86), (some (82, false)), (Op.fieldAddr 27 (Operand.tmp 85) 1)⟩, ⟨(some 87), (some (82, false)), (Op.load 3 (Operand.tmp 86))⟩, ⟨(some 88), (some (82, false)), (Op.binOp BinOp.gtr 3 (Operand.tmp 87) (Operand.const (Value.int IntKind.i64 1099511627776)) 3)⟩, ⟨(some 89), none, (Op.pick (Operand.tmp 82) (Operand.const (Value.bool true)) (Operand.tmp 88))⟩, ⟨(some 90), none, (Op.move (Operand.tmp 89))⟩, ⟨(some 91), (some (90, false)), (Op.move (Operand.tmp 14))⟩, ⟨(some 92), (some (90, false)), (Op.binOp BinOp.gtr 3 (Operand.tmp 91) (Operand.const (Value.int IntKind.i64 0)) 3)⟩, ⟨(some 93), (some (90, false)), (Op.move (Operand.tmp 92))⟩, ⟨(some 94), (some (93, true)), (Op.move (Operand.tmp 0))⟩, ⟨(some 95), (some (93, true)), (Op.move (Operand.tmp 14))⟩, ⟨(some 96), (some (93, true)), (Op.indexAddr 22 (Operand.tmp 94) (Operand.tmp 95))⟩, ⟨(some 97), (some (93, true)), (Op.fieldAddr 27 (Operand.tmp 96) 1)⟩, ⟨(some 98), (some (93, true)), (Op.load 3 (Operand.tmp 97))⟩, ⟨(some 99), (some (93, true)), (Op.move (Operand.tmp 0))⟩, ⟨(some 100), (some (93, true)), (Op.move (Operand.tmp 14))⟩, ⟨(some 101), (some (93, true)), (Op.binOp BinOp.sub 3 (Operand.tmp 100) (Operand.const (Value.int IntKind.i64 1)) 3)⟩, ⟨(some 102), (some (93, true)), (Op.indexAddr 22 (Operand.tmp 99) (Operand.tmp 101))⟩, ⟨(some 103), (some (93, true)), (Op.fieldAddr 27 (Operand.tmp 102) 1)⟩, ⟨(some 104), (some (93, true)), (Op.load 3 (Operand.tmp 103))⟩, ⟨(some 105), (some (93, true)), (Op.binOp BinOp.lss 3 (Operand.tmp 98) (Operand.tmp 104) 3)⟩, ⟨(some 106), (some (90, false)), (Op.pick (Operand.tmp 93) (Operand.tmp 105) (Operand.const (Value.bool false)))⟩, ⟨(some 107), none, (Op.pick (Operand.tmp 90) (Operand.const (Value.bool true)) (Operand.tmp 106))⟩] [0, 0, 3, 7, 15, 31, 63, 127, 127, 511, 1023, 2047, 4095, 8191, 16383, 32767, 65535, 131071, 262143, 262143, 1048575, 2097151, 4194303, 262143, 262143, 17039359, 58982399, 126091263, 260308991, 536870911, 1073741823, 2147483647]) (.cond (Operand.tmp 107) (.seq (.run [⟨(some 12), none, (Op.assign (Operand.const (Value.bool true)))⟩]) .ret) .skip)) (.seq (.run [⟨(some 15), none, (Op.assign (Operand.const (Value.int IntKind.i64 0)))⟩]) (.block 2 (.loop ([(0, none), (1, none), (2, none), (3, none), (4, none), (5, none), (14, none), (15, none)], []) c5_2))))) (.run [⟨(some 74), none, (Op.move (Operand.tmp 14))⟩, ⟨(some 75), none, (Op.binOp BinOp.add 3 (Operand.tmp 74) (Operand.const (Value.int IntKind.i64 1)) 3)⟩, ⟨(some 14), none, (Op.assign (Operand.tmp 75))⟩])))
def c5_6 : CC := (.seq (.seq (.run [⟨(some 144), none, (Op.move (Operand.tmp 20))⟩, ⟨(some 145), none, (Op.move (Operand.tmp 16))⟩, ⟨(some 146), none, (Op.call { callee := (Callee.builtin Builtin.len), args := #[(Operand.tmp 145)], argTypes := #[28] })⟩, ⟨(some 147), none, (Op.binOp BinOp.lss 3 (Operand.tmp 144) (Operand.tmp 146) 3)⟩]) (.cond (Operand.tmp 147) .skip (.exit 6))) (.seq (.block 7 (.draw [⟨(some 150), none, (Op.move (Operand.tmp 19))⟩, ⟨(some 151), none, (Op.move (Operand.tmp 150))⟩, ⟨(some 152), (some (151, false)), (Op.move (Operand.tmp 16))⟩, ⟨(some 153), (some (151, false)), (Op.move (Operand.tmp 20))⟩, ⟨(some 154), (some (151, false)), (Op.indexAddr 28 (Operand.tmp 152) (Operand.tmp 153))⟩, ⟨(some 155), (some (151, false)), (Op.load 3 (Operand.tmp 154))⟩, ⟨(some 156), (some (151, false)), (Op.move (Operand.tmp 17))⟩, ⟨(some 157), (some (151, false)), (Op.move (Operand.tmp 18))⟩, ⟨(some 158), (some (151, false)), (Op.indexAddr 28 (Operand.tmp 156) (Operand.tmp 157))⟩, ⟨(some 159), (some (151, false)), (Op.load 3 (Operand.tmp 158))⟩, ⟨(some 160), (some (151, false)), (Op.binOp BinOp.eql 3 (Operand.tmp 155) (Operand.tmp 159) 3)⟩, ⟨(some 161), none, (Op.pick (Operand.tmp 151) (Operand.const (Value.bool true)) (Operand.tmp 160))⟩, ⟨(some 19), none, (Op.assign (Operand.tmp 161))⟩] [0, 1, 3, 3, 15, 31, 3, 3, 195, 451, 1023, 2047, 4095])) (.run [⟨(some 148), none, (Op.move (Operand.tmp 20))⟩, ⟨(some 149), none, (Op.binOp BinOp.add 3 (Operand.tmp 148) (Operand.const (Value.int IntKind.i64 1)) 3)⟩, ⟨(some 20), none, (Op.assign (Operand.tmp 149))⟩])))
def c5_4 : CC := (.seq (.seq (.run [⟨(some 138), none, (Op.move (Operand.tmp 18))⟩, ⟨(some 139), none, (Op.move (Operand.tmp 17))⟩, ⟨(some 140), none, (Op.call { callee := (Callee.builtin Builtin.len), args := #[(Operand.tmp 139)], argTypes := #[28] })⟩, ⟨(some 141), none, (Op.binOp BinOp.lss 3 (Operand.tmp 138) (Operand.tmp 140) 3)⟩]) (.cond (Operand.tmp 141) .skip (.exit 4))) (.seq (.block 5 (.seq (.run [⟨(some 19), none, (Op.assign (Operand.const (Value.bool false)))⟩]) (.seq (.seq (.run [⟨(some 20), none, (Op.assign (Operand.const (Value.int IntKind.i64 0)))⟩]) (.block 6 (.loop ([(16, some 3), (17, some 3), (18, none), (19, none), (20, none)], []) c5_6))) (.seq (.run [⟨(some 162), none, (Op.move (Operand.tmp 19))⟩, ⟨(some 163), none, (Op.unOp UnOp.not 4 (Operand.tmp 162))⟩]) (.cond (Operand.tmp 163) (.seq (.run [⟨(some 12), none, (Op.assign (Operand.const (Value.bool false)))⟩]) .ret) .skip))))) (.run [⟨(some 142), none, (Op.move (Operand.tmp 18))⟩, ⟨(some 143), none, (Op.binOp BinOp.add 3 (Operand.tmp 142) (Operand.const (Value.int IntKind.i64 1)) 3)⟩, ⟨(some 18), none, (Op.assign (Operand.tmp 143))⟩])))
def c5 : CC := (.seq (.run [⟨(some 12), none, (Op.assign (Operand.const (Value.bool false)))⟩]) (.seq (.run [⟨(some 21), none, (Op.call { callee := (Callee.value (Operand.func 6)), args := #[], argTypes := #[] })⟩, ⟨(some 13), none, (Op.assign (Operand.tmp 21))⟩]) (.seq (.seq (.run [⟨(some 22), none, (Op.move (Operand.tmp 13))⟩, ⟨(some 23), none, (Op.unOp UnOp.not 4 (Operand.tmp 22))⟩, ⟨(some 24), none, (Op.move (Operand.tmp 23))⟩, ⟨(some 25), (some (24, false)), (Op.move (Operand.tmp 0))⟩, ⟨(some 26), (some (24, false)), (Op.call { callee := (Callee.value (Operand.func 7)), args := #[(Operand.tmp 25)], argTypes := #[22] })⟩, ⟨(some 27), (some (24, false)), (Op.unOp UnOp.not 4 (Operand.tmp 26))⟩, ⟨(some 28), none, (Op.pick (Operand.tmp 24) (Operand.const (Value.bool true)) (Operand.tmp 27))⟩, ⟨(some 29), none, (Op.move (Operand.tmp 28))⟩, ⟨(some 30), (some (29, false)), (Op.move (Operand.tmp 1))⟩, ⟨(some 31), (some (29, false)), (Op.binOp BinOp.lss 3 (Operand.tmp 30) (Operand.const (Value.int IntKind.i64 0)) 3)⟩, ⟨(some 32), none, (Op.pick (Operand.tmp 29) (Operand.const (Value.bool true)) (Operand.tmp 31))⟩, ⟨(some 33), none, (Op.move (Operand.tmp 32))⟩, ⟨(some 34), (some (33, false)), (Op.move (Operand.tmp 1))⟩, ⟨(some 35), (some (33, false)), (Op.binOp BinOp.gtr 3 (Operand.tmp 34) (Operand.const (Value.int IntKind.i64 1099511627776)) 3)⟩, ⟨(some 36), none, (Op.pick (Operand.tmp 33) (Operand.const (Value.bool true)) (Operand.tmp 35))⟩, ⟨(some 37), none, (Op.move (Operand.tmp 36))⟩, ⟨(some 38), (some (37, false)), (Op.move (Operand.tmp 2))⟩, ⟨(some 39), (some (37, false)), (Op.binOp BinOp.lss 3 (Operand.tmp 38) (Operand.const (Value.int IntKind.i64 0)) 3)⟩, ⟨(some 40), none, (Op.pick (Operand.tmp 37) (Operand.const (Value.bool true)) (Operand.tmp 39))⟩, ⟨(some 41), none, (Op.move (Operand.tmp 40))⟩, ⟨(some 42), (some (41, false)), (Op.move (Operand.tmp 2))⟩, ⟨(some 43), (some (41, false)), (Op.binOp BinOp.gtr 3 (Operand.tmp 42) (Operand.const (Value.int IntKind.i64 1073741824)) 3)⟩, ⟨(some 44), none, (Op.pick (Operand.tmp 41) (Operand.const (Value.bool true)) (Operand.tmp 43))⟩, ⟨(some 45), none, (Op.move (Operand.tmp 44))⟩, ⟨(some 46), (some (45, false)), (Op.move (Operand.tmp 3))⟩, ⟨(some 47), (some (45, false)), (Op.binOp BinOp.lss 3 (Operand.tmp 46) (Operand.const (Value.int IntKind.i64 0)) 3)⟩, ⟨(some 48), none, (Op.pick (Operand.tmp 45) (Operand.const (Value.bool true)) (Operand.tmp 47))⟩, ⟨(some 49), none, (Op.move (Operand.tmp 48))⟩, ⟨(some 50), (some (49, false)), (Op.move (Operand.tmp 3))⟩, ⟨(some 51), (some (49, false)), (Op.binOp BinOp.gtr 3 (Operand.tmp 50) (Operand.const (Value.int IntKind.i64 1073741824)) 3)⟩, ⟨(some 52), none, (Op.pick (Operand.tmp 49) (Operand.const (Value.bool true)) (Operand.tmp 51))⟩, ⟨(some 53), none, (Op.move (Operand.tmp 52))⟩, ⟨(some 54), (some (53, false)), (Op.move (Operand.tmp 4))⟩, ⟨(some 55), (some (53, false)), (Op.binOp BinOp.lss 3 (Operand.tmp 54) (Operand.const (Value.int IntKind.i64 0)) 3)⟩, ⟨(some 56), none, (Op.pick (Operand.tmp 53) (Operand.const (Value.bool true)) (Operand.tmp 55))⟩, ⟨(some 57), none, (Op.move (Operand.tmp 56))⟩, ⟨(some 58), (some (57, false)), (Op.move (Operand.tmp 4))⟩, ⟨(some 59), (some (57, false)), (Op.binOp BinOp.gtr 3 (Operand.tmp 58) (Operand.const (Value.int IntKind.i64 1073741824)) 3)⟩, ⟨(some 60), none, (Op.pick (Operand.tmp 57) (Operand.const (Value.bool true)) (Operand.tmp 59))⟩, ⟨(some 61), none, (Op.move (Operand.tmp 60))⟩, ⟨(some 62), (some (61, false)), (Op.move (Operand.tmp 5))⟩, ⟨(some 63), (some (61, false)), (Op.binOp BinOp.lss 3 (Operand.tmp 62) (Operand.const (Value.int IntKind.i64 0)) 3)⟩, ⟨(some 64), none, (Op.pick (Operand.tmp 61) (Operand.const (Value.bool true)) (Operand.tmp 63))⟩, ⟨(some 65), none, (Op.move (Operand.tmp 64))⟩, ⟨(some 66), (some (65, false)), (Op.move (Operand.tmp 5))⟩, ⟨(some 67), (some (65, false)), (Op.binOp BinOp.gtr 3 (Operand.tmp 66) (Operand.const (Value.int IntKind.i64 1073741824)) 3)⟩, ⟨(some 68), none, (Op.pick (Operand.tmp 65) (Operand.const (Value.bool true)) (Operand.tmp 67))⟩]) (.cond (Operand.tmp 68) (.seq (.run [⟨(some 69), none, (Op.move (Operand.tmp 13))⟩, ⟨(some 12), none, (Op.assign (Operand.tmp 69))⟩]) .ret) .skip)) (.seq (.seq (.run [⟨(some 14), none, (Op.assign (Operand.const (Value.int IntKind.i64 0)))⟩]) (.block 0 (.loop ([(0, none), (1, none), (2, none), (3, none), (4, none), (5, none), (14, none)], []) c5_0))) (.seq (.run [⟨(some 124), none, (Op.move (Operand.tmp 0))⟩, ⟨(some 125), none, (Op.move (Operand.tmp 1))⟩, ⟨(some 126), none, (Op.move (Operand.tmp 2))⟩, ⟨(some 127), none, (Op.move (Operand.tmp 3))⟩, ⟨(some 128), none, (Op.call { callee := (Callee.value (Operand.func 8)), args := #[(Operand.tmp 124), (Operand.tmp 125), (Operand.tmp 126), (Operand.tmp 127)], argTypes := #[22, 3, 3, 3] })⟩, ⟨(some 16), none, (Op.assign (Operand.tmp 128))⟩]) (.seq (.run [⟨(some 129), none, (Op.move (Operand.tmp 0))⟩, ⟨(some 130), none, (Op.move (Operand.tmp 1))⟩, ⟨(some 131), none, (Op.move (Operand.tmp 2))⟩, ⟨(some 132), none, (Op.move (Operand.tmp 4))⟩, ⟨(some 133), none, (Op.binOp BinOp.add 3 (Operand.tmp 131) (Operand.tmp 132) 3)⟩, ⟨(some 134), none, (Op.move (Operand.tmp 3))⟩, ⟨(some 135), none, (Op.move (Operand.tmp 5))⟩, ⟨(some 136), none, (Op.binOp BinOp.add 3 (Operand.tmp 134) (Operand.tmp 135) 3)⟩, ⟨(some 137), none, (Op.call { callee := (Callee.value (Operand.func 8)), args := #[(Operand.tmp 129), (Operand.tmp 130), (Operand.tmp 133), (Operand.tmp 136)], argTypes := #[22, 3, 3, 3] })⟩, ⟨(some 17), none, (Op.assign (Operand.tmp 137))⟩]) (.seq (.seq (.run [⟨(some 18), none, (Op.assign (Operand.const (Value.int IntKind.i64 0)))⟩]) (.block 4 (.loop ([(16, some 3), (17, some 3), (18, none)], []) c5_4))) (.seq (.run [⟨(some 164), none, (Op.move (Operand.tmp 17))⟩, ⟨(some 165), none, (Op.call { callee := (Callee.builtin Builtin.len), args := #[(Operand.tmp 164)], argTypes := #[28] })⟩, ⟨(some 166), none, (Op.move (Operand.tmp 16))⟩, ⟨(some 167), none, (Op.call { callee := (Callee.builtin Builtin.len), args := #[(Operand.tmp 166)], argTypes := #[28] })⟩, ⟨(some 168), none, (Op.binOp BinOp.leq 3 (Operand.tmp 165) (Operand.tmp 167) 3)⟩, ⟨(some 12), none, (Op.assign (Operand.tmp 168))⟩]) .ret))))))))
def k5 : Nat → List (Nat × Option Nat) × List Nat := fun | 0 => ([(0, none), (1, none), (2, none), (3, none), (4, none), (5, none), (14, none)], []) | 2 => ([(0, none), (1, none), (2, none), (3, none), (4, none), (5, none), (14, none), (15, none)], []) | 4 => ([(16, some 3), (17, some 3), (18, none)], []) | 6 => ([(16, some 3), (17, some 3), (18, none), (19, none), (20, none)], []) | _ => ([], [])
/- gleaninglaw20.alive -/

def c6 : CC := (.seq (.run [⟨(some 0), none, (Op.assign (Operand.const (Value.bool false)))⟩]) (.seq (.run [⟨(some 2), none, (Op.build 27 #[(0, (Operand.const (Value.int IntKind.i64 7)))])⟩, ⟨(some 3), none, (Op.build 27 #[(0, (Operand.const (Value.int IntKind.i64 8))), (1, (Operand.const (Value.int IntKind.i64 9)))])⟩, ⟨(some 4), none, (Op.buildSlice 22 2 #[(0, (Operand.tmp 2)), (1, (Operand.tmp 3))])⟩, ⟨(some 5), none, (Op.call { callee := (Callee.value (Operand.func 8)), args := #[(Operand.tmp 4), (Operand.const (Value.int IntKind.i64 10)), (Operand.const (Value.int IntKind.i64 5)), (Operand.const (Value.int IntKind.i64 1000))], argTypes := #[22, 3, 3, 3] })⟩, ⟨(some 1), none, (Op.assign (Operand.tmp 5))⟩]) (.seq (.run [⟨(some 6), none, (Op.call { callee := (Callee.value (Operand.func 8)), args := #[(Operand.const (Value.slice none 0 0)), (Operand.const (Value.int IntKind.i64 0)), (Operand.const (Value.int IntKind.i64 0)), (Operand.const (Value.int IntKind.i64 0))], argTypes := #[22, 3, 3, 3] })⟩, ⟨(some 7), none, (Op.call { callee := (Callee.builtin Builtin.len), args := #[(Operand.tmp 6)], argTypes := #[28] })⟩, ⟨(some 8), none, (Op.binOp BinOp.eql 3 (Operand.tmp 7) (Operand.const (Value.int IntKind.i64 0)) 3)⟩, ⟨(some 9), none, (Op.move (Operand.tmp 8))⟩, ⟨(some 10), (some (9, true)), (Op.move (Operand.tmp 1))⟩, ⟨(some 11), (some (9, true)), (Op.call { callee := (Callee.builtin Builtin.len), args := #[(Operand.tmp 10)], argTypes := #[28] })⟩, ⟨(some 12), (some (9, true)), (Op.binOp BinOp.eql 3 (Operand.tmp 11) (Operand.const (Value.int IntKind.i64 1)) 3)⟩, ⟨(some 13), none, (Op.pick (Operand.tmp 9) (Operand.tmp 12) (Operand.const (Value.bool false)))⟩, ⟨(some 14), none, (Op.move (Operand.tmp 13))⟩, ⟨(some 15), (some (14, true)), (Op.move (Operand.tmp 1))⟩, ⟨(some 16), (some (14, true)), (Op.indexAddr 28 (Operand.tmp 15) (Operand.const (Value.int IntKind.i64 0)))⟩, ⟨(some 17), (some (14, true)), (Op.load 3 (Operand.tmp 16))⟩, ⟨(some 18), (some (14, true)), (Op.binOp BinOp.eql 3 (Operand.tmp 17) (Operand.const (Value.int IntKind.i64 7)) 3)⟩, ⟨(some 19), none, (Op.pick (Operand.tmp 14) (Operand.tmp 18) (Operand.const (Value.bool false)))⟩, ⟨(some 0), none, (Op.assign (Operand.tmp 19))⟩]) .ret)))
def k6 : Nat → List (Nat × Option Nat) × List Nat := fun _ => ([], [])
/- gleaninglaw19.Few -/
def c7_0 : CC := (.seq (.seq (.run [⟨(some 5), none, (Op.move (Operand.tmp 4))⟩, ⟨(some 6), none, (Op.move (Operand.tmp 0))⟩, ⟨(some 7), none, (Op.call { callee := (Callee.builtin Builtin.len), args := #[(Operand.tmp 6)], argTypes := #[22] })⟩, ⟨(some 8), none, (Op.binOp BinOp.lss 3 (Operand.tmp 5) (Operand.tmp 7) 3)⟩, ⟨(some 9), none, (Op.move (Operand.tmp 8))⟩, ⟨(some 10), (some (9, true)), (Op.move (Operand.tmp 4))⟩, ⟨(some 11), (some (9, true)), (Op.binOp BinOp.lss 3 (Operand.tmp 10) (Operand.const (Value.int IntKind.i64 20)) 3)⟩, ⟨(some 12), none, (Op.pick (Operand.tmp 9) (Operand.tmp 11) (Operand.const (Value.bool false)))⟩]) (.cond (Operand.tmp 12) .skip (.exit 0))) (.seq (.block 1 (.run [⟨(some 15), none, (Op.move (Operand.tmp 3))⟩, ⟨(some 16), none, (Op.move (Operand.tmp 0))⟩, ⟨(some 17), none, (Op.move (Operand.tmp 4))⟩, ⟨(some 18), none, (Op.indexAddr 22 (Operand.tmp 16) (Operand.tmp 17))⟩, ⟨(some 19), none, (Op.fieldAddr 27 (Operand.tmp 18) 3)⟩, ⟨(some 20), none, (Op.load 25 (Operand.tmp 19))⟩, ⟨(some 21), none, (Op.call { callee := (Callee.builtin Builtin.append), args := #[(Operand.tmp 15), (Operand.tmp 20)], argTypes := #[25, 25] })⟩, ⟨(some 3), none, (Op.assign (Operand.tmp 21))⟩])) (.run [⟨(some 13), none, (Op.move (Operand.tmp 4))⟩, ⟨(some 14), none, (Op.binOp BinOp.add 3 (Operand.tmp 13) (Operand.const (Value.int IntKind.i64 1)) 3)⟩, ⟨(some 4), none, (Op.assign (Operand.tmp 14))⟩])))
def c7 : CC := (.seq (.run [⟨(some 2), none, (Op.assign (Operand.const (Value.bool false)))⟩]) (.seq (.run [⟨(some 3), none, (Op.assign (Operand.const (Value.slice none 0 0)))⟩]) (.seq (.seq (.run [⟨(some 4), none, (Op.assign (Operand.const (Value.int IntKind.i64 0)))⟩]) (.block 0 (.loop ([(0, none), (3, some 47), (4, none)], []) c7_0))) (.seq (.run [⟨(some 22), none, (Op.move (Operand.tmp 0))⟩, ⟨(some 23), none, (Op.call { callee := (Callee.builtin Builtin.len), args := #[(Operand.tmp 22)], argTypes := #[22] })⟩, ⟨(some 24), none, (Op.binOp BinOp.leq 3 (Operand.tmp 23) (Operand.const (Value.int IntKind.i64 12)) 3)⟩, ⟨(some 25), none, (Op.move (Operand.tmp 24))⟩, ⟨(some 26), (some (25, true)), (Op.move (Operand.tmp 3))⟩, ⟨(some 27), (some (25, true)), (Op.call { callee := (Callee.value (Operand.func 11)), args := #[(Operand.tmp 26)], argTypes := #[25] })⟩, ⟨(some 28), none, (Op.pick (Operand.tmp 25) (Operand.tmp 27) (Operand.const (Value.bool false)))⟩, ⟨(some 2), none, (Op.assign (Operand.tmp 28))⟩]) .ret))))
def k7 : Nat → List (Nat × Option Nat) × List Nat := fun | 0 => ([(0, none), (3, some 47), (4, none)], []) | _ => ([], [])
/- retire.Choose -/
def c8_0 : CC := (.seq (.run [⟨(some 20), none, (Op.binOp BinOp.lss 3 (Operand.tmp 19) (Operand.tmp 18) 3)⟩]) (.seq (.cond (Operand.tmp 20) .skip (.exit 0)) (.seq (.block 1 (.seq (.run [⟨(some 21), none, (Op.indexAddr 22 (Operand.tmp 17) (Operand.tmp 19))⟩, ⟨(some 22), none, (Op.load 27 (Operand.tmp 21))⟩, ⟨(some 12), none, (Op.alloc 27)⟩, ⟨none, none, (Op.store 27 (Operand.tmp 12) (Operand.tmp 22))⟩]) (.seq (.run [⟨(some 23), none, (Op.move (Operand.tmp 1))⟩, ⟨(some 24), none, (Op.fieldAddr 27 (Operand.tmp 12) 1)⟩, ⟨(some 25), none, (Op.load 3 (Operand.tmp 24))⟩, ⟨(some 26), none, (Op.call { callee := (Callee.value (Operand.func 12)), args := #[(Operand.tmp 23), (Operand.tmp 25)], argTypes := #[3, 3] })⟩, ⟨(some 27), none, (Op.move (Operand.tmp 2))⟩, ⟨(some 28), none, (Op.binOp BinOp.gtr 3 (Operand.tmp 26) (Operand.tmp 27) 3)⟩]) (.cond (Operand.tmp 28) (.run [⟨(some 29), none, (Op.move (Operand.tmp 9))⟩, ⟨(some 30), none, (Op.fieldAddr 27 (Operand.tmp 12) 0)⟩, ⟨(some 31), none, (Op.load 3 (Operand.tmp 30))⟩, ⟨(some 32), none, (Op.buildSlice 28 1 #[(0, (Operand.tmp 31))])⟩, ⟨(some 33), none, (Op.call { callee := (Callee.builtin Builtin.append), args := #[(Operand.tmp 29), (Operand.tmp 32)], argTypes := #[28, 28] })⟩, ⟨(some 9), none, (Op.assign (Operand.tmp 33))⟩]) (.run [⟨(some 34), none, (Op.move (Operand.tmp 10))⟩, ⟨(some 35), none, (Op.load 27 (Operand.tmp 12))⟩, ⟨(some 36), none, (Op.buildSlice 22 1 #[(0, (Operand.tmp 35))])⟩, ⟨(some 37), none, (Op.call { callee := (Callee.builtin Builtin.append), args := #[(Operand.tmp 34), (Operand.tmp 36)], argTypes := #[22, 22] })⟩, ⟨(some 10), none, (Op.assign (Operand.tmp 37))⟩]))))) (.run [⟨(some 38), none, (Op.binOp BinOp.add 3 (Operand.tmp 19) (Operand.const (Value.int IntKind.i64 1)) 3)⟩, ⟨(some 19), none, (Op.move (Operand.tmp 38))⟩]))))
def c8_4 : CC := (.seq (.run [⟨(some 52), none, (Op.binOp BinOp.lss 3 (Operand.tmp 51) (Operand.tmp 50) 3)⟩]) (.seq (.cond (Operand.tmp 52) .skip (.exit 4)) (.seq (.block 5 (.seq (.run [⟨(some 53), none, (Op.move (Operand.tmp 51))⟩, ⟨(some 54), none, (Op.indexAddr 22 (Operand.tmp 49) (Operand.tmp 51))⟩, ⟨(some 55), none, (Op.load 27 (Operand.tmp 54))⟩, ⟨(some 16), none, (Op.alloc 27)⟩, ⟨(some 15), none, (Op.assign (Operand.tmp 53))⟩, ⟨none, none, (Op.store 27 (Operand.tmp 16) (Operand.tmp 55))⟩]) (.seq (.draw [⟨(some 56), none, (Op.fieldAddr 27 (Operand.tmp 16) 1)⟩, ⟨(some 57), none, (Op.load 3 (Operand.tmp 56))⟩, ⟨(some 58), none, (Op.move (Operand.tmp 10))⟩, ⟨(some 59), none, (Op.move (Operand.tmp 14))⟩, ⟨(some 60), none, (Op.indexAddr 22 (Operand.tmp 58) (Operand.tmp 59))⟩, ⟨(some 61), none, (Op.fieldAddr 27 (Operand.tmp 60) 1)⟩, ⟨(some 62), none, (Op.load 3 (Operand.tmp 61))⟩, ⟨(some 63), none, (Op.binOp BinOp.lss 3 (Operand.tmp 57) (Operand.tmp 62) 3)⟩] [0, 1, 0, 0, 12, 28, 60, 127]) (.cond (Operand.tmp 63) (.run [⟨(some 64), none, (Op.move (Operand.tmp 15))⟩, ⟨(some 14), none, (Op.assign (Operand.tmp 64))⟩]) .skip)))) (.run [⟨(some 65), none, (Op.binOp BinOp.add 3 (Operand.tmp 51) (Operand.const (Value.int IntKind.i64 1)) 3)⟩, ⟨(some 51), none, (Op.move (Operand.tmp 65))⟩]))))
def c8_2 : CC := (.seq (.seq (.run [⟨(some 41), none, (Op.move (Operand.tmp 13))⟩, ⟨(some 42), none, (Op.move (Operand.tmp 3))⟩, ⟨(some 43), none, (Op.binOp BinOp.gtr 3 (Operand.tmp 41) (Operand.tmp 42) 3)⟩, ⟨(some 44), none, (Op.move (Operand.tmp 43))⟩, ⟨(some 45), (some (44, true)), (Op.move (Operand.tmp 10))⟩, ⟨(some 46), (some (44, true)), (Op.call { callee := (Callee.builtin Builtin.len), args := #[(Operand.tmp 45)], argTypes := #[22] })⟩, ⟨(some 47), (some (44, true)), (Op.binOp BinOp.gtr 3 (Operand.tmp 46) (Operand.const (Value.int IntKind.i64 1)) 3)⟩, ⟨(some 48), none, (Op.pick (Operand.tmp 44) (Operand.tmp 47) (Operand.const (Value.bool false)))⟩]) (.cond (Operand.tmp 48) .skip (.exit 2))) (.block 3 (.seq (.run [⟨(some 14), none, (Op.assign (Operand.const (Value.int IntKind.i64 0)))⟩]) (.seq (.seq (.run [⟨(some 49), none, (Op.move (Operand.tmp 10))⟩, ⟨(some 50), none, (Op.call { callee := (Callee.builtin Builtin.len), args := #[(Operand.tmp 49)], argTypes := #[22] })⟩, ⟨(some 51), none, (Op.move (Operand.const (Value.int IntKind.i64 0)))⟩]) (.block 4 (.loop ([(3, none), (9, some 3), (10, some 27), (13, none), (14, none), (49, none), (50, none), (51, none)], []) c8_4))) (.seq (.run [⟨(some 66), none, (Op.move (Operand.tmp 13))⟩, ⟨(some 67), none, (Op.move (Operand.tmp 10))⟩, ⟨(some 68), none, (Op.move (Operand.tmp 14))⟩, ⟨(some 69), none, (Op.indexAddr 22 (Operand.tmp 67) (Operand.tmp 68))⟩, ⟨(some 70), none, (Op.load 27 (Operand.tmp 69))⟩, ⟨(some 71), none, (Op.call { callee := (Callee.value (Operand.func 14)), args := #[(Operand.tmp 70)], argTypes := #[27] })⟩, ⟨(some 72), none, (Op.binOp BinOp.sub 3 (Operand.tmp 66) (Operand.tmp 71) 3)⟩, ⟨(some 13), none, (Op.assign (Operand.tmp 72))⟩]) (.seq (.run [⟨(some 73), none, (Op.move (Operand.tmp 9))⟩, ⟨(some 74), none, (Op.move (Operand.tmp 10))⟩, ⟨(some 75), none, (Op.move (Operand.tmp 14))⟩, ⟨(some 76), none, (Op.indexAddr 22 (Operand.tmp 74) (Operand.tmp 75))⟩, ⟨(some 77), none, (Op.fieldAddr 27 (Operand.tmp 76) 0)⟩, ⟨(some 78), none, (Op.load 3 (Operand.tmp 77))⟩, ⟨(some 79), none, (Op.buildSlice 28 1 #[(0, (Operand.tmp 78))])⟩, ⟨(some 80), none, (Op.call { callee := (Callee.builtin Builtin.append), args := #[(Operand.tmp 73), (Operand.tmp 79)], argTypes := #[28, 28] })⟩, ⟨(some 9), none, (Op.assign (Operand.tmp 80))⟩]) (.run [⟨(some 81), none, (Op.move (Operand.tmp 10))⟩, ⟨(some 82), none, (Op.move (Operand.tmp 14))⟩, ⟨(some 83), none, (Op.move (Operand.tmp 14))⟩, ⟨(some 84), none, (Op.binOp BinOp.add 3 (Operand.tmp 83) (Operand.const (Value.int IntKind.i64 1)) 3)⟩, ⟨(some 85), none, (Op.call { callee := (Callee.value (Operand.func 15)), args := #[(Operand.tmp 81), (Operand.tmp 82), (Operand.tmp 84)], argTypes := #[22, 3, 3] })⟩, ⟨(some 10), none, (Op.assign (Operand.tmp 85))⟩])))))))
def c8 : CC := (.seq (.run [⟨(some 8), none, (Op.assign (Operand.const (Value.slice none 0 0)))⟩]) (.seq (.run [⟨(some 9), none, (Op.assign (Operand.const (Value.slice none 0 0)))⟩]) (.seq (.run [⟨(some 10), none, (Op.assign (Operand.const (Value.slice none 0 0)))⟩]) (.seq (.seq (.run [⟨(some 17), none, (Op.move (Operand.tmp 0))⟩, ⟨(some 18), none, (Op.call { callee := (Callee.builtin Builtin.len), args := #[(Operand.tmp 17)], argTypes := #[22] })⟩, ⟨(some 19), none, (Op.move (Operand.const (Value.int IntKind.i64 0)))⟩]) (.block 0 (.loop ([(1, none), (2, none), (3, none), (9, some 3), (10, some 27), (17, none), (18, none), (19, none)], []) c8_0))) (.seq (.run [⟨(some 39), none, (Op.move (Operand.tmp 10))⟩, ⟨(some 40), none, (Op.call { callee := (Callee.value (Operand.func 13)), args := #[(Operand.tmp 39)], argTypes := #[22] })⟩, ⟨(some 13), none, (Op.assign (Operand.tmp 40))⟩]) (.seq (.block 2 (.loop ([(3, none), (9, some 3), (10, some 27), (13, none)], []) c8_2)) (.seq (.run [⟨(some 86), none, (Op.move (Operand.tmp 9))⟩, ⟨(some 8), none, (Op.assign (Operand.tmp 86))⟩]) .ret)))))))
def k8 : Nat → List (Nat × Option Nat) × List Nat := fun | 0 => ([(1, none), (2, none), (3, none), (9, some 3), (10, some 27), (17, none), (18, none), (19, none)], []) | 2 => ([(3, none), (9, some 3), (10, some 27), (13, none)], []) | 4 => ([(3, none), (9, some 3), (10, some 27), (13, none), (14, none), (49, none), (50, none), (51, none)], []) | _ => ([], [])
/- gleaningref15.Total -/
def c9_0 : CC := (.seq (.seq (.run [⟨(some 5), none, (Op.move (Operand.tmp 4))⟩, ⟨(some 6), none, (Op.move (Operand.tmp 0))⟩, ⟨(some 7), none, (Op.call { callee := (Callee.builtin Builtin.len), args := #[(Operand.tmp 6)], argTypes := #[22] })⟩, ⟨(some 8), none, (Op.binOp BinOp.lss 3 (Operand.tmp 5) (Operand.tmp 7) 3)⟩]) (.cond (Operand.tmp 8) .skip (.exit 0))) (.seq (.block 1 (.run [⟨(some 11), none, (Op.move (Operand.tmp 3))⟩, ⟨(some 12), none, (Op.move (Operand.tmp 0))⟩, ⟨(some 13), none, (Op.move (Operand.tmp 4))⟩, ⟨(some 14), none, (Op.indexAddr 22 (Operand.tmp 12) (Operand.tmp 13))⟩, ⟨(some 15), none, (Op.load 27 (Operand.tmp 14))⟩, ⟨(some 16), none, (Op.call { callee := (Callee.value (Operand.func 16)), args := #[(Operand.tmp 15)], argTypes := #[27] })⟩, ⟨(some 17), none, (Op.call { callee := (Callee.builtin Builtin.len), args := #[(Operand.tmp 16)], argTypes := #[39] })⟩, ⟨(some 18), none, (Op.binOp BinOp.add 3 (Operand.tmp 11) (Operand.tmp 17) 3)⟩, ⟨(some 3), none, (Op.assign (Operand.tmp 18))⟩])) (.run [⟨(some 9), none, (Op.move (Operand.tmp 4))⟩, ⟨(some 10), none, (Op.binOp BinOp.add 3 (Operand.tmp 9) (Operand.const (Value.int IntKind.i64 1)) 3)⟩, ⟨(some 4), none, (Op.assign (Operand.tmp 10))⟩])))
def c9 : CC := (.seq (.run [⟨(some 2), none, (Op.assign (Operand.const (Value.int IntKind.i64 0)))⟩]) (.seq (.run [⟨(some 3), none, (Op.assign (Operand.const (Value.int IntKind.i64 0)))⟩]) (.seq (.seq (.run [⟨(some 4), none, (Op.assign (Operand.const (Value.int IntKind.i64 0)))⟩]) (.block 0 (.loop ([(0, none), (3, none), (4, none)], []) c9_0))) (.seq (.run [⟨(some 19), none, (Op.move (Operand.tmp 3))⟩, ⟨(some 2), none, (Op.assign (Operand.tmp 19))⟩]) .ret))))
def k9 : Nat → List (Nat × Option Nat) × List Nat := fun | 0 => ([(0, none), (3, none), (4, none)], []) | _ => ([], [])
/- gleaningref15.RightBlock -/
def c10_0 : CC := (.seq (.seq (.run [⟨(some 4), none, (Op.move (Operand.tmp 3))⟩, ⟨(some 5), none, (Op.fieldAddr 27 (Operand.tmp 1) 3)⟩, ⟨(some 6), none, (Op.load 25 (Operand.tmp 5))⟩, ⟨(some 7), none, (Op.call { callee := (Callee.builtin Builtin.len), args := #[(Operand.tmp 6)], argTypes := #[25] })⟩, ⟨(some 8), none, (Op.binOp BinOp.lss 3 (Operand.tmp 4) (Operand.tmp 7) 3)⟩]) (.cond (Operand.tmp 8) .skip (.exit 0))) (.seq (.block 1 (.seq (.draw [⟨(some 11), none, (Op.fieldAddr 27 (Operand.tmp 1) 3)⟩, ⟨(some 12), none, (Op.load 25 (Operand.tmp 11))⟩, ⟨(some 13), none, (Op.move (Operand.tmp 3))⟩, ⟨(some 14), none, (Op.indexAddr 25 (Operand.tmp 12) (Operand.tmp 13))⟩, ⟨(some 15), none, (Op.load 47 (Operand.tmp 14))⟩, ⟨(some 16), none, (Op.call { callee := (Callee.value (Operand.func 17)), args := #[(Operand.tmp 15)], argTypes := #[47] })⟩, ⟨(some 17), none, (Op.unOp UnOp.not 4 (Operand.tmp 16))⟩, ⟨(some 18), none, (Op.move (Operand.tmp 17))⟩, ⟨(some 19), (some (18, false)), (Op.move (Operand.tmp 3))⟩, ⟨(some 20), (some (18, false)), (Op.binOp BinOp.gtr 3 (Operand.tmp 19) (Operand.const (Value.int IntKind.i64 0)) 3)⟩, ⟨(some 21), (some (18, false)), (Op.move (Operand.tmp 20))⟩, ⟨(some 22), (some (21, true)), (Op.fieldAddr 27 (Operand.tmp 1) 3)⟩, ⟨(some 23), (some (21, true)), (Op.load 25 (Operand.tmp 22))⟩, ⟨(some 24), (some (21, true)), (Op.move (Operand.tmp 3))⟩, ⟨(some 25), (some (21, true)), (Op.indexAddr 25 (Operand.tmp 23) (Operand.tmp 24))⟩, ⟨(some 26), (some (21, true)), (Op.fieldAddr 47 (Operand.tmp 25) 0)⟩, ⟨(some 27), (some (21, true)), (Op.load 44 (Operand.tmp 26))⟩, ⟨(some 28), (some (21, true)), (Op.fieldAddr 27 (Operand.tmp 1) 3)⟩, ⟨(some 29), (some (21, true)), (Op.load 25 (Operand.tmp 28))⟩, ⟨(some 30), (some (21, true)), (Op.move (Operand.tmp 3))⟩, ⟨(some 31), (some (21, true)), (Op.binOp BinOp.sub 3 (Operand.tmp 30) (Operand.const (Value.int IntKind.i64 1)) 3)⟩, ⟨(some 32), (some (21, true)), (Op.indexAddr 25 (Operand.tmp 29) (Operand.tmp 31))⟩, ⟨(some 33), (some (21, true)), (Op.fieldAddr 47 (Operand.tmp 32) 0)⟩, ⟨(some 34), (some (21, true)), (Op.load 44 (Operand.tmp 33))⟩, ⟨(some 35), (some (21, true)), (Op.call { callee := (Callee.value (Operand.func 18)), args := #[(Operand.tmp 27), (Operand.tmp 34)], argTypes := #[44, 44] })⟩, ⟨(some 36), (some (18, false)), (Op.pick (Operand.tmp 21) (Operand.tmp 35) (Operand.const (Value.bool false)))⟩, ⟨(some 37), none, (Op.pick (Operand.tmp 18) (Operand.const (Value.bool true)) (Operand.tmp 36))⟩] [0, 1, 0, 7, 15, 31, 63, 127, 255, 511, 1023, 2047, 4095, 2047, 16383, 32767, 65535, 2047, 133119, 2047, 526335, 1968127, 4065279, 8259583, 16777215, 33554431, 67108863]) (.cond (Operand.tmp 37) (.seq (.run [⟨(some 2), none, (Op.assign (Operand.const (Value.bool false)))⟩]) .ret) .skip))) (.run [⟨(some 9), none, (Op.move (Operand.tmp 3))⟩, ⟨(some 10), none, (Op.binOp BinOp.add 3 (Operand.tmp 9) (Operand.const (Value.int IntKind.i64 1)) 3)⟩, ⟨(some 3), none, (Op.assign (Operand.tmp 10))⟩])))
def c10 : CC := (.seq (.run [⟨(some 1), none, (Op.box 27 (Operand.tmp 0))⟩, ⟨(some 2), none, (Op.assign (Operand.const (Value.bool false)))⟩]) (.seq (.seq (.run [⟨(some 3), none, (Op.assign (Operand.const (Value.int IntKind.i64 0)))⟩]) (.block 0 (.loop ([(1, none), (3, none)], []) c10_0))) (.seq (.run [⟨(some 38), none, (Op.fieldAddr 27 (Operand.tmp 1) 0)⟩, ⟨(some 39), none, (Op.load 3 (Operand.tmp 38))⟩, ⟨(some 40), none, (Op.call { callee := (Callee.value (Operand.func 19)), args := #[(Operand.tmp 39)], argTypes := #[3] })⟩, ⟨(some 41), none, (Op.move (Operand.tmp 40))⟩, ⟨(some 42), (some (41, true)), (Op.fieldAddr 27 (Operand.tmp 1) 1)⟩, ⟨(some 43), (some (41, true)), (Op.load 3 (Operand.tmp 42))⟩, ⟨(some 44), (some (41, true)), (Op.call { callee := (Callee.value (Operand.func 19)), args := #[(Operand.tmp 43)], argTypes := #[3] })⟩, ⟨(some 45), none, (Op.pick (Operand.tmp 41) (Operand.tmp 44) (Operand.const (Value.bool false)))⟩, ⟨(some 46), none, (Op.move (Operand.tmp 45))⟩, ⟨(some 47), (some (46, true)), (Op.fieldAddr 27 (Operand.tmp 1) 2)⟩, ⟨(some 48), (some (46, true)), (Op.load 3 (Operand.tmp 47))⟩, ⟨(some 49), (some (46, true)), (Op.call { callee := (Callee.value (Operand.func 19)), args := #[(Operand.tmp 48)], argTypes := #[3] })⟩, ⟨(some 50), none, (Op.pick (Operand.tmp 46) (Operand.tmp 49) (Operand.const (Value.bool false)))⟩, ⟨(some 2), none, (Op.assign (Operand.tmp 50))⟩]) .ret)))
def k10 : Nat → List (Nat × Option Nat) × List Nat := fun | 0 => ([(1, none), (3, none)], []) | _ => ([], [])
/- gleaninglaw15.Few -/
def c11_0 : CC := (.seq (.seq (.run [⟨(some 5), none, (Op.move (Operand.tmp 4))⟩, ⟨(some 6), none, (Op.move (Operand.tmp 0))⟩, ⟨(some 7), none, (Op.call { callee := (Callee.builtin Builtin.len), args := #[(Operand.tmp 6)], argTypes := #[25] })⟩, ⟨(some 8), none, (Op.binOp BinOp.lss 3 (Operand.tmp 5) (Operand.tmp 7) 3)⟩, ⟨(some 9), none, (Op.move (Operand.tmp 8))⟩, ⟨(some 10), (some (9, true)), (Op.move (Operand.tmp 3))⟩, ⟨(some 11), (some (9, true)), (Op.binOp BinOp.lss 3 (Operand.tmp 10) (Operand.const (Value.int IntKind.i64 1000)) 3)⟩, ⟨(some 12), none, (Op.pick (Operand.tmp 9) (Operand.tmp 11) (Operand.const (Value.bool false)))⟩]) (.cond (Operand.tmp 12) .skip (.exit 0))) (.seq (.block 1 (.seq (.seq (.run [⟨(some 15), none, (Op.move (Operand.tmp 0))⟩, ⟨(some 16), none, (Op.move (Operand.tmp 4))⟩, ⟨(some 17), none, (Op.indexAddr 25 (Operand.tmp 15) (Operand.tmp 16))⟩, ⟨(some 18), none, (Op.fieldAddr 47 (Operand.tmp 17) 4)⟩, ⟨(some 19), none, (Op.load 45 (Operand.tmp 18))⟩, ⟨(some 20), none, (Op.call { callee := (Callee.value (Operand.func 20)), args := #[(Operand.tmp 19)], argTypes := #[45] })⟩, ⟨(some 21), none, (Op.unOp UnOp.not 4 (Operand.tmp 20))⟩]) (.cond (Operand.tmp 21) (.seq (.run [⟨(some 2), none, (Op.assign (Operand.const (Value.bool false)))⟩]) .ret) .skip)) (.run [⟨(some 22), none, (Op.move (Operand.tmp 3))⟩, ⟨(some 23), none, (Op.binOp BinOp.add 3 (Operand.tmp 22) (Operand.const (Value.int IntKind.i64 1)) 3)⟩, ⟨(some 24), none, (Op.move (Operand.tmp 0))⟩, ⟨(some 25), none, (Op.move (Operand.tmp 4))⟩, ⟨(some 26), none, (Op.indexAddr 25 (Operand.tmp 24) (Operand.tmp 25))⟩, ⟨(some 27), none, (Op.fieldAddr 47 (Operand.tmp 26) 4)⟩, ⟨(some 28), none, (Op.load 45 (Operand.tmp 27))⟩, ⟨(some 29), none, (Op.call { callee := (Callee.builtin Builtin.len), args := #[(Operand.tmp 28)], argTypes := #[45] })⟩, ⟨(some 30), none, (Op.binOp BinOp.add 3 (Operand.tmp 23) (Operand.tmp 29) 3)⟩, ⟨(some 3), none, (Op.assign (Operand.tmp 30))⟩]))) (.run [⟨(some 13), none, (Op.move (Operand.tmp 4))⟩, ⟨(some 14), none, (Op.binOp BinOp.add 3 (Operand.tmp 13) (Operand.const (Value.int IntKind.i64 1)) 3)⟩, ⟨(some 4), none, (Op.assign (Operand.tmp 14))⟩])))
def c11 : CC := (.seq (.run [⟨(some 2), none, (Op.assign (Operand.const (Value.bool false)))⟩]) (.seq (.run [⟨(some 3), none, (Op.assign (Operand.const (Value.int IntKind.i64 0)))⟩]) (.seq (.seq (.run [⟨(some 4), none, (Op.assign (Operand.const (Value.int IntKind.i64 0)))⟩]) (.block 0 (.loop ([(0, none), (3, none), (4, none)], []) c11_0))) (.seq (.run [⟨(some 31), none, (Op.move (Operand.tmp 3))⟩, ⟨(some 32), none, (Op.binOp BinOp.leq 3 (Operand.tmp 31) (Operand.const (Value.int IntKind.i64 120)) 3)⟩, ⟨(some 2), none, (Op.assign (Operand.tmp 32))⟩]) .ret))))
def k11 : Nat → List (Nat × Option Nat) × List Nat := fun | 0 => ([(0, none), (3, none), (4, none)], []) | _ => ([], [])
/- rollup.Less -/

def c12 : CC := (.seq (.run [⟨(some 4), none, (Op.assign (Operand.const (Value.int IntKind.i64 0)))⟩]) (.seq (.run [⟨(some 6), none, (Op.move (Operand.tmp 0))⟩, ⟨(some 7), none, (Op.move (Operand.tmp 1))⟩, ⟨(some 8), none, (Op.binOp BinOp.sub 3 (Operand.tmp 6) (Operand.tmp 7) 3)⟩, ⟨(some 5), none, (Op.assign (Operand.tmp 8))⟩]) (.seq (.block 0 (.seq (.run [⟨(some 10), none, (Op.move (Operand.tmp 1))⟩, ⟨(some 11), none, (Op.binOp BinOp.gtr 3 (Operand.tmp 10) (Operand.const (Value.int IntKind.i64 0)) 3)⟩, ⟨(some 12), none, (Op.move (Operand.tmp 11))⟩, ⟨(some 13), (some (12, true)), (Op.move (Operand.tmp 5))⟩, ⟨(some 14), (some (12, true)), (Op.move (Operand.tmp 0))⟩, ⟨(some 15), (some (12, true)), (Op.binOp BinOp.gtr 3 (Operand.tmp 13) (Operand.tmp 14) 3)⟩, ⟨(some 16), none, (Op.pick (Operand.tmp 12) (Operand.tmp 15) (Operand.const (Value.bool false)))⟩, ⟨(some 9), none, (Op.assign (Operand.tmp 16))⟩]) (.cond (Operand.tmp 9) (.seq (.run [⟨(some 4), none, (Op.assign (Operand.const (Value.int IntKind.i64 (-9223372036854775808))))⟩]) .ret) (.seq (.run [⟨(some 18), none, (Op.move (Operand.tmp 1))⟩, ⟨(some 19), none, (Op.binOp BinOp.lss 3 (Operand.tmp 18) (Operand.const (Value.int IntKind.i64 0)) 3)⟩, ⟨(some 20), none, (Op.move (Operand.tmp 19))⟩, ⟨(some 21), (some (20, true)), (Op.move (Operand.tmp 5))⟩, ⟨(some 22), (some (20, true)), (Op.move (Operand.tmp 0))⟩, ⟨(some 23), (some (20, true)), (Op.binOp BinOp.lss 3 (Operand.tmp 21) (Operand.tmp 22) 3)⟩, ⟨(some 24), none, (Op.pick (Operand.tmp 20) (Operand.tmp 23) (Operand.const (Value.bool false)))⟩, ⟨(some 17), none, (Op.assign (Operand.tmp 24))⟩]) (.cond (Operand.tmp 17) (.seq (.run [⟨(some 4), none, (Op.assign (Operand.const (Value.int IntKind.i64 9223372036854775807)))⟩]) .ret) .skip))))) (.seq (.run [⟨(some 25), none, (Op.move (Operand.tmp 5))⟩, ⟨(some 4), none, (Op.assign (Operand.tmp 25))⟩]) .ret))))
def k12 : Nat → List (Nat × Option Nat) × List Nat := fun _ => ([], [])
/- retire.Total -/
def c13_0 : CC := (.seq (.run [⟨(some 9), none, (Op.binOp BinOp.lss 3 (Operand.tmp 8) (Operand.tmp 7) 3)⟩]) (.seq (.cond (Operand.tmp 9) .skip (.exit 0)) (.seq (.block 1 (.seq (.run [⟨(some 10), none, (Op.indexAddr 22 (Operand.tmp 6) (Operand.tmp 8))⟩, ⟨(some 11), none, (Op.load 27 (Operand.tmp 10))⟩, ⟨(some 5), none, (Op.alloc 27)⟩, ⟨none, none, (Op.store 27 (Operand.tmp 5) (Operand.tmp 11))⟩]) (.run [⟨(some 12), none, (Op.move (Operand.tmp 3))⟩, ⟨(some 13), none, (Op.load 27 (Operand.tmp 5))⟩, ⟨(some 14), none, (Op.call { callee := (Callee.value (Operand.func 14)), args := #[(Operand.tmp 13)], argTypes := #[27] })⟩, ⟨(some 15), none, (Op.binOp BinOp.add 3 (Operand.tmp 12) (Operand.tmp 14) 3)⟩, ⟨(some 3), none, (Op.assign (Operand.tmp 15))⟩]))) (.run [⟨(some 16), none, (Op.binOp BinOp.add 3 (Operand.tmp 8) (Operand.const (Value.int IntKind.i64 1)) 3)⟩, ⟨(some 8), none, (Op.move (Operand.tmp 16))⟩]))))
def c13 : CC := (.seq (.run [⟨(some 2), none, (Op.assign (Operand.const (Value.int IntKind.i64 0)))⟩]) (.seq (.run [⟨(some 3), none, (Op.assign (Operand.const (Value.int IntKind.i64 0)))⟩]) (.seq (.seq (.run [⟨(some 6), none, (Op.move (Operand.tmp 0))⟩, ⟨(some 7), none, (Op.call { callee := (Callee.builtin Builtin.len), args := #[(Operand.tmp 6)], argTypes := #[22] })⟩, ⟨(some 8), none, (Op.move (Operand.const (Value.int IntKind.i64 0)))⟩]) (.block 0 (.loop ([(3, none), (6, none), (7, none), (8, none)], []) c13_0))) (.seq (.run [⟨(some 17), none, (Op.move (Operand.tmp 3))⟩, ⟨(some 2), none, (Op.assign (Operand.tmp 17))⟩]) .ret))))
def k13 : Nat → List (Nat × Option Nat) × List Nat := fun | 0 => ([(3, none), (6, none), (7, none), (8, none)], []) | _ => ([], [])
/- block.Size -/

def c14 : CC := (.seq (.run [⟨(some 1), none, (Op.box 27 (Operand.tmp 0))⟩, ⟨(some 2), none, (Op.assign (Operand.const (Value.int IntKind.i64 0)))⟩]) (.seq (.run [⟨(some 3), none, (Op.load 27 (Operand.tmp 1))⟩, ⟨(some 4), none, (Op.call { callee := (Callee.value (Operand.func 21)), args := #[(Operand.tmp 3)], argTypes := #[27] })⟩, ⟨(some 5), none, (Op.call { callee := (Callee.builtin Builtin.len), args := #[(Operand.tmp 4)], argTypes := #[39] })⟩, ⟨(some 2), none, (Op.assign (Operand.tmp 5))⟩]) .ret))
def k14 : Nat → List (Nat × Option Nat) × List Nat := fun _ => ([], [])
/- slices.Delete[[]api.Block,api.Block] -/

def c15 : CC := (.seq (.run [⟨(some 6), none, (Op.assign (Operand.const (Value.slice none 0 0)))⟩]) (.seq (.run [⟨(some 8), none, (Op.move (Operand.tmp 0))⟩, ⟨(some 9), none, (Op.move (Operand.tmp 1))⟩, ⟨(some 10), none, (Op.move (Operand.tmp 2))⟩, ⟨(some 11), none, (Op.move (Operand.tmp 0))⟩, ⟨(some 12), none, (Op.call { callee := (Callee.builtin Builtin.len), args := #[(Operand.tmp 11)], argTypes := #[22] })⟩, ⟨(some 13), none, (Op.slice 22 (Operand.tmp 8) (some (Operand.tmp 9)) (some (Operand.tmp 10)) (some (Operand.tmp 12)))⟩]) (.seq (.seq (.run [⟨(some 14), none, (Op.move (Operand.tmp 1))⟩, ⟨(some 15), none, (Op.move (Operand.tmp 2))⟩, ⟨(some 16), none, (Op.binOp BinOp.eql 3 (Operand.tmp 14) (Operand.tmp 15) 3)⟩]) (.cond (Operand.tmp 16) (.seq (.run [⟨(some 17), none, (Op.move (Operand.tmp 0))⟩, ⟨(some 6), none, (Op.assign (Operand.tmp 17))⟩]) .ret) .skip)) (.seq (.run [⟨(some 18), none, (Op.move (Operand.tmp 0))⟩, ⟨(some 19), none, (Op.call { callee := (Callee.builtin Builtin.len), args := #[(Operand.tmp 18)], argTypes := #[22] })⟩, ⟨(some 7), none, (Op.assign (Operand.tmp 19))⟩]) (.seq (.draw [⟨(some 20), none, (Op.move (Operand.tmp 0))⟩, ⟨(some 21), none, (Op.move (Operand.tmp 1))⟩, ⟨(some 22), none, (Op.slice 22 (Operand.tmp 20) none (some (Operand.tmp 21)) none)⟩, ⟨(some 23), none, (Op.move (Operand.tmp 0))⟩, ⟨(some 24), none, (Op.move (Operand.tmp 2))⟩, ⟨(some 25), none, (Op.slice 22 (Operand.tmp 23) (some (Operand.tmp 24)) none none)⟩, ⟨(some 26), none, (Op.call { callee := (Callee.builtin Builtin.append), args := #[(Operand.tmp 22), (Operand.tmp 25)], argTypes := #[22, 22] })⟩, ⟨(some 0), none, (Op.assign (Operand.tmp 26))⟩] [0, 0, 3, 0, 0, 24, 63, 127]) (.seq (.run [⟨(some 27), none, (Op.move (Operand.tmp 0))⟩, ⟨(some 28), none, (Op.move (Operand.tmp 0))⟩, ⟨(some 29), none, (Op.call { callee := (Callee.builtin Builtin.len), args := #[(Operand.tmp 28)], argTypes := #[22] })⟩, ⟨(some 30), none, (Op.move (Operand.tmp 7))⟩, ⟨(some 31), none, (Op.slice 22 (Operand.tmp 27) (some (Operand.tmp 29)) (some (Operand.tmp 30)) none)⟩, ⟨none, none, (Op.call { callee := (Callee.builtin Builtin.clear), args := #[(Operand.tmp 31)], argTypes := #[22] })⟩]) (.seq (.run [⟨(some 32), none, (Op.move (Operand.tmp 0))⟩, ⟨(some 6), none, (Op.assign (Operand.tmp 32))⟩]) .ret)))))))
def k15 : Nat → List (Nat × Option Nat) × List Nat := fun _ => ([], [])
/- gleaningref15.BlockBytes -/
def c16_0 : CC := (.seq (.seq (.run [⟨(some 21), none, (Op.move (Operand.tmp 5))⟩, ⟨(some 22), none, (Op.fieldAddr 27 (Operand.tmp 1) 3)⟩, ⟨(some 23), none, (Op.load 25 (Operand.tmp 22))⟩, ⟨(some 24), none, (Op.call { callee := (Callee.builtin Builtin.len), args := #[(Operand.tmp 23)], argTypes := #[25] })⟩, ⟨(some 25), none, (Op.binOp BinOp.lss 3 (Operand.tmp 21) (Operand.tmp 24) 3)⟩]) (.cond (Operand.tmp 25) .skip (.exit 0))) (.seq (.block 1 (.seq (.run [⟨(some 28), none, (Op.fieldAddr 27 (Operand.tmp 1) 3)⟩, ⟨(some 29), none, (Op.load 25 (Operand.tmp 28))⟩, ⟨(some 30), none, (Op.move (Operand.tmp 5))⟩, ⟨(some 31), none, (Op.indexAddr 25 (Operand.tmp 29) (Operand.tmp 30))⟩, ⟨(some 32), none, (Op.load 47 (Operand.tmp 31))⟩, ⟨(some 33), none, (Op.call { callee := (Callee.value (Operand.func 23)), args := #[(Operand.const (Value.slice none 0 0)), (Operand.tmp 32)], argTypes := #[39, 47] })⟩, ⟨(some 6), none, (Op.assign (Operand.tmp 33))⟩]) (.seq (.run [⟨(some 34), none, (Op.move (Operand.tmp 3))⟩, ⟨(some 35), none, (Op.fieldAddr 27 (Operand.tmp 1) 3)⟩, ⟨(some 36), none, (Op.load 25 (Operand.tmp 35))⟩, ⟨(some 37), none, (Op.move (Operand.tmp 5))⟩, ⟨(some 38), none, (Op.indexAddr 25 (Operand.tmp 36) (Operand.tmp 37))⟩, ⟨(some 39), none, (Op.fieldAddr 47 (Operand.tmp 38) 0)⟩, ⟨(some 40), none, (Op.load 44 (Operand.tmp 39))⟩, ⟨(some 41), none, (Op.call { callee := (Callee.value (Operand.func 25)), args := #[(Operand.tmp 34), (Operand.tmp 40)], argTypes := #[39, 44] })⟩, ⟨(some 42), none, (Op.move (Operand.tmp 6))⟩, ⟨(some 43), none, (Op.call { callee := (Callee.builtin Builtin.len), args := #[(Operand.tmp 42)], argTypes := #[39] })⟩, ⟨(some 44), none, (Op.convert 3 42 (Operand.tmp 43))⟩, ⟨(some 45), none, (Op.call { callee := (Callee.value (Operand.func 24)), args := #[(Operand.tmp 41), (Operand.tmp 44)], argTypes := #[39, 42] })⟩, ⟨(some 3), none, (Op.assign (Operand.tmp 45))⟩]) (.run [⟨(some 46), none, (Op.move (Operand.tmp 4))⟩, ⟨(some 47), none, (Op.move (Operand.tmp 6))⟩, ⟨(some 48), none, (Op.call { callee := (Callee.builtin Builtin.append), args := #[(Operand.tmp 46), (Operand.tmp 47)], argTypes := #[39, 39] })⟩, ⟨(some 4), none, (Op.assign (Operand.tmp 48))⟩])))) (.run [⟨(some 26), none, (Op.move (Operand.tmp 5))⟩, ⟨(some 27), none, (Op.binOp BinOp.add 3 (Operand.tmp 26) (Operand.const (Value.int IntKind.i64 1)) 3)⟩, ⟨(some 5), none, (Op.assign (Operand.tmp 27))⟩])))
def c16 : CC := (.seq (.run [⟨(some 1), none, (Op.box 27 (Operand.tmp 0))⟩, ⟨(some 2), none, (Op.assign (Operand.const (Value.slice none 0 0)))⟩]) (.seq (.seq (.run [⟨(some 7), none, (Op.load 27 (Operand.tmp 1))⟩, ⟨(some 8), none, (Op.call { callee := (Callee.value (Operand.func 10)), args := #[(Operand.tmp 7)], argTypes := #[27] })⟩, ⟨(some 9), none, (Op.unOp UnOp.not 4 (Operand.tmp 8))⟩]) (.cond (Operand.tmp 9) (.seq (.run [⟨(some 2), none, (Op.assign (Operand.const (Value.slice none 0 0)))⟩]) .ret) .skip)) (.seq (.run [⟨(some 10), none, (Op.fieldAddr 27 (Operand.tmp 1) 0)⟩, ⟨(some 11), none, (Op.load 3 (Operand.tmp 10))⟩, ⟨(some 12), none, (Op.fieldAddr 27 (Operand.tmp 1) 1)⟩, ⟨(some 13), none, (Op.load 3 (Operand.tmp 12))⟩, ⟨(some 14), none, (Op.fieldAddr 27 (Operand.tmp 1) 2)⟩, ⟨(some 15), none, (Op.load 3 (Operand.tmp 14))⟩, ⟨(some 16), none, (Op.fieldAddr 27 (Operand.tmp 1) 3)⟩, ⟨(some 17), none, (Op.load 25 (Operand.tmp 16))⟩, ⟨(some 18), none, (Op.call { callee := (Callee.builtin Builtin.len), args := #[(Operand.tmp 17)], argTypes := #[25] })⟩, ⟨(some 19), none, (Op.buildSlice 28 4 #[(0, (Operand.tmp 11)), (1, (Operand.tmp 13)), (2, (Operand.tmp 15)), (3, (Operand.tmp 18))])⟩, ⟨(some 20), none, (Op.call { callee := (Callee.value (Operand.func 22)), args := #[(Operand.const (Value.slice none 0 0)), (Operand.tmp 19)], argTypes := #[39, 28] })⟩, ⟨(some 3), none, (Op.assign (Operand.tmp 20))⟩]) (.seq (.run [⟨(some 4), none, (Op.assign (Operand.const (Value.slice none 0 0)))⟩]) (.seq (.seq (.run [⟨(some 5), none, (Op.assign (Operand.const (Value.int IntKind.i64 0)))⟩]) (.block 0 (.loop ([(1, none), (3, some 5), (4, some 5), (5, none)], []) c16_0))) (.seq (.run [⟨(some 49), none, (Op.move (Operand.tmp 3))⟩, ⟨(some 50), none, (Op.move (Operand.tmp 4))⟩, ⟨(some 51), none, (Op.call { callee := (Callee.builtin Builtin.append), args := #[(Operand.tmp 49), (Operand.tmp 50)], argTypes := #[39, 39] })⟩, ⟨(some 52), none, (Op.call { callee := (Callee.value (Operand.func 26)), args := #[(Operand.tmp 51)], argTypes := #[39] })⟩, ⟨(some 2), none, (Op.assign (Operand.tmp 52))⟩]) .ret))))))
def k16 : Nat → List (Nat × Option Nat) × List Nat := fun | 0 => ([(1, none), (3, some 5), (4, some 5), (5, none)], []) | _ => ([], [])
/- gleaningref15.RightEpisode -/
def c17_2 : CC := (.seq (.seq (.run [⟨(some 46), none, (Op.move (Operand.tmp 4))⟩, ⟨(some 47), none, (Op.move (Operand.tmp 3))⟩, ⟨(some 48), none, (Op.binOp BinOp.lss 3 (Operand.tmp 46) (Operand.tmp 47) 3)⟩]) (.cond (Operand.tmp 48) .skip (.exit 2))) (.seq (.block 3 (.seq (.draw [⟨(some 51), none, (Op.fieldAddr 47 (Operand.tmp 1) 4)⟩, ⟨(some 52), none, (Op.load 45 (Operand.tmp 51))⟩, ⟨(some 53), none, (Op.move (Operand.tmp 4))⟩, ⟨(some 54), none, (Op.indexAddr 45 (Operand.tmp 52) (Operand.tmp 53))⟩, ⟨(some 55), none, (Op.fieldAddr 59 (Operand.tmp 54) 1)⟩, ⟨(some 56), none, (Op.load 42 (Operand.tmp 55))⟩, ⟨(some 57), none, (Op.fieldAddr 47 (Operand.tmp 1) 4)⟩, ⟨(some 58), none, (Op.load 45 (Operand.tmp 57))⟩, ⟨(some 59), none, (Op.move (Operand.tmp 3))⟩, ⟨(some 60), none, (Op.indexAddr 45 (Operand.tmp 58) (Operand.tmp 59))⟩, ⟨(some 61), none, (Op.fieldAddr 59 (Operand.tmp 60) 1)⟩, ⟨(some 62), none, (Op.load 42 (Operand.tmp 61))⟩, ⟨(some 63), none, (Op.binOp BinOp.eql 42 (Operand.tmp 56) (Operand.tmp 62) 42)⟩] [0, 1, 0, 7, 15, 31, 0, 64, 0, 448, 960, 1984, 4095]) (.cond (Operand.tmp 63) (.seq (.run [⟨(some 2), none, (Op.assign (Operand.const (Value.bool false)))⟩]) .ret) .skip))) (.run [⟨(some 49), none, (Op.move (Operand.tmp 4))⟩, ⟨(some 50), none, (Op.binOp BinOp.add 3 (Operand.tmp 49) (Operand.const (Value.int IntKind.i64 1)) 3)⟩, ⟨(some 4), none, (Op.assign (Operand.tmp 50))⟩])))
def c17_0 : CC := (.seq (.seq (.run [⟨(some 21), none, (Op.move (Operand.tmp 3))⟩, ⟨(some 22), none, (Op.fieldAddr 47 (Operand.tmp 1) 4)⟩, ⟨(some 23), none, (Op.load 45 (Operand.tmp 22))⟩, ⟨(some 24), none, (Op.call { callee := (Callee.builtin Builtin.len), args := #[(Operand.tmp 23)], argTypes := #[45] })⟩, ⟨(some 25), none, (Op.binOp BinOp.lss 3 (Operand.tmp 21) (Operand.tmp 24) 3)⟩]) (.cond (Operand.tmp 25) .skip (.exit 0))) (.seq (.block 1 (.seq (.seq (.draw [⟨(some 28), none, (Op.fieldAddr 47 (Operand.tmp 1) 4)⟩, ⟨(some 29), none, (Op.load 45 (Operand.tmp 28))⟩, ⟨(some 30), none, (Op.move (Operand.tmp 3))⟩, ⟨(some 31), none, (Op.indexAddr 45 (Operand.tmp 29) (Operand.tmp 30))⟩, ⟨(some 32), none, (Op.load 59 (Operand.tmp 31))⟩, ⟨(some 33), none, (Op.call { callee := (Callee.value (Operand.func 27)), args := #[(Operand.tmp 32)], argTypes := #[59] })⟩, ⟨(some 34), none, (Op.unOp UnOp.not 4 (Operand.tmp 33))⟩, ⟨(some 35), none, (Op.move (Operand.tmp 34))⟩, ⟨(some 36), (some (35, false)), (Op.fieldAddr 47 (Operand.tmp 1) 4)⟩, ⟨(some 37), (some (35, false)), (Op.load 45 (Operand.tmp 36))⟩, ⟨(some 38), (some (35, false)), (Op.move (Operand.tmp 3))⟩, ⟨(some 39), (some (35, false)), (Op.indexAddr 45 (Operand.tmp 37) (Operand.tmp 38))⟩, ⟨(some 40), (some (35, false)), (Op.fieldAddr 59 (Operand.tmp 39) 0)⟩, ⟨(some 41), (some (35, false)), (Op.load 44 (Operand.tmp 40))⟩, ⟨(some 42), (some (35, false)), (Op.fieldAddr 47 (Operand.tmp 1) 0)⟩, ⟨(some 43), (some (35, false)), (Op.load 44 (Operand.tmp 42))⟩, ⟨(some 44), (some (35, false)), (Op.binOp BinOp.neq 44 (Operand.tmp 41) (Operand.tmp 43) 44)⟩, ⟨(some 45), none, (Op.pick (Operand.tmp 35) (Operand.const (Value.bool true)) (Operand.tmp 44))⟩] [0, 1, 0, 7, 15, 31, 63, 127, 255, 511, 255, 2047, 4095, 8191, 255, 16639, 65535, 131071]) (.cond (Operand.tmp 45) (.seq (.run [⟨(some 2), none, (Op.assign (Operand.const (Value.bool false)))⟩]) .ret) .skip)) (.seq (.run [⟨(some 4), none, (Op.assign (Operand.const (Value.int IntKind.i64 0)))⟩]) (.block 2 (.loop ([(1, none), (3, none), (4, none)], []) c17_2))))) (.run [⟨(some 26), none, (Op.move (Operand.tmp 3))⟩, ⟨(some 27), none, (Op.binOp BinOp.add 3 (Operand.tmp 26) (Operand.const (Value.int IntKind.i64 1)) 3)⟩, ⟨(some 3), none, (Op.assign (Operand.tmp 27))⟩])))
def c17 : CC := (.seq (.run [⟨(some 1), none, (Op.box 47 (Operand.tmp 0))⟩, ⟨(some 2), none, (Op.assign (Operand.const (Value.bool false)))⟩]) (.seq (.seq (.run [⟨(some 5), none, (Op.fieldAddr 47 (Operand.tmp 1) 1)⟩, ⟨(some 6), none, (Op.load 3 (Operand.tmp 5))⟩, ⟨(some 7), none, (Op.call { callee := (Callee.value (Operand.func 19)), args := #[(Operand.tmp 6)], argTypes := #[3] })⟩, ⟨(some 8), none, (Op.unOp UnOp.not 4 (Operand.tmp 7))⟩, ⟨(some 9), none, (Op.move (Operand.tmp 8))⟩, ⟨(some 10), (some (9, false)), (Op.fieldAddr 47 (Operand.tmp 1) 2)⟩, ⟨(some 11), (some (9, false)), (Op.load 3 (Operand.tmp 10))⟩, ⟨(some 12), (some (9, false)), (Op.call { callee := (Callee.value (Operand.func 19)), args := #[(Operand.tmp 11)], argTypes := #[3] })⟩, ⟨(some 13), (some (9, false)), (Op.unOp UnOp.not 4 (Operand.tmp 12))⟩, ⟨(some 14), none, (Op.pick (Operand.tmp 9) (Operand.const (Value.bool true)) (Operand.tmp 13))⟩, ⟨(some 15), none, (Op.move (Operand.tmp 14))⟩, ⟨(some 16), (some (15, false)), (Op.fieldAddr 47 (Operand.tmp 1) 4)⟩, ⟨(some 17), (some (15, false)), (Op.load 45 (Operand.tmp 16))⟩, ⟨(some 18), (some (15, false)), (Op.call { callee := (Callee.builtin Builtin.len), args := #[(Operand.tmp 17)], argTypes := #[45] })⟩, ⟨(some 19), (some (15, false)), (Op.binOp BinOp.eql 3 (Operand.tmp 18) (Operand.const (Value.int IntKind.i64 0)) 3)⟩, ⟨(some 20), none, (Op.pick (Operand.tmp 15) (Operand.const (Value.bool true)) (Operand.tmp 19))⟩]) (.cond (Operand.tmp 20) (.seq (.run [⟨(some 2), none, (Op.assign (Operand.const (Value.bool false)))⟩]) .ret) .skip)) (.seq (.seq (.run [⟨(some 3), none, (Op.assign (Operand.const (Value.int IntKind.i64 0)))⟩]) (.block 0 (.loop ([(1, none), (3, none)], []) c17_0))) (.seq (.run [⟨(some 2), none, (Op.assign (Operand.const (Value.bool true)))⟩]) .ret))))
def k17 : Nat → List (Nat × Option Nat) × List Nat := fun | 0 => ([(1, none), (3, none)], []) | 2 => ([(1, none), (3, none), (4, none)], []) | _ => ([], [])
/- gleaningref15.LessTrace -/

def c18 : CC := (.seq (.run [⟨(some 2), none, (Op.box 44 (Operand.tmp 0))⟩, ⟨(some 3), none, (Op.box 44 (Operand.tmp 1))⟩, ⟨(some 4), none, (Op.assign (Operand.const (Value.bool false)))⟩]) (.seq (.run [⟨(some 5), none, (Op.fieldAddr 44 (Operand.tmp 2) 0)⟩, ⟨(some 6), none, (Op.load 42 (Operand.tmp 5))⟩, ⟨(some 7), none, (Op.fieldAddr 44 (Operand.tmp 3) 0)⟩, ⟨(some 8), none, (Op.load 42 (Operand.tmp 7))⟩, ⟨(some 9), none, (Op.binOp BinOp.lss 42 (Operand.tmp 6) (Operand.tmp 8) 42)⟩, ⟨(some 10), none, (Op.move (Operand.tmp 9))⟩, ⟨(some 11), (some (10, false)), (Op.fieldAddr 44 (Operand.tmp 2) 0)⟩, ⟨(some 12), (some (10, false)), (Op.load 42 (Operand.tmp 11))⟩, ⟨(some 13), (some (10, false)), (Op.fieldAddr 44 (Operand.tmp 3) 0)⟩, ⟨(some 14), (some (10, false)), (Op.load 42 (Operand.tmp 13))⟩, ⟨(some 15), (some (10, false)), (Op.binOp BinOp.eql 42 (Operand.tmp 12) (Operand.tmp 14) 42)⟩, ⟨(some 16), (some (10, false)), (Op.move (Operand.tmp 15))⟩, ⟨(some 17), (some (16, true)), (Op.fieldAddr 44 (Operand.tmp 2) 1)⟩, ⟨(some 18), (some (16, true)), (Op.load 42 (Operand.tmp 17))⟩, ⟨(some 19), (some (16, true)), (Op.fieldAddr 44 (Operand.tmp 3) 1)⟩, ⟨(some 20), (some (16, true)), (Op.load 42 (Operand.tmp 19))⟩, ⟨(some 21), (some (16, true)), (Op.binOp BinOp.lss 42 (Operand.tmp 18) (Operand.tmp 20) 42)⟩, ⟨(some 22), (some (10, false)), (Op.pick (Operand.tmp 16) (Operand.tmp 21) (Operand.const (Value.bool false)))⟩, ⟨(some 23), none, (Op.pick (Operand.tmp 10) (Operand.const (Value.bool true)) (Operand.tmp 22))⟩, ⟨(some 4), none, (Op.assign (Operand.tmp 23))⟩]) .ret))
def k18 : Nat → List (Nat × Option Nat) × List Nat := fun _ => ([], [])
/- gleaningref15.count -/

def c19 : CC := (.seq (.run [⟨(some 2), none, (Op.assign (Operand.const (Value.bool false)))⟩]) (.seq (.run [⟨(some 3), none, (Op.move (Operand.tmp 0))⟩, ⟨(some 4), none, (Op.binOp BinOp.geq 3 (Operand.tmp 3) (Operand.const (Value.int IntKind.i64 0)) 3)⟩, ⟨(some 5), none, (Op.move (Operand.tmp 4))⟩, ⟨(some 6), (some (5, true)), (Op.move (Operand.tmp 0))⟩, ⟨(some 7), (some (5, true)), (Op.binOp BinOp.leq 3 (Operand.tmp 6) (Operand.const (Value.int IntKind.i64 1099511627776)) 3)⟩, ⟨(some 8), none, (Op.pick (Operand.tmp 5) (Operand.tmp 7) (Operand.const (Value.bool false)))⟩, ⟨(some 2), none, (Op.assign (Operand.tmp 8))⟩]) .ret))
def k19 : Nat → List (Nat × Option Nat) × List Nat := fun _ => ([], [])
/- gleaninglaw3.FewAll -/
def c20_0 : CC := (.seq (.seq (.run [⟨(some 7), none, (Op.move (Operand.tmp 3))⟩, ⟨(some 8), none, (Op.move (Operand.tmp 0))⟩, ⟨(some 9), none, (Op.call { callee := (Callee.builtin Builtin.len), args := #[(Operand.tmp 8)], argTypes := #[45] })⟩, ⟨(some 10), none, (Op.binOp BinOp.lss 3 (Operand.tmp 7) (Operand.tmp 9) 3)⟩]) (.cond (Operand.tmp 10) .skip (.exit 0))) (.seq (.block 1 (.seq (.run [⟨(some 13), none, (Op.move (Operand.tmp 0))⟩, ⟨(some 14), none, (Op.move (Operand.tmp 3))⟩, ⟨(some 15), none, (Op.indexAddr 45 (Operand.tmp 13) (Operand.tmp 14))⟩, ⟨(some 16), none, (Op.load 59 (Operand.tmp 15))⟩, ⟨(some 17), none, (Op.call { callee := (Callee.value (Operand.func 28)), args := #[(Operand.tmp 16)], argTypes := #[59] })⟩, ⟨(some 18), none, (Op.unOp UnOp.not 4 (Operand.tmp 17))⟩]) (.cond (Operand.tmp 18) (.seq (.run [⟨(some 2), none, (Op.assign (Operand.const (Value.bool false)))⟩]) .ret) .skip))) (.run [⟨(some 11), none, (Op.move (Operand.tmp 3))⟩, ⟨(some 12), none, (Op.binOp BinOp.add 3 (Operand.tmp 11) (Operand.const (Value.int IntKind.i64 1)) 3)⟩, ⟨(some 3), none, (Op.assign (Operand.tmp 12))⟩])))
def c20 : CC := (.seq (.run [⟨(some 2), none, (Op.assign (Operand.const (Value.bool false)))⟩]) (.seq (.seq (.run [⟨(some 4), none, (Op.move (Operand.tmp 0))⟩, ⟨(some 5), none, (Op.call { callee := (Callee.builtin Builtin.len), args := #[(Operand.tmp 4)], argTypes := #[45] })⟩, ⟨(some 6), none, (Op.binOp BinOp.gtr 3 (Operand.tmp 5) (Operand.const (Value.int IntKind.i64 60)) 3)⟩]) (.cond (Operand.tmp 6) (.seq (.run [⟨(some 2), none, (Op.assign (Operand.const (Value.bool false)))⟩]) .ret) .skip)) (.seq (.seq (.run [⟨(some 3), none, (Op.assign (Operand.const (Value.int IntKind.i64 0)))⟩]) (.block 0 (.loop ([(0, none), (3, none)], []) c20_0))) (.seq (.run [⟨(some 2), none, (Op.assign (Operand.const (Value.bool true)))⟩]) .ret))))
def k20 : Nat → List (Nat × Option Nat) × List Nat := fun | 0 => ([(0, none), (3, none)], []) | _ => ([], [])
/- block.Bytes -/
def c21_0 : CC := (.seq (.run [⟨(some 31), none, (Op.binOp BinOp.lss 3 (Operand.tmp 30) (Operand.tmp 29) 3)⟩]) (.seq (.cond (Operand.tmp 31) .skip (.exit 0)) (.seq (.block 1 (.seq (.run [⟨(some 32), none, (Op.indexAddr 25 (Operand.tmp 28) (Operand.tmp 30))⟩, ⟨(some 33), none, (Op.load 47 (Operand.tmp 32))⟩, ⟨(some 6), none, (Op.alloc 47)⟩, ⟨none, none, (Op.store 47 (Operand.tmp 6) (Operand.tmp 33))⟩]) (.seq (.run [⟨(some 34), none, (Op.move (Operand.tmp 4))⟩, ⟨(some 35), none, (Op.nilCheck (Operand.tmp 34))⟩, ⟨(some 36), none, (Op.fieldAddr 62 (Operand.tmp 35) 0)⟩, ⟨(some 37), none, (Op.load 39 (Operand.tmp 36))⟩, ⟨(some 38), none, (Op.call { callee := (Callee.builtin Builtin.len), args := #[(Operand.tmp 37)], argTypes := #[39] })⟩, ⟨(some 7), none, (Op.assign (Operand.tmp 38))⟩]) (.seq (.run [⟨(some 39), none, (Op.move (Operand.tmp 4))⟩, ⟨(some 40), none, (Op.load 47 (Operand.tmp 6))⟩, ⟨(some 41), none, (Op.call { callee := (Callee.value (Operand.func 31)), args := #[(Operand.tmp 39), (Operand.tmp 40)], argTypes := #[60, 47] })⟩]) (.seq (.run [⟨(some 42), none, (Op.move (Operand.tmp 3))⟩, ⟨(some 43), none, (Op.fieldAddr 47 (Operand.tmp 6) 0)⟩, ⟨(some 44), none, (Op.fieldAddr 44 (Operand.tmp 43) 0)⟩, ⟨(some 45), none, (Op.load 42 (Operand.tmp 44))⟩, ⟨(some 46), none, (Op.fieldAddr 47 (Operand.tmp 6) 0)⟩, ⟨(some 47), none, (Op.fieldAddr 44 (Operand.tmp 46) 1)⟩, ⟨(some 48), none, (Op.load 42 (Operand.tmp 47))⟩, ⟨(some 49), none, (Op.buildSlice 81 2 #[(0, (Operand.tmp 45)), (1, (Operand.tmp 48))])⟩, ⟨(some 50), none, (Op.call { callee := (Callee.value (Operand.func 32)), args := #[(Operand.tmp 42), (Operand.tmp 49)], argTypes := #[60, 81] })⟩]) (.run [⟨(some 51), none, (Op.move (Operand.tmp 3))⟩, ⟨(some 52), none, (Op.move (Operand.tmp 4))⟩, ⟨(some 53), none, (Op.nilCheck (Operand.tmp 52))⟩, ⟨(some 54), none, (Op.fieldAddr 62 (Operand.tmp 53) 0)⟩, ⟨(some 55), none, (Op.load 39 (Operand.tmp 54))⟩, ⟨(some 56), none, (Op.call { callee := (Callee.builtin Builtin.len), args := #[(Operand.tmp 55)], argTypes := #[39] })⟩, ⟨(some 57), none, (Op.move (Operand.tmp 7))⟩, ⟨(some 58), none, (Op.binOp BinOp.sub 3 (Operand.tmp 56) (Operand.tmp 57) 3)⟩, ⟨(some 59), none, (Op.buildSlice 28 1 #[(0, (Operand.tmp 58))])⟩, ⟨(some 60), none, (Op.call { callee := (Callee.value (Operand.func 30)), args := #[(Operand.tmp 51), (Operand.tmp 59)], argTypes := #[60, 28] })⟩])))))) (.run [⟨(some 61), none, (Op.binOp BinOp.add 3 (Operand.tmp 30) (Operand.const (Value.int IntKind.i64 1)) 3)⟩, ⟨(some 30), none, (Op.move (Operand.tmp 61))⟩]))))
def c21 : CC := (.seq (.run [⟨(some 1), none, (Op.box 27 (Operand.tmp 0))⟩, ⟨(some 2), none, (Op.assign (Operand.const (Value.slice none 0 0)))⟩]) (.seq (.seq (.run [⟨(some 8), none, (Op.load 27 (Operand.tmp 1))⟩, ⟨(some 9), none, (Op.call { callee := (Callee.value (Operand.func 29)), args := #[(Operand.tmp 8)], argTypes := #[27] })⟩, ⟨(some 10), none, (Op.unOp UnOp.not 4 (Operand.tmp 9))⟩]) (.cond (Operand.tmp 10) (.seq (.run [⟨(some 2), none, (Op.assign (Operand.const (Value.slice none 0 0)))⟩]) .ret) .skip)) (.seq (.run [⟨(some 11), none, (Op.build 62 #[])⟩, ⟨(some 12), none, (Op.box 62 (Operand.tmp 11))⟩, ⟨(some 13), none, (Op.build 62 #[])⟩, ⟨(some 14), none, (Op.box 62 (Operand.tmp 13))⟩, ⟨(some 3), none, (Op.assign (Operand.tmp 12))⟩, ⟨(some 4), none, (Op.assign (Operand.tmp 14))⟩]) (.seq (.run [⟨(some 15), none, (Op.move (Operand.tmp 3))⟩, ⟨(some 16), none, (Op.fieldAddr 27 (Operand.tmp 1) 0)⟩, ⟨(some 17), none, (Op.load 3 (Operand.tmp 16))⟩, ⟨(some 18), none, (Op.fieldAddr 27 (Operand.tmp 1) 1)⟩, ⟨(some 19), none, (Op.load 3 (Operand.tmp 18))⟩, ⟨(some 20), none, (Op.fieldAddr 27 (Operand.tmp 1) 2)⟩, ⟨(some 21), none, (Op.load 3 (Operand.tmp 20))⟩, ⟨(some 22), none, (Op.fieldAddr 27 (Operand.tmp 1) 3)⟩, ⟨(some 23), none, (Op.load 25 (Operand.tmp 22))⟩, ⟨(some 24), none, (Op.call { callee := (Callee.builtin Builtin.len), args := #[(Operand.tmp 23)], argTypes := #[25] })⟩, ⟨(some 25), none, (Op.buildSlice 28 4 #[(0, (Operand.tmp 17)), (1, (Operand.tmp 19)), (2, (Operand.tmp 21)), (3, (Operand.tmp 24))])⟩, ⟨(some 26), none, (Op.call { callee := (Callee.value (Operand.func 30)), args := #[(Operand.tmp 15), (Operand.tmp 25)], argTypes := #[60, 28] })⟩]) (.seq (.seq (.run [⟨(some 27), none, (Op.fieldAddr 27 (Operand.tmp 1) 3)⟩, ⟨(some 28), none, (Op.load 25 (Operand.tmp 27))⟩, ⟨(some 29), none, (Op.call { callee := (Callee.builtin Builtin.len), args := #[(Operand.tmp 28)], argTypes := #[25] })⟩, ⟨(some 30), none, (Op.move (Operand.const (Value.int IntKind.i64 0)))⟩]) (.block 0 (.loop ([(3, none), (4, none), (28, none), (29, none), (30, none)], []) c21_0))) (.seq (.draw [⟨(some 62), none, (Op.move (Operand.tmp 3))⟩, ⟨(some 63), none, (Op.nilCheck (Operand.tmp 62))⟩, ⟨(some 64), none, (Op.fieldAddr 62 (Operand.tmp 63) 0)⟩, ⟨(some 65), none, (Op.load 39 (Operand.tmp 64))⟩, ⟨(some 66), none, (Op.move (Operand.tmp 4))⟩, ⟨(some 67), none, (Op.nilCheck (Operand.tmp 66))⟩, ⟨(some 68), none, (Op.fieldAddr 62 (Operand.tmp 67) 0)⟩, ⟨(some 69), none, (Op.load 39 (Operand.tmp 68))⟩, ⟨(some 70), none, (Op.call { callee := (Callee.builtin Builtin.append), args := #[(Operand.tmp 65), (Operand.tmp 69)], argTypes := #[39, 39] })⟩, ⟨(some 71), none, (Op.call { callee := (Callee.value (Operand.func 33)), args := #[(Operand.tmp 70)], argTypes := #[39] })⟩, ⟨(some 2), none, (Op.assign (Operand.tmp 71))⟩] [0, 1, 3, 7, 0, 16, 48, 112, 255, 511, 1023]) .ret))))))
def k21 : Nat → List (Nat × Option Nat) × List Nat := fun | 0 => ([(3, none), (4, none), (28, none), (29, none), (30, none)], []) | _ => ([], [])
/- gleaningref15.puts -/
def c22_0 : CC := (.seq (.seq (.run [⟨(some 6), none, (Op.move (Operand.tmp 5))⟩, ⟨(some 7), none, (Op.move (Operand.tmp 1))⟩, ⟨(some 8), none, (Op.call { callee := (Callee.builtin Builtin.len), args := #[(Operand.tmp 7)], argTypes := #[28] })⟩, ⟨(some 9), none, (Op.binOp BinOp.lss 3 (Operand.tmp 6) (Operand.tmp 8) 3)⟩]) (.cond (Operand.tmp 9) .skip (.exit 0))) (.seq (.block 1 (.run [⟨(some 12), none, (Op.move (Operand.tmp 0))⟩, ⟨(some 13), none, (Op.move (Operand.tmp 1))⟩, ⟨(some 14), none, (Op.move (Operand.tmp 5))⟩, ⟨(some 15), none, (Op.indexAddr 28 (Operand.tmp 13) (Operand.tmp 14))⟩, ⟨(some 16), none, (Op.load 3 (Operand.tmp 15))⟩, ⟨(some 17), none, (Op.convert 3 42 (Operand.tmp 16))⟩, ⟨(some 18), none, (Op.call { callee := (Callee.value (Operand.func 24)), args := #[(Operand.tmp 12), (Operand.tmp 17)], argTypes := #[39, 42] })⟩, ⟨(some 0), none, (Op.assign (Operand.tmp 18))⟩])) (.run [⟨(some 10), none, (Op.move (Operand.tmp 5))⟩, ⟨(some 11), none, (Op.binOp BinOp.add 3 (Operand.tmp 10) (Operand.const (Value.int IntKind.i64 1)) 3)⟩, ⟨(some 5), none, (Op.assign (Operand.tmp 11))⟩])))
def c22 : CC := (.seq (.run [⟨(some 4), none, (Op.assign (Operand.const (Value.slice none 0 0)))⟩]) (.seq (.seq (.run [⟨(some 5), none, (Op.assign (Operand.const (Value.int IntKind.i64 0)))⟩]) (.block 0 (.loop ([(0, some 5), (1, none), (5, none)], []) c22_0))) (.seq (.run [⟨(some 19), none, (Op.move (Operand.tmp 0))⟩, ⟨(some 4), none, (Op.assign (Operand.tmp 19))⟩]) .ret)))
def k22 : Nat → List (Nat × Option Nat) × List Nat := fun | 0 => ([(0, some 5), (1, none), (5, none)], []) | _ => ([], [])
/- gleaningref15.body -/
def c23_0 : CC := (.seq (.seq (.run [⟨(some 25), none, (Op.move (Operand.tmp 5))⟩, ⟨(some 26), none, (Op.fieldAddr 47 (Operand.tmp 3) 4)⟩, ⟨(some 27), none, (Op.load 45 (Operand.tmp 26))⟩, ⟨(some 28), none, (Op.call { callee := (Callee.builtin Builtin.len), args := #[(Operand.tmp 27)], argTypes := #[45] })⟩, ⟨(some 29), none, (Op.binOp BinOp.lss 3 (Operand.tmp 25) (Operand.tmp 28) 3)⟩]) (.cond (Operand.tmp 29) .skip (.exit 0))) (.seq (.block 1 (.run [⟨(some 32), none, (Op.move (Operand.tmp 0))⟩, ⟨(some 33), none, (Op.fieldAddr 47 (Operand.tmp 3) 4)⟩, ⟨(some 34), none, (Op.load 45 (Operand.tmp 33))⟩, ⟨(some 35), none, (Op.move (Operand.tmp 5))⟩, ⟨(some 36), none, (Op.indexAddr 45 (Operand.tmp 34) (Operand.tmp 35))⟩, ⟨(some 37), none, (Op.load 59 (Operand.tmp 36))⟩, ⟨(some 38), none, (Op.call { callee := (Callee.value (Operand.func 35)), args := #[(Operand.tmp 32), (Operand.tmp 37)], argTypes := #[39, 59] })⟩, ⟨(some 0), none, (Op.assign (Operand.tmp 38))⟩])) (.run [⟨(some 30), none, (Op.move (Operand.tmp 5))⟩, ⟨(some 31), none, (Op.binOp BinOp.add 3 (Operand.tmp 30) (Operand.const (Value.int IntKind.i64 1)) 3)⟩, ⟨(some 5), none, (Op.assign (Operand.tmp 31))⟩])))
def c23 : CC := (.seq (.run [⟨(some 3), none, (Op.box 47 (Operand.tmp 1))⟩, ⟨(some 4), none, (Op.assign (Operand.const (Value.slice none 0 0)))⟩]) (.seq (.draw [⟨(some 6), none, (Op.move (Operand.tmp 0))⟩, ⟨(some 7), none, (Op.fieldAddr 47 (Operand.tmp 3) 1)⟩, ⟨(some 8), none, (Op.load 3 (Operand.tmp 7))⟩, ⟨(some 9), none, (Op.convert 3 42 (Operand.tmp 8))⟩, ⟨(some 10), none, (Op.call { callee := (Callee.value (Operand.func 24)), args := #[(Operand.tmp 6), (Operand.tmp 9)], argTypes := #[39, 42] })⟩, ⟨(some 11), none, (Op.fieldAddr 47 (Operand.tmp 3) 2)⟩, ⟨(some 12), none, (Op.load 3 (Operand.tmp 11))⟩, ⟨(some 13), none, (Op.convert 3 42 (Operand.tmp 12))⟩, ⟨(some 14), none, (Op.call { callee := (Callee.value (Operand.func 24)), args := #[(Operand.tmp 10), (Operand.tmp 13)], argTypes := #[39, 42] })⟩, ⟨(some 0), none, (Op.assign (Operand.tmp 14))⟩] [0, 0, 2, 6, 15, 0, 32, 96, 255, 511]) (.seq (.draw [⟨(some 15), none, (Op.move (Operand.tmp 0))⟩, ⟨(some 16), none, (Op.fieldAddr 47 (Operand.tmp 3) 3)⟩, ⟨(some 17), none, (Op.load 4 (Operand.tmp 16))⟩, ⟨(some 18), none, (Op.call { callee := (Callee.value (Operand.func 34)), args := #[(Operand.tmp 17)], argTypes := #[4] })⟩, ⟨(some 19), none, (Op.call { callee := (Callee.value (Operand.func 24)), args := #[(Operand.tmp 15), (Operand.tmp 18)], argTypes := #[39, 42] })⟩, ⟨(some 20), none, (Op.fieldAddr 47 (Operand.tmp 3) 4)⟩, ⟨(some 21), none, (Op.load 45 (Operand.tmp 20))⟩, ⟨(some 22), none, (Op.call { callee := (Callee.builtin Builtin.len), args := #[(Operand.tmp 21)], argTypes := #[45] })⟩, ⟨(some 23), none, (Op.convert 3 42 (Operand.tmp 22))⟩, ⟨(some 24), none, (Op.call { callee := (Callee.value (Operand.func 24)), args := #[(Operand.tmp 19), (Operand.tmp 23)], argTypes := #[39, 42] })⟩, ⟨(some 0), none, (Op.assign (Operand.tmp 24))⟩] [0, 0, 2, 6, 15, 0, 32, 96, 224, 511, 1023]) (.seq (.seq (.run [⟨(some 5), none, (Op.assign (Operand.const (Value.int IntKind.i64 0)))⟩]) (.block 0 (.loop ([(0, some 5), (3, none), (5, none)], []) c23_0))) (.seq (.run [⟨(some 39), none, (Op.move (Operand.tmp 0))⟩, ⟨(some 4), none, (Op.assign (Operand.tmp 39))⟩]) .ret)))))
def k23 : Nat → List (Nat × Option Nat) × List Nat := fun | 0 => ([(0, some 5), (3, none), (5, none)], []) | _ => ([], [])
/- gleaningref1.Put -/
def c24_0 : CC := (.seq (.seq (.run [⟨(some 5), none, (Op.move (Operand.tmp 1))⟩, ⟨(some 6), none, (Op.binOp BinOp.gtr 42 (Operand.tmp 5) (Operand.const (Value.int IntKind.u64 127)) 42)⟩]) (.cond (Operand.tmp 6) .skip (.exit 0))) (.block 1 (.seq (.run [⟨(some 7), none, (Op.move (Operand.tmp 0))⟩, ⟨(some 8), none, (Op.move (Operand.tmp 1))⟩, ⟨(some 9), none, (Op.binOp BinOp.and 42 (Operand.tmp 8) (Operand.const (Value.int IntKind.u64 127)) 42)⟩, ⟨(some 10), none, (Op.convert 42 5 (Operand.tmp 9))⟩, ⟨(some 11), none, (Op.binOp BinOp.or 5 (Operand.tmp 10) (Operand.const (Value.int IntKind.u8 128)) 5)⟩, ⟨(some 12), none, (Op.buildSlice 39 1 #[(0, (Operand.tmp 11))])⟩, ⟨(some 13), none, (Op.call { callee := (Callee.builtin Builtin.append), args := #[(Operand.tmp 7), (Operand.tmp 12)], argTypes := #[39, 39] })⟩, ⟨(some 0), none, (Op.assign (Operand.tmp 13))⟩]) (.run [⟨(some 14), none, (Op.move (Operand.tmp 1))⟩, ⟨(some 15), none, (Op.binOp BinOp.shr 42 (Operand.tmp 14) (Operand.const (Value.int IntKind.u64 7)) 68)⟩, ⟨(some 1), none, (Op.assign (Operand.tmp 15))⟩]))))
def c24 : CC := (.seq (.run [⟨(some 4), none, (Op.assign (Operand.const (Value.slice none 0 0)))⟩]) (.seq (.block 0 (.loop ([(0, some 5), (1, none)], []) c24_0)) (.seq (.run [⟨(some 16), none, (Op.move (Operand.tmp 0))⟩, ⟨(some 17), none, (Op.move (Operand.tmp 1))⟩, ⟨(some 18), none, (Op.convert 42 5 (Operand.tmp 17))⟩, ⟨(some 19), none, (Op.buildSlice 39 1 #[(0, (Operand.tmp 18))])⟩, ⟨(some 20), none, (Op.call { callee := (Callee.builtin Builtin.append), args := #[(Operand.tmp 16), (Operand.tmp 19)], argTypes := #[39, 39] })⟩, ⟨(some 4), none, (Op.assign (Operand.tmp 20))⟩]) .ret)))
def k24 : Nat → List (Nat × Option Nat) × List Nat := fun | 0 => ([(0, some 5), (1, none)], []) | _ => ([], [])
/- gleaningref15.trace -/

def c25 : CC := (.seq (.run [⟨(some 3), none, (Op.box 44 (Operand.tmp 1))⟩, ⟨(some 4), none, (Op.assign (Operand.const (Value.slice none 0 0)))⟩]) (.seq (.draw [⟨(some 5), none, (Op.move (Operand.tmp 0))⟩, ⟨(some 6), none, (Op.fieldAddr 44 (Operand.tmp 3) 0)⟩, ⟨(some 7), none, (Op.load 42 (Operand.tmp 6))⟩, ⟨(some 8), none, (Op.call { callee := (Callee.value (Operand.func 24)), args := #[(Operand.tmp 5), (Operand.tmp 7)], argTypes := #[39, 42] })⟩, ⟨(some 9), none, (Op.fieldAddr 44 (Operand.tmp 3) 1)⟩, ⟨(some 10), none, (Op.load 42 (Operand.tmp 9))⟩, ⟨(some 11), none, (Op.call { callee := (Callee.value (Operand.func 24)), args := #[(Operand.tmp 8), (Operand.tmp 10)], argTypes := #[39, 42] })⟩, ⟨(some 4), none, (Op.assign (Operand.tmp 11))⟩] [0, 0, 2, 7, 0, 16, 63, 127]) .ret))
def k25 : Nat → List (Nat × Option Nat) × List Nat := fun _ => ([], [])
/- gleaningref1.Sealed -/

def c26 : CC := (.seq (.run [⟨(some 2), none, (Op.assign (Operand.const (Value.slice none 0 0)))⟩]) (.seq (.run [⟨(some 3), none, (Op.move (Operand.tmp 0))⟩, ⟨(some 4), none, (Op.call { callee := (Callee.builtin Builtin.append), args := #[(Operand.const (Value.slice none 0 0)), (Operand.tmp 3)], argTypes := #[39, 39] })⟩, ⟨(some 5), none, (Op.move (Operand.tmp 0))⟩, ⟨(some 6), none, (Op.call { callee := (Callee.value (Operand.func 37)), args := #[(Operand.tmp 5)], argTypes := #[39] })⟩, ⟨(some 7), none, (Op.call { callee := (Callee.value (Operand.func 36)), args := #[(Operand.tmp 6)], argTypes := #[70] })⟩, ⟨(some 8), none, (Op.call { callee := (Callee.builtin Builtin.append), args := #[(Operand.tmp 4), (Operand.tmp 7)], argTypes := #[39, 39] })⟩, ⟨(some 2), none, (Op.assign (Operand.tmp 8))⟩]) .ret))
def k26 : Nat → List (Nat × Option Nat) × List Nat := fun _ => ([], [])
/- gleaningref1.RightSpan -/
def c27_2 : CC := (.seq (.seq (.run [⟨(some 61), none, (Op.move (Operand.tmp 4))⟩, ⟨(some 62), none, (Op.move (Operand.tmp 3))⟩, ⟨(some 63), none, (Op.binOp BinOp.lss 3 (Operand.tmp 61) (Operand.tmp 62) 3)⟩]) (.cond (Operand.tmp 63) .skip (.exit 2))) (.seq (.block 3 (.seq (.draw [⟨(some 66), none, (Op.fieldAddr 59 (Operand.tmp 1) 8)⟩, ⟨(some 67), none, (Op.load 57 (Operand.tmp 66))⟩, ⟨(some 68), none, (Op.move (Operand.tmp 4))⟩, ⟨(some 69), none, (Op.indexAddr 57 (Operand.tmp 67) (Operand.tmp 68))⟩, ⟨(some 70), none, (Op.fieldAddr 74 (Operand.tmp 69) 0)⟩, ⟨(some 71), none, (Op.load 9 (Operand.tmp 70))⟩, ⟨(some 72), none, (Op.fieldAddr 59 (Operand.tmp 1) 8)⟩, ⟨(some 73), none, (Op.load 57 (Operand.tmp 72))⟩, ⟨(some 74), none, (Op.move (Operand.tmp 3))⟩, ⟨(some 75), none, (Op.indexAddr 57 (Operand.tmp 73) (Operand.tmp 74))⟩, ⟨(some 76), none, (Op.fieldAddr 74 (Operand.tmp 75) 0)⟩, ⟨(some 77), none, (Op.load 9 (Operand.tmp 76))⟩, ⟨(some 78), none, (Op.binOp BinOp.eql 9 (Operand.tmp 71) (Operand.tmp 77) 9)⟩] [0, 1, 0, 7, 15, 31, 0, 64, 0, 448, 960, 1984, 4095]) (.cond (Operand.tmp 78) (.seq (.run [⟨(some 2), none, (Op.assign (Operand.const (Value.bool false)))⟩]) .ret) .skip))) (.run [⟨(some 64), none, (Op.move (Operand.tmp 4))⟩, ⟨(some 65), none, (Op.binOp BinOp.add 3 (Operand.tmp 64) (Operand.const (Value.int IntKind.i64 1)) 3)⟩, ⟨(some 4), none, (Op.assign (Operand.tmp 65))⟩])))
def c27_0 : CC := (.seq (.seq (.run [⟨(some 35), none, (Op.move (Operand.tmp 3))⟩, ⟨(some 36), none, (Op.fieldAddr 59 (Operand.tmp 1) 8)⟩, ⟨(some 37), none, (Op.load 57 (Operand.tmp 36))⟩, ⟨(some 38), none, (Op.call { callee := (Callee.builtin Builtin.len), args := #[(Operand.tmp 37)], argTypes := #[57] })⟩, ⟨(some 39), none, (Op.binOp BinOp.lss 3 (Operand.tmp 35) (Operand.tmp 38) 3)⟩]) (.cond (Operand.tmp 39) .skip (.exit 0))) (.seq (.block 1 (.seq (.seq (.run [⟨(some 42), none, (Op.fieldAddr 59 (Operand.tmp 1) 8)⟩, ⟨(some 43), none, (Op.load 57 (Operand.tmp 42))⟩, ⟨(some 44), none, (Op.move (Operand.tmp 3))⟩, ⟨(some 45), none, (Op.indexAddr 57 (Operand.tmp 43) (Operand.tmp 44))⟩, ⟨(some 46), none, (Op.fieldAddr 74 (Operand.tmp 45) 0)⟩, ⟨(some 47), none, (Op.load 9 (Operand.tmp 46))⟩, ⟨(some 48), none, (Op.call { callee := (Callee.builtin Builtin.len), args := #[(Operand.tmp 47)], argTypes := #[9] })⟩, ⟨(some 49), none, (Op.call { callee := (Callee.value (Operand.func 38)), args := #[(Operand.tmp 48), (Operand.const (Value.int IntKind.i64 1)), (Operand.const (Value.int IntKind.i64 16))], argTypes := #[3, 3, 3] })⟩, ⟨(some 50), none, (Op.unOp UnOp.not 4 (Operand.tmp 49))⟩, ⟨(some 51), none, (Op.move (Operand.tmp 50))⟩, ⟨(some 52), (some (51, false)), (Op.fieldAddr 59 (Operand.tmp 1) 8)⟩, ⟨(some 53), (some (51, false)), (Op.load 57 (Operand.tmp 52))⟩, ⟨(some 54), (some (51, false)), (Op.move (Operand.tmp 3))⟩, ⟨(some 55), (some (51, false)), (Op.indexAddr 57 (Operand.tmp 53) (Operand.tmp 54))⟩, ⟨(some 56), (some (51, false)), (Op.fieldAddr 74 (Operand.tmp 55) 1)⟩, ⟨(some 57), (some (51, false)), (Op.load 9 (Operand.tmp 56))⟩, ⟨(some 58), (some (51, false)), (Op.call { callee := (Callee.builtin Builtin.len), args := #[(Operand.tmp 57)], argTypes := #[9] })⟩, ⟨(some 59), (some (51, false)), (Op.binOp BinOp.gtr 3 (Operand.tmp 58) (Operand.const (Value.int IntKind.i64 16)) 3)⟩, ⟨(some 60), none, (Op.pick (Operand.tmp 51) (Operand.const (Value.bool true)) (Operand.tmp 59))⟩]) (.cond (Operand.tmp 60) (.seq (.run [⟨(some 2), none, (Op.assign (Operand.const (Value.bool false)))⟩]) .ret) .skip)) (.seq (.run [⟨(some 4), none, (Op.assign (Operand.const (Value.int IntKind.i64 0)))⟩]) (.block 2 (.loop ([(1, none), (3, none), (4, none)], []) c27_2))))) (.run [⟨(some 40), none, (Op.move (Operand.tmp 3))⟩, ⟨(some 41), none, (Op.binOp BinOp.add 3 (Operand.tmp 40) (Operand.const (Value.int IntKind.i64 1)) 3)⟩, ⟨(some 3), none, (Op.assign (Operand.tmp 41))⟩])))
def c27 : CC := (.seq (.run [⟨(some 1), none, (Op.box 59 (Operand.tmp 0))⟩, ⟨(some 2), none, (Op.assign (Operand.const (Value.bool false)))⟩]) (.seq (.seq (.run [⟨(some 5), none, (Op.fieldAddr 59 (Operand.tmp 1) 3)⟩, ⟨(some 6), none, (Op.load 9 (Operand.tmp 5))⟩, ⟨(some 7), none, (Op.call { callee := (Callee.builtin Builtin.len), args := #[(Operand.tmp 6)], argTypes := #[9] })⟩, ⟨(some 8), none, (Op.call { callee := (Callee.value (Operand.func 38)), args := #[(Operand.tmp 7), (Operand.const (Value.int IntKind.i64 1)), (Operand.const (Value.int IntKind.i64 16))], argTypes := #[3, 3, 3] })⟩, ⟨(some 9), none, (Op.unOp UnOp.not 4 (Operand.tmp 8))⟩, ⟨(some 10), none, (Op.move (Operand.tmp 9))⟩, ⟨(some 11), (some (10, false)), (Op.fieldAddr 59 (Operand.tmp 1) 4)⟩, ⟨(some 12), (some (10, false)), (Op.load 9 (Operand.tmp 11))⟩, ⟨(some 13), (some (10, false)), (Op.call { callee := (Callee.builtin Builtin.len), args := #[(Operand.tmp 12)], argTypes := #[9] })⟩, ⟨(some 14), (some (10, false)), (Op.call { callee := (Callee.value (Operand.func 38)), args := #[(Operand.tmp 13), (Operand.const (Value.int IntKind.i64 1)), (Operand.const (Value.int IntKind.i64 16))], argTypes := #[3, 3, 3] })⟩, ⟨(some 15), (some (10, false)), (Op.unOp UnOp.not 4 (Operand.tmp 14))⟩, ⟨(some 16), none, (Op.pick (Operand.tmp 10) (Operand.const (Value.bool true)) (Operand.tmp 15))⟩, ⟨(some 17), none, (Op.move (Operand.tmp 16))⟩, ⟨(some 18), (some (17, false)), (Op.fieldAddr 59 (Operand.tmp 1) 5)⟩, ⟨(some 19), (some (17, false)), (Op.load 3 (Operand.tmp 18))⟩, ⟨(some 20), (some (17, false)), (Op.call { callee := (Callee.value (Operand.func 38)), args := #[(Operand.tmp 19), (Operand.const (Value.int IntKind.i64 0)), (Operand.const (Value.int IntKind.i64 1099511627776))], argTypes := #[3, 3, 3] })⟩, ⟨(some 21), (some (17, false)), (Op.unOp UnOp.not 4 (Operand.tmp 20))⟩, ⟨(some 22), none, (Op.pick (Operand.tmp 17) (Operand.const (Value.bool true)) (Operand.tmp 21))⟩, ⟨(some 23), none, (Op.move (Operand.tmp 22))⟩, ⟨(some 24), (some (23, false)), (Op.fieldAddr 59 (Operand.tmp 1) 6)⟩, ⟨(some 25), (some (23, false)), (Op.load 3 (Operand.tmp 24))⟩, ⟨(some 26), (some (23, false)), (Op.call { callee := (Callee.value (Operand.func 38)), args := #[(Operand.tmp 25), (Operand.const (Value.int IntKind.i64 0)), (Operand.const (Value.int IntKind.i64 1073741824))], argTypes := #[3, 3, 3] })⟩, ⟨(some 27), (some (23, false)), (Op.unOp UnOp.not 4 (Operand.tmp 26))⟩, ⟨(some 28), none, (Op.pick (Operand.tmp 23) (Operand.const (Value.bool true)) (Operand.tmp 27))⟩, ⟨(some 29), none, (Op.move (Operand.tmp 28))⟩, ⟨(some 30), (some (29, false)), (Op.fieldAddr 59 (Operand.tmp 1) 8)⟩, ⟨(some 31), (some (29, false)), (Op.load 57 (Operand.tmp 30))⟩, ⟨(some 32), (some (29, false)), (Op.call { callee := (Callee.builtin Builtin.len), args := #[(Operand.tmp 31)], argTypes := #[57] })⟩, ⟨(some 33), (some (29, false)), (Op.binOp BinOp.gtr 3 (Operand.tmp 32) (Operand.const (Value.int IntKind.i64 4)) 3)⟩, ⟨(some 34), none, (Op.pick (Operand.tmp 29) (Operand.const (Value.bool true)) (Operand.tmp 33))⟩]) (.cond (Operand.tmp 34) (.seq (.run [⟨(some 2), none, (Op.assign (Operand.const (Value.bool false)))⟩]) .ret) .skip)) (.seq (.seq (.run [⟨(some 3), none, (Op.assign (Operand.const (Value.int IntKind.i64 0)))⟩]) (.block 0 (.loop ([(1, none), (3, none)], []) c27_0))) (.seq (.run [⟨(some 2), none, (Op.assign (Operand.const (Value.bool true)))⟩]) .ret))))
def k27 : Nat → List (Nat × Option Nat) × List Nat := fun | 0 => ([(1, none), (3, none)], []) | 2 => ([(1, none), (3, none), (4, none)], []) | _ => ([], [])
/- gleaninglaw3.Few -/
def c28_0 : CC := (.seq (.seq (.run [⟨(some 20), none, (Op.move (Operand.tmp 3))⟩, ⟨(some 21), none, (Op.fieldAddr 59 (Operand.tmp 1) 8)⟩, ⟨(some 22), none, (Op.load 57 (Operand.tmp 21))⟩, ⟨(some 23), none, (Op.call { callee := (Callee.builtin Builtin.len), args := #[(Operand.tmp 22)], argTypes := #[57] })⟩, ⟨(some 24), none, (Op.binOp BinOp.lss 3 (Operand.tmp 20) (Operand.tmp 23) 3)⟩]) (.cond (Operand.tmp 24) .skip (.exit 0))) (.seq (.block 1 (.seq (.run [⟨(some 27), none, (Op.fieldAddr 59 (Operand.tmp 1) 8)⟩, ⟨(some 28), none, (Op.load 57 (Operand.tmp 27))⟩, ⟨(some 29), none, (Op.move (Operand.tmp 3))⟩, ⟨(some 30), none, (Op.indexAddr 57 (Operand.tmp 28) (Operand.tmp 29))⟩, ⟨(some 31), none, (Op.fieldAddr 74 (Operand.tmp 30) 0)⟩, ⟨(some 32), none, (Op.load 9 (Operand.tmp 31))⟩, ⟨(some 33), none, (Op.call { callee := (Callee.builtin Builtin.len), args := #[(Operand.tmp 32)], argTypes := #[9] })⟩, ⟨(some 34), none, (Op.binOp BinOp.gtr 3 (Operand.tmp 33) (Operand.const (Value.int IntKind.i64 100)) 3)⟩, ⟨(some 35), none, (Op.move (Operand.tmp 34))⟩, ⟨(some 36), (some (35, false)), (Op.fieldAddr 59 (Operand.tmp 1) 8)⟩, ⟨(some 37), (some (35, false)), (Op.load 57 (Operand.tmp 36))⟩, ⟨(some 38), (some (35, false)), (Op.move (Operand.tmp 3))⟩, ⟨(some 39), (some (35, false)), (Op.indexAddr 57 (Operand.tmp 37) (Operand.tmp 38))⟩, ⟨(some 40), (some (35, false)), (Op.fieldAddr 74 (Operand.tmp 39) 1)⟩, ⟨(some 41), (some (35, false)), (Op.load 9 (Operand.tmp 40))⟩, ⟨(some 42), (some (35, false)), (Op.call { callee := (Callee.builtin Builtin.len), args := #[(Operand.tmp 41)], argTypes := #[9] })⟩, ⟨(some 43), (some (35, false)), (Op.binOp BinOp.gtr 3 (Operand.tmp 42) (Operand.const (Value.int IntKind.i64 100)) 3)⟩, ⟨(some 44), none, (Op.pick (Operand.tmp 35) (Operand.const (Value.bool true)) (Operand.tmp 43))⟩]) (.cond (Operand.tmp 44) (.seq (.run [⟨(some 2), none, (Op.assign (Operand.const (Value.bool false)))⟩]) .ret) .skip))) (.run [⟨(some 25), none, (Op.move (Operand.tmp 3))⟩, ⟨(some 26), none, (Op.binOp BinOp.add 3 (Operand.tmp 25) (Operand.const (Value.int IntKind.i64 1)) 3)⟩, ⟨(some 3), none, (Op.assign (Operand.tmp 26))⟩])))
def c28 : CC := (.seq (.run [⟨(some 1), none, (Op.box 59 (Operand.tmp 0))⟩, ⟨(some 2), none, (Op.assign (Operand.const (Value.bool false)))⟩]) (.seq (.seq (.run [⟨(some 4), none, (Op.fieldAddr 59 (Operand.tmp 1) 3)⟩, ⟨(some 5), none, (Op.load 9 (Operand.tmp 4))⟩, ⟨(some 6), none, (Op.call { callee := (Callee.builtin Builtin.len), args := #[(Operand.tmp 5)], argTypes := #[9] })⟩, ⟨(some 7), none, (Op.binOp BinOp.gtr 3 (Operand.tmp 6) (Operand.const (Value.int IntKind.i64 100)) 3)⟩, ⟨(some 8), none, (Op.move (Operand.tmp 7))⟩, ⟨(some 9), (some (8, false)), (Op.fieldAddr 59 (Operand.tmp 1) 4)⟩, ⟨(some 10), (some (8, false)), (Op.load 9 (Operand.tmp 9))⟩, ⟨(some 11), (some (8, false)), (Op.call { callee := (Callee.builtin Builtin.len), args := #[(Operand.tmp 10)], argTypes := #[9] })⟩, ⟨(some 12), (some (8, false)), (Op.binOp BinOp.gtr 3 (Operand.tmp 11) (Operand.const (Value.int IntKind.i64 100)) 3)⟩, ⟨(some 13), none, (Op.pick (Operand.tmp 8) (Operand.const (Value.bool true)) (Operand.tmp 12))⟩, ⟨(some 14), none, (Op.move (Operand.tmp 13))⟩, ⟨(some 15), (some (14, false)), (Op.fieldAddr 59 (Operand.tmp 1) 8)⟩, ⟨(some 16), (some (14, false)), (Op.load 57 (Operand.tmp 15))⟩, ⟨(some 17), (some (14, false)), (Op.call { callee := (Callee.builtin Builtin.len), args := #[(Operand.tmp 16)], argTypes := #[57] })⟩, ⟨(some 18), (some (14, false)), (Op.binOp BinOp.gtr 3 (Operand.tmp 17) (Operand.const (Value.int IntKind.i64 20)) 3)⟩, ⟨(some 19), none, (Op.pick (Operand.tmp 14) (Operand.const (Value.bool true)) (Operand.tmp 18))⟩]) (.cond (Operand.tmp 19) (.seq (.run [⟨(some 2), none, (Op.assign (Operand.const (Value.bool false)))⟩]) .ret) .skip)) (.seq (.seq (.run [⟨(some 3), none, (Op.assign (Operand.const (Value.int IntKind.i64 0)))⟩]) (.block 0 (.loop ([(1, none), (3, none)], []) c28_0))) (.seq (.run [⟨(some 2), none, (Op.assign (Operand.const (Value.bool true)))⟩]) .ret))))
def k28 : Nat → List (Nat × Option Nat) × List Nat := fun | 0 => ([(1, none), (3, none)], []) | _ => ([], [])
/- block.Right -/

def c29 : CC := (.seq (.run [⟨(some 1), none, (Op.box 27 (Operand.tmp 0))⟩, ⟨(some 2), none, (Op.assign (Operand.const (Value.bool false)))⟩]) (.seq (.run [⟨(some 3), none, (Op.fieldAddr 27 (Operand.tmp 1) 0)⟩, ⟨(some 4), none, (Op.load 3 (Operand.tmp 3))⟩, ⟨(some 5), none, (Op.fieldAddr 27 (Operand.tmp 1) 1)⟩, ⟨(some 6), none, (Op.load 3 (Operand.tmp 5))⟩, ⟨(some 7), none, (Op.fieldAddr 27 (Operand.tmp 1) 2)⟩, ⟨(some 8), none, (Op.load 3 (Operand.tmp 7))⟩, ⟨(some 9), none, (Op.buildSlice 28 3 #[(0, (Operand.tmp 4)), (1, (Operand.tmp 6)), (2, (Operand.tmp 8))])⟩, ⟨(some 10), none, (Op.call { callee := (Callee.value (Operand.func 39)), args := #[(Operand.tmp 9)], argTypes := #[28] })⟩, ⟨(some 11), none, (Op.move (Operand.tmp 10))⟩, ⟨(some 12), (some (11, true)), (Op.fieldAddr 27 (Operand.tmp 1) 3)⟩, ⟨(some 13), (some (11, true)), (Op.load 25 (Operand.tmp 12))⟩, ⟨(some 14), (some (11, true)), (Op.call { callee := (Callee.value (Operand.func 40)), args := #[(Operand.tmp 13), (Operand.func 41)], argTypes := #[25, 77] })⟩, ⟨(some 15), none, (Op.pick (Operand.tmp 11) (Operand.tmp 14) (Operand.const (Value.bool false)))⟩, ⟨(some 16), none, (Op.move (Operand.tmp 15))⟩, ⟨(some 17), (some (16, true)), (Op.fieldAddr 27 (Operand.tmp 1) 3)⟩, ⟨(some 18), (some (16, true)), (Op.load 25 (Operand.tmp 17))⟩, ⟨(some 19), (some (16, true)), (Op.call { callee := (Callee.value (Operand.func 42)), args := #[(Operand.tmp 18), (Operand.func 43)], argTypes := #[25, 41] })⟩, ⟨(some 20), (some (16, true)), (Op.unOp UnOp.not 4 (Operand.tmp 19))⟩, ⟨(some 21), none, (Op.pick (Operand.tmp 16) (Operand.tmp 20) (Operand.const (Value.bool false)))⟩, ⟨(some 2), none, (Op.assign (Operand.tmp 21))⟩]) .ret))
def k29 : Nat → List (Nat × Option Nat) × List Nat := fun _ => ([], [])
/- (*ints.Writer).Num -/
def c30_0 : CC := (.seq (.run [⟨(some 9), none, (Op.binOp BinOp.lss 3 (Operand.tmp 8) (Operand.tmp 7) 3)⟩]) (.seq (.cond (Operand.tmp 9) .skip (.exit 0)) (.seq (.block 1 (.seq (.run [⟨(some 10), none, (Op.indexAddr 28 (Operand.tmp 6) (Operand.tmp 8))⟩, ⟨(some 11), none, (Op.load 3 (Operand.tmp 10))⟩, ⟨(some 5), none, (Op.assign (Operand.tmp 11))⟩]) (.run [⟨(some 12), none, (Op.move (Operand.tmp 0))⟩, ⟨(some 13), none, (Op.move (Operand.tmp 5))⟩, ⟨(some 14), none, (Op.convert 3 42 (Operand.tmp 13))⟩, ⟨(some 15), none, (Op.buildSlice 81 1 #[(0, (Operand.tmp 14))])⟩, ⟨(some 16), none, (Op.call { callee := (Callee.value (Operand.func 32)), args := #[(Operand.tmp 12), (Operand.tmp 15)], argTypes := #[60, 81] })⟩]))) (.run [⟨(some 17), none, (Op.binOp BinOp.add 3 (Operand.tmp 8) (Operand.const (Value.int IntKind.i64 1)) 3)⟩, ⟨(some 8), none, (Op.move (Operand.tmp 17))⟩]))))
def c30 : CC := (.seq (.run [⟨(some 6), none, (Op.move (Operand.tmp 1))⟩, ⟨(some 7), none, (Op.call { callee := (Callee.builtin Builtin.len), args := #[(Operand.tmp 6)], argTypes := #[28] })⟩, ⟨(some 8), none, (Op.move (Operand.const (Value.int IntKind.i64 0)))⟩]) (.block 0 (.loop ([(0, none), (6, none), (7, none), (8, none)], [0]) c30_0)))
def k30 : Nat → List (Nat × Option Nat) × List Nat := fun | 0 => ([(0, none), (6, none), (7, none), (8, none)], [0]) | _ => ([], [])
/- block.PutSpans -/
def c31_0 : CC := (.seq (.run [⟨(some 27), none, (Op.binOp BinOp.lss 3 (Operand.tmp 26) (Operand.tmp 25) 3)⟩]) (.seq (.cond (Operand.tmp 27) .skip (.exit 0)) (.seq (.block 1 (.seq (.run [⟨(some 28), none, (Op.indexAddr 45 (Operand.tmp 24) (Operand.tmp 26))⟩, ⟨(some 29), none, (Op.load 59 (Operand.tmp 28))⟩, ⟨(some 5), none, (Op.alloc 59)⟩, ⟨none, none, (Op.store 59 (Operand.tmp 5) (Operand.tmp 29))⟩]) (.run [⟨(some 30), none, (Op.move (Operand.tmp 0))⟩, ⟨(some 31), none, (Op.load 59 (Operand.tmp 5))⟩, ⟨(some 32), none, (Op.call { callee := (Callee.value (Operand.func 46)), args := #[(Operand.tmp 30), (Operand.tmp 31)], argTypes := #[60, 59] })⟩]))) (.run [⟨(some 33), none, (Op.binOp BinOp.add 3 (Operand.tmp 26) (Operand.const (Value.int IntKind.i64 1)) 3)⟩, ⟨(some 26), none, (Op.move (Operand.tmp 33))⟩]))))
def c31 : CC := (.seq (.run [⟨(some 3), none, (Op.box 47 (Operand.tmp 1))⟩]) (.seq (.run [⟨(some 6), none, (Op.move (Operand.tmp 0))⟩, ⟨(some 7), none, (Op.fieldAddr 47 (Operand.tmp 3) 1)⟩, ⟨(some 8), none, (Op.load 3 (Operand.tmp 7))⟩, ⟨(some 9), none, (Op.fieldAddr 47 (Operand.tmp 3) 2)⟩, ⟨(some 10), none, (Op.load 3 (Operand.tmp 9))⟩, ⟨(some 11), none, (Op.buildSlice 28 2 #[(0, (Operand.tmp 8)), (1, (Operand.tmp 10))])⟩, ⟨(some 12), none, (Op.call { callee := (Callee.value (Operand.func 30)), args := #[(Operand.tmp 6), (Operand.tmp 11)], argTypes := #[60, 28] })⟩]) (.seq (.run [⟨(some 13), none, (Op.move (Operand.tmp 0))⟩, ⟨(some 14), none, (Op.fieldAddr 47 (Operand.tmp 3) 3)⟩, ⟨(some 15), none, (Op.load 4 (Operand.tmp 14))⟩, ⟨(some 16), none, (Op.call { callee := (Callee.value (Operand.func 45)), args := #[(Operand.tmp 13), (Operand.tmp 15)], argTypes := #[60, 4] })⟩]) (.seq (.run [⟨(some 17), none, (Op.move (Operand.tmp 0))⟩, ⟨(some 18), none, (Op.fieldAddr 47 (Operand.tmp 3) 4)⟩, ⟨(some 19), none, (Op.load 45 (Operand.tmp 18))⟩, ⟨(some 20), none, (Op.call { callee := (Callee.builtin Builtin.len), args := #[(Operand.tmp 19)], argTypes := #[45] })⟩, ⟨(some 21), none, (Op.buildSlice 28 1 #[(0, (Operand.tmp 20))])⟩, ⟨(some 22), none, (Op.call { callee := (Callee.value (Operand.func 30)), args := #[(Operand.tmp 17), (Operand.tmp 21)], argTypes := #[60, 28] })⟩]) (.seq (.run [⟨(some 23), none, (Op.fieldAddr 47 (Operand.tmp 3) 4)⟩, ⟨(some 24), none, (Op.load 45 (Operand.tmp 23))⟩, ⟨(some 25), none, (Op.call { callee := (Callee.builtin Builtin.len), args := #[(Operand.tmp 24)], argTypes := #[45] })⟩, ⟨(some 26), none, (Op.move (Operand.const (Value.int IntKind.i64 0)))⟩]) (.block 0 (.loop ([(0, none), (24, none), (25, none), (26, none)], [0]) c31_0)))))))
def k31 : Nat → List (Nat × Option Nat) × List Nat := fun | 0 => ([(0, none), (24, none), (25, none), (26, none)], [0]) | _ => ([], [])
/- (*ints.Writer).Wide -/
def c32_2 : CC := (.seq (.seq (.run [⟨(some 12), none, (Op.move (Operand.tmp 5))⟩, ⟨(some 13), none, (Op.binOp BinOp.geq 42 (Operand.tmp 12) (Operand.const (Value.int IntKind.u64 128)) 42)⟩]) (.cond (Operand.tmp 13) .skip (.exit 2))) (.seq (.block 3 (.run [⟨(some 16), none, (Op.move (Operand.tmp 0))⟩, ⟨(some 17), none, (Op.move (Operand.tmp 0))⟩, ⟨(some 18), none, (Op.nilCheck (Operand.tmp 17))⟩, ⟨(some 19), none, (Op.fieldAddr 62 (Operand.tmp 18) 0)⟩, ⟨(some 20), none, (Op.load 39 (Operand.tmp 19))⟩, ⟨(some 21), none, (Op.move (Operand.tmp 5))⟩, ⟨(some 22), none, (Op.convert 42 5 (Operand.tmp 21))⟩, ⟨(some 23), none, (Op.binOp BinOp.or 5 (Operand.tmp 22) (Operand.const (Value.int IntKind.u8 128)) 5)⟩, ⟨(some 24), none, (Op.buildSlice 39 1 #[(0, (Operand.tmp 23))])⟩, ⟨(some 25), none, (Op.call { callee := (Callee.builtin Builtin.append), args := #[(Operand.tmp 20), (Operand.tmp 24)], argTypes := #[39, 39] })⟩, ⟨(some 26), none, (Op.nilCheck (Operand.tmp 16))⟩, ⟨(some 27), none, (Op.fieldAddr 62 (Operand.tmp 26) 0)⟩, ⟨none, none, (Op.store 39 (Operand.tmp 27) (Operand.tmp 25))⟩])) (.run [⟨(some 14), none, (Op.move (Operand.tmp 5))⟩, ⟨(some 15), none, (Op.binOp BinOp.shr 42 (Operand.tmp 14) (Operand.const (Value.int IntKind.u64 7)) 68)⟩, ⟨(some 5), none, (Op.assign (Operand.tmp 15))⟩])))
def c32_0 : CC := (.seq (.run [⟨(some 9), none, (Op.binOp BinOp.lss 3 (Operand.tmp 8) (Operand.tmp 7) 3)⟩]) (.seq (.cond (Operand.tmp 9) .skip (.exit 0)) (.seq (.block 1 (.seq (.run [⟨(some 10), none, (Op.indexAddr 81 (Operand.tmp 6) (Operand.tmp 8))⟩, ⟨(some 11), none, (Op.load 42 (Operand.tmp 10))⟩, ⟨(some 5), none, (Op.assign (Operand.tmp 11))⟩]) (.seq (.block 2 (.loop ([(0, none), (5, none), (6, none), (7, none), (8, none)], [0]) c32_2)) (.run [⟨(some 28), none, (Op.move (Operand.tmp 0))⟩, ⟨(some 29), none, (Op.move (Operand.tmp 0))⟩, ⟨(some 30), none, (Op.nilCheck (Operand.tmp 29))⟩, ⟨(some 31), none, (Op.fieldAddr 62 (Operand.tmp 30) 0)⟩, ⟨(some 32), none, (Op.load 39 (Operand.tmp 31))⟩, ⟨(some 33), none, (Op.move (Operand.tmp 5))⟩, ⟨(some 34), none, (Op.convert 42 5 (Operand.tmp 33))⟩, ⟨(some 35), none, (Op.buildSlice 39 1 #[(0, (Operand.tmp 34))])⟩, ⟨(some 36), none, (Op.call { callee := (Callee.builtin Builtin.append), args := #[(Operand.tmp 32), (Operand.tmp 35)], argTypes := #[39, 39] })⟩, ⟨(some 37), none, (Op.nilCheck (Operand.tmp 28))⟩, ⟨(some 38), none, (Op.fieldAddr 62 (Operand.tmp 37) 0)⟩, ⟨none, none, (Op.store 39 (Operand.tmp 38) (Operand.tmp 36))⟩])))) (.run [⟨(some 39), none, (Op.binOp BinOp.add 3 (Operand.tmp 8) (Operand.const (Value.int IntKind.i64 1)) 3)⟩, ⟨(some 8), none, (Op.move (Operand.tmp 39))⟩]))))
def c32 : CC := (.seq (.run [⟨(some 6), none, (Op.move (Operand.tmp 1))⟩, ⟨(some 7), none, (Op.call { callee := (Callee.builtin Builtin.len), args := #[(Operand.tmp 6)], argTypes := #[81] })⟩, ⟨(some 8), none, (Op.move (Operand.const (Value.int IntKind.i64 0)))⟩]) (.block 0 (.loop ([(0, none), (6, none), (7, none), (8, none)], [0]) c32_0)))
def k32 : Nat → List (Nat × Option Nat) × List Nat := fun | 0 => ([(0, none), (6, none), (7, none), (8, none)], [0]) | 2 => ([(0, none), (5, none), (6, none), (7, none), (8, none)], [0]) | _ => ([], [])
/- check.Seal -/

def c33 : CC := (.seq (.run [⟨(some 2), none, (Op.assign (Operand.const (Value.slice none 0 0)))⟩]) (.seq (.run [⟨(some 3), none, (Op.move (Operand.tmp 0))⟩, ⟨(some 4), none, (Op.call { callee := (Callee.builtin Builtin.append), args := #[(Operand.const (Value.slice none 0 0)), (Operand.tmp 3)], argTypes := #[39, 39] })⟩, ⟨(some 5), none, (Op.move (Operand.tmp 0))⟩, ⟨(some 6), none, (Op.call { callee := (Callee.value (Operand.func 48)), args := #[(Operand.tmp 5)], argTypes := #[39] })⟩, ⟨(some 7), none, (Op.call { callee := (Callee.value (Operand.func 47)), args := #[(Operand.tmp 4), (Operand.tmp 6)], argTypes := #[39, 70] })⟩, ⟨(some 2), none, (Op.assign (Operand.tmp 7))⟩]) .ret))
def k33 : Nat → List (Nat × Option Nat) × List Nat := fun _ => ([], [])
/- gleaningref1.Bit -/

def c34 : CC := (.seq (.run [⟨(some 2), none, (Op.assign (Operand.const (Value.int IntKind.u64 0)))⟩]) (.seq (.seq (.run [⟨(some 3), none, (Op.move (Operand.tmp 0))⟩]) (.cond (Operand.tmp 3) (.seq (.run [⟨(some 2), none, (Op.assign (Operand.const (Value.int IntKind.u64 1)))⟩]) .ret) .skip)) (.seq (.run [⟨(some 2), none, (Op.assign (Operand.const (Value.int IntKind.u64 0)))⟩]) .ret)))
def k34 : Nat → List (Nat × Option Nat) × List Nat := fun _ => ([], [])
/- gleaningref1.AddSpan -/
def c35_0 : CC := (.seq (.seq (.run [⟨(some 47), none, (Op.move (Operand.tmp 5))⟩, ⟨(some 48), none, (Op.fieldAddr 59 (Operand.tmp 3) 8)⟩, ⟨(some 49), none, (Op.load 57 (Operand.tmp 48))⟩, ⟨(some 50), none, (Op.call { callee := (Callee.builtin Builtin.len), args := #[(Operand.tmp 49)], argTypes := #[57] })⟩, ⟨(some 51), none, (Op.binOp BinOp.lss 3 (Operand.tmp 47) (Operand.tmp 50) 3)⟩]) (.cond (Operand.tmp 51) .skip (.exit 0))) (.seq (.block 1 (.draw [⟨(some 54), none, (Op.move (Operand.tmp 0))⟩, ⟨(some 55), none, (Op.fieldAddr 59 (Operand.tmp 3) 8)⟩, ⟨(some 56), none, (Op.load 57 (Operand.tmp 55))⟩, ⟨(some 57), none, (Op.move (Operand.tmp 5))⟩, ⟨(some 58), none, (Op.indexAddr 57 (Operand.tmp 56) (Operand.tmp 57))⟩, ⟨(some 59), none, (Op.fieldAddr 74 (Operand.tmp 58) 0)⟩, ⟨(some 60), none, (Op.load 9 (Operand.tmp 59))⟩, ⟨(some 61), none, (Op.call { callee := (Callee.value (Operand.func 49)), args := #[(Operand.tmp 54), (Operand.tmp 60)], argTypes := #[39, 9] })⟩, ⟨(some 62), none, (Op.fieldAddr 59 (Operand.tmp 3) 8)⟩, ⟨(some 63), none, (Op.load 57 (Operand.tmp 62))⟩, ⟨(some 64), none, (Op.move (Operand.tmp 5))⟩, ⟨(some 65), none, (Op.indexAddr 57 (Operand.tmp 63) (Operand.tmp 64))⟩, ⟨(some 66), none, (Op.fieldAddr 74 (Operand.tmp 65) 1)⟩, ⟨(some 67), none, (Op.load 9 (Operand.tmp 66))⟩, ⟨(some 68), none, (Op.call { callee := (Callee.value (Operand.func 49)), args := #[(Operand.tmp 61), (Operand.tmp 67)], argTypes := #[39, 9] })⟩, ⟨(some 0), none, (Op.assign (Operand.tmp 68))⟩] [0, 0, 2, 0, 14, 30, 62, 127, 0, 256, 0, 1792, 3840, 7936, 16383, 32767])) (.run [⟨(some 52), none, (Op.move (Operand.tmp 5))⟩, ⟨(some 53), none, (Op.binOp BinOp.add 3 (Operand.tmp 52) (Operand.const (Value.int IntKind.i64 1)) 3)⟩, ⟨(some 5), none, (Op.assign (Operand.tmp 53))⟩])))
def c35 : CC := (.seq (.run [⟨(some 3), none, (Op.box 59 (Operand.tmp 1))⟩, ⟨(some 4), none, (Op.assign (Operand.const (Value.slice none 0 0)))⟩]) (.seq (.draw [⟨(some 6), none, (Op.move (Operand.tmp 0))⟩, ⟨(some 7), none, (Op.fieldAddr 59 (Operand.tmp 3) 0)⟩, ⟨(some 8), none, (Op.fieldAddr 44 (Operand.tmp 7) 0)⟩, ⟨(some 9), none, (Op.load 42 (Operand.tmp 8))⟩, ⟨(some 10), none, (Op.call { callee := (Callee.value (Operand.func 24)), args := #[(Operand.tmp 6), (Operand.tmp 9)], argTypes := #[39, 42] })⟩, ⟨(some 11), none, (Op.fieldAddr 59 (Operand.tmp 3) 0)⟩, ⟨(some 12), none, (Op.fieldAddr 44 (Operand.tmp 11) 1)⟩, ⟨(some 13), none, (Op.load 42 (Operand.tmp 12))⟩, ⟨(some 14), none, (Op.call { callee := (Callee.value (Operand.func 24)), args := #[(Operand.tmp 10), (Operand.tmp 13)], argTypes := #[39, 42] })⟩, ⟨(some 15), none, (Op.fieldAddr 59 (Operand.tmp 3) 1)⟩, ⟨(some 16), none, (Op.load 42 (Operand.tmp 15))⟩, ⟨(some 17), none, (Op.call { callee := (Callee.value (Operand.func 24)), args := #[(Operand.tmp 14), (Operand.tmp 16)], argTypes := #[39, 42] })⟩, ⟨(some 18), none, (Op.fieldAddr 59 (Operand.tmp 3) 2)⟩, ⟨(some 19), none, (Op.load 42 (Operand.tmp 18))⟩, ⟨(some 20), none, (Op.call { callee := (Callee.value (Operand.func 24)), args := #[(Operand.tmp 17), (Operand.tmp 19)], argTypes := #[39, 42] })⟩, ⟨(some 0), none, (Op.assign (Operand.tmp 20))⟩] [0, 0, 2, 6, 15, 0, 32, 96, 255, 0, 512, 2047, 0, 4096, 16383, 32767]) (.seq (.draw [⟨(some 21), none, (Op.move (Operand.tmp 0))⟩, ⟨(some 22), none, (Op.fieldAddr 59 (Operand.tmp 3) 3)⟩, ⟨(some 23), none, (Op.load 9 (Operand.tmp 22))⟩, ⟨(some 24), none, (Op.call { callee := (Callee.value (Operand.func 49)), args := #[(Operand.tmp 21), (Operand.tmp 23)], argTypes := #[39, 9] })⟩, ⟨(some 25), none, (Op.fieldAddr 59 (Operand.tmp 3) 4)⟩, ⟨(some 26), none, (Op.load 9 (Operand.tmp 25))⟩, ⟨(some 27), none, (Op.call { callee := (Callee.value (Operand.func 49)), args := #[(Operand.tmp 24), (Operand.tmp 26)], argTypes := #[39, 9] })⟩, ⟨(some 0), none, (Op.assign (Operand.tmp 27))⟩] [0, 0, 2, 7, 0, 16, 63, 127]) (.seq (.draw [⟨(some 28), none, (Op.move (Operand.tmp 0))⟩, ⟨(some 29), none, (Op.fieldAddr 59 (Operand.tmp 3) 5)⟩, ⟨(some 30), none, (Op.load 3 (Operand.tmp 29))⟩, ⟨(some 31), none, (Op.convert 3 42 (Operand.tmp 30))⟩, ⟨(some 32), none, (Op.call { callee := (Callee.value (Operand.func 24)), args := #[(Operand.tmp 28), (Operand.tmp 31)], argTypes := #[39, 42] })⟩, ⟨(some 33), none, (Op.fieldAddr 59 (Operand.tmp 3) 6)⟩, ⟨(some 34), none, (Op.load 3 (Operand.tmp 33))⟩, ⟨(some 35), none, (Op.convert 3 42 (Operand.tmp 34))⟩, ⟨(some 36), none, (Op.call { callee := (Callee.value (Operand.func 24)), args := #[(Operand.tmp 32), (Operand.tmp 35)], argTypes := #[39, 42] })⟩, ⟨(some 37), none, (Op.fieldAddr 59 (Operand.tmp 3) 7)⟩, ⟨(some 38), none, (Op.load 4 (Operand.tmp 37))⟩, ⟨(some 39), none, (Op.call { callee := (Callee.value (Operand.func 34)), args := #[(Operand.tmp 38)], argTypes := #[4] })⟩, ⟨(some 40), none, (Op.call { callee := (Callee.value (Operand.func 24)), args := #[(Operand.tmp 36), (Operand.tmp 39)], argTypes := #[39, 42] })⟩, ⟨(some 0), none, (Op.assign (Operand.tmp 40))⟩] [0, 0, 2, 6, 15, 0, 32, 96, 255, 0, 512, 2047, 4095, 8191]) (.seq (.run [⟨(some 41), none, (Op.move (Operand.tmp 0))⟩, ⟨(some 42), none, (Op.fieldAddr 59 (Operand.tmp 3) 8)⟩, ⟨(some 43), none, (Op.load 57 (Operand.tmp 42))⟩, ⟨(some 44), none, (Op.call { callee := (Callee.builtin Builtin.len), args := #[(Operand.tmp 43)], argTypes := #[57] })⟩, ⟨(some 45), none, (Op.convert 3 42 (Operand.tmp 44))⟩, ⟨(some 46), none, (Op.call { callee := (Callee.value (Operand.func 24)), args := #[(Operand.tmp 41), (Operand.tmp 45)], argTypes := #[39, 42] })⟩, ⟨(some 0), none, (Op.assign (Operand.tmp 46))⟩]) (.seq (.seq (.run [⟨(some 5), none, (Op.assign (Operand.const (Value.int IntKind.i64 0)))⟩]) (.block 0 (.loop ([(0, some 5), (3, none), (5, none)], []) c35_0))) (.seq (.run [⟨(some 69), none, (Op.move (Operand.tmp 0))⟩, ⟨(some 4), none, (Op.assign (Operand.tmp 69))⟩]) .ret)))))))
def k35 : Nat → List (Nat × Option Nat) × List Nat := fun | 0 => ([(0, some 5), (3, none), (5, none)], []) | _ => ([], [])
/- gleaningref1.four -/

def c36 : CC := (.seq (.run [⟨(some 2), none, (Op.assign (Operand.const (Value.slice none 0 0)))⟩]) (.seq (.run [⟨(some 3), none, (Op.move (Operand.tmp 0))⟩, ⟨(some 4), none, (Op.binOp BinOp.and 70 (Operand.tmp 3) (Operand.const (Value.int IntKind.u32 255)) 70)⟩, ⟨(some 5), none, (Op.convert 70 5 (Operand.tmp 4))⟩, ⟨(some 6), none, (Op.move (Operand.tmp 0))⟩, ⟨(some 7), none, (Op.binOp BinOp.shr 70 (Operand.tmp 6) (Operand.const (Value.int IntKind.u64 8)) 68)⟩, ⟨(some 8), none, (Op.binOp BinOp.and 70 (Operand.tmp 7) (Operand.const (Value.int IntKind.u32 255)) 70)⟩, ⟨(some 9), none, (Op.convert 70 5 (Operand.tmp 8))⟩, ⟨(some 10), none, (Op.move (Operand.tmp 0))⟩, ⟨(some 11), none, (Op.binOp BinOp.shr 70 (Operand.tmp 10) (Operand.const (Value.int IntKind.u64 16)) 68)⟩, ⟨(some 12), none, (Op.binOp BinOp.and 70 (Operand.tmp 11) (Operand.const (Value.int IntKind.u32 255)) 70)⟩, ⟨(some 13), none, (Op.convert 70 5 (Operand.tmp 12))⟩, ⟨(some 14), none, (Op.move (Operand.tmp 0))⟩, ⟨(some 15), none, (Op.binOp BinOp.shr 70 (Operand.tmp 14) (Operand.const (Value.int IntKind.u64 24)) 68)⟩, ⟨(some 16), none, (Op.convert 70 5 (Operand.tmp 15))⟩, ⟨(some 17), none, (Op.buildSlice 39 4 #[(0, (Operand.tmp 5)), (1, (Operand.tmp 9)), (2, (Operand.tmp 13)), (3, (Operand.tmp 16))])⟩, ⟨(some 2), none, (Op.assign (Operand.tmp 17))⟩]) .ret))
def k36 : Nat → List (Nat × Option Nat) × List Nat := fun _ => ([], [])
/- gleaningref1.Sum -/

def c37 : CC := (.seq (.run [⟨(some 2), none, (Op.assign (Operand.const (Value.int IntKind.u32 0)))⟩]) (.seq (.run [⟨(some 3), none, (Op.move (Operand.tmp 0))⟩, ⟨(some 4), none, (Op.call { callee := (Callee.value (Operand.func 50)), args := #[(Operand.const (Value.int IntKind.u32 0)), (Operand.tmp 3)], argTypes := #[70, 39] })⟩, ⟨(some 2), none, (Op.assign (Operand.tmp 4))⟩]) .ret))
def k37 : Nat → List (Nat × Option Nat) × List Nat := fun _ => ([], [])
/- gleaningref1.Within -/

def c38 : CC := (.seq (.run [⟨(some 6), none, (Op.assign (Operand.const (Value.bool false)))⟩]) (.seq (.run [⟨(some 7), none, (Op.move (Operand.tmp 0))⟩, ⟨(some 8), none, (Op.move (Operand.tmp 1))⟩, ⟨(some 9), none, (Op.binOp BinOp.geq 3 (Operand.tmp 7) (Operand.tmp 8) 3)⟩, ⟨(some 10), none, (Op.move (Operand.tmp 9))⟩, ⟨(some 11), (some (10, true)), (Op.move (Operand.tmp 0))⟩, ⟨(some 12), (some (10, true)), (Op.move (Operand.tmp 2))⟩, ⟨(some 13), (some (10, true)), (Op.binOp BinOp.leq 3 (Operand.tmp 11) (Operand.tmp 12) 3)⟩, ⟨(some 14), none, (Op.pick (Operand.tmp 10) (Operand.tmp 13) (Operand.const (Value.bool false)))⟩, ⟨(some 6), none, (Op.assign (Operand.tmp 14))⟩]) .ret))
def k38 : Nat → List (Nat × Option Nat) × List Nat := fun _ => ([], [])
/- block.Epoch -/

def c39 : CC := (.seq (.run [⟨(some 2), none, (Op.assign (Operand.const (Value.bool false)))⟩]) (.seq (.run [⟨(some 3), none, (Op.move (Operand.tmp 0))⟩, ⟨(some 4), none, (Op.call { callee := (Callee.value (Operand.func 51)), args := #[(Operand.tmp 3), (Operand.func 52)], argTypes := #[28, 49] })⟩, ⟨(some 5), none, (Op.unOp UnOp.not 4 (Operand.tmp 4))⟩, ⟨(some 2), none, (Op.assign (Operand.tmp 5))⟩]) .ret))
def k39 : Nat → List (Nat × Option Nat) × List Nat := fun _ => ([], [])
/- slices.IsSortedFunc[[]api.Episode,api.Episode] -/
def c40_0 : CC := (.seq (.seq (.run [⟨(some 9), none, (Op.move (Operand.tmp 5))⟩, ⟨(some 10), none, (Op.binOp BinOp.gtr 3 (Operand.tmp 9) (Operand.const (Value.int IntKind.i64 0)) 3)⟩]) (.cond (Operand.tmp 10) .skip (.exit 0))) (.seq (.block 1 (.seq (.draw [⟨(some 13), none, (Op.move (Operand.tmp 1))⟩, ⟨(some 14), none, (Op.move (Operand.tmp 0))⟩, ⟨(some 15), none, (Op.move (Operand.tmp 5))⟩, ⟨(some 16), none, (Op.indexAddr 25 (Operand.tmp 14) (Operand.tmp 15))⟩, ⟨(some 17), none, (Op.load 47 (Operand.tmp 16))⟩, ⟨(some 18), none, (Op.move (Operand.tmp 0))⟩, ⟨(some 19), none, (Op.move (Operand.tmp 5))⟩, ⟨(some 20), none, (Op.binOp BinOp.sub 3 (Operand.tmp 19) (Operand.const (Value.int IntKind.i64 1)) 3)⟩, ⟨(some 21), none, (Op.indexAddr 25 (Operand.tmp 18) (Operand.tmp 20))⟩, ⟨(some 22), none, (Op.load 47 (Operand.tmp 21))⟩, ⟨(some 23), none, (Op.call { callee := (Callee.value (Operand.tmp 13)), args := #[(Operand.tmp 17), (Operand.tmp 22)], argTypes := #[47, 47] })⟩, ⟨(some 24), none, (Op.binOp BinOp.lss 3 (Operand.tmp 23) (Operand.const (Value.int IntKind.i64 0)) 3)⟩] [0, 0, 0, 6, 14, 0, 0, 64, 224, 480, 1023, 2047]) (.cond (Operand.tmp 24) (.seq (.run [⟨(some 4), none, (Op.assign (Operand.const (Value.bool false)))⟩]) .ret) .skip))) (.run [⟨(some 11), none, (Op.move (Operand.tmp 5))⟩, ⟨(some 12), none, (Op.binOp BinOp.sub 3 (Operand.tmp 11) (Operand.const (Value.int IntKind.i64 1)) 3)⟩, ⟨(some 5), none, (Op.assign (Operand.tmp 12))⟩])))
def c40 : CC := (.seq (.run [⟨(some 4), none, (Op.assign (Operand.const (Value.bool false)))⟩]) (.seq (.seq (.run [⟨(some 6), none, (Op.move (Operand.tmp 0))⟩, ⟨(some 7), none, (Op.call { callee := (Callee.builtin Builtin.len), args := #[(Operand.tmp 6)], argTypes := #[25] })⟩, ⟨(some 8), none, (Op.binOp BinOp.sub 3 (Operand.tmp 7) (Operand.const (Value.int IntKind.i64 1)) 3)⟩, ⟨(some 5), none, (Op.assign (Operand.tmp 8))⟩]) (.block 0 (.loop ([(0, none), (1, none), (5, none)], []) c40_0))) (.seq (.run [⟨(some 4), none, (Op.assign (Operand.const (Value.bool true)))⟩]) .ret)))
def k40 : Nat → List (Nat × Option Nat) × List Nat := fun | 0 => ([(0, none), (1, none), (5, none)], []) | _ => ([], [])
/- block.compare -/

def c41 : CC := (.seq (.run [⟨(some 2), none, (Op.box 47 (Operand.tmp 0))⟩, ⟨(some 3), none, (Op.box 47 (Operand.tmp 1))⟩, ⟨(some 4), none, (Op.assign (Operand.const (Value.int IntKind.i64 0)))⟩]) (.seq (.draw [⟨(some 5), none, (Op.fieldAddr 47 (Operand.tmp 2) 0)⟩, ⟨(some 6), none, (Op.fieldAddr 44 (Operand.tmp 5) 0)⟩, ⟨(some 7), none, (Op.load 42 (Operand.tmp 6))⟩, ⟨(some 8), none, (Op.fieldAddr 47 (Operand.tmp 3) 0)⟩, ⟨(some 9), none, (Op.fieldAddr 44 (Operand.tmp 8) 0)⟩, ⟨(some 10), none, (Op.load 42 (Operand.tmp 9))⟩, ⟨(some 11), none, (Op.call { callee := (Callee.value (Operand.func 54)), args := #[(Operand.tmp 7), (Operand.tmp 10)], argTypes := #[42, 42] })⟩, ⟨(some 12), none, (Op.fieldAddr 47 (Operand.tmp 2) 0)⟩, ⟨(some 13), none, (Op.fieldAddr 44 (Operand.tmp 12) 1)⟩, ⟨(some 14), none, (Op.load 42 (Operand.tmp 13))⟩, ⟨(some 15), none, (Op.fieldAddr 47 (Operand.tmp 3) 0)⟩, ⟨(some 16), none, (Op.fieldAddr 44 (Operand.tmp 15) 1)⟩, ⟨(some 17), none, (Op.load 42 (Operand.tmp 16))⟩, ⟨(some 18), none, (Op.call { callee := (Callee.value (Operand.func 54)), args := #[(Operand.tmp 14), (Operand.tmp 17)], argTypes := #[42, 42] })⟩, ⟨(some 19), none, (Op.buildSlice 28 2 #[(0, (Operand.tmp 11)), (1, (Operand.tmp 18))])⟩, ⟨(some 20), none, (Op.call { callee := (Callee.value (Operand.func 53)), args := #[(Operand.tmp 19)], argTypes := #[28] })⟩, ⟨(some 4), none, (Op.assign (Operand.tmp 20))⟩] [0, 1, 3, 0, 8, 24, 63, 0, 128, 384, 0, 1024, 3072, 8191, 16383, 32767, 65535]) .ret))
def k41 : Nat → List (Nat × Option Nat) × List Nat := fun _ => ([], [])
/- slices.ContainsFunc[[]api.Episode,api.Episode] -/

def c42 : CC := (.seq (.run [⟨(some 4), none, (Op.assign (Operand.const (Value.bool false)))⟩]) (.seq (.run [⟨(some 5), none, (Op.move (Operand.tmp 0))⟩, ⟨(some 6), none, (Op.move (Operand.tmp 1))⟩, ⟨(some 7), none, (Op.call { callee := (Callee.value (Operand.func 55)), args := #[(Operand.tmp 5), (Operand.tmp 6)], argTypes := #[25, 41] })⟩, ⟨(some 8), none, (Op.binOp BinOp.geq 3 (Operand.tmp 7) (Operand.const (Value.int IntKind.i64 0)) 3)⟩, ⟨(some 4), none, (Op.assign (Operand.tmp 8))⟩]) .ret))
def k42 : Nat → List (Nat × Option Nat) × List Nat := fun _ => ([], [])
/- block.Right$1 -/

def c43 : CC := (.seq (.run [⟨(some 1), none, (Op.box 47 (Operand.tmp 0))⟩, ⟨(some 2), none, (Op.assign (Operand.const (Value.bool false)))⟩]) (.seq (.run [⟨(some 3), none, (Op.load 47 (Operand.tmp 1))⟩, ⟨(some 4), none, (Op.call { callee := (Callee.value (Operand.func 44)), args := #[(Operand.tmp 3)], argTypes := #[47] })⟩, ⟨(some 5), none, (Op.unOp UnOp.not 4 (Operand.tmp 4))⟩, ⟨(some 2), none, (Op.assign (Operand.tmp 5))⟩]) .ret))
def k43 : Nat → List (Nat × Option Nat) × List Nat := fun _ => ([], [])
/- block.Episode -/
def c44_0 : CC := (.seq (.run [⟨(some 30), none, (Op.binOp BinOp.lss 3 (Operand.tmp 29) (Operand.tmp 28) 3)⟩]) (.seq (.cond (Operand.tmp 30) .skip (.exit 0)) (.seq (.block 1 (.seq (.run [⟨(some 31), none, (Op.indexAddr 45 (Operand.tmp 27) (Operand.tmp 29))⟩, ⟨(some 32), none, (Op.load 59 (Operand.tmp 31))⟩, ⟨(some 5), none, (Op.alloc 59)⟩, ⟨none, none, (Op.store 59 (Operand.tmp 5) (Operand.tmp 32))⟩]) (.seq (.seq (.run [⟨(some 33), none, (Op.fieldAddr 59 (Operand.tmp 5) 0)⟩, ⟨(some 34), none, (Op.load 44 (Operand.tmp 33))⟩, ⟨(some 35), none, (Op.fieldAddr 47 (Operand.tmp 1) 0)⟩, ⟨(some 36), none, (Op.load 44 (Operand.tmp 35))⟩, ⟨(some 37), none, (Op.binOp BinOp.neq 44 (Operand.tmp 34) (Operand.tmp 36) 44)⟩, ⟨(some 38), none, (Op.move (Operand.tmp 37))⟩, ⟨(some 39), (some (38, false)), (Op.move (Operand.tmp 3))⟩, ⟨(some 40), (some (38, false)), (Op.fieldAddr 59 (Operand.tmp 5) 1)⟩, ⟨(some 41), (some (38, false)), (Op.load 42 (Operand.tmp 40))⟩, ⟨(some 42), (some (38, false)), (Op.lookup 89 (Operand.tmp 39) (Operand.tmp 41) false)⟩, ⟨(some 43), none, (Op.pick (Operand.tmp 38) (Operand.const (Value.bool true)) (Operand.tmp 42))⟩]) (.cond (Operand.tmp 43) (.seq (.run [⟨(some 2), none, (Op.assign (Operand.const (Value.bool false)))⟩]) .ret) .skip)) (.run [⟨(some 44), none, (Op.move (Operand.tmp 3))⟩, ⟨(some 45), none, (Op.fieldAddr 59 (Operand.tmp 5) 1)⟩, ⟨(some 46), none, (Op.load 42 (Operand.tmp 45))⟩, ⟨none, none, (Op.mapUpdate 89 (Operand.tmp 44) (Operand.tmp 46) (Operand.const (Value.bool true)))⟩])))) (.run [⟨(some 47), none, (Op.binOp BinOp.add 3 (Operand.tmp 29) (Operand.const (Value.int IntKind.i64 1)) 3)⟩, ⟨(some 29), none, (Op.move (Operand.tmp 47))⟩]))))
def c44 : CC := (.seq (.run [⟨(some 1), none, (Op.box 47 (Operand.tmp 0))⟩, ⟨(some 2), none, (Op.assign (Operand.const (Value.bool false)))⟩]) (.seq (.seq (.run [⟨(some 6), none, (Op.fieldAddr 47 (Operand.tmp 1) 1)⟩, ⟨(some 7), none, (Op.load 3 (Operand.tmp 6))⟩, ⟨(some 8), none, (Op.fieldAddr 47 (Operand.tmp 1) 2)⟩, ⟨(some 9), none, (Op.load 3 (Operand.tmp 8))⟩, ⟨(some 10), none, (Op.buildSlice 28 2 #[(0, (Operand.tmp 7)), (1, (Operand.tmp 9))])⟩, ⟨(some 11), none, (Op.call { callee := (Callee.value (Operand.func 39)), args := #[(Operand.tmp 10)], argTypes := #[28] })⟩, ⟨(some 12), none, (Op.unOp UnOp.not 4 (Operand.tmp 11))⟩, ⟨(some 13), none, (Op.move (Operand.tmp 12))⟩, ⟨(some 14), (some (13, false)), (Op.fieldAddr 47 (Operand.tmp 1) 4)⟩, ⟨(some 15), (some (13, false)), (Op.load 45 (Operand.tmp 14))⟩, ⟨(some 16), (some (13, false)), (Op.call { callee := (Callee.builtin Builtin.len), args := #[(Operand.tmp 15)], argTypes := #[45] })⟩, ⟨(some 17), (some (13, false)), (Op.binOp BinOp.eql 3 (Operand.tmp 16) (Operand.const (Value.int IntKind.i64 0)) 3)⟩, ⟨(some 18), none, (Op.pick (Operand.tmp 13) (Operand.const (Value.bool true)) (Operand.tmp 17))⟩, ⟨(some 19), none, (Op.move (Operand.tmp 18))⟩, ⟨(some 20), (some (19, false)), (Op.fieldAddr 47 (Operand.tmp 1) 4)⟩, ⟨(some 21), (some (19, false)), (Op.load 45 (Operand.tmp 20))⟩, ⟨(some 22), (some (19, false)), (Op.call { callee := (Callee.value (Operand.func 56)), args := #[(Operand.tmp 21)], argTypes := #[45] })⟩, ⟨(some 23), (some (19, false)), (Op.unOp UnOp.not 4 (Operand.tmp 22))⟩, ⟨(some 24), none, (Op.pick (Operand.tmp 19) (Operand.const (Value.bool true)) (Operand.tmp 23))⟩]) (.cond (Operand.tmp 24) (.seq (.run [⟨(some 2), none, (Op.assign (Operand.const (Value.bool false)))⟩]) .ret) .skip)) (.seq (.run [⟨(some 25), none, (Op.makeMap 89 none)⟩, ⟨(some 3), none, (Op.assign (Operand.tmp 25))⟩]) (.seq (.seq (.run [⟨(some 26), none, (Op.fieldAddr 47 (Operand.tmp 1) 4)⟩, ⟨(some 27), none, (Op.load 45 (Operand.tmp 26))⟩, ⟨(some 28), none, (Op.call { callee := (Callee.builtin Builtin.len), args := #[(Operand.tmp 27)], argTypes := #[45] })⟩, ⟨(some 29), none, (Op.move (Operand.const (Value.int IntKind.i64 0)))⟩]) (.block 0 (.loop ([(1, none), (3, none), (27, none), (28, none), (29, none)], []) c44_0))) (.seq (.run [⟨(some 2), none, (Op.assign (Operand.const (Value.bool true)))⟩]) .ret)))))
def k44 : Nat → List (Nat × Option Nat) × List Nat := fun | 0 => ([(1, none), (3, none), (27, none), (28, none), (29, none)], []) | _ => ([], [])
/- (*ints.Writer).Flag -/

def c45 : CC := (.seq (.run [⟨(some 4), none, (Op.assign (Operand.const (Value.int IntKind.i64 0)))⟩]) (.seq (.seq (.run [⟨(some 5), none, (Op.move (Operand.tmp 1))⟩]) (.cond (Operand.tmp 5) (.run [⟨(some 4), none, (Op.assign (Operand.const (Value.int IntKind.i64 1)))⟩]) .skip)) (.run [⟨(some 6), none, (Op.move (Operand.tmp 0))⟩, ⟨(some 7), none, (Op.move (Operand.tmp 4))⟩, ⟨(some 8), none, (Op.buildSlice 28 1 #[(0, (Operand.tmp 7))])⟩, ⟨(some 9), none, (Op.call { callee := (Callee.value (Operand.func 30)), args := #[(Operand.tmp 6), (Operand.tmp 8)], argTypes := #[60, 28] })⟩])))
def k45 : Nat → List (Nat × Option Nat) × List Nat := fun _ => ([], [])
/- span.Put -/
def c46_0 : CC := (.seq (.run [⟨(some 47), none, (Op.binOp BinOp.lss 3 (Operand.tmp 46) (Operand.tmp 45) 3)⟩]) (.seq (.cond (Operand.tmp 47) .skip (.exit 0)) (.seq (.block 1 (.seq (.run [⟨(some 48), none, (Op.indexAddr 57 (Operand.tmp 44) (Operand.tmp 46))⟩, ⟨(some 49), none, (Op.load 74 (Operand.tmp 48))⟩, ⟨(some 5), none, (Op.alloc 74)⟩, ⟨none, none, (Op.store 74 (Operand.tmp 5) (Operand.tmp 49))⟩]) (.run [⟨(some 50), none, (Op.move (Operand.tmp 0))⟩, ⟨(some 51), none, (Op.fieldAddr 74 (Operand.tmp 5) 0)⟩, ⟨(some 52), none, (Op.load 9 (Operand.tmp 51))⟩, ⟨(some 53), none, (Op.fieldAddr 74 (Operand.tmp 5) 1)⟩, ⟨(some 54), none, (Op.load 9 (Operand.tmp 53))⟩, ⟨(some 55), none, (Op.buildSlice 94 2 #[(0, (Operand.tmp 52)), (1, (Operand.tmp 54))])⟩, ⟨(some 56), none, (Op.call { callee := (Callee.value (Operand.func 57)), args := #[(Operand.tmp 50), (Operand.tmp 55)], argTypes := #[60, 94] })⟩]))) (.run [⟨(some 57), none, (Op.binOp BinOp.add 3 (Operand.tmp 46) (Operand.const (Value.int IntKind.i64 1)) 3)⟩, ⟨(some 46), none, (Op.move (Operand.tmp 57))⟩]))))
def c46 : CC := (.seq (.run [⟨(some 3), none, (Op.box 59 (Operand.tmp 1))⟩]) (.seq (.run [⟨(some 6), none, (Op.move (Operand.tmp 0))⟩, ⟨(some 7), none, (Op.fieldAddr 59 (Operand.tmp 3) 0)⟩, ⟨(some 8), none, (Op.fieldAddr 44 (Operand.tmp 7) 0)⟩, ⟨(some 9), none, (Op.load 42 (Operand.tmp 8))⟩, ⟨(some 10), none, (Op.fieldAddr 59 (Operand.tmp 3) 0)⟩, ⟨(some 11), none, (Op.fieldAddr 44 (Operand.tmp 10) 1)⟩, ⟨(some 12), none, (Op.load 42 (Operand.tmp 11))⟩, ⟨(some 13), none, (Op.fieldAddr 59 (Operand.tmp 3) 1)⟩, ⟨(some 14), none, (Op.load 42 (Operand.tmp 13))⟩, ⟨(some 15), none, (Op.fieldAddr 59 (Operand.tmp 3) 2)⟩, ⟨(some 16), none, (Op.load 42 (Operand.tmp 15))⟩, ⟨(some 17), none, (Op.buildSlice 81 4 #[(0, (Operand.tmp 9)), (1, (Operand.tmp 12)), (2, (Operand.tmp 14)), (3, (Operand.tmp 16))])⟩, ⟨(some 18), none, (Op.call { callee := (Callee.value (Operand.func 32)), args := #[(Operand.tmp 6), (Operand.tmp 17)], argTypes := #[60, 81] })⟩]) (.seq (.run [⟨(some 19), none, (Op.move (Operand.tmp 0))⟩, ⟨(some 20), none, (Op.fieldAddr 59 (Operand.tmp 3) 3)⟩, ⟨(some 21), none, (Op.load 9 (Operand.tmp 20))⟩, ⟨(some 22), none, (Op.fieldAddr 59 (Operand.tmp 3) 4)⟩, ⟨(some 23), none, (Op.load 9 (Operand.tmp 22))⟩, ⟨(some 24), none, (Op.buildSlice 94 2 #[(0, (Operand.tmp 21)), (1, (Operand.tmp 23))])⟩, ⟨(some 25), none, (Op.call { callee := (Callee.value (Operand.func 57)), args := #[(Operand.tmp 19), (Operand.tmp 24)], argTypes := #[60, 94] })⟩]) (.seq (.run [⟨(some 26), none, (Op.move (Operand.tmp 0))⟩, ⟨(some 27), none, (Op.fieldAddr 59 (Operand.tmp 3) 5)⟩, ⟨(some 28), none, (Op.load 3 (Operand.tmp 27))⟩, ⟨(some 29), none, (Op.fieldAddr 59 (Operand.tmp 3) 6)⟩, ⟨(some 30), none, (Op.load 3 (Operand.tmp 29))⟩, ⟨(some 31), none, (Op.buildSlice 28 2 #[(0, (Operand.tmp 28)), (1, (Operand.tmp 30))])⟩, ⟨(some 32), none, (Op.call { callee := (Callee.value (Operand.func 30)), args := #[(Operand.tmp 26), (Operand.tmp 31)], argTypes := #[60, 28] })⟩]) (.seq (.run [⟨(some 33), none, (Op.move (Operand.tmp 0))⟩, ⟨(some 34), none, (Op.fieldAddr 59 (Operand.tmp 3) 7)⟩, ⟨(some 35), none, (Op.load 4 (Operand.tmp 34))⟩, ⟨(some 36), none, (Op.call { callee := (Callee.value (Operand.func 45)), args := #[(Operand.tmp 33), (Operand.tmp 35)], argTypes := #[60, 4] })⟩]) (.seq (.run [⟨(some 37), none, (Op.move (Operand.tmp 0))⟩, ⟨(some 38), none, (Op.fieldAddr 59 (Operand.tmp 3) 8)⟩, ⟨(some 39), none, (Op.load 57 (Operand.tmp 38))⟩, ⟨(some 40), none, (Op.call { callee := (Callee.builtin Builtin.len), args := #[(Operand.tmp 39)], argTypes := #[57] })⟩, ⟨(some 41), none, (Op.buildSlice 28 1 #[(0, (Operand.tmp 40))])⟩, ⟨(some 42), none, (Op.call { callee := (Callee.value (Operand.func 30)), args := #[(Operand.tmp 37), (Operand.tmp 41)], argTypes := #[60, 28] })⟩]) (.seq (.run [⟨(some 43), none, (Op.fieldAddr 59 (Operand.tmp 3) 8)⟩, ⟨(some 44), none, (Op.load 57 (Operand.tmp 43))⟩, ⟨(some 45), none, (Op.call { callee := (Callee.builtin Builtin.len), args := #[(Operand.tmp 44)], argTypes := #[57] })⟩, ⟨(some 46), none, (Op.move (Operand.const (Value.int IntKind.i64 0)))⟩]) (.block 0 (.loop ([(0, none), (44, none), (45, none), (46, none)], [0]) c46_0)))))))))
def k46 : Nat → List (Nat × Option Nat) × List Nat := fun | 0 => ([(0, none), (44, none), (45, none), (46, none)], [0]) | _ => ([], [])
/- check.Put -/
def c47_0 : CC := (.seq (.run [⟨(some 7), none, (Op.binOp BinOp.lss 3 (Operand.tmp 6) (Operand.const (Value.int IntKind.i64 4)) 3)⟩]) (.seq (.cond (Operand.tmp 7) .skip (.exit 0)) (.seq (.block 1 (.seq (.run [⟨(some 8), none, (Op.move (Operand.tmp 6))⟩, ⟨(some 5), none, (Op.assign (Operand.tmp 8))⟩]) (.run [⟨(some 9), none, (Op.move (Operand.tmp 0))⟩, ⟨(some 10), none, (Op.move (Operand.tmp 1))⟩, ⟨(some 11), none, (Op.move (Operand.tmp 5))⟩, ⟨(some 12), none, (Op.binOp BinOp.mul 3 (Operand.const (Value.int IntKind.i64 8)) (Operand.tmp 11) 3)⟩, ⟨(some 13), none, (Op.binOp BinOp.shr 70 (Operand.tmp 10) (Operand.tmp 12) 3)⟩, ⟨(some 14), none, (Op.convert 70 5 (Operand.tmp 13))⟩, ⟨(some 15), none, (Op.buildSlice 39 1 #[(0, (Operand.tmp 14))])⟩, ⟨(some 16), none, (Op.call { callee := (Callee.builtin Builtin.append), args := #[(Operand.tmp 9), (Operand.tmp 15)], argTypes := #[39, 39] })⟩, ⟨(some 0), none, (Op.assign (Operand.tmp 16))⟩]))) (.run [⟨(some 17), none, (Op.binOp BinOp.add 3 (Operand.tmp 6) (Operand.const (Value.int IntKind.i64 1)) 3)⟩, ⟨(some 6), none, (Op.move (Operand.tmp 17))⟩]))))
def c47 : CC := (.seq (.run [⟨(some 4), none, (Op.assign (Operand.const (Value.slice none 0 0)))⟩]) (.seq (.seq (.run [⟨(some 6), none, (Op.move (Operand.const (Value.int IntKind.i64 0)))⟩]) (.block 0 (.loop ([(0, some 5), (1, none), (6, none)], []) c47_0))) (.seq (.run [⟨(some 18), none, (Op.move (Operand.tmp 0))⟩, ⟨(some 4), none, (Op.assign (Operand.tmp 18))⟩]) .ret)))
def k47 : Nat → List (Nat × Option Nat) × List Nat := fun | 0 => ([(0, some 5), (1, none), (6, none)], []) | _ => ([], [])
/- check.Sum -/

def c48 : CC := (.seq (.run [⟨(some 2), none, (Op.assign (Operand.const (Value.int IntKind.u32 0)))⟩]) (.seq (.run [⟨(some 3), none, (Op.move (Operand.tmp 0))⟩, ⟨(some 4), none, (Op.call { callee := (Callee.value (Operand.func 58)), args := #[(Operand.const (Value.int IntKind.u32 0)), (Operand.tmp 3)], argTypes := #[70, 39] })⟩, ⟨(some 2), none, (Op.assign (Operand.tmp 4))⟩]) .ret))
def k48 : Nat → List (Nat × Option Nat) × List Nat := fun _ => ([], [])
/- gleaningref1.Text -/

def c49 : CC := (.seq (.run [⟨(some 4), none, (Op.assign (Operand.const (Value.slice none 0 0)))⟩]) (.seq (.run [⟨(some 5), none, (Op.move (Operand.tmp 0))⟩, ⟨(some 6), none, (Op.move (Operand.tmp 1))⟩, ⟨(some 7), none, (Op.call { callee := (Callee.builtin Builtin.len), args := #[(Operand.tmp 6)], argTypes := #[9] })⟩, ⟨(some 8), none, (Op.convert 3 42 (Operand.tmp 7))⟩, ⟨(some 9), none, (Op.call { callee := (Callee.value (Operand.func 24)), args := #[(Operand.tmp 5), (Operand.tmp 8)], argTypes := #[39, 42] })⟩, ⟨(some 10), none, (Op.move (Operand.tmp 1))⟩, ⟨(some 11), none, (Op.call { callee := (Callee.builtin Builtin.append), args := #[(Operand.tmp 9), (Operand.tmp 10)], argTypes := #[39, 9] })⟩, ⟨(some 4), none, (Op.assign (Operand.tmp 11))⟩]) .ret))
def k49 : Nat → List (Nat × Option Nat) × List Nat := fun _ => ([], [])
/- gleaningref1.More -/
def c50_2 : CC := (.seq (.seq (.run [⟨(some 23), none, (Op.move (Operand.tmp 7))⟩, ⟨(some 24), none, (Op.binOp BinOp.lss 3 (Operand.tmp 23) (Operand.const (Value.int IntKind.i64 8)) 3)⟩]) (.cond (Operand.tmp 24) .skip (.exit 2))) (.seq (.block 3 (.seq (.run [⟨(some 27), none, (Op.move (Operand.tmp 5))⟩, ⟨(some 28), none, (Op.binOp BinOp.and 70 (Operand.tmp 27) (Operand.const (Value.int IntKind.u32 1)) 70)⟩, ⟨(some 29), none, (Op.binOp BinOp.eql 70 (Operand.tmp 28) (Operand.const (Value.int IntKind.u32 1)) 70)⟩]) (.cond (Operand.tmp 29) (.run [⟨(some 30), none, (Op.move (Operand.tmp 5))⟩, ⟨(some 31), none, (Op.binOp BinOp.shr 70 (Operand.tmp 30) (Operand.const (Value.int IntKind.u64 1)) 68)⟩, ⟨(some 32), none, (Op.binOp BinOp.xor 70 (Operand.tmp 31) (Operand.const (Value.int IntKind.u32 3988292384)) 70)⟩, ⟨(some 5), none, (Op.assign (Operand.tmp 32))⟩]) (.run [⟨(some 33), none, (Op.move (Operand.tmp 5))⟩, ⟨(some 34), none, (Op.binOp BinOp.shr 70 (Operand.tmp 33) (Operand.const (Value.int IntKind.u64 1)) 68)⟩, ⟨(some 5), none, (Op.assign (Operand.tmp 34))⟩])))) (.run [⟨(some 25), none, (Op.move (Operand.tmp 7))⟩, ⟨(some 26), none, (Op.binOp BinOp.add 3 (Operand.tmp 25) (Operand.const (Value.int IntKind.i64 1)) 3)⟩, ⟨(some 7), none, (Op.assign (Operand.tmp 26))⟩])))
def c50_0 : CC := (.seq (.seq (.run [⟨(some 10), none, (Op.move (Operand.tmp 6))⟩, ⟨(some 11), none, (Op.move (Operand.tmp 1))⟩, ⟨(some 12), none, (Op.call { callee := (Callee.builtin Builtin.len), args := #[(Operand.tmp 11)], argTypes := #[39] })⟩, ⟨(some 13), none, (Op.binOp BinOp.lss 3 (Operand.tmp 10) (Operand.tmp 12) 3)⟩]) (.cond (Operand.tmp 13) .skip (.exit 0))) (.seq (.block 1 (.seq (.run [⟨(some 16), none, (Op.move (Operand.tmp 5))⟩, ⟨(some 17), none, (Op.move (Operand.tmp 1))⟩, ⟨(some 18), none, (Op.move (Operand.tmp 6))⟩, ⟨(some 19), none, (Op.indexAddr 39 (Operand.tmp 17) (Operand.tmp 18))⟩, ⟨(some 20), none, (Op.load 5 (Operand.tmp 19))⟩, ⟨(some 21), none, (Op.convert 5 70 (Operand.tmp 20))⟩, ⟨(some 22), none, (Op.binOp BinOp.xor 70 (Operand.tmp 16) (Operand.tmp 21) 70)⟩, ⟨(some 5), none, (Op.assign (Operand.tmp 22))⟩]) (.seq (.run [⟨(some 7), none, (Op.assign (Operand.const (Value.int IntKind.i64 0)))⟩]) (.block 2 (.loop ([(1, none), (5, none), (6, none), (7, none)], []) c50_2))))) (.run [⟨(some 14), none, (Op.move (Operand.tmp 6))⟩, ⟨(some 15), none, (Op.binOp BinOp.add 3 (Operand.tmp 14) (Operand.const (Value.int IntKind.i64 1)) 3)⟩, ⟨(some 6), none, (Op.assign (Operand.tmp 15))⟩])))
def c50 : CC := (.seq (.run [⟨(some 4), none, (Op.assign (Operand.const (Value.int IntKind.u32 0)))⟩]) (.seq (.run [⟨(some 8), none, (Op.move (Operand.tmp 0))⟩, ⟨(some 9), none, (Op.unOp UnOp.xor 70 (Operand.tmp 8))⟩, ⟨(some 5), none, (Op.assign (Operand.tmp 9))⟩]) (.seq (.seq (.run [⟨(some 6), none, (Op.assign (Operand.const (Value.int IntKind.i64 0)))⟩]) (.block 0 (.loop ([(1, none), (5, none), (6, none)], []) c50_0))) (.seq (.run [⟨(some 35), none, (Op.move (Operand.tmp 5))⟩, ⟨(some 36), none, (Op.unOp UnOp.xor 70 (Operand.tmp 35))⟩, ⟨(some 4), none, (Op.assign (Operand.tmp 36))⟩]) .ret))))
def k50 : Nat → List (Nat × Option Nat) × List Nat := fun | 0 => ([(1, none), (5, none), (6, none)], []) | 2 => ([(1, none), (5, none), (6, none), (7, none)], []) | _ => ([], [])
/- slices.ContainsFunc[[]int,int] -/

def c51 : CC := (.seq (.run [⟨(some 4), none, (Op.assign (Operand.const (Value.bool false)))⟩]) (.seq (.run [⟨(some 5), none, (Op.move (Operand.tmp 0))⟩, ⟨(some 6), none, (Op.move (Operand.tmp 1))⟩, ⟨(some 7), none, (Op.call { callee := (Callee.value (Operand.func 59)), args := #[(Operand.tmp 5), (Operand.tmp 6)], argTypes := #[28, 49] })⟩, ⟨(some 8), none, (Op.binOp BinOp.geq 3 (Operand.tmp 7) (Operand.const (Value.int IntKind.i64 0)) 3)⟩, ⟨(some 4), none, (Op.assign (Operand.tmp 8))⟩]) .ret))
def k51 : Nat → List (Nat × Option Nat) × List Nat := fun _ => ([], [])
/- block.Epoch$1 -/

def c52 : CC := (.seq (.run [⟨(some 2), none, (Op.assign (Operand.const (Value.bool false)))⟩]) (.seq (.run [⟨(some 3), none, (Op.move (Operand.tmp 0))⟩, ⟨(some 4), none, (Op.binOp BinOp.lss 3 (Operand.tmp 3) (Operand.const (Value.int IntKind.i64 0)) 3)⟩, ⟨(some 5), none, (Op.move (Operand.tmp 4))⟩, ⟨(some 6), (some (5, false)), (Op.move (Operand.tmp 0))⟩, ⟨(some 7), (some (5, false)), (Op.binOp BinOp.gtr 3 (Operand.tmp 6) (Operand.const (Value.int IntKind.i64 1099511627776)) 3)⟩, ⟨(some 8), none, (Op.pick (Operand.tmp 5) (Operand.const (Value.bool true)) (Operand.tmp 7))⟩, ⟨(some 2), none, (Op.assign (Operand.tmp 8))⟩]) .ret))
def k52 : Nat → List (Nat × Option Nat) × List Nat := fun _ => ([], [])
/- cmp.Or[int] -/
def c53_0 : CC := (.seq (.run [⟨(some 9), none, (Op.binOp BinOp.lss 3 (Operand.tmp 8) (Operand.tmp 7) 3)⟩]) (.seq (.cond (Operand.tmp 9) .skip (.exit 0)) (.seq (.block 1 (.seq (.run [⟨(some 10), none, (Op.indexAddr 28 (Operand.tmp 6) (Operand.tmp 8))⟩, ⟨(some 11), none, (Op.load 3 (Operand.tmp 10))⟩, ⟨(some 5), none, (Op.assign (Operand.tmp 11))⟩]) (.seq (.run [⟨(some 12), none, (Op.move (Operand.tmp 5))⟩, ⟨(some 13), none, (Op.move (Operand.tmp 3))⟩, ⟨(some 14), none, (Op.binOp BinOp.neq 3 (Operand.tmp 12) (Operand.tmp 13) 3)⟩]) (.cond (Operand.tmp 14) (.seq (.run [⟨(some 15), none, (Op.move (Operand.tmp 5))⟩, ⟨(some 2), none, (Op.assign (Operand.tmp 15))⟩]) .ret) .skip)))) (.run [⟨(some 16), none, (Op.binOp BinOp.add 3 (Operand.tmp 8) (Operand.const (Value.int IntKind.i64 1)) 3)⟩, ⟨(some 8), none, (Op.move (Operand.tmp 16))⟩]))))
def c53 : CC := (.seq (.run [⟨(some 2), none, (Op.assign (Operand.const (Value.int IntKind.i64 0)))⟩]) (.seq (.run [⟨(some 3), none, (Op.assign (Operand.const (Value.int IntKind.i64 0)))⟩]) (.seq (.seq (.run [⟨(some 6), none, (Op.move (Operand.tmp 0))⟩, ⟨(some 7), none, (Op.call { callee := (Callee.builtin Builtin.len), args := #[(Operand.tmp 6)], argTypes := #[28] })⟩, ⟨(some 8), none, (Op.move (Operand.const (Value.int IntKind.i64 0)))⟩]) (.block 0 (.loop ([(3, none), (6, none), (7, none), (8, none)], []) c53_0))) (.seq (.run [⟨(some 17), none, (Op.move (Operand.tmp 3))⟩, ⟨(some 2), none, (Op.assign (Operand.tmp 17))⟩]) .ret))))
def k53 : Nat → List (Nat × Option Nat) × List Nat := fun | 0 => ([(3, none), (6, none), (7, none), (8, none)], []) | _ => ([], [])
/- cmp.Compare[uint64] -/

def c54 : CC := (.seq (.run [⟨(some 4), none, (Op.assign (Operand.const (Value.int IntKind.i64 0)))⟩]) (.seq (.run [⟨(some 7), none, (Op.move (Operand.tmp 0))⟩, ⟨(some 8), none, (Op.call { callee := (Callee.value (Operand.func 60)), args := #[(Operand.tmp 7)], argTypes := #[42] })⟩, ⟨(some 5), none, (Op.assign (Operand.tmp 8))⟩]) (.seq (.run [⟨(some 9), none, (Op.move (Operand.tmp 1))⟩, ⟨(some 10), none, (Op.call { callee := (Callee.value (Operand.func 60)), args := #[(Operand.tmp 9)], argTypes := #[42] })⟩, ⟨(some 6), none, (Op.assign (Operand.tmp 10))⟩]) (.seq (.seq (.run [⟨(some 11), none, (Op.move (Operand.tmp 5))⟩]) (.cond (Operand.tmp 11) (.seq (.seq (.run [⟨(some 12), none, (Op.move (Operand.tmp 6))⟩]) (.cond (Operand.tmp 12) (.seq (.run [⟨(some 4), none, (Op.assign (Operand.const (Value.int IntKind.i64 0)))⟩]) .ret) .skip)) (.seq (.run [⟨(some 4), none, (Op.assign (Operand.const (Value.int IntKind.i64 (-1))))⟩]) .ret)) .skip)) (.seq (.seq (.run [⟨(some 13), none, (Op.move (Operand.tmp 6))⟩]) (.cond (Operand.tmp 13) (.seq (.run [⟨(some 4), none, (Op.assign (Operand.const (Value.int IntKind.i64 1)))⟩]) .ret) .skip)) (.seq (.seq (.run [⟨(some 14), none, (Op.move (Operand.tmp 0))⟩, ⟨(some 15), none, (Op.move (Operand.tmp 1))⟩, ⟨(some 16), none, (Op.binOp BinOp.lss 42 (Operand.tmp 14) (Operand.tmp 15) 42)⟩]) (.cond (Operand.tmp 16) (.seq (.run [⟨(some 4), none, (Op.assign (Operand.const (Value.int IntKind.i64 (-1))))⟩]) .ret) .skip)) (.seq (.seq (.run [⟨(some 17), none, (Op.move (Operand.tmp 0))⟩, ⟨(some 18), none, (Op.move (Operand.tmp 1))⟩, ⟨(some 19), none, (Op.binOp BinOp.gtr 42 (Operand.tmp 17) (Operand.tmp 18) 42)⟩]) (.cond (Operand.tmp 19) (.seq (.run [⟨(some 4), none, (Op.assign (Operand.const (Value.int IntKind.i64 1)))⟩]) .ret) .skip)) (.seq (.run [⟨(some 4), none, (Op.assign (Operand.const (Value.int IntKind.i64 0)))⟩]) .ret))))))))
def k54 : Nat → List (Nat × Option Nat) × List Nat := fun _ => ([], [])
/- slices.IndexFunc[[]api.Episode,api.Episode] -/
def c55_0 : CC := (.seq (.run [⟨(some 9), none, (Op.binOp BinOp.lss 3 (Operand.tmp 8) (Operand.tmp 7) 3)⟩]) (.seq (.cond (Operand.tmp 9) .skip (.exit 0)) (.seq (.block 1 (.seq (.run [⟨(some 10), none, (Op.move (Operand.tmp 8))⟩, ⟨(some 5), none, (Op.assign (Operand.tmp 10))⟩]) (.seq (.run [⟨(some 11), none, (Op.move (Operand.tmp 1))⟩, ⟨(some 12), none, (Op.move (Operand.tmp 0))⟩, ⟨(some 13), none, (Op.move (Operand.tmp 5))⟩, ⟨(some 14), none, (Op.indexAddr 25 (Operand.tmp 12) (Operand.tmp 13))⟩, ⟨(some 15), none, (Op.load 47 (Operand.tmp 14))⟩, ⟨(some 16), none, (Op.call { callee := (Callee.value (Operand.tmp 11)), args := #[(Operand.tmp 15)], argTypes := #[47] })⟩]) (.cond (Operand.tmp 16) (.seq (.run [⟨(some 17), none, (Op.move (Operand.tmp 5))⟩, ⟨(some 4), none, (Op.assign (Operand.tmp 17))⟩]) .ret) .skip)))) (.run [⟨(some 18), none, (Op.binOp BinOp.add 3 (Operand.tmp 8) (Operand.const (Value.int IntKind.i64 1)) 3)⟩, ⟨(some 8), none, (Op.move (Operand.tmp 18))⟩]))))
def c55 : CC := (.seq (.run [⟨(some 4), none, (Op.assign (Operand.const (Value.int IntKind.i64 0)))⟩]) (.seq (.seq (.run [⟨(some 6), none, (Op.move (Operand.tmp 0))⟩, ⟨(some 7), none, (Op.call { callee := (Callee.builtin Builtin.len), args := #[(Operand.tmp 6)], argTypes := #[25] })⟩, ⟨(some 8), none, (Op.move (Operand.const (Value.int IntKind.i64 0)))⟩]) (.block 0 (.loop ([(0, none), (1, none), (7, none), (8, none)], []) c55_0))) (.seq (.run [⟨(some 4), none, (Op.assign (Operand.const (Value.int IntKind.i64 (-1))))⟩]) .ret)))
def k55 : Nat → List (Nat × Option Nat) × List Nat := fun | 0 => ([(0, none), (1, none), (7, none), (8, none)], []) | _ => ([], [])
/- span.All -/

def c56 : CC := (.seq (.run [⟨(some 2), none, (Op.assign (Operand.const (Value.bool false)))⟩]) (.seq (.run [⟨(some 3), none, (Op.move (Operand.tmp 0))⟩, ⟨(some 4), none, (Op.call { callee := (Callee.value (Operand.func 61)), args := #[(Operand.tmp 3), (Operand.func 62)], argTypes := #[45, 56] })⟩, ⟨(some 5), none, (Op.unOp UnOp.not 4 (Operand.tmp 4))⟩, ⟨(some 2), none, (Op.assign (Operand.tmp 5))⟩]) .ret))
def k56 : Nat → List (Nat × Option Nat) × List Nat := fun _ => ([], [])
/- (*ints.Writer).Text -/
def c57_0 : CC := (.seq (.run [⟨(some 9), none, (Op.binOp BinOp.lss 3 (Operand.tmp 8) (Operand.tmp 7) 3)⟩]) (.seq (.cond (Operand.tmp 9) .skip (.exit 0)) (.seq (.block 1 (.seq (.run [⟨(some 10), none, (Op.indexAddr 94 (Operand.tmp 6) (Operand.tmp 8))⟩, ⟨(some 11), none, (Op.load 9 (Operand.tmp 10))⟩, ⟨(some 5), none, (Op.assign (Operand.tmp 11))⟩]) (.seq (.run [⟨(some 12), none, (Op.move (Operand.tmp 0))⟩, ⟨(some 13), none, (Op.move (Operand.tmp 5))⟩, ⟨(some 14), none, (Op.call { callee := (Callee.builtin Builtin.len), args := #[(Operand.tmp 13)], argTypes := #[9] })⟩, ⟨(some 15), none, (Op.buildSlice 28 1 #[(0, (Operand.tmp 14))])⟩, ⟨(some 16), none, (Op.call { callee := (Callee.value (Operand.func 30)), args := #[(Operand.tmp 12), (Operand.tmp 15)], argTypes := #[60, 28] })⟩]) (.run [⟨(some 17), none, (Op.move (Operand.tmp 0))⟩, ⟨(some 18), none, (Op.move (Operand.tmp 0))⟩, ⟨(some 19), none, (Op.nilCheck (Operand.tmp 18))⟩, ⟨(some 20), none, (Op.fieldAddr 62 (Operand.tmp 19) 0)⟩, ⟨(some 21), none, (Op.load 39 (Operand.tmp 20))⟩, ⟨(some 22), none, (Op.move (Operand.tmp 5))⟩, ⟨(some 23), none, (Op.call { callee := (Callee.builtin Builtin.append), args := #[(Operand.tmp 21), (Operand.tmp 22)], argTypes := #[39, 9] })⟩, ⟨(some 24), none, (Op.nilCheck (Operand.tmp 17))⟩, ⟨(some 25), none, (Op.fieldAddr 62 (Operand.tmp 24) 0)⟩, ⟨none, none, (Op.store 39 (Operand.tmp 25) (Operand.tmp 23))⟩])))) (.run [⟨(some 26), none, (Op.binOp BinOp.add 3 (Operand.tmp 8) (Operand.const (Value.int IntKind.i64 1)) 3)⟩, ⟨(some 8), none, (Op.move (Operand.tmp 26))⟩]))))
def c57 : CC := (.seq (.run [⟨(some 6), none, (Op.move (Operand.tmp 1))⟩, ⟨(some 7), none, (Op.call { callee := (Callee.builtin Builtin.len), args := #[(Operand.tmp 6)], argTypes := #[94] })⟩, ⟨(some 8), none, (Op.move (Operand.const (Value.int IntKind.i64 0)))⟩]) (.block 0 (.loop ([(0, none), (6, none), (7, none), (8, none)], [0]) c57_0)))
def k57 : Nat → List (Nat × Option Nat) × List Nat := fun | 0 => ([(0, none), (6, none), (7, none), (8, none)], [0]) | _ => ([], [])
/- check.More -/
def c58_2 : CC := (.seq (.run [⟨(some 21), none, (Op.binOp BinOp.lss 3 (Operand.tmp 20) (Operand.const (Value.int IntKind.i64 8)) 3)⟩]) (.seq (.cond (Operand.tmp 21) .skip (.exit 2)) (.seq (.block 3 (.run [⟨(some 22), none, (Op.move (Operand.tmp 5))⟩, ⟨(some 23), none, (Op.binOp BinOp.shr 70 (Operand.tmp 22) (Operand.const (Value.int IntKind.u64 1)) 68)⟩, ⟨(some 24), none, (Op.move (Operand.tmp 5))⟩, ⟨(some 25), none, (Op.binOp BinOp.and 70 (Operand.tmp 24) (Operand.const (Value.int IntKind.u32 1)) 70)⟩, ⟨(some 26), none, (Op.binOp BinOp.mul 70 (Operand.const (Value.int IntKind.u32 3988292384)) (Operand.tmp 25) 70)⟩, ⟨(some 27), none, (Op.binOp BinOp.xor 70 (Operand.tmp 23) (Operand.tmp 26) 70)⟩, ⟨(some 5), none, (Op.assign (Operand.tmp 27))⟩])) (.run [⟨(some 28), none, (Op.binOp BinOp.add 3 (Operand.tmp 20) (Operand.const (Value.int IntKind.i64 1)) 3)⟩, ⟨(some 20), none, (Op.move (Operand.tmp 28))⟩]))))
def c58_0 : CC := (.seq (.run [⟨(some 13), none, (Op.binOp BinOp.lss 3 (Operand.tmp 12) (Operand.tmp 11) 3)⟩]) (.seq (.cond (Operand.tmp 13) .skip (.exit 0)) (.seq (.block 1 (.seq (.run [⟨(some 14), none, (Op.indexAddr 39 (Operand.tmp 10) (Operand.tmp 12))⟩, ⟨(some 15), none, (Op.load 5 (Operand.tmp 14))⟩, ⟨(some 7), none, (Op.assign (Operand.tmp 15))⟩]) (.seq (.run [⟨(some 16), none, (Op.move (Operand.tmp 5))⟩, ⟨(some 17), none, (Op.move (Operand.tmp 7))⟩, ⟨(some 18), none, (Op.convert 5 70 (Operand.tmp 17))⟩, ⟨(some 19), none, (Op.binOp BinOp.xor 70 (Operand.tmp 16) (Operand.tmp 18) 70)⟩, ⟨(some 5), none, (Op.assign (Operand.tmp 19))⟩]) (.seq (.run [⟨(some 20), none, (Op.move (Operand.const (Value.int IntKind.i64 0)))⟩]) (.block 2 (.loop ([(5, none), (10, none), (11, none), (12, none), (20, none)], []) c58_2)))))) (.run [⟨(some 29), none, (Op.binOp BinOp.add 3 (Operand.tmp 12) (Operand.const (Value.int IntKind.i64 1)) 3)⟩, ⟨(some 12), none, (Op.move (Operand.tmp 29))⟩]))))
def c58 : CC := (.seq (.run [⟨(some 4), none, (Op.assign (Operand.const (Value.int IntKind.u32 0)))⟩]) (.seq (.run [⟨(some 8), none, (Op.move (Operand.tmp 0))⟩, ⟨(some 9), none, (Op.unOp UnOp.xor 70 (Operand.tmp 8))⟩, ⟨(some 5), none, (Op.assign (Operand.tmp 9))⟩]) (.seq (.seq (.run [⟨(some 10), none, (Op.move (Operand.tmp 1))⟩, ⟨(some 11), none, (Op.call { callee := (Callee.builtin Builtin.len), args := #[(Operand.tmp 10)], argTypes := #[39] })⟩, ⟨(some 12), none, (Op.move (Operand.const (Value.int IntKind.i64 0)))⟩]) (.block 0 (.loop ([(5, none), (10, none), (11, none), (12, none)], []) c58_0))) (.seq (.run [⟨(some 30), none, (Op.move (Operand.tmp 5))⟩, ⟨(some 31), none, (Op.unOp UnOp.xor 70 (Operand.tmp 30))⟩, ⟨(some 4), none, (Op.assign (Operand.tmp 31))⟩]) .ret))))
def k58 : Nat → List (Nat × Option Nat) × List Nat := fun | 0 => ([(5, none), (10, none), (11, none), (12, none)], []) | 2 => ([(5, none), (10, none), (11, none), (12, none), (20, none)], []) | _ => ([], [])
/- slices.IndexFunc[[]int,int] -/
def c59_0 : CC := (.seq (.run [⟨(some 9), none, (Op.binOp BinOp.lss 3 (Operand.tmp 8) (Operand.tmp 7) 3)⟩]) (.seq (.cond (Operand.tmp 9) .skip (.exit 0)) (.seq (.block 1 (.seq (.run [⟨(some 10), none, (Op.move (Operand.tmp 8))⟩, ⟨(some 5), none, (Op.assign (Operand.tmp 10))⟩]) (.seq (.run [⟨(some 11), none, (Op.move (Operand.tmp 1))⟩, ⟨(some 12), none, (Op.move (Operand.tmp 0))⟩, ⟨(some 13), none, (Op.move (Operand.tmp 5))⟩, ⟨(some 14), none, (Op.indexAddr 28 (Operand.tmp 12) (Operand.tmp 13))⟩, ⟨(some 15), none, (Op.load 3 (Operand.tmp 14))⟩, ⟨(some 16), none, (Op.call { callee := (Callee.value (Operand.tmp 11)), args := #[(Operand.tmp 15)], argTypes := #[3] })⟩]) (.cond (Operand.tmp 16) (.seq (.run [⟨(some 17), none, (Op.move (Operand.tmp 5))⟩, ⟨(some 4), none, (Op.assign (Operand.tmp 17))⟩]) .ret) .skip)))) (.run [⟨(some 18), none, (Op.binOp BinOp.add 3 (Operand.tmp 8) (Operand.const (Value.int IntKind.i64 1)) 3)⟩, ⟨(some 8), none, (Op.move (Operand.tmp 18))⟩]))))
def c59 : CC := (.seq (.run [⟨(some 4), none, (Op.assign (Operand.const (Value.int IntKind.i64 0)))⟩]) (.seq (.seq (.run [⟨(some 6), none, (Op.move (Operand.tmp 0))⟩, ⟨(some 7), none, (Op.call { callee := (Callee.builtin Builtin.len), args := #[(Operand.tmp 6)], argTypes := #[28] })⟩, ⟨(some 8), none, (Op.move (Operand.const (Value.int IntKind.i64 0)))⟩]) (.block 0 (.loop ([(0, none), (1, none), (7, none), (8, none)], []) c59_0))) (.seq (.run [⟨(some 4), none, (Op.assign (Operand.const (Value.int IntKind.i64 (-1))))⟩]) .ret)))
def k59 : Nat → List (Nat × Option Nat) × List Nat := fun | 0 => ([(0, none), (1, none), (7, none), (8, none)], []) | _ => ([], [])
/- cmp.isNaN[uint64] -/

def c60 : CC := (.seq (.run [⟨(some 2), none, (Op.assign (Operand.const (Value.bool false)))⟩]) (.seq (.run [⟨(some 3), none, (Op.move (Operand.tmp 0))⟩, ⟨(some 4), none, (Op.move (Operand.tmp 0))⟩, ⟨(some 5), none, (Op.binOp BinOp.neq 42 (Operand.tmp 3) (Operand.tmp 4) 42)⟩, ⟨(some 2), none, (Op.assign (Operand.tmp 5))⟩]) .ret))
def k60 : Nat → List (Nat × Option Nat) × List Nat := fun _ => ([], [])
/- slices.ContainsFunc[[]api.Span,api.Span] -/

def c61 : CC := (.seq (.run [⟨(some 4), none, (Op.assign (Operand.const (Value.bool false)))⟩]) (.seq (.run [⟨(some 5), none, (Op.move (Operand.tmp 0))⟩, ⟨(some 6), none, (Op.move (Operand.tmp 1))⟩, ⟨(some 7), none, (Op.call { callee := (Callee.value (Operand.func 64)), args := #[(Operand.tmp 5), (Operand.tmp 6)], argTypes := #[45, 56] })⟩, ⟨(some 8), none, (Op.binOp BinOp.geq 3 (Operand.tmp 7) (Operand.const (Value.int IntKind.i64 0)) 3)⟩, ⟨(some 4), none, (Op.assign (Operand.tmp 8))⟩]) .ret))
def k61 : Nat → List (Nat × Option Nat) × List Nat := fun _ => ([], [])
/- span.All$1 -/

def c62 : CC := (.seq (.run [⟨(some 1), none, (Op.box 59 (Operand.tmp 0))⟩, ⟨(some 2), none, (Op.assign (Operand.const (Value.bool false)))⟩]) (.seq (.run [⟨(some 3), none, (Op.load 59 (Operand.tmp 1))⟩, ⟨(some 4), none, (Op.call { callee := (Callee.value (Operand.func 63)), args := #[(Operand.tmp 3)], argTypes := #[59] })⟩, ⟨(some 5), none, (Op.unOp UnOp.not 4 (Operand.tmp 4))⟩, ⟨(some 2), none, (Op.assign (Operand.tmp 5))⟩]) .ret))
def k62 : Nat → List (Nat × Option Nat) × List Nat := fun _ => ([], [])
/- span.Right -/

def c63 : CC := (.seq (.run [⟨(some 1), none, (Op.box 59 (Operand.tmp 0))⟩, ⟨(some 2), none, (Op.assign (Operand.const (Value.bool false)))⟩]) (.seq (.run [⟨(some 3), none, (Op.fieldAddr 59 (Operand.tmp 1) 3)⟩, ⟨(some 4), none, (Op.load 9 (Operand.tmp 3))⟩, ⟨(some 5), none, (Op.call { callee := (Callee.value (Operand.func 65)), args := #[(Operand.tmp 4)], argTypes := #[9] })⟩, ⟨(some 6), none, (Op.move (Operand.tmp 5))⟩, ⟨(some 7), (some (6, true)), (Op.fieldAddr 59 (Operand.tmp 1) 4)⟩, ⟨(some 8), (some (6, true)), (Op.load 9 (Operand.tmp 7))⟩, ⟨(some 9), (some (6, true)), (Op.call { callee := (Callee.value (Operand.func 65)), args := #[(Operand.tmp 8)], argTypes := #[9] })⟩, ⟨(some 10), none, (Op.pick (Operand.tmp 6) (Operand.tmp 9) (Operand.const (Value.bool false)))⟩, ⟨(some 11), none, (Op.move (Operand.tmp 10))⟩, ⟨(some 12), (some (11, true)), (Op.fieldAddr 59 (Operand.tmp 1) 5)⟩, ⟨(some 13), (some (11, true)), (Op.load 3 (Operand.tmp 12))⟩, ⟨(some 14), (some (11, true)), (Op.binOp BinOp.geq 3 (Operand.tmp 13) (Operand.const (Value.int IntKind.i64 0)) 3)⟩, ⟨(some 15), none, (Op.pick (Operand.tmp 11) (Operand.tmp 14) (Operand.const (Value.bool false)))⟩, ⟨(some 16), none, (Op.move (Operand.tmp 15))⟩, ⟨(some 17), (some (16, true)), (Op.fieldAddr 59 (Operand.tmp 1) 5)⟩, ⟨(some 18), (some (16, true)), (Op.load 3 (Operand.tmp 17))⟩, ⟨(some 19), (some (16, true)), (Op.binOp BinOp.leq 3 (Operand.tmp 18) (Operand.const (Value.int IntKind.i64 1099511627776)) 3)⟩, ⟨(some 20), none, (Op.pick (Operand.tmp 16) (Operand.tmp 19) (Operand.const (Value.bool false)))⟩, ⟨(some 21), none, (Op.move (Operand.tmp 20))⟩, ⟨(some 22), (some (21, true)), (Op.fieldAddr 59 (Operand.tmp 1) 6)⟩, ⟨(some 23), (some (21, true)), (Op.load 3 (Operand.tmp 22))⟩, ⟨(some 24), (some (21, true)), (Op.binOp BinOp.geq 3 (Operand.tmp 23) (Operand.const (Value.int IntKind.i64 0)) 3)⟩, ⟨(some 25), none, (Op.pick (Operand.tmp 21) (Operand.tmp 24) (Operand.const (Value.bool false)))⟩, ⟨(some 26), none, (Op.move (Operand.tmp 25))⟩, ⟨(some 27), (some (26, true)), (Op.fieldAddr 59 (Operand.tmp 1) 6)⟩, ⟨(some 28), (some (26, true)), (Op.load 3 (Operand.tmp 27))⟩, ⟨(some 29), (some (26, true)), (Op.binOp BinOp.leq 3 (Operand.tmp 28) (Operand.const (Value.int IntKind.i64 1073741824)) 3)⟩, ⟨(some 30), none, (Op.pick (Operand.tmp 26) (Operand.tmp 29) (Operand.const (Value.bool false)))⟩, ⟨(some 31), none, (Op.move (Operand.tmp 30))⟩, ⟨(some 32), (some (31, true)), (Op.fieldAddr 59 (Operand.tmp 1) 8)⟩, ⟨(some 33), (some (31, true)), (Op.load 57 (Operand.tmp 32))⟩, ⟨(some 34), (some (31, true)), (Op.call { callee := (Callee.builtin Builtin.len), args := #[(Operand.tmp 33)], argTypes := #[57] })⟩, ⟨(some 35), (some (31, true)), (Op.binOp BinOp.leq 3 (Operand.tmp 34) (Operand.const (Value.int IntKind.i64 4)) 3)⟩, ⟨(some 36), none, (Op.pick (Operand.tmp 31) (Operand.tmp 35) (Operand.const (Value.bool false)))⟩, ⟨(some 37), none, (Op.move (Operand.tmp 36))⟩, ⟨(some 38), (some (37, true)), (Op.fieldAddr 59 (Operand.tmp 1) 8)⟩, ⟨(some 39), (some (37, true)), (Op.load 57 (Operand.tmp 38))⟩, ⟨(some 40), (some (37, true)), (Op.call { callee := (Callee.value (Operand.func 66)), args := #[(Operand.tmp 39)], argTypes := #[57] })⟩, ⟨(some 41), none, (Op.pick (Operand.tmp 37) (Operand.tmp 40) (Operand.const (Value.bool false)))⟩, ⟨(some 2), none, (Op.assign (Operand.tmp 41))⟩]) .ret))
def k63 : Nat → List (Nat × Option Nat) × List Nat := fun _ => ([], [])
/- slices.IndexFunc[[]api.Span,api.Span] -/
def c64_0 : CC := (.seq (.run [⟨(some 9), none, (Op.binOp BinOp.lss 3 (Operand.tmp 8) (Operand.tmp 7) 3)⟩]) (.seq (.cond (Operand.tmp 9) .skip (.exit 0)) (.seq (.block 1 (.seq (.run [⟨(some 10), none, (Op.move (Operand.tmp 8))⟩, ⟨(some 5), none, (Op.assign (Operand.tmp 10))⟩]) (.seq (.run [⟨(some 11), none, (Op.move (Operand.tmp 1))⟩, ⟨(some 12), none, (Op.move (Operand.tmp 0))⟩, ⟨(some 13), none, (Op.move (Operand.tmp 5))⟩, ⟨(some 14), none, (Op.indexAddr 45 (Operand.tmp 12) (Operand.tmp 13))⟩, ⟨(some 15), none, (Op.load 59 (Operand.tmp 14))⟩, ⟨(some 16), none, (Op.call { callee := (Callee.value (Operand.tmp 11)), args := #[(Operand.tmp 15)], argTypes := #[59] })⟩]) (.cond (Operand.tmp 16) (.seq (.run [⟨(some 17), none, (Op.move (Operand.tmp 5))⟩, ⟨(some 4), none, (Op.assign (Operand.tmp 17))⟩]) .ret) .skip)))) (.run [⟨(some 18), none, (Op.binOp BinOp.add 3 (Operand.tmp 8) (Operand.const (Value.int IntKind.i64 1)) 3)⟩, ⟨(some 8), none, (Op.move (Operand.tmp 18))⟩]))))
def c64 : CC := (.seq (.run [⟨(some 4), none, (Op.assign (Operand.const (Value.int IntKind.i64 0)))⟩]) (.seq (.seq (.run [⟨(some 6), none, (Op.move (Operand.tmp 0))⟩, ⟨(some 7), none, (Op.call { callee := (Callee.builtin Builtin.len), args := #[(Operand.tmp 6)], argTypes := #[45] })⟩, ⟨(some 8), none, (Op.move (Operand.const (Value.int IntKind.i64 0)))⟩]) (.block 0 (.loop ([(0, none), (1, none), (7, none), (8, none)], []) c64_0))) (.seq (.run [⟨(some 4), none, (Op.assign (Operand.const (Value.int IntKind.i64 (-1))))⟩]) .ret)))
def k64 : Nat → List (Nat × Option Nat) × List Nat := fun | 0 => ([(0, none), (1, none), (7, none), (8, none)], []) | _ => ([], [])
/- span.Name -/

def c65 : CC := (.seq (.run [⟨(some 2), none, (Op.assign (Operand.const (Value.bool false)))⟩]) (.seq (.run [⟨(some 3), none, (Op.move (Operand.tmp 0))⟩, ⟨(some 4), none, (Op.call { callee := (Callee.builtin Builtin.len), args := #[(Operand.tmp 3)], argTypes := #[9] })⟩, ⟨(some 5), none, (Op.binOp BinOp.geq 3 (Operand.tmp 4) (Operand.const (Value.int IntKind.i64 1)) 3)⟩, ⟨(some 6), none, (Op.move (Operand.tmp 5))⟩, ⟨(some 7), (some (6, true)), (Op.move (Operand.tmp 0))⟩, ⟨(some 8), (some (6, true)), (Op.call { callee := (Callee.builtin Builtin.len), args := #[(Operand.tmp 7)], argTypes := #[9] })⟩, ⟨(some 9), (some (6, true)), (Op.binOp BinOp.leq 3 (Operand.tmp 8) (Operand.const (Value.int IntKind.i64 16)) 3)⟩, ⟨(some 10), none, (Op.pick (Operand.tmp 6) (Operand.tmp 9) (Operand.const (Value.bool false)))⟩, ⟨(some 2), none, (Op.assign (Operand.tmp 10))⟩]) .ret))
def k65 : Nat → List (Nat × Option Nat) × List Nat := fun _ => ([], [])
/- span.attrs -/
def c66_0 : CC := (.seq (.run [⟨(some 8), none, (Op.binOp BinOp.lss 3 (Operand.tmp 7) (Operand.tmp 6) 3)⟩]) (.seq (.cond (Operand.tmp 8) .skip (.exit 0)) (.seq (.block 1 (.seq (.run [⟨(some 9), none, (Op.move (Operand.tmp 7))⟩, ⟨(some 10), none, (Op.indexAddr 57 (Operand.tmp 5) (Operand.tmp 7))⟩, ⟨(some 11), none, (Op.load 74 (Operand.tmp 10))⟩, ⟨(some 4), none, (Op.alloc 74)⟩, ⟨(some 3), none, (Op.assign (Operand.tmp 9))⟩, ⟨none, none, (Op.store 74 (Operand.tmp 4) (Operand.tmp 11))⟩]) (.seq (.run [⟨(some 12), none, (Op.fieldAddr 74 (Operand.tmp 4) 0)⟩, ⟨(some 13), none, (Op.load 9 (Operand.tmp 12))⟩, ⟨(some 14), none, (Op.call { callee := (Callee.value (Operand.func 65)), args := #[(Operand.tmp 13)], argTypes := #[9] })⟩, ⟨(some 15), none, (Op.unOp UnOp.not 4 (Operand.tmp 14))⟩, ⟨(some 16), none, (Op.move (Operand.tmp 15))⟩, ⟨(some 17), (some (16, false)), (Op.fieldAddr 74 (Operand.tmp 4) 1)⟩, ⟨(some 18), (some (16, false)), (Op.load 9 (Operand.tmp 17))⟩, ⟨(some 19), (some (16, false)), (Op.call { callee := (Callee.builtin Builtin.len), args := #[(Operand.tmp 18)], argTypes := #[9] })⟩, ⟨(some 20), (some (16, false)), (Op.binOp BinOp.gtr 3 (Operand.tmp 19) (Operand.const (Value.int IntKind.i64 16)) 3)⟩, ⟨(some 21), none, (Op.pick (Operand.tmp 16) (Operand.const (Value.bool true)) (Operand.tmp 20))⟩, ⟨(some 22), none, (Op.move (Operand.tmp 21))⟩, ⟨(some 23), (some (22, false)), (Op.move (Operand.tmp 0))⟩, ⟨(some 24), (some (22, false)), (Op.move (Operand.tmp 3))⟩, ⟨(some 25), (some (22, false)), (Op.slice 57 (Operand.tmp 23) none (some (Operand.tmp 24)) none)⟩, ⟨(some 26), (some (22, false)), (Op.makeFunc (Fn.func 68) #[] #[(Operand.tmp 4)])⟩, ⟨(some 27), (some (22, false)), (Op.call { callee := (Callee.value (Operand.func 67)), args := #[(Operand.tmp 25), (Operand.tmp 26)], argTypes := #[57, 99] })⟩, ⟨(some 28), none, (Op.pick (Operand.tmp 22) (Operand.const (Value.bool true)) (Operand.tmp 27))⟩]) (.cond (Operand.tmp 28) (.seq (.run [⟨(some 2), none, (Op.assign (Operand.const (Value.bool false)))⟩]) .ret) .skip)))) (.run [⟨(some 29), none, (Op.binOp BinOp.add 3 (Operand.tmp 7) (Operand.const (Value.int IntKind.i64 1)) 3)⟩, ⟨(some 7), none, (Op.move (Operand.tmp 29))⟩]))))
def c66 : CC := (.seq (.run [⟨(some 2), none, (Op.assign (Operand.const (Value.bool false)))⟩]) (.seq (.seq (.run [⟨(some 5), none, (Op.move (Operand.tmp 0))⟩, ⟨(some 6), none, (Op.call { callee := (Callee.builtin Builtin.len), args := #[(Operand.tmp 5)], argTypes := #[57] })⟩, ⟨(some 7), none, (Op.move (Operand.const (Value.int IntKind.i64 0)))⟩]) (.block 0 (.loop ([(0, none), (5, none), (6, none), (7, none)], []) c66_0))) (.seq (.run [⟨(some 30), none, (Op.move (Operand.tmp 0))⟩, ⟨(some 31), none, (Op.call { callee := (Callee.builtin Builtin.len), args := #[(Operand.tmp 30)], argTypes := #[57] })⟩, ⟨(some 32), none, (Op.binOp BinOp.leq 3 (Operand.tmp 31) (Operand.const (Value.int IntKind.i64 4)) 3)⟩, ⟨(some 2), none, (Op.assign (Operand.tmp 32))⟩]) .ret)))
def k66 : Nat → List (Nat × Option Nat) × List Nat := fun | 0 => ([(0, none), (5, none), (6, none), (7, none)], []) | _ => ([], [])
/- slices.ContainsFunc[[]api.Attr,api.Attr] -/

def c67 : CC := (.seq (.run [⟨(some 4), none, (Op.assign (Operand.const (Value.bool false)))⟩]) (.seq (.run [⟨(some 5), none, (Op.move (Operand.tmp 0))⟩, ⟨(some 6), none, (Op.move (Operand.tmp 1))⟩, ⟨(some 7), none, (Op.call { callee := (Callee.value (Operand.func 69)), args := #[(Operand.tmp 5), (Operand.tmp 6)], argTypes := #[57, 99] })⟩, ⟨(some 8), none, (Op.binOp BinOp.geq 3 (Operand.tmp 7) (Operand.const (Value.int IntKind.i64 0)) 3)⟩, ⟨(some 4), none, (Op.assign (Operand.tmp 8))⟩]) .ret))
def k67 : Nat → List (Nat × Option Nat) × List Nat := fun _ => ([], [])
/- span.attrs$1 -/

def c68 : CC := (.seq (.run [⟨(some 2), none, (Op.box 74 (Operand.tmp 0))⟩, ⟨(some 3), none, (Op.assign (Operand.const (Value.bool false)))⟩]) (.seq (.run [⟨(some 4), none, (Op.fieldAddr 74 (Operand.tmp 2) 0)⟩, ⟨(some 5), none, (Op.load 9 (Operand.tmp 4))⟩, ⟨(some 6), none, (Op.fieldAddr 74 (Operand.tmp 1) 0)⟩, ⟨(some 7), none, (Op.load 9 (Operand.tmp 6))⟩, ⟨(some 8), none, (Op.binOp BinOp.eql 9 (Operand.tmp 5) (Operand.tmp 7) 9)⟩, ⟨(some 3), none, (Op.assign (Operand.tmp 8))⟩]) .ret))
def k68 : Nat → List (Nat × Option Nat) × List Nat := fun _ => ([], [])
/- slices.IndexFunc[[]api.Attr,api.Attr] -/
def c69_0 : CC := (.seq (.run [⟨(some 9), none, (Op.binOp BinOp.lss 3 (Operand.tmp 8) (Operand.tmp 7) 3)⟩]) (.seq (.cond (Operand.tmp 9) .skip (.exit 0)) (.seq (.block 1 (.seq (.run [⟨(some 10), none, (Op.move (Operand.tmp 8))⟩, ⟨(some 5), none, (Op.assign (Operand.tmp 10))⟩]) (.seq (.run [⟨(some 11), none, (Op.move (Operand.tmp 1))⟩, ⟨(some 12), none, (Op.move (Operand.tmp 0))⟩, ⟨(some 13), none, (Op.move (Operand.tmp 5))⟩, ⟨(some 14), none, (Op.indexAddr 57 (Operand.tmp 12) (Operand.tmp 13))⟩, ⟨(some 15), none, (Op.load 74 (Operand.tmp 14))⟩, ⟨(some 16), none, (Op.call { callee := (Callee.value (Operand.tmp 11)), args := #[(Operand.tmp 15)], argTypes := #[74] })⟩]) (.cond (Operand.tmp 16) (.seq (.run [⟨(some 17), none, (Op.move (Operand.tmp 5))⟩, ⟨(some 4), none, (Op.assign (Operand.tmp 17))⟩]) .ret) .skip)))) (.run [⟨(some 18), none, (Op.binOp BinOp.add 3 (Operand.tmp 8) (Operand.const (Value.int IntKind.i64 1)) 3)⟩, ⟨(some 8), none, (Op.move (Operand.tmp 18))⟩]))))
def c69 : CC := (.seq (.run [⟨(some 4), none, (Op.assign (Operand.const (Value.int IntKind.i64 0)))⟩]) (.seq (.seq (.run [⟨(some 6), none, (Op.move (Operand.tmp 0))⟩, ⟨(some 7), none, (Op.call { callee := (Callee.builtin Builtin.len), args := #[(Operand.tmp 6)], argTypes := #[57] })⟩, ⟨(some 8), none, (Op.move (Operand.const (Value.int IntKind.i64 0)))⟩]) (.block 0 (.loop ([(0, none), (1, none), (7, none), (8, none)], []) c69_0))) (.seq (.run [⟨(some 4), none, (Op.assign (Operand.const (Value.int IntKind.i64 (-1))))⟩]) .ret)))
def k69 : Nat → List (Nat × Option Nat) × List Nat := fun | 0 => ([(0, none), (1, none), (7, none), (8, none)], []) | _ => ([], [])
def md : Nat → List Nat
  | 3 => [0, 0, 0, 0]
  | 4 => [0, 0]
  | 5 => [0, 0, 0, 0, 0, 0]
  | 6 => []
  | 7 => [0]
  | 8 => [0, 0, 0, 0]
  | 9 => [0]
  | 10 => [0]
  | 11 => [0]
  | 12 => [0, 0]
  | 13 => [0]
  | 14 => [0]
  | 15 => [1, 0, 0]
  | 16 => [0]
  | 17 => [0]
  | 18 => [0, 0]
  | 19 => [0]
  | 20 => [0]
  | 21 => [0]
  | 22 => [1, 0]
  | 23 => [1, 0]
  | 24 => [1, 0]
  | 25 => [1, 0]
  | 26 => [0]
  | 27 => [0]
  | 28 => [0]
  | 29 => [0]
  | 30 => [2, 0]
  | 31 => [2, 0]
  | 32 => [2, 0]
  | 33 => [0]
  | 34 => [0]
  | 35 => [1, 0]
  | 36 => [0]
  | 37 => [0]
  | 38 => [0, 0, 0]
  | 39 => [0]
  | 40 => [0, 0]
  | 41 => [0, 0]
  | 42 => [0, 0]
  | 43 => [0]
  | 44 => [0]
  | 45 => [2, 0]
  | 46 => [2, 0]
  | 47 => [1, 0]
  | 48 => [0]
  | 49 => [1, 0]
  | 50 => [0, 0]
  | 51 => [0, 0]
  | 52 => [0]
  | 53 => [0]
  | 54 => [0, 0]
  | 55 => [0, 0]
  | 56 => [0]
  | 57 => [2, 0]
  | 58 => [0, 0]
  | 59 => [0, 0]
  | 60 => [0]
  | 61 => [0, 0]
  | 62 => [0]
  | 63 => [0]
  | 64 => [0, 0]
  | 65 => [0]
  | 66 => [0]
  | 67 => [0, 0]
  | 68 => [0, 0]
  | 69 => [0, 0]
  | _ => []
def rm : Nat → List Nat
  | 3 => [0]
  | 4 => [0]
  | 5 => [0]
  | 6 => [0]
  | 7 => [0]
  | 8 => [1]
  | 9 => [0]
  | 10 => [0]
  | 11 => [0]
  | 12 => [0]
  | 13 => [0]
  | 14 => [0]
  | 15 => [1]
  | 16 => [1]
  | 17 => [0]
  | 18 => [0]
  | 19 => [0]
  | 20 => [0]
  | 21 => [1]
  | 22 => [1]
  | 23 => [1]
  | 24 => [1]
  | 25 => [1]
  | 26 => [1]
  | 27 => [0]
  | 28 => [0]
  | 29 => [0]
  | 30 => []
  | 31 => []
  | 32 => []
  | 33 => [1]
  | 34 => [0]
  | 35 => [1]
  | 36 => [1]
  | 37 => [0]
  | 38 => [0]
  | 39 => [0]
  | 40 => [0]
  | 41 => [0]
  | 42 => [0]
  | 43 => [0]
  | 44 => [0]
  | 45 => []
  | 46 => []
  | 47 => [1]
  | 48 => [0]
  | 49 => [1]
  | 50 => [0]
  | 51 => [0]
  | 52 => [0]
  | 53 => [0]
  | 54 => [0]
  | 55 => [0]
  | 56 => [0]
  | 57 => []
  | 58 => [0]
  | 59 => [0]
  | 60 => [0]
  | 61 => [0]
  | 62 => [0]
  | 63 => [0]
  | 64 => [0]
  | 65 => [0]
  | 66 => [0]
  | 67 => [0]
  | 68 => [0]
  | 69 => [0]
  | _ => []
def fns : Nat → Option CFn
  | 3 => some ⟨[.tmp 8], [4], c3⟩
  | 4 => some ⟨[.tmp 4], [4], c4⟩
  | 5 => some ⟨[.tmp 12], [4], c5⟩
  | 6 => some ⟨[.tmp 0], [4], c6⟩
  | 7 => some ⟨[.tmp 2], [4], c7⟩
  | 8 => some ⟨[.tmp 8], [28], c8⟩
  | 9 => some ⟨[.tmp 2], [3], c9⟩
  | 10 => some ⟨[.tmp 2], [4], c10⟩
  | 11 => some ⟨[.tmp 2], [4], c11⟩
  | 12 => some ⟨[.tmp 4], [3], c12⟩
  | 13 => some ⟨[.tmp 2], [3], c13⟩
  | 14 => some ⟨[.tmp 2], [3], c14⟩
  | 15 => some ⟨[.tmp 6], [22], c15⟩
  | 16 => some ⟨[.tmp 2], [39], c16⟩
  | 17 => some ⟨[.tmp 2], [4], c17⟩
  | 18 => some ⟨[.tmp 4], [4], c18⟩
  | 19 => some ⟨[.tmp 2], [4], c19⟩
  | 20 => some ⟨[.tmp 2], [4], c20⟩
  | 21 => some ⟨[.tmp 2], [39], c21⟩
  | 22 => some ⟨[.tmp 4], [39], c22⟩
  | 23 => some ⟨[.tmp 4], [39], c23⟩
  | 24 => some ⟨[.tmp 4], [39], c24⟩
  | 25 => some ⟨[.tmp 4], [39], c25⟩
  | 26 => some ⟨[.tmp 2], [39], c26⟩
  | 27 => some ⟨[.tmp 2], [4], c27⟩
  | 28 => some ⟨[.tmp 2], [4], c28⟩
  | 29 => some ⟨[.tmp 2], [4], c29⟩
  | 30 => some ⟨[], [], c30⟩
  | 31 => some ⟨[], [], c31⟩
  | 32 => some ⟨[], [], c32⟩
  | 33 => some ⟨[.tmp 2], [39], c33⟩
  | 34 => some ⟨[.tmp 2], [42], c34⟩
  | 35 => some ⟨[.tmp 4], [39], c35⟩
  | 36 => some ⟨[.tmp 2], [39], c36⟩
  | 37 => some ⟨[.tmp 2], [70], c37⟩
  | 38 => some ⟨[.tmp 6], [4], c38⟩
  | 39 => some ⟨[.tmp 2], [4], c39⟩
  | 40 => some ⟨[.tmp 4], [4], c40⟩
  | 41 => some ⟨[.tmp 4], [3], c41⟩
  | 42 => some ⟨[.tmp 4], [4], c42⟩
  | 43 => some ⟨[.tmp 2], [4], c43⟩
  | 44 => some ⟨[.tmp 2], [4], c44⟩
  | 45 => some ⟨[], [], c45⟩
  | 46 => some ⟨[], [], c46⟩
  | 47 => some ⟨[.tmp 4], [39], c47⟩
  | 48 => some ⟨[.tmp 2], [70], c48⟩
  | 49 => some ⟨[.tmp 4], [39], c49⟩
  | 50 => some ⟨[.tmp 4], [70], c50⟩
  | 51 => some ⟨[.tmp 4], [4], c51⟩
  | 52 => some ⟨[.tmp 2], [4], c52⟩
  | 53 => some ⟨[.tmp 2], [3], c53⟩
  | 54 => some ⟨[.tmp 4], [3], c54⟩
  | 55 => some ⟨[.tmp 4], [3], c55⟩
  | 56 => some ⟨[.tmp 2], [4], c56⟩
  | 57 => some ⟨[], [], c57⟩
  | 58 => some ⟨[.tmp 4], [70], c58⟩
  | 59 => some ⟨[.tmp 4], [3], c59⟩
  | 60 => some ⟨[.tmp 2], [4], c60⟩
  | 61 => some ⟨[.tmp 4], [4], c61⟩
  | 62 => some ⟨[.tmp 2], [4], c62⟩
  | 63 => some ⟨[.tmp 2], [4], c63⟩
  | 64 => some ⟨[.tmp 4], [3], c64⟩
  | 65 => some ⟨[.tmp 2], [4], c65⟩
  | 66 => some ⟨[.tmp 2], [4], c66⟩
  | 67 => some ⟨[.tmp 4], [4], c67⟩
  | 68 => some ⟨[.tmp 3], [4], c68⟩
  | 69 => some ⟨[.tmp 4], [3], c69⟩
  | _ => none
def eqT : Nat → Bool
  | 44 => true
  | 74 => true
  | _ => false
def prT : Nat → List (Option Nat)
  | 62 => [some 5]
  | _ => []
noncomputable def srtT : Nat → Option SortF
  | _ => none
def giv0 : CallF := fun _ _ => none
noncomputable def cx : Cx := { P := Try.prog, md := md, rm := rm, eqT := eqT, pr := prT, giv := giv0, fns := fns, srt := srtT }
@[go_sem] theorem cxsrt (g : Nat) : cx.srt g = srtT g := rfl
@[go_sem] theorem cxP : cx.P = Try.prog := rfl
theorem cxmd : cx.md = md := rfl
theorem cxrm : cx.rm = rm := rfl
@[go_sem] theorem cxeq : cx.eqT = eqT := rfl
theorem cxfns : cx.fns = fns := rfl
@[go_sem] theorem cxgiv (f : Nat) (t : List PV) : cx.giv f t = none := rfl
@[go_sem] theorem cxpr (t : Nat) : cx.pr t = prT t := rfl
attribute [go_sem] prT eqT srtT
theorem fns_3 : cx.fns 3 = some ⟨[.tmp 8], [4], c3⟩ := rfl
@[go_sem] theorem md_3 : cx.md 3 = [0, 0, 0, 0] := rfl
@[go_sem] theorem rm_3 : cx.rm 3 = [0] := rfl
theorem fns_4 : cx.fns 4 = some ⟨[.tmp 4], [4], c4⟩ := rfl
@[go_sem] theorem md_4 : cx.md 4 = [0, 0] := rfl
@[go_sem] theorem rm_4 : cx.rm 4 = [0] := rfl
theorem fns_5 : cx.fns 5 = some ⟨[.tmp 12], [4], c5⟩ := rfl
@[go_sem] theorem md_5 : cx.md 5 = [0, 0, 0, 0, 0, 0] := rfl
@[go_sem] theorem rm_5 : cx.rm 5 = [0] := rfl
theorem fns_6 : cx.fns 6 = some ⟨[.tmp 0], [4], c6⟩ := rfl
@[go_sem] theorem md_6 : cx.md 6 = [] := rfl
@[go_sem] theorem rm_6 : cx.rm 6 = [0] := rfl
theorem fns_7 : cx.fns 7 = some ⟨[.tmp 2], [4], c7⟩ := rfl
@[go_sem] theorem md_7 : cx.md 7 = [0] := rfl
@[go_sem] theorem rm_7 : cx.rm 7 = [0] := rfl
theorem fns_8 : cx.fns 8 = some ⟨[.tmp 8], [28], c8⟩ := rfl
@[go_sem] theorem md_8 : cx.md 8 = [0, 0, 0, 0] := rfl
@[go_sem] theorem rm_8 : cx.rm 8 = [1] := rfl
theorem fns_9 : cx.fns 9 = some ⟨[.tmp 2], [3], c9⟩ := rfl
@[go_sem] theorem md_9 : cx.md 9 = [0] := rfl
@[go_sem] theorem rm_9 : cx.rm 9 = [0] := rfl
theorem fns_10 : cx.fns 10 = some ⟨[.tmp 2], [4], c10⟩ := rfl
@[go_sem] theorem md_10 : cx.md 10 = [0] := rfl
@[go_sem] theorem rm_10 : cx.rm 10 = [0] := rfl
theorem fns_11 : cx.fns 11 = some ⟨[.tmp 2], [4], c11⟩ := rfl
@[go_sem] theorem md_11 : cx.md 11 = [0] := rfl
@[go_sem] theorem rm_11 : cx.rm 11 = [0] := rfl
theorem fns_12 : cx.fns 12 = some ⟨[.tmp 4], [3], c12⟩ := rfl
@[go_sem] theorem md_12 : cx.md 12 = [0, 0] := rfl
@[go_sem] theorem rm_12 : cx.rm 12 = [0] := rfl
theorem fns_13 : cx.fns 13 = some ⟨[.tmp 2], [3], c13⟩ := rfl
@[go_sem] theorem md_13 : cx.md 13 = [0] := rfl
@[go_sem] theorem rm_13 : cx.rm 13 = [0] := rfl
theorem fns_14 : cx.fns 14 = some ⟨[.tmp 2], [3], c14⟩ := rfl
@[go_sem] theorem md_14 : cx.md 14 = [0] := rfl
@[go_sem] theorem rm_14 : cx.rm 14 = [0] := rfl
theorem fns_15 : cx.fns 15 = some ⟨[.tmp 6], [22], c15⟩ := rfl
@[go_sem] theorem md_15 : cx.md 15 = [1, 0, 0] := rfl
@[go_sem] theorem rm_15 : cx.rm 15 = [1] := rfl
theorem fns_16 : cx.fns 16 = some ⟨[.tmp 2], [39], c16⟩ := rfl
@[go_sem] theorem md_16 : cx.md 16 = [0] := rfl
@[go_sem] theorem rm_16 : cx.rm 16 = [1] := rfl
theorem fns_17 : cx.fns 17 = some ⟨[.tmp 2], [4], c17⟩ := rfl
@[go_sem] theorem md_17 : cx.md 17 = [0] := rfl
@[go_sem] theorem rm_17 : cx.rm 17 = [0] := rfl
theorem fns_18 : cx.fns 18 = some ⟨[.tmp 4], [4], c18⟩ := rfl
@[go_sem] theorem md_18 : cx.md 18 = [0, 0] := rfl
@[go_sem] theorem rm_18 : cx.rm 18 = [0] := rfl
theorem fns_19 : cx.fns 19 = some ⟨[.tmp 2], [4], c19⟩ := rfl
@[go_sem] theorem md_19 : cx.md 19 = [0] := rfl
@[go_sem] theorem rm_19 : cx.rm 19 = [0] := rfl
theorem fns_20 : cx.fns 20 = some ⟨[.tmp 2], [4], c20⟩ := rfl
@[go_sem] theorem md_20 : cx.md 20 = [0] := rfl
@[go_sem] theorem rm_20 : cx.rm 20 = [0] := rfl
theorem fns_21 : cx.fns 21 = some ⟨[.tmp 2], [39], c21⟩ := rfl
@[go_sem] theorem md_21 : cx.md 21 = [0] := rfl
@[go_sem] theorem rm_21 : cx.rm 21 = [1] := rfl
theorem fns_22 : cx.fns 22 = some ⟨[.tmp 4], [39], c22⟩ := rfl
@[go_sem] theorem md_22 : cx.md 22 = [1, 0] := rfl
@[go_sem] theorem rm_22 : cx.rm 22 = [1] := rfl
theorem fns_23 : cx.fns 23 = some ⟨[.tmp 4], [39], c23⟩ := rfl
@[go_sem] theorem md_23 : cx.md 23 = [1, 0] := rfl
@[go_sem] theorem rm_23 : cx.rm 23 = [1] := rfl
theorem fns_24 : cx.fns 24 = some ⟨[.tmp 4], [39], c24⟩ := rfl
@[go_sem] theorem md_24 : cx.md 24 = [1, 0] := rfl
@[go_sem] theorem rm_24 : cx.rm 24 = [1] := rfl
theorem fns_25 : cx.fns 25 = some ⟨[.tmp 4], [39], c25⟩ := rfl
@[go_sem] theorem md_25 : cx.md 25 = [1, 0] := rfl
@[go_sem] theorem rm_25 : cx.rm 25 = [1] := rfl
theorem fns_26 : cx.fns 26 = some ⟨[.tmp 2], [39], c26⟩ := rfl
@[go_sem] theorem md_26 : cx.md 26 = [0] := rfl
@[go_sem] theorem rm_26 : cx.rm 26 = [1] := rfl
theorem fns_27 : cx.fns 27 = some ⟨[.tmp 2], [4], c27⟩ := rfl
@[go_sem] theorem md_27 : cx.md 27 = [0] := rfl
@[go_sem] theorem rm_27 : cx.rm 27 = [0] := rfl
theorem fns_28 : cx.fns 28 = some ⟨[.tmp 2], [4], c28⟩ := rfl
@[go_sem] theorem md_28 : cx.md 28 = [0] := rfl
@[go_sem] theorem rm_28 : cx.rm 28 = [0] := rfl
theorem fns_29 : cx.fns 29 = some ⟨[.tmp 2], [4], c29⟩ := rfl
@[go_sem] theorem md_29 : cx.md 29 = [0] := rfl
@[go_sem] theorem rm_29 : cx.rm 29 = [0] := rfl
theorem fns_30 : cx.fns 30 = some ⟨[], [], c30⟩ := rfl
@[go_sem] theorem md_30 : cx.md 30 = [2, 0] := rfl
@[go_sem] theorem rm_30 : cx.rm 30 = [] := rfl
theorem fns_31 : cx.fns 31 = some ⟨[], [], c31⟩ := rfl
@[go_sem] theorem md_31 : cx.md 31 = [2, 0] := rfl
@[go_sem] theorem rm_31 : cx.rm 31 = [] := rfl
theorem fns_32 : cx.fns 32 = some ⟨[], [], c32⟩ := rfl
@[go_sem] theorem md_32 : cx.md 32 = [2, 0] := rfl
@[go_sem] theorem rm_32 : cx.rm 32 = [] := rfl
theorem fns_33 : cx.fns 33 = some ⟨[.tmp 2], [39], c33⟩ := rfl
@[go_sem] theorem md_33 : cx.md 33 = [0] := rfl
@[go_sem] theorem rm_33 : cx.rm 33 = [1] := rfl
theorem fns_34 : cx.fns 34 = some ⟨[.tmp 2], [42], c34⟩ := rfl
@[go_sem] theorem md_34 : cx.md 34 = [0] := rfl
@[go_sem] theorem rm_34 : cx.rm 34 = [0] := rfl
theorem fns_35 : cx.fns 35 = some ⟨[.tmp 4], [39], c35⟩ := rfl
@[go_sem] theorem md_35 : cx.md 35 = [1, 0] := rfl
@[go_sem] theorem rm_35 : cx.rm 35 = [1] := rfl
theorem fns_36 : cx.fns 36 = some ⟨[.tmp 2], [39], c36⟩ := rfl
@[go_sem] theorem md_36 : cx.md 36 = [0] := rfl
@[go_sem] theorem rm_36 : cx.rm 36 = [1] := rfl
theorem fns_37 : cx.fns 37 = some ⟨[.tmp 2], [70], c37⟩ := rfl
@[go_sem] theorem md_37 : cx.md 37 = [0] := rfl
@[go_sem] theorem rm_37 : cx.rm 37 = [0] := rfl
theorem fns_38 : cx.fns 38 = some ⟨[.tmp 6], [4], c38⟩ := rfl
@[go_sem] theorem md_38 : cx.md 38 = [0, 0, 0] := rfl
@[go_sem] theorem rm_38 : cx.rm 38 = [0] := rfl
theorem fns_39 : cx.fns 39 = some ⟨[.tmp 2], [4], c39⟩ := rfl
@[go_sem] theorem md_39 : cx.md 39 = [0] := rfl
@[go_sem] theorem rm_39 : cx.rm 39 = [0] := rfl
theorem fns_40 : cx.fns 40 = some ⟨[.tmp 4], [4], c40⟩ := rfl
@[go_sem] theorem md_40 : cx.md 40 = [0, 0] := rfl
@[go_sem] theorem rm_40 : cx.rm 40 = [0] := rfl
theorem fns_41 : cx.fns 41 = some ⟨[.tmp 4], [3], c41⟩ := rfl
@[go_sem] theorem md_41 : cx.md 41 = [0, 0] := rfl
@[go_sem] theorem rm_41 : cx.rm 41 = [0] := rfl
theorem fns_42 : cx.fns 42 = some ⟨[.tmp 4], [4], c42⟩ := rfl
@[go_sem] theorem md_42 : cx.md 42 = [0, 0] := rfl
@[go_sem] theorem rm_42 : cx.rm 42 = [0] := rfl
theorem fns_43 : cx.fns 43 = some ⟨[.tmp 2], [4], c43⟩ := rfl
@[go_sem] theorem md_43 : cx.md 43 = [0] := rfl
@[go_sem] theorem rm_43 : cx.rm 43 = [0] := rfl
theorem fns_44 : cx.fns 44 = some ⟨[.tmp 2], [4], c44⟩ := rfl
@[go_sem] theorem md_44 : cx.md 44 = [0] := rfl
@[go_sem] theorem rm_44 : cx.rm 44 = [0] := rfl
theorem fns_45 : cx.fns 45 = some ⟨[], [], c45⟩ := rfl
@[go_sem] theorem md_45 : cx.md 45 = [2, 0] := rfl
@[go_sem] theorem rm_45 : cx.rm 45 = [] := rfl
theorem fns_46 : cx.fns 46 = some ⟨[], [], c46⟩ := rfl
@[go_sem] theorem md_46 : cx.md 46 = [2, 0] := rfl
@[go_sem] theorem rm_46 : cx.rm 46 = [] := rfl
theorem fns_47 : cx.fns 47 = some ⟨[.tmp 4], [39], c47⟩ := rfl
@[go_sem] theorem md_47 : cx.md 47 = [1, 0] := rfl
@[go_sem] theorem rm_47 : cx.rm 47 = [1] := rfl
theorem fns_48 : cx.fns 48 = some ⟨[.tmp 2], [70], c48⟩ := rfl
@[go_sem] theorem md_48 : cx.md 48 = [0] := rfl
@[go_sem] theorem rm_48 : cx.rm 48 = [0] := rfl
theorem fns_49 : cx.fns 49 = some ⟨[.tmp 4], [39], c49⟩ := rfl
@[go_sem] theorem md_49 : cx.md 49 = [1, 0] := rfl
@[go_sem] theorem rm_49 : cx.rm 49 = [1] := rfl
theorem fns_50 : cx.fns 50 = some ⟨[.tmp 4], [70], c50⟩ := rfl
@[go_sem] theorem md_50 : cx.md 50 = [0, 0] := rfl
@[go_sem] theorem rm_50 : cx.rm 50 = [0] := rfl
theorem fns_51 : cx.fns 51 = some ⟨[.tmp 4], [4], c51⟩ := rfl
@[go_sem] theorem md_51 : cx.md 51 = [0, 0] := rfl
@[go_sem] theorem rm_51 : cx.rm 51 = [0] := rfl
theorem fns_52 : cx.fns 52 = some ⟨[.tmp 2], [4], c52⟩ := rfl
@[go_sem] theorem md_52 : cx.md 52 = [0] := rfl
@[go_sem] theorem rm_52 : cx.rm 52 = [0] := rfl
theorem fns_53 : cx.fns 53 = some ⟨[.tmp 2], [3], c53⟩ := rfl
@[go_sem] theorem md_53 : cx.md 53 = [0] := rfl
@[go_sem] theorem rm_53 : cx.rm 53 = [0] := rfl
theorem fns_54 : cx.fns 54 = some ⟨[.tmp 4], [3], c54⟩ := rfl
@[go_sem] theorem md_54 : cx.md 54 = [0, 0] := rfl
@[go_sem] theorem rm_54 : cx.rm 54 = [0] := rfl
theorem fns_55 : cx.fns 55 = some ⟨[.tmp 4], [3], c55⟩ := rfl
@[go_sem] theorem md_55 : cx.md 55 = [0, 0] := rfl
@[go_sem] theorem rm_55 : cx.rm 55 = [0] := rfl
theorem fns_56 : cx.fns 56 = some ⟨[.tmp 2], [4], c56⟩ := rfl
@[go_sem] theorem md_56 : cx.md 56 = [0] := rfl
@[go_sem] theorem rm_56 : cx.rm 56 = [0] := rfl
theorem fns_57 : cx.fns 57 = some ⟨[], [], c57⟩ := rfl
@[go_sem] theorem md_57 : cx.md 57 = [2, 0] := rfl
@[go_sem] theorem rm_57 : cx.rm 57 = [] := rfl
theorem fns_58 : cx.fns 58 = some ⟨[.tmp 4], [70], c58⟩ := rfl
@[go_sem] theorem md_58 : cx.md 58 = [0, 0] := rfl
@[go_sem] theorem rm_58 : cx.rm 58 = [0] := rfl
theorem fns_59 : cx.fns 59 = some ⟨[.tmp 4], [3], c59⟩ := rfl
@[go_sem] theorem md_59 : cx.md 59 = [0, 0] := rfl
@[go_sem] theorem rm_59 : cx.rm 59 = [0] := rfl
theorem fns_60 : cx.fns 60 = some ⟨[.tmp 2], [4], c60⟩ := rfl
@[go_sem] theorem md_60 : cx.md 60 = [0] := rfl
@[go_sem] theorem rm_60 : cx.rm 60 = [0] := rfl
theorem fns_61 : cx.fns 61 = some ⟨[.tmp 4], [4], c61⟩ := rfl
@[go_sem] theorem md_61 : cx.md 61 = [0, 0] := rfl
@[go_sem] theorem rm_61 : cx.rm 61 = [0] := rfl
theorem fns_62 : cx.fns 62 = some ⟨[.tmp 2], [4], c62⟩ := rfl
@[go_sem] theorem md_62 : cx.md 62 = [0] := rfl
@[go_sem] theorem rm_62 : cx.rm 62 = [0] := rfl
theorem fns_63 : cx.fns 63 = some ⟨[.tmp 2], [4], c63⟩ := rfl
@[go_sem] theorem md_63 : cx.md 63 = [0] := rfl
@[go_sem] theorem rm_63 : cx.rm 63 = [0] := rfl
theorem fns_64 : cx.fns 64 = some ⟨[.tmp 4], [3], c64⟩ := rfl
@[go_sem] theorem md_64 : cx.md 64 = [0, 0] := rfl
@[go_sem] theorem rm_64 : cx.rm 64 = [0] := rfl
theorem fns_65 : cx.fns 65 = some ⟨[.tmp 2], [4], c65⟩ := rfl
@[go_sem] theorem md_65 : cx.md 65 = [0] := rfl
@[go_sem] theorem rm_65 : cx.rm 65 = [0] := rfl
theorem fns_66 : cx.fns 66 = some ⟨[.tmp 2], [4], c66⟩ := rfl
@[go_sem] theorem md_66 : cx.md 66 = [0] := rfl
@[go_sem] theorem rm_66 : cx.rm 66 = [0] := rfl
theorem fns_67 : cx.fns 67 = some ⟨[.tmp 4], [4], c67⟩ := rfl
@[go_sem] theorem md_67 : cx.md 67 = [0, 0] := rfl
@[go_sem] theorem rm_67 : cx.rm 67 = [0] := rfl
theorem fns_68 : cx.fns 68 = some ⟨[.tmp 3], [4], c68⟩ := rfl
@[go_sem] theorem md_68 : cx.md 68 = [0, 0] := rfl
@[go_sem] theorem rm_68 : cx.rm 68 = [0] := rfl
theorem fns_69 : cx.fns 69 = some ⟨[.tmp 4], [3], c69⟩ := rfl
@[go_sem] theorem md_69 : cx.md 69 = [0, 0] := rfl
@[go_sem] theorem rm_69 : cx.rm 69 = [0] := rfl
theorem fok_3 : FnOk cx 3 ⟨[.tmp 8], [4], c3⟩ := ⟨⟨Try.f3, Try.f3.body.getD .skip, k3, by kernel_rfl, by kernel_rfl, by kernel_rfl, by kernel_rfl, by kernel_rfl, Nat.le_of_ble_eq_true (by kernel_rfl), by kernel_rfl⟩⟩
theorem fok_4 : FnOk cx 4 ⟨[.tmp 4], [4], c4⟩ := ⟨⟨Try.f4, Try.f4.body.getD .skip, k4, by kernel_rfl, by kernel_rfl, by kernel_rfl, by kernel_rfl, by kernel_rfl, Nat.le_of_ble_eq_true (by kernel_rfl), by kernel_rfl⟩⟩
theorem fok_5 : FnOk cx 5 ⟨[.tmp 12], [4], c5⟩ := ⟨⟨Try.f5, Try.f5.body.getD .skip, k5, by kernel_rfl, by kernel_rfl, by kernel_rfl, by kernel_rfl, by kernel_rfl, Nat.le_of_ble_eq_true (by kernel_rfl), by kernel_rfl⟩⟩
theorem fok_6 : FnOk cx 6 ⟨[.tmp 0], [4], c6⟩ := ⟨⟨Try.f6, Try.f6.body.getD .skip, k6, by kernel_rfl, by kernel_rfl, by kernel_rfl, by kernel_rfl, by kernel_rfl, Nat.le_of_ble_eq_true (by kernel_rfl), by kernel_rfl⟩⟩
theorem fok_7 : FnOk cx 7 ⟨[.tmp 2], [4], c7⟩ := ⟨⟨Try.f7, Try.f7.body.getD .skip, k7, by kernel_rfl, by kernel_rfl, by kernel_rfl, by kernel_rfl, by kernel_rfl, Nat.le_of_ble_eq_true (by kernel_rfl), by kernel_rfl⟩⟩
theorem fok_8 : FnOk cx 8 ⟨[.tmp 8], [28], c8⟩ := ⟨⟨Try.f8, Try.f8.body.getD .skip, k8, by kernel_rfl, by kernel_rfl, by kernel_rfl, by kernel_rfl, by kernel_rfl, Nat.le_of_ble_eq_true (by kernel_rfl), by kernel_rfl⟩⟩
theorem fok_9 : FnOk cx 9 ⟨[.tmp 2], [3], c9⟩ := ⟨⟨Try.f9, Try.f9.body.getD .skip, k9, by kernel_rfl, by kernel_rfl, by kernel_rfl, by kernel_rfl, by kernel_rfl, Nat.le_of_ble_eq_true (by kernel_rfl), by kernel_rfl⟩⟩
theorem fok_10 : FnOk cx 10 ⟨[.tmp 2], [4], c10⟩ := ⟨⟨Try.f10, Try.f10.body.getD .skip, k10, by kernel_rfl, by kernel_rfl, by kernel_rfl, by kernel_rfl, by kernel_rfl, Nat.le_of_ble_eq_true (by kernel_rfl), by kernel_rfl⟩⟩
theorem fok_11 : FnOk cx 11 ⟨[.tmp 2], [4], c11⟩ := ⟨⟨Try.f11, Try.f11.body.getD .skip, k11, by kernel_rfl, by kernel_rfl, by kernel_rfl, by kernel_rfl, by kernel_rfl, Nat.le_of_ble_eq_true (by kernel_rfl), by kernel_rfl⟩⟩
theorem fok_12 : FnOk cx 12 ⟨[.tmp 4], [3], c12⟩ := ⟨⟨Try.f12, Try.f12.body.getD .skip, k12, by kernel_rfl, by kernel_rfl, by kernel_rfl, by kernel_rfl, by kernel_rfl, Nat.le_of_ble_eq_true (by kernel_rfl), by kernel_rfl⟩⟩
theorem fok_13 : FnOk cx 13 ⟨[.tmp 2], [3], c13⟩ := ⟨⟨Try.f13, Try.f13.body.getD .skip, k13, by kernel_rfl, by kernel_rfl, by kernel_rfl, by kernel_rfl, by kernel_rfl, Nat.le_of_ble_eq_true (by kernel_rfl), by kernel_rfl⟩⟩
theorem fok_14 : FnOk cx 14 ⟨[.tmp 2], [3], c14⟩ := ⟨⟨Try.f14, Try.f14.body.getD .skip, k14, by kernel_rfl, by kernel_rfl, by kernel_rfl, by kernel_rfl, by kernel_rfl, Nat.le_of_ble_eq_true (by kernel_rfl), by kernel_rfl⟩⟩
theorem fok_15 : FnOk cx 15 ⟨[.tmp 6], [22], c15⟩ := ⟨⟨Try.f15, Try.f15.body.getD .skip, k15, by kernel_rfl, by kernel_rfl, by kernel_rfl, by kernel_rfl, by kernel_rfl, Nat.le_of_ble_eq_true (by kernel_rfl), by kernel_rfl⟩⟩
theorem fok_16 : FnOk cx 16 ⟨[.tmp 2], [39], c16⟩ := ⟨⟨Try.f16, Try.f16.body.getD .skip, k16, by kernel_rfl, by kernel_rfl, by kernel_rfl, by kernel_rfl, by kernel_rfl, Nat.le_of_ble_eq_true (by kernel_rfl), by kernel_rfl⟩⟩
theorem fok_17 : FnOk cx 17 ⟨[.tmp 2], [4], c17⟩ := ⟨⟨Try.f17, Try.f17.body.getD .skip, k17, by kernel_rfl, by kernel_rfl, by kernel_rfl, by kernel_rfl, by kernel_rfl, Nat.le_of_ble_eq_true (by kernel_rfl), by kernel_rfl⟩⟩
theorem fok_18 : FnOk cx 18 ⟨[.tmp 4], [4], c18⟩ := ⟨⟨Try.f18, Try.f18.body.getD .skip, k18, by kernel_rfl, by kernel_rfl, by kernel_rfl, by kernel_rfl, by kernel_rfl, Nat.le_of_ble_eq_true (by kernel_rfl), by kernel_rfl⟩⟩
theorem fok_19 : FnOk cx 19 ⟨[.tmp 2], [4], c19⟩ := ⟨⟨Try.f19, Try.f19.body.getD .skip, k19, by kernel_rfl, by kernel_rfl, by kernel_rfl, by kernel_rfl, by kernel_rfl, Nat.le_of_ble_eq_true (by kernel_rfl), by kernel_rfl⟩⟩
theorem fok_20 : FnOk cx 20 ⟨[.tmp 2], [4], c20⟩ := ⟨⟨Try.f20, Try.f20.body.getD .skip, k20, by kernel_rfl, by kernel_rfl, by kernel_rfl, by kernel_rfl, by kernel_rfl, Nat.le_of_ble_eq_true (by kernel_rfl), by kernel_rfl⟩⟩
theorem fok_21 : FnOk cx 21 ⟨[.tmp 2], [39], c21⟩ := ⟨⟨Try.f21, Try.f21.body.getD .skip, k21, by kernel_rfl, by kernel_rfl, by kernel_rfl, by kernel_rfl, by kernel_rfl, Nat.le_of_ble_eq_true (by kernel_rfl), by kernel_rfl⟩⟩
theorem fok_22 : FnOk cx 22 ⟨[.tmp 4], [39], c22⟩ := ⟨⟨Try.f22, Try.f22.body.getD .skip, k22, by kernel_rfl, by kernel_rfl, by kernel_rfl, by kernel_rfl, by kernel_rfl, Nat.le_of_ble_eq_true (by kernel_rfl), by kernel_rfl⟩⟩
theorem fok_23 : FnOk cx 23 ⟨[.tmp 4], [39], c23⟩ := ⟨⟨Try.f23, Try.f23.body.getD .skip, k23, by kernel_rfl, by kernel_rfl, by kernel_rfl, by kernel_rfl, by kernel_rfl, Nat.le_of_ble_eq_true (by kernel_rfl), by kernel_rfl⟩⟩
theorem fok_24 : FnOk cx 24 ⟨[.tmp 4], [39], c24⟩ := ⟨⟨Try.f24, Try.f24.body.getD .skip, k24, by kernel_rfl, by kernel_rfl, by kernel_rfl, by kernel_rfl, by kernel_rfl, Nat.le_of_ble_eq_true (by kernel_rfl), by kernel_rfl⟩⟩
theorem fok_25 : FnOk cx 25 ⟨[.tmp 4], [39], c25⟩ := ⟨⟨Try.f25, Try.f25.body.getD .skip, k25, by kernel_rfl, by kernel_rfl, by kernel_rfl, by kernel_rfl, by kernel_rfl, Nat.le_of_ble_eq_true (by kernel_rfl), by kernel_rfl⟩⟩
theorem fok_26 : FnOk cx 26 ⟨[.tmp 2], [39], c26⟩ := ⟨⟨Try.f26, Try.f26.body.getD .skip, k26, by kernel_rfl, by kernel_rfl, by kernel_rfl, by kernel_rfl, by kernel_rfl, Nat.le_of_ble_eq_true (by kernel_rfl), by kernel_rfl⟩⟩
theorem fok_27 : FnOk cx 27 ⟨[.tmp 2], [4], c27⟩ := ⟨⟨Try.f27, Try.f27.body.getD .skip, k27, by kernel_rfl, by kernel_rfl, by kernel_rfl, by kernel_rfl, by kernel_rfl, Nat.le_of_ble_eq_true (by kernel_rfl), by kernel_rfl⟩⟩
theorem fok_28 : FnOk cx 28 ⟨[.tmp 2], [4], c28⟩ := ⟨⟨Try.f28, Try.f28.body.getD .skip, k28, by kernel_rfl, by kernel_rfl, by kernel_rfl, by kernel_rfl, by kernel_rfl, Nat.le_of_ble_eq_true (by kernel_rfl), by kernel_rfl⟩⟩
theorem fok_29 : FnOk cx 29 ⟨[.tmp 2], [4], c29⟩ := ⟨⟨Try.f29, Try.f29.body.getD .skip, k29, by kernel_rfl, by kernel_rfl, by kernel_rfl, by kernel_rfl, by kernel_rfl, Nat.le_of_ble_eq_true (by kernel_rfl), by kernel_rfl⟩⟩
theorem fok_30 : FnOk cx 30 ⟨[], [], c30⟩ := ⟨⟨Try.f30, Try.f30.body.getD .skip, k30, by kernel_rfl, by kernel_rfl, by kernel_rfl, by kernel_rfl, by kernel_rfl, Nat.le_of_ble_eq_true (by kernel_rfl), by kernel_rfl⟩⟩
theorem fok_31 : FnOk cx 31 ⟨[], [], c31⟩ := ⟨⟨Try.f31, Try.f31.body.getD .skip, k31, by kernel_rfl, by kernel_rfl, by kernel_rfl, by kernel_rfl, by kernel_rfl, Nat.le_of_ble_eq_true (by kernel_rfl), by kernel_rfl⟩⟩
theorem fok_32 : FnOk cx 32 ⟨[], [], c32⟩ := ⟨⟨Try.f32, Try.f32.body.getD .skip, k32, by kernel_rfl, by kernel_rfl, by kernel_rfl, by kernel_rfl, by kernel_rfl, Nat.le_of_ble_eq_true (by kernel_rfl), by kernel_rfl⟩⟩
theorem fok_33 : FnOk cx 33 ⟨[.tmp 2], [39], c33⟩ := ⟨⟨Try.f33, Try.f33.body.getD .skip, k33, by kernel_rfl, by kernel_rfl, by kernel_rfl, by kernel_rfl, by kernel_rfl, Nat.le_of_ble_eq_true (by kernel_rfl), by kernel_rfl⟩⟩
theorem fok_34 : FnOk cx 34 ⟨[.tmp 2], [42], c34⟩ := ⟨⟨Try.f34, Try.f34.body.getD .skip, k34, by kernel_rfl, by kernel_rfl, by kernel_rfl, by kernel_rfl, by kernel_rfl, Nat.le_of_ble_eq_true (by kernel_rfl), by kernel_rfl⟩⟩
theorem fok_35 : FnOk cx 35 ⟨[.tmp 4], [39], c35⟩ := ⟨⟨Try.f35, Try.f35.body.getD .skip, k35, by kernel_rfl, by kernel_rfl, by kernel_rfl, by kernel_rfl, by kernel_rfl, Nat.le_of_ble_eq_true (by kernel_rfl), by kernel_rfl⟩⟩
theorem fok_36 : FnOk cx 36 ⟨[.tmp 2], [39], c36⟩ := ⟨⟨Try.f36, Try.f36.body.getD .skip, k36, by kernel_rfl, by kernel_rfl, by kernel_rfl, by kernel_rfl, by kernel_rfl, Nat.le_of_ble_eq_true (by kernel_rfl), by kernel_rfl⟩⟩
theorem fok_37 : FnOk cx 37 ⟨[.tmp 2], [70], c37⟩ := ⟨⟨Try.f37, Try.f37.body.getD .skip, k37, by kernel_rfl, by kernel_rfl, by kernel_rfl, by kernel_rfl, by kernel_rfl, Nat.le_of_ble_eq_true (by kernel_rfl), by kernel_rfl⟩⟩
theorem fok_38 : FnOk cx 38 ⟨[.tmp 6], [4], c38⟩ := ⟨⟨Try.f38, Try.f38.body.getD .skip, k38, by kernel_rfl, by kernel_rfl, by kernel_rfl, by kernel_rfl, by kernel_rfl, Nat.le_of_ble_eq_true (by kernel_rfl), by kernel_rfl⟩⟩
theorem fok_39 : FnOk cx 39 ⟨[.tmp 2], [4], c39⟩ := ⟨⟨Try.f39, Try.f39.body.getD .skip, k39, by kernel_rfl, by kernel_rfl, by kernel_rfl, by kernel_rfl, by kernel_rfl, Nat.le_of_ble_eq_true (by kernel_rfl), by kernel_rfl⟩⟩
theorem fok_40 : FnOk cx 40 ⟨[.tmp 4], [4], c40⟩ := ⟨⟨Try.f40, Try.f40.body.getD .skip, k40, by kernel_rfl, by kernel_rfl, by kernel_rfl, by kernel_rfl, by kernel_rfl, Nat.le_of_ble_eq_true (by kernel_rfl), by kernel_rfl⟩⟩
theorem fok_41 : FnOk cx 41 ⟨[.tmp 4], [3], c41⟩ := ⟨⟨Try.f41, Try.f41.body.getD .skip, k41, by kernel_rfl, by kernel_rfl, by kernel_rfl, by kernel_rfl, by kernel_rfl, Nat.le_of_ble_eq_true (by kernel_rfl), by kernel_rfl⟩⟩
theorem fok_42 : FnOk cx 42 ⟨[.tmp 4], [4], c42⟩ := ⟨⟨Try.f42, Try.f42.body.getD .skip, k42, by kernel_rfl, by kernel_rfl, by kernel_rfl, by kernel_rfl, by kernel_rfl, Nat.le_of_ble_eq_true (by kernel_rfl), by kernel_rfl⟩⟩
theorem fok_43 : FnOk cx 43 ⟨[.tmp 2], [4], c43⟩ := ⟨⟨Try.f43, Try.f43.body.getD .skip, k43, by kernel_rfl, by kernel_rfl, by kernel_rfl, by kernel_rfl, by kernel_rfl, Nat.le_of_ble_eq_true (by kernel_rfl), by kernel_rfl⟩⟩
theorem fok_44 : FnOk cx 44 ⟨[.tmp 2], [4], c44⟩ := ⟨⟨Try.f44, Try.f44.body.getD .skip, k44, by kernel_rfl, by kernel_rfl, by kernel_rfl, by kernel_rfl, by kernel_rfl, Nat.le_of_ble_eq_true (by kernel_rfl), by kernel_rfl⟩⟩
theorem fok_45 : FnOk cx 45 ⟨[], [], c45⟩ := ⟨⟨Try.f45, Try.f45.body.getD .skip, k45, by kernel_rfl, by kernel_rfl, by kernel_rfl, by kernel_rfl, by kernel_rfl, Nat.le_of_ble_eq_true (by kernel_rfl), by kernel_rfl⟩⟩
theorem fok_46 : FnOk cx 46 ⟨[], [], c46⟩ := ⟨⟨Try.f46, Try.f46.body.getD .skip, k46, by kernel_rfl, by kernel_rfl, by kernel_rfl, by kernel_rfl, by kernel_rfl, Nat.le_of_ble_eq_true (by kernel_rfl), by kernel_rfl⟩⟩
theorem fok_47 : FnOk cx 47 ⟨[.tmp 4], [39], c47⟩ := ⟨⟨Try.f47, Try.f47.body.getD .skip, k47, by kernel_rfl, by kernel_rfl, by kernel_rfl, by kernel_rfl, by kernel_rfl, Nat.le_of_ble_eq_true (by kernel_rfl), by kernel_rfl⟩⟩
theorem fok_48 : FnOk cx 48 ⟨[.tmp 2], [70], c48⟩ := ⟨⟨Try.f48, Try.f48.body.getD .skip, k48, by kernel_rfl, by kernel_rfl, by kernel_rfl, by kernel_rfl, by kernel_rfl, Nat.le_of_ble_eq_true (by kernel_rfl), by kernel_rfl⟩⟩
theorem fok_49 : FnOk cx 49 ⟨[.tmp 4], [39], c49⟩ := ⟨⟨Try.f49, Try.f49.body.getD .skip, k49, by kernel_rfl, by kernel_rfl, by kernel_rfl, by kernel_rfl, by kernel_rfl, Nat.le_of_ble_eq_true (by kernel_rfl), by kernel_rfl⟩⟩
theorem fok_50 : FnOk cx 50 ⟨[.tmp 4], [70], c50⟩ := ⟨⟨Try.f50, Try.f50.body.getD .skip, k50, by kernel_rfl, by kernel_rfl, by kernel_rfl, by kernel_rfl, by kernel_rfl, Nat.le_of_ble_eq_true (by kernel_rfl), by kernel_rfl⟩⟩
theorem fok_51 : FnOk cx 51 ⟨[.tmp 4], [4], c51⟩ := ⟨⟨Try.f51, Try.f51.body.getD .skip, k51, by kernel_rfl, by kernel_rfl, by kernel_rfl, by kernel_rfl, by kernel_rfl, Nat.le_of_ble_eq_true (by kernel_rfl), by kernel_rfl⟩⟩
theorem fok_52 : FnOk cx 52 ⟨[.tmp 2], [4], c52⟩ := ⟨⟨Try.f52, Try.f52.body.getD .skip, k52, by kernel_rfl, by kernel_rfl, by kernel_rfl, by kernel_rfl, by kernel_rfl, Nat.le_of_ble_eq_true (by kernel_rfl), by kernel_rfl⟩⟩
theorem fok_53 : FnOk cx 53 ⟨[.tmp 2], [3], c53⟩ := ⟨⟨Try.f53, Try.f53.body.getD .skip, k53, by kernel_rfl, by kernel_rfl, by kernel_rfl, by kernel_rfl, by kernel_rfl, Nat.le_of_ble_eq_true (by kernel_rfl), by kernel_rfl⟩⟩
theorem fok_54 : FnOk cx 54 ⟨[.tmp 4], [3], c54⟩ := ⟨⟨Try.f54, Try.f54.body.getD .skip, k54, by kernel_rfl, by kernel_rfl, by kernel_rfl, by kernel_rfl, by kernel_rfl, Nat.le_of_ble_eq_true (by kernel_rfl), by kernel_rfl⟩⟩
theorem fok_55 : FnOk cx 55 ⟨[.tmp 4], [3], c55⟩ := ⟨⟨Try.f55, Try.f55.body.getD .skip, k55, by kernel_rfl, by kernel_rfl, by kernel_rfl, by kernel_rfl, by kernel_rfl, Nat.le_of_ble_eq_true (by kernel_rfl), by kernel_rfl⟩⟩
theorem fok_56 : FnOk cx 56 ⟨[.tmp 2], [4], c56⟩ := ⟨⟨Try.f56, Try.f56.body.getD .skip, k56, by kernel_rfl, by kernel_rfl, by kernel_rfl, by kernel_rfl, by kernel_rfl, Nat.le_of_ble_eq_true (by kernel_rfl), by kernel_rfl⟩⟩
theorem fok_57 : FnOk cx 57 ⟨[], [], c57⟩ := ⟨⟨Try.f57, Try.f57.body.getD .skip, k57, by kernel_rfl, by kernel_rfl, by kernel_rfl, by kernel_rfl, by kernel_rfl, Nat.le_of_ble_eq_true (by kernel_rfl), by kernel_rfl⟩⟩
theorem fok_58 : FnOk cx 58 ⟨[.tmp 4], [70], c58⟩ := ⟨⟨Try.f58, Try.f58.body.getD .skip, k58, by kernel_rfl, by kernel_rfl, by kernel_rfl, by kernel_rfl, by kernel_rfl, Nat.le_of_ble_eq_true (by kernel_rfl), by kernel_rfl⟩⟩
theorem fok_59 : FnOk cx 59 ⟨[.tmp 4], [3], c59⟩ := ⟨⟨Try.f59, Try.f59.body.getD .skip, k59, by kernel_rfl, by kernel_rfl, by kernel_rfl, by kernel_rfl, by kernel_rfl, Nat.le_of_ble_eq_true (by kernel_rfl), by kernel_rfl⟩⟩
theorem fok_60 : FnOk cx 60 ⟨[.tmp 2], [4], c60⟩ := ⟨⟨Try.f60, Try.f60.body.getD .skip, k60, by kernel_rfl, by kernel_rfl, by kernel_rfl, by kernel_rfl, by kernel_rfl, Nat.le_of_ble_eq_true (by kernel_rfl), by kernel_rfl⟩⟩
theorem fok_61 : FnOk cx 61 ⟨[.tmp 4], [4], c61⟩ := ⟨⟨Try.f61, Try.f61.body.getD .skip, k61, by kernel_rfl, by kernel_rfl, by kernel_rfl, by kernel_rfl, by kernel_rfl, Nat.le_of_ble_eq_true (by kernel_rfl), by kernel_rfl⟩⟩
theorem fok_62 : FnOk cx 62 ⟨[.tmp 2], [4], c62⟩ := ⟨⟨Try.f62, Try.f62.body.getD .skip, k62, by kernel_rfl, by kernel_rfl, by kernel_rfl, by kernel_rfl, by kernel_rfl, Nat.le_of_ble_eq_true (by kernel_rfl), by kernel_rfl⟩⟩
theorem fok_63 : FnOk cx 63 ⟨[.tmp 2], [4], c63⟩ := ⟨⟨Try.f63, Try.f63.body.getD .skip, k63, by kernel_rfl, by kernel_rfl, by kernel_rfl, by kernel_rfl, by kernel_rfl, Nat.le_of_ble_eq_true (by kernel_rfl), by kernel_rfl⟩⟩
theorem fok_64 : FnOk cx 64 ⟨[.tmp 4], [3], c64⟩ := ⟨⟨Try.f64, Try.f64.body.getD .skip, k64, by kernel_rfl, by kernel_rfl, by kernel_rfl, by kernel_rfl, by kernel_rfl, Nat.le_of_ble_eq_true (by kernel_rfl), by kernel_rfl⟩⟩
theorem fok_65 : FnOk cx 65 ⟨[.tmp 2], [4], c65⟩ := ⟨⟨Try.f65, Try.f65.body.getD .skip, k65, by kernel_rfl, by kernel_rfl, by kernel_rfl, by kernel_rfl, by kernel_rfl, Nat.le_of_ble_eq_true (by kernel_rfl), by kernel_rfl⟩⟩
theorem fok_66 : FnOk cx 66 ⟨[.tmp 2], [4], c66⟩ := ⟨⟨Try.f66, Try.f66.body.getD .skip, k66, by kernel_rfl, by kernel_rfl, by kernel_rfl, by kernel_rfl, by kernel_rfl, Nat.le_of_ble_eq_true (by kernel_rfl), by kernel_rfl⟩⟩
theorem fok_67 : FnOk cx 67 ⟨[.tmp 4], [4], c67⟩ := ⟨⟨Try.f67, Try.f67.body.getD .skip, k67, by kernel_rfl, by kernel_rfl, by kernel_rfl, by kernel_rfl, by kernel_rfl, Nat.le_of_ble_eq_true (by kernel_rfl), by kernel_rfl⟩⟩
theorem fok_68 : FnOk cx 68 ⟨[.tmp 3], [4], c68⟩ := ⟨⟨Try.f68, Try.f68.body.getD .skip, k68, by kernel_rfl, by kernel_rfl, by kernel_rfl, by kernel_rfl, by kernel_rfl, Nat.le_of_ble_eq_true (by kernel_rfl), by kernel_rfl⟩⟩
theorem fok_69 : FnOk cx 69 ⟨[.tmp 4], [3], c69⟩ := ⟨⟨Try.f69, Try.f69.body.getD .skip, k69, by kernel_rfl, by kernel_rfl, by kernel_rfl, by kernel_rfl, by kernel_rfl, Nat.le_of_ble_eq_true (by kernel_rfl), by kernel_rfl⟩⟩
theorem fok : ∀ f cf, cx.fns f = some cf → FnOk cx f cf := by
  intro f cf h
  show FnOk cx f cf
  unfold cx fns at h
  simp only at h
  split at h <;> first
    | (cases h; exact fok_3)
    | (cases h; exact fok_4)
    | (cases h; exact fok_5)
    | (cases h; exact fok_6)
    | (cases h; exact fok_7)
    | (cases h; exact fok_8)
    | (cases h; exact fok_9)
    | (cases h; exact fok_10)
    | (cases h; exact fok_11)
    | (cases h; exact fok_12)
    | (cases h; exact fok_13)
    | (cases h; exact fok_14)
    | (cases h; exact fok_15)
    | (cases h; exact fok_16)
    | (cases h; exact fok_17)
    | (cases h; exact fok_18)
    | (cases h; exact fok_19)
    | (cases h; exact fok_20)
    | (cases h; exact fok_21)
    | (cases h; exact fok_22)
    | (cases h; exact fok_23)
    | (cases h; exact fok_24)
    | (cases h; exact fok_25)
    | (cases h; exact fok_26)
    | (cases h; exact fok_27)
    | (cases h; exact fok_28)
    | (cases h; exact fok_29)
    | (cases h; exact fok_30)
    | (cases h; exact fok_31)
    | (cases h; exact fok_32)
    | (cases h; exact fok_33)
    | (cases h; exact fok_34)
    | (cases h; exact fok_35)
    | (cases h; exact fok_36)
    | (cases h; exact fok_37)
    | (cases h; exact fok_38)
    | (cases h; exact fok_39)
    | (cases h; exact fok_40)
    | (cases h; exact fok_41)
    | (cases h; exact fok_42)
    | (cases h; exact fok_43)
    | (cases h; exact fok_44)
    | (cases h; exact fok_45)
    | (cases h; exact fok_46)
    | (cases h; exact fok_47)
    | (cases h; exact fok_48)
    | (cases h; exact fok_49)
    | (cases h; exact fok_50)
    | (cases h; exact fok_51)
    | (cases h; exact fok_52)
    | (cases h; exact fok_53)
    | (cases h; exact fok_54)
    | (cases h; exact fok_55)
    | (cases h; exact fok_56)
    | (cases h; exact fok_57)
    | (cases h; exact fok_58)
    | (cases h; exact fok_59)
    | (cases h; exact fok_60)
    | (cases h; exact fok_61)
    | (cases h; exact fok_62)
    | (cases h; exact fok_63)
    | (cases h; exact fok_64)
    | (cases h; exact fok_65)
    | (cases h; exact fok_66)
    | (cases h; exact fok_67)
    | (cases h; exact fok_68)
    | (cases h; exact fok_69)
    | cases h
theorem follows : cx.P.follows .mixedOrders = true := by kernel_rfl
@[go_sem] theorem szT3 : szOf Try.prog 3 = 1 := by kernel_rfl
@[go_sem] theorem byT3 : byOf Try.prog 3 = 8 := by kernel_rfl
@[go_sem] theorem agT3 : aggT Try.prog 3 = false := by kernel_rfl
@[go_sem] theorem slT3 : slT Try.prog 3 = none := by kernel_rfl
@[go_sem] theorem arT3 : arT Try.prog 3 = none := by kernel_rfl
@[go_sem] theorem inT3 : inT Try.prog 3 = some .i64 := by kernel_rfl
@[go_sem] theorem mpT3 : mpT Try.prog 3 = false := by kernel_rfl
@[go_sem] theorem stT3 : stT Try.prog 3 = false := by kernel_rfl
@[go_sem] theorem blT3 : blT Try.prog 3 = false := by kernel_rfl
@[go_sem] theorem okT3 : okT Try.prog 3 = true := by kernel_rfl
@[go_sem] theorem boT3 : boT Try.prog 3 = false := by kernel_rfl
@[go_sem] theorem ptT3 : ptT Try.prog 3 = false := by kernel_rfl
@[go_sem] theorem elT3 : elT Try.prog 3 = true := by kernel_rfl
@[go_sem] theorem zcT3 : zc Try.prog 3 = some [.s (.int .i64 0)] := by kernel_rfl
@[go_sem] theorem szT4 : szOf Try.prog 4 = 1 := by kernel_rfl
@[go_sem] theorem byT4 : byOf Try.prog 4 = 1 := by kernel_rfl
@[go_sem] theorem agT4 : aggT Try.prog 4 = false := by kernel_rfl
@[go_sem] theorem slT4 : slT Try.prog 4 = none := by kernel_rfl
@[go_sem] theorem arT4 : arT Try.prog 4 = none := by kernel_rfl
@[go_sem] theorem inT4 : inT Try.prog 4 = none := by kernel_rfl
@[go_sem] theorem mpT4 : mpT Try.prog 4 = false := by kernel_rfl
@[go_sem] theorem stT4 : stT Try.prog 4 = false := by kernel_rfl
@[go_sem] theorem blT4 : blT Try.prog 4 = false := by kernel_rfl
@[go_sem] theorem okT4 : okT Try.prog 4 = true := by kernel_rfl
@[go_sem] theorem boT4 : boT Try.prog 4 = true := by kernel_rfl
@[go_sem] theorem ptT4 : ptT Try.prog 4 = false := by kernel_rfl
@[go_sem] theorem elT4 : elT Try.prog 4 = true := by kernel_rfl
@[go_sem] theorem zcT4 : zc Try.prog 4 = some [.s (.bool false)] := by kernel_rfl
@[go_sem] theorem szT5 : szOf Try.prog 5 = 1 := by kernel_rfl
@[go_sem] theorem byT5 : byOf Try.prog 5 = 1 := by kernel_rfl
@[go_sem] theorem agT5 : aggT Try.prog 5 = false := by kernel_rfl
@[go_sem] theorem slT5 : slT Try.prog 5 = none := by kernel_rfl
@[go_sem] theorem arT5 : arT Try.prog 5 = none := by kernel_rfl
@[go_sem] theorem inT5 : inT Try.prog 5 = some .u8 := by kernel_rfl
@[go_sem] theorem mpT5 : mpT Try.prog 5 = false := by kernel_rfl
@[go_sem] theorem stT5 : stT Try.prog 5 = false := by kernel_rfl
@[go_sem] theorem blT5 : blT Try.prog 5 = false := by kernel_rfl
@[go_sem] theorem okT5 : okT Try.prog 5 = true := by kernel_rfl
@[go_sem] theorem boT5 : boT Try.prog 5 = false := by kernel_rfl
@[go_sem] theorem ptT5 : ptT Try.prog 5 = false := by kernel_rfl
@[go_sem] theorem elT5 : elT Try.prog 5 = true := by kernel_rfl
@[go_sem] theorem zcT5 : zc Try.prog 5 = some [.s (.int .u8 0)] := by kernel_rfl
@[go_sem] theorem szT9 : szOf Try.prog 9 = 1 := by kernel_rfl
@[go_sem] theorem byT9 : byOf Try.prog 9 = 16 := by kernel_rfl
@[go_sem] theorem agT9 : aggT Try.prog 9 = false := by kernel_rfl
@[go_sem] theorem slT9 : slT Try.prog 9 = none := by kernel_rfl
@[go_sem] theorem arT9 : arT Try.prog 9 = none := by kernel_rfl
@[go_sem] theorem inT9 : inT Try.prog 9 = none := by kernel_rfl
@[go_sem] theorem mpT9 : mpT Try.prog 9 = false := by kernel_rfl
@[go_sem] theorem stT9 : stT Try.prog 9 = true := by kernel_rfl
@[go_sem] theorem blT9 : blT Try.prog 9 = false := by kernel_rfl
@[go_sem] theorem okT9 : okT Try.prog 9 = true := by kernel_rfl
@[go_sem] theorem boT9 : boT Try.prog 9 = false := by kernel_rfl
@[go_sem] theorem ptT9 : ptT Try.prog 9 = false := by kernel_rfl
@[go_sem] theorem elT9 : elT Try.prog 9 = true := by kernel_rfl
@[go_sem] theorem zcT9 : zc Try.prog 9 = some [.s (.string ⟨#[]⟩)] := by kernel_rfl
@[go_sem] theorem szT22 : szOf Try.prog 22 = 1 := by kernel_rfl
@[go_sem] theorem byT22 : byOf Try.prog 22 = 24 := by kernel_rfl
@[go_sem] theorem agT22 : aggT Try.prog 22 = false := by kernel_rfl
@[go_sem] theorem slT22 : slT Try.prog 22 = some 27 := by kernel_rfl
@[go_sem] theorem arT22 : arT Try.prog 22 = none := by kernel_rfl
@[go_sem] theorem inT22 : inT Try.prog 22 = none := by kernel_rfl
@[go_sem] theorem mpT22 : mpT Try.prog 22 = false := by kernel_rfl
@[go_sem] theorem stT22 : stT Try.prog 22 = false := by kernel_rfl
@[go_sem] theorem blT22 : blT Try.prog 22 = false := by kernel_rfl
@[go_sem] theorem okT22 : okT Try.prog 22 = true := by kernel_rfl
@[go_sem] theorem boT22 : boT Try.prog 22 = false := by kernel_rfl
@[go_sem] theorem ptT22 : ptT Try.prog 22 = false := by kernel_rfl
@[go_sem] theorem elT22 : elT Try.prog 22 = true := by kernel_rfl
@[go_sem] theorem zcT22 : zc Try.prog 22 = some [.z] := by kernel_rfl
@[go_sem] theorem szT25 : szOf Try.prog 25 = 1 := by kernel_rfl
@[go_sem] theorem byT25 : byOf Try.prog 25 = 24 := by kernel_rfl
@[go_sem] theorem agT25 : aggT Try.prog 25 = false := by kernel_rfl
@[go_sem] theorem slT25 : slT Try.prog 25 = some 47 := by kernel_rfl
@[go_sem] theorem arT25 : arT Try.prog 25 = none := by kernel_rfl
@[go_sem] theorem inT25 : inT Try.prog 25 = none := by kernel_rfl
@[go_sem] theorem mpT25 : mpT Try.prog 25 = false := by kernel_rfl
@[go_sem] theorem stT25 : stT Try.prog 25 = false := by kernel_rfl
@[go_sem] theorem blT25 : blT Try.prog 25 = false := by kernel_rfl
@[go_sem] theorem okT25 : okT Try.prog 25 = true := by kernel_rfl
@[go_sem] theorem boT25 : boT Try.prog 25 = false := by kernel_rfl
@[go_sem] theorem ptT25 : ptT Try.prog 25 = false := by kernel_rfl
@[go_sem] theorem elT25 : elT Try.prog 25 = true := by kernel_rfl
@[go_sem] theorem zcT25 : zc Try.prog 25 = some [.z] := by kernel_rfl
@[go_sem] theorem szT27 : szOf Try.prog 27 = 4 := by kernel_rfl
@[go_sem] theorem byT27 : byOf Try.prog 27 = 48 := by kernel_rfl
@[go_sem] theorem agT27 : aggT Try.prog 27 = true := by kernel_rfl
@[go_sem] theorem slT27 : slT Try.prog 27 = none := by kernel_rfl
@[go_sem] theorem arT27 : arT Try.prog 27 = none := by kernel_rfl
@[go_sem] theorem inT27 : inT Try.prog 27 = none := by kernel_rfl
@[go_sem] theorem mpT27 : mpT Try.prog 27 = false := by kernel_rfl
@[go_sem] theorem stT27 : stT Try.prog 27 = false := by kernel_rfl
@[go_sem] theorem blT27 : blT Try.prog 27 = true := by kernel_rfl
@[go_sem] theorem okT27 : okT Try.prog 27 = true := by kernel_rfl
@[go_sem] theorem boT27 : boT Try.prog 27 = false := by kernel_rfl
@[go_sem] theorem ptT27 : ptT Try.prog 27 = false := by kernel_rfl
@[go_sem] theorem elT27 : elT Try.prog 27 = true := by kernel_rfl
@[go_sem] theorem zcT27 : zc Try.prog 27 = some [.s (.int .i64 0), .s (.int .i64 0), .s (.int .i64 0), .z] := by kernel_rfl
@[go_sem] theorem fiT27_0 : fieldT Try.prog 27 0 = some (0, 3) := by kernel_rfl
@[go_sem] theorem fiT27_1 : fieldT Try.prog 27 1 = some (1, 3) := by kernel_rfl
@[go_sem] theorem fiT27_2 : fieldT Try.prog 27 2 = some (2, 3) := by kernel_rfl
@[go_sem] theorem fiT27_3 : fieldT Try.prog 27 3 = some (3, 25) := by kernel_rfl
@[go_sem] theorem szT28 : szOf Try.prog 28 = 1 := by kernel_rfl
@[go_sem] theorem byT28 : byOf Try.prog 28 = 24 := by kernel_rfl
@[go_sem] theorem agT28 : aggT Try.prog 28 = false := by kernel_rfl
@[go_sem] theorem slT28 : slT Try.prog 28 = some 3 := by kernel_rfl
@[go_sem] theorem arT28 : arT Try.prog 28 = none := by kernel_rfl
@[go_sem] theorem inT28 : inT Try.prog 28 = none := by kernel_rfl
@[go_sem] theorem mpT28 : mpT Try.prog 28 = false := by kernel_rfl
@[go_sem] theorem stT28 : stT Try.prog 28 = false := by kernel_rfl
@[go_sem] theorem blT28 : blT Try.prog 28 = false := by kernel_rfl
@[go_sem] theorem okT28 : okT Try.prog 28 = true := by kernel_rfl
@[go_sem] theorem boT28 : boT Try.prog 28 = false := by kernel_rfl
@[go_sem] theorem ptT28 : ptT Try.prog 28 = false := by kernel_rfl
@[go_sem] theorem elT28 : elT Try.prog 28 = true := by kernel_rfl
@[go_sem] theorem zcT28 : zc Try.prog 28 = some [.z] := by kernel_rfl
@[go_sem] theorem szT39 : szOf Try.prog 39 = 1 := by kernel_rfl
@[go_sem] theorem byT39 : byOf Try.prog 39 = 24 := by kernel_rfl
@[go_sem] theorem agT39 : aggT Try.prog 39 = false := by kernel_rfl
@[go_sem] theorem slT39 : slT Try.prog 39 = some 5 := by kernel_rfl
@[go_sem] theorem arT39 : arT Try.prog 39 = none := by kernel_rfl
@[go_sem] theorem inT39 : inT Try.prog 39 = none := by kernel_rfl
@[go_sem] theorem mpT39 : mpT Try.prog 39 = false := by kernel_rfl
@[go_sem] theorem stT39 : stT Try.prog 39 = false := by kernel_rfl
@[go_sem] theorem blT39 : blT Try.prog 39 = false := by kernel_rfl
@[go_sem] theorem okT39 : okT Try.prog 39 = true := by kernel_rfl
@[go_sem] theorem boT39 : boT Try.prog 39 = false := by kernel_rfl
@[go_sem] theorem ptT39 : ptT Try.prog 39 = false := by kernel_rfl
@[go_sem] theorem elT39 : elT Try.prog 39 = true := by kernel_rfl
@[go_sem] theorem zcT39 : zc Try.prog 39 = some [.z] := by kernel_rfl
@[go_sem] theorem szT42 : szOf Try.prog 42 = 1 := by kernel_rfl
@[go_sem] theorem byT42 : byOf Try.prog 42 = 8 := by kernel_rfl
@[go_sem] theorem agT42 : aggT Try.prog 42 = false := by kernel_rfl
@[go_sem] theorem slT42 : slT Try.prog 42 = none := by kernel_rfl
@[go_sem] theorem arT42 : arT Try.prog 42 = none := by kernel_rfl
@[go_sem] theorem inT42 : inT Try.prog 42 = some .u64 := by kernel_rfl
@[go_sem] theorem mpT42 : mpT Try.prog 42 = false := by kernel_rfl
@[go_sem] theorem stT42 : stT Try.prog 42 = false := by kernel_rfl
@[go_sem] theorem blT42 : blT Try.prog 42 = false := by kernel_rfl
@[go_sem] theorem okT42 : okT Try.prog 42 = true := by kernel_rfl
@[go_sem] theorem boT42 : boT Try.prog 42 = false := by kernel_rfl
@[go_sem] theorem ptT42 : ptT Try.prog 42 = false := by kernel_rfl
@[go_sem] theorem elT42 : elT Try.prog 42 = true := by kernel_rfl
@[go_sem] theorem zcT42 : zc Try.prog 42 = some [.s (.int .u64 0)] := by kernel_rfl
@[go_sem] theorem szT44 : szOf Try.prog 44 = 2 := by kernel_rfl
@[go_sem] theorem byT44 : byOf Try.prog 44 = 16 := by kernel_rfl
@[go_sem] theorem agT44 : aggT Try.prog 44 = true := by kernel_rfl
@[go_sem] theorem slT44 : slT Try.prog 44 = none := by kernel_rfl
@[go_sem] theorem arT44 : arT Try.prog 44 = none := by kernel_rfl
@[go_sem] theorem inT44 : inT Try.prog 44 = none := by kernel_rfl
@[go_sem] theorem mpT44 : mpT Try.prog 44 = false := by kernel_rfl
@[go_sem] theorem stT44 : stT Try.prog 44 = false := by kernel_rfl
@[go_sem] theorem blT44 : blT Try.prog 44 = true := by kernel_rfl
@[go_sem] theorem okT44 : okT Try.prog 44 = true := by kernel_rfl
@[go_sem] theorem boT44 : boT Try.prog 44 = false := by kernel_rfl
@[go_sem] theorem ptT44 : ptT Try.prog 44 = false := by kernel_rfl
@[go_sem] theorem elT44 : elT Try.prog 44 = true := by kernel_rfl
@[go_sem] theorem zcT44 : zc Try.prog 44 = some [.s (.int .u64 0), .s (.int .u64 0)] := by kernel_rfl
@[go_sem] theorem fiT44_0 : fieldT Try.prog 44 0 = some (0, 42) := by kernel_rfl
@[go_sem] theorem fiT44_1 : fieldT Try.prog 44 1 = some (1, 42) := by kernel_rfl
@[go_sem] theorem szT45 : szOf Try.prog 45 = 1 := by kernel_rfl
@[go_sem] theorem byT45 : byOf Try.prog 45 = 24 := by kernel_rfl
@[go_sem] theorem agT45 : aggT Try.prog 45 = false := by kernel_rfl
@[go_sem] theorem slT45 : slT Try.prog 45 = some 59 := by kernel_rfl
@[go_sem] theorem arT45 : arT Try.prog 45 = none := by kernel_rfl
@[go_sem] theorem inT45 : inT Try.prog 45 = none := by kernel_rfl
@[go_sem] theorem mpT45 : mpT Try.prog 45 = false := by kernel_rfl
@[go_sem] theorem stT45 : stT Try.prog 45 = false := by kernel_rfl
@[go_sem] theorem blT45 : blT Try.prog 45 = false := by kernel_rfl
@[go_sem] theorem okT45 : okT Try.prog 45 = true := by kernel_rfl
@[go_sem] theorem boT45 : boT Try.prog 45 = false := by kernel_rfl
@[go_sem] theorem ptT45 : ptT Try.prog 45 = false := by kernel_rfl
@[go_sem] theorem elT45 : elT Try.prog 45 = true := by kernel_rfl
@[go_sem] theorem zcT45 : zc Try.prog 45 = some [.z] := by kernel_rfl
@[go_sem] theorem szT47 : szOf Try.prog 47 = 6 := by kernel_rfl
@[go_sem] theorem byT47 : byOf Try.prog 47 = 64 := by kernel_rfl
@[go_sem] theorem agT47 : aggT Try.prog 47 = true := by kernel_rfl
@[go_sem] theorem slT47 : slT Try.prog 47 = none := by kernel_rfl
@[go_sem] theorem arT47 : arT Try.prog 47 = none := by kernel_rfl
@[go_sem] theorem inT47 : inT Try.prog 47 = none := by kernel_rfl
@[go_sem] theorem mpT47 : mpT Try.prog 47 = false := by kernel_rfl
@[go_sem] theorem stT47 : stT Try.prog 47 = false := by kernel_rfl
@[go_sem] theorem blT47 : blT Try.prog 47 = true := by kernel_rfl
@[go_sem] theorem okT47 : okT Try.prog 47 = true := by kernel_rfl
@[go_sem] theorem boT47 : boT Try.prog 47 = false := by kernel_rfl
@[go_sem] theorem ptT47 : ptT Try.prog 47 = false := by kernel_rfl
@[go_sem] theorem elT47 : elT Try.prog 47 = true := by kernel_rfl
@[go_sem] theorem zcT47 : zc Try.prog 47 = some [.s (.int .u64 0), .s (.int .u64 0), .s (.int .i64 0), .s (.int .i64 0), .s (.bool false), .z] := by kernel_rfl
@[go_sem] theorem fiT47_0 : fieldT Try.prog 47 0 = some (0, 44) := by kernel_rfl
@[go_sem] theorem fiT47_1 : fieldT Try.prog 47 1 = some (2, 3) := by kernel_rfl
@[go_sem] theorem fiT47_2 : fieldT Try.prog 47 2 = some (3, 3) := by kernel_rfl
@[go_sem] theorem fiT47_3 : fieldT Try.prog 47 3 = some (4, 4) := by kernel_rfl
@[go_sem] theorem fiT47_4 : fieldT Try.prog 47 4 = some (5, 45) := by kernel_rfl
@[go_sem] theorem szT57 : szOf Try.prog 57 = 1 := by kernel_rfl
@[go_sem] theorem byT57 : byOf Try.prog 57 = 24 := by kernel_rfl
@[go_sem] theorem agT57 : aggT Try.prog 57 = false := by kernel_rfl
@[go_sem] theorem slT57 : slT Try.prog 57 = some 74 := by kernel_rfl
@[go_sem] theorem arT57 : arT Try.prog 57 = none := by kernel_rfl
@[go_sem] theorem inT57 : inT Try.prog 57 = none := by kernel_rfl
@[go_sem] theorem mpT57 : mpT Try.prog 57 = false := by kernel_rfl
@[go_sem] theorem stT57 : stT Try.prog 57 = false := by kernel_rfl
@[go_sem] theorem blT57 : blT Try.prog 57 = false := by kernel_rfl
@[go_sem] theorem okT57 : okT Try.prog 57 = true := by kernel_rfl
@[go_sem] theorem boT57 : boT Try.prog 57 = false := by kernel_rfl
@[go_sem] theorem ptT57 : ptT Try.prog 57 = false := by kernel_rfl
@[go_sem] theorem elT57 : elT Try.prog 57 = true := by kernel_rfl
@[go_sem] theorem zcT57 : zc Try.prog 57 = some [.z] := by kernel_rfl
@[go_sem] theorem szT59 : szOf Try.prog 59 = 10 := by kernel_rfl
@[go_sem] theorem byT59 : byOf Try.prog 59 = 112 := by kernel_rfl
@[go_sem] theorem agT59 : aggT Try.prog 59 = true := by kernel_rfl
@[go_sem] theorem slT59 : slT Try.prog 59 = none := by kernel_rfl
@[go_sem] theorem arT59 : arT Try.prog 59 = none := by kernel_rfl
@[go_sem] theorem inT59 : inT Try.prog 59 = none := by kernel_rfl
@[go_sem] theorem mpT59 : mpT Try.prog 59 = false := by kernel_rfl
@[go_sem] theorem stT59 : stT Try.prog 59 = false := by kernel_rfl
@[go_sem] theorem blT59 : blT Try.prog 59 = true := by kernel_rfl
@[go_sem] theorem okT59 : okT Try.prog 59 = true := by kernel_rfl
@[go_sem] theorem boT59 : boT Try.prog 59 = false := by kernel_rfl
@[go_sem] theorem ptT59 : ptT Try.prog 59 = false := by kernel_rfl
@[go_sem] theorem elT59 : elT Try.prog 59 = true := by kernel_rfl
@[go_sem] theorem zcT59 : zc Try.prog 59 = some [.s (.int .u64 0), .s (.int .u64 0), .s (.int .u64 0), .s (.int .u64 0), .s (.string ⟨#[]⟩), .s (.string ⟨#[]⟩), .s (.int .i64 0), .s (.int .i64 0), .s (.bool false), .z] := by kernel_rfl
@[go_sem] theorem fiT59_0 : fieldT Try.prog 59 0 = some (0, 44) := by kernel_rfl
@[go_sem] theorem fiT59_1 : fieldT Try.prog 59 1 = some (2, 42) := by kernel_rfl
@[go_sem] theorem fiT59_2 : fieldT Try.prog 59 2 = some (3, 42) := by kernel_rfl
@[go_sem] theorem fiT59_3 : fieldT Try.prog 59 3 = some (4, 9) := by kernel_rfl
@[go_sem] theorem fiT59_4 : fieldT Try.prog 59 4 = some (5, 9) := by kernel_rfl
@[go_sem] theorem fiT59_5 : fieldT Try.prog 59 5 = some (6, 3) := by kernel_rfl
@[go_sem] theorem fiT59_6 : fieldT Try.prog 59 6 = some (7, 3) := by kernel_rfl
@[go_sem] theorem fiT59_7 : fieldT Try.prog 59 7 = some (8, 4) := by kernel_rfl
@[go_sem] theorem fiT59_8 : fieldT Try.prog 59 8 = some (9, 57) := by kernel_rfl
@[go_sem] theorem szT60 : szOf Try.prog 60 = 1 := by kernel_rfl
@[go_sem] theorem byT60 : byOf Try.prog 60 = 8 := by kernel_rfl
@[go_sem] theorem agT60 : aggT Try.prog 60 = false := by kernel_rfl
@[go_sem] theorem slT60 : slT Try.prog 60 = none := by kernel_rfl
@[go_sem] theorem arT60 : arT Try.prog 60 = none := by kernel_rfl
@[go_sem] theorem inT60 : inT Try.prog 60 = none := by kernel_rfl
@[go_sem] theorem mpT60 : mpT Try.prog 60 = false := by kernel_rfl
@[go_sem] theorem stT60 : stT Try.prog 60 = false := by kernel_rfl
@[go_sem] theorem blT60 : blT Try.prog 60 = false := by kernel_rfl
@[go_sem] theorem okT60 : okT Try.prog 60 = true := by kernel_rfl
@[go_sem] theorem boT60 : boT Try.prog 60 = false := by kernel_rfl
@[go_sem] theorem ptT60 : ptT Try.prog 60 = true := by kernel_rfl
@[go_sem] theorem elT60 : elT Try.prog 60 = true := by kernel_rfl
@[go_sem] theorem zcT60 : zc Try.prog 60 = some [.s (.pointer none)] := by kernel_rfl
@[go_sem] theorem szT62 : szOf Try.prog 62 = 1 := by kernel_rfl
@[go_sem] theorem byT62 : byOf Try.prog 62 = 24 := by kernel_rfl
@[go_sem] theorem agT62 : aggT Try.prog 62 = true := by kernel_rfl
@[go_sem] theorem slT62 : slT Try.prog 62 = none := by kernel_rfl
@[go_sem] theorem arT62 : arT Try.prog 62 = none := by kernel_rfl
@[go_sem] theorem inT62 : inT Try.prog 62 = none := by kernel_rfl
@[go_sem] theorem mpT62 : mpT Try.prog 62 = false := by kernel_rfl
@[go_sem] theorem stT62 : stT Try.prog 62 = false := by kernel_rfl
@[go_sem] theorem blT62 : blT Try.prog 62 = true := by kernel_rfl
@[go_sem] theorem okT62 : okT Try.prog 62 = true := by kernel_rfl
@[go_sem] theorem boT62 : boT Try.prog 62 = false := by kernel_rfl
@[go_sem] theorem ptT62 : ptT Try.prog 62 = false := by kernel_rfl
@[go_sem] theorem elT62 : elT Try.prog 62 = true := by kernel_rfl
@[go_sem] theorem zcT62 : zc Try.prog 62 = some [.z] := by kernel_rfl
@[go_sem] theorem fiT62_0 : fieldT Try.prog 62 0 = some (0, 39) := by kernel_rfl
@[go_sem] theorem szT70 : szOf Try.prog 70 = 1 := by kernel_rfl
@[go_sem] theorem byT70 : byOf Try.prog 70 = 4 := by kernel_rfl
@[go_sem] theorem agT70 : aggT Try.prog 70 = false := by kernel_rfl
@[go_sem] theorem slT70 : slT Try.prog 70 = none := by kernel_rfl
@[go_sem] theorem arT70 : arT Try.prog 70 = none := by kernel_rfl
@[go_sem] theorem inT70 : inT Try.prog 70 = some .u32 := by kernel_rfl
@[go_sem] theorem mpT70 : mpT Try.prog 70 = false := by kernel_rfl
@[go_sem] theorem stT70 : stT Try.prog 70 = false := by kernel_rfl
@[go_sem] theorem blT70 : blT Try.prog 70 = false := by kernel_rfl
@[go_sem] theorem okT70 : okT Try.prog 70 = true := by kernel_rfl
@[go_sem] theorem boT70 : boT Try.prog 70 = false := by kernel_rfl
@[go_sem] theorem ptT70 : ptT Try.prog 70 = false := by kernel_rfl
@[go_sem] theorem elT70 : elT Try.prog 70 = true := by kernel_rfl
@[go_sem] theorem zcT70 : zc Try.prog 70 = some [.s (.int .u32 0)] := by kernel_rfl
@[go_sem] theorem szT74 : szOf Try.prog 74 = 2 := by kernel_rfl
@[go_sem] theorem byT74 : byOf Try.prog 74 = 32 := by kernel_rfl
@[go_sem] theorem agT74 : aggT Try.prog 74 = true := by kernel_rfl
@[go_sem] theorem slT74 : slT Try.prog 74 = none := by kernel_rfl
@[go_sem] theorem arT74 : arT Try.prog 74 = none := by kernel_rfl
@[go_sem] theorem inT74 : inT Try.prog 74 = none := by kernel_rfl
@[go_sem] theorem mpT74 : mpT Try.prog 74 = false := by kernel_rfl
@[go_sem] theorem stT74 : stT Try.prog 74 = false := by kernel_rfl
@[go_sem] theorem blT74 : blT Try.prog 74 = true := by kernel_rfl
@[go_sem] theorem okT74 : okT Try.prog 74 = true := by kernel_rfl
@[go_sem] theorem boT74 : boT Try.prog 74 = false := by kernel_rfl
@[go_sem] theorem ptT74 : ptT Try.prog 74 = false := by kernel_rfl
@[go_sem] theorem elT74 : elT Try.prog 74 = true := by kernel_rfl
@[go_sem] theorem zcT74 : zc Try.prog 74 = some [.s (.string ⟨#[]⟩), .s (.string ⟨#[]⟩)] := by kernel_rfl
@[go_sem] theorem fiT74_0 : fieldT Try.prog 74 0 = some (0, 9) := by kernel_rfl
@[go_sem] theorem fiT74_1 : fieldT Try.prog 74 1 = some (1, 9) := by kernel_rfl
@[go_sem] theorem szT81 : szOf Try.prog 81 = 1 := by kernel_rfl
@[go_sem] theorem byT81 : byOf Try.prog 81 = 24 := by kernel_rfl
@[go_sem] theorem agT81 : aggT Try.prog 81 = false := by kernel_rfl
@[go_sem] theorem slT81 : slT Try.prog 81 = some 42 := by kernel_rfl
@[go_sem] theorem arT81 : arT Try.prog 81 = none := by kernel_rfl
@[go_sem] theorem inT81 : inT Try.prog 81 = none := by kernel_rfl
@[go_sem] theorem mpT81 : mpT Try.prog 81 = false := by kernel_rfl
@[go_sem] theorem stT81 : stT Try.prog 81 = false := by kernel_rfl
@[go_sem] theorem blT81 : blT Try.prog 81 = false := by kernel_rfl
@[go_sem] theorem okT81 : okT Try.prog 81 = true := by kernel_rfl
@[go_sem] theorem boT81 : boT Try.prog 81 = false := by kernel_rfl
@[go_sem] theorem ptT81 : ptT Try.prog 81 = false := by kernel_rfl
@[go_sem] theorem elT81 : elT Try.prog 81 = true := by kernel_rfl
@[go_sem] theorem zcT81 : zc Try.prog 81 = some [.z] := by kernel_rfl
@[go_sem] theorem szT89 : szOf Try.prog 89 = 1 := by kernel_rfl
@[go_sem] theorem byT89 : byOf Try.prog 89 = 8 := by kernel_rfl
@[go_sem] theorem agT89 : aggT Try.prog 89 = false := by kernel_rfl
@[go_sem] theorem slT89 : slT Try.prog 89 = none := by kernel_rfl
@[go_sem] theorem arT89 : arT Try.prog 89 = none := by kernel_rfl
@[go_sem] theorem inT89 : inT Try.prog 89 = none := by kernel_rfl
@[go_sem] theorem mpT89 : mpT Try.prog 89 = true := by kernel_rfl
@[go_sem] theorem stT89 : stT Try.prog 89 = false := by kernel_rfl
@[go_sem] theorem blT89 : blT Try.prog 89 = false := by kernel_rfl
@[go_sem] theorem okT89 : okT Try.prog 89 = true := by kernel_rfl
@[go_sem] theorem boT89 : boT Try.prog 89 = false := by kernel_rfl
@[go_sem] theorem ptT89 : ptT Try.prog 89 = false := by kernel_rfl
@[go_sem] theorem elT89 : elT Try.prog 89 = true := by kernel_rfl
@[go_sem] theorem zcT89 : zc Try.prog 89 = some [.s (.map none)] := by kernel_rfl
@[go_sem] theorem szT94 : szOf Try.prog 94 = 1 := by kernel_rfl
@[go_sem] theorem byT94 : byOf Try.prog 94 = 24 := by kernel_rfl
@[go_sem] theorem agT94 : aggT Try.prog 94 = false := by kernel_rfl
@[go_sem] theorem slT94 : slT Try.prog 94 = some 9 := by kernel_rfl
@[go_sem] theorem arT94 : arT Try.prog 94 = none := by kernel_rfl
@[go_sem] theorem inT94 : inT Try.prog 94 = none := by kernel_rfl
@[go_sem] theorem mpT94 : mpT Try.prog 94 = false := by kernel_rfl
@[go_sem] theorem stT94 : stT Try.prog 94 = false := by kernel_rfl
@[go_sem] theorem blT94 : blT Try.prog 94 = false := by kernel_rfl
@[go_sem] theorem okT94 : okT Try.prog 94 = true := by kernel_rfl
@[go_sem] theorem boT94 : boT Try.prog 94 = false := by kernel_rfl
@[go_sem] theorem ptT94 : ptT Try.prog 94 = false := by kernel_rfl
@[go_sem] theorem elT94 : elT Try.prog 94 = true := by kernel_rfl
@[go_sem] theorem zcT94 : zc Try.prog 94 = some [.z] := by kernel_rfl
end Go.Proofs.Ytpfjchnpkolmkaa
