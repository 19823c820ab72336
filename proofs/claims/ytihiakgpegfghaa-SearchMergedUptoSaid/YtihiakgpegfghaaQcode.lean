import Derived.Test.YtihiakgpegfghaaQbody
import Derived.Test.YtihiakgpegfghaaQeval
import Derived.Test.YtihiakgpegfghaaProg
import Derived.Test.YtihiakgpegfghaaRsort
import Derived.KernelRfl
set_option maxRecDepth 100000
namespace Go.Proofs.Ytihiakgpegfghaa
open Go Go.Pi
/- gleaninglaw32.SearchTells -/

def c3 : CC := (.seq (.run [⟨(some 5), none, (Op.box 24 (Operand.tmp 1))⟩, ⟨(some 6), none, (Op.box 30 (Operand.tmp 2))⟩, ⟨(some 8), none, (Op.assign (Operand.const (Value.bool false)))⟩]) (.seq (.run [⟨(some 10), none, (Op.call { callee := (Callee.value (Operand.func 7)), args := #[], argTypes := #[] })⟩, ⟨(some 9), none, (Op.assign (Operand.tmp 10))⟩]) (.seq (.seq (.run [⟨(some 11), none, (Op.move (Operand.tmp 9))⟩, ⟨(some 12), none, (Op.unOp UnOp.not 4 (Operand.tmp 11))⟩, ⟨(some 13), none, (Op.move (Operand.tmp 12))⟩, ⟨(some 14), (some (13, false)), (Op.move (Operand.tmp 0))⟩, ⟨(some 15), (some (13, false)), (Op.call { callee := (Callee.value (Operand.func 8)), args := #[(Operand.tmp 14)], argTypes := #[22] })⟩, ⟨(some 16), (some (13, false)), (Op.unOp UnOp.not 4 (Operand.tmp 15))⟩, ⟨(some 17), none, (Op.pick (Operand.tmp 13) (Operand.const (Value.bool true)) (Operand.tmp 16))⟩, ⟨(some 18), none, (Op.move (Operand.tmp 17))⟩, ⟨(some 19), (some (18, false)), (Op.load 24 (Operand.tmp 5))⟩, ⟨(some 20), (some (18, false)), (Op.call { callee := (Callee.value (Operand.func 9)), args := #[(Operand.tmp 19)], argTypes := #[24] })⟩, ⟨(some 21), (some (18, false)), (Op.unOp UnOp.not 4 (Operand.tmp 20))⟩, ⟨(some 22), none, (Op.pick (Operand.tmp 18) (Operand.const (Value.bool true)) (Operand.tmp 21))⟩, ⟨(some 23), none, (Op.move (Operand.tmp 22))⟩, ⟨(some 24), (some (23, false)), (Op.load 30 (Operand.tmp 6))⟩, ⟨(some 25), (some (23, false)), (Op.call { callee := (Callee.value (Operand.func 10)), args := #[(Operand.tmp 24)], argTypes := #[30] })⟩, ⟨(some 26), (some (23, false)), (Op.unOp UnOp.not 4 (Operand.tmp 25))⟩, ⟨(some 27), none, (Op.pick (Operand.tmp 23) (Operand.const (Value.bool true)) (Operand.tmp 26))⟩]) (.cond (Operand.tmp 27) (.seq (.run [⟨(some 28), none, (Op.move (Operand.tmp 9))⟩, ⟨(some 8), none, (Op.assign (Operand.tmp 28))⟩]) .ret) .skip)) (.seq (.draw [⟨(some 29), none, (Op.load 24 (Operand.tmp 5))⟩, ⟨(some 30), none, (Op.load 30 (Operand.tmp 6))⟩, ⟨(some 31), none, (Op.call { callee := (Callee.value (Operand.func 11)), args := #[(Operand.tmp 29), (Operand.tmp 30)], argTypes := #[24, 30] })⟩, ⟨(some 32), none, (Op.load 24 (Operand.tmp 5))⟩, ⟨(some 33), none, (Op.load 30 (Operand.tmp 6))⟩, ⟨(some 34), none, (Op.call { callee := (Callee.value (Operand.func 12)), args := #[(Operand.tmp 32), (Operand.tmp 33)], argTypes := #[24, 30] })⟩, ⟨(some 35), none, (Op.binOp BinOp.eql 4 (Operand.tmp 31) (Operand.tmp 34) 4)⟩, ⟨(some 36), none, (Op.move (Operand.tmp 35))⟩, ⟨(some 37), (some (36, true)), (Op.move (Operand.tmp 0))⟩, ⟨(some 38), (some (36, true)), (Op.load 24 (Operand.tmp 5))⟩, ⟨(some 39), (some (36, true)), (Op.move (Operand.tmp 3))⟩, ⟨(some 40), (some (36, true)), (Op.call { callee := (Callee.value (Operand.func 14)), args := #[(Operand.tmp 37), (Operand.tmp 38), (Operand.tmp 39)], argTypes := #[22, 24, 3] })⟩, ⟨(some 41), (some (36, true)), (Op.move (Operand.tmp 0))⟩, ⟨(some 42), (some (36, true)), (Op.load 24 (Operand.tmp 5))⟩, ⟨(some 43), (some (36, true)), (Op.move (Operand.tmp 3))⟩, ⟨(some 44), (some (36, true)), (Op.call { callee := (Callee.value (Operand.func 15)), args := #[(Operand.tmp 41), (Operand.tmp 42), (Operand.tmp 43)], argTypes := #[22, 24, 3] })⟩, ⟨(some 45), (some (36, true)), (Op.call { callee := (Callee.value (Operand.func 13)), args := #[(Operand.tmp 40), (Operand.tmp 44)], argTypes := #[37, 37] })⟩, ⟨(some 46), none, (Op.pick (Operand.tmp 36) (Operand.tmp 45) (Operand.const (Value.bool false)))⟩, ⟨(some 47), none, (Op.move (Operand.tmp 46))⟩, ⟨(some 48), (some (47, true)), (Op.move (Operand.tmp 0))⟩, ⟨(some 49), (some (47, true)), (Op.load 24 (Operand.tmp 5))⟩, ⟨(some 50), (some (47, true)), (Op.call { callee := (Callee.value (Operand.func 16)), args := #[(Operand.tmp 48), (Operand.tmp 49)], argTypes := #[22, 24] })⟩, ⟨(some 51), (some (47, true)), (Op.move (Operand.tmp 0))⟩, ⟨(some 52), (some (47, true)), (Op.load 24 (Operand.tmp 5))⟩, ⟨(some 53), (some (47, true)), (Op.call { callee := (Callee.value (Operand.func 17)), args := #[(Operand.tmp 51), (Operand.tmp 52)], argTypes := #[22, 24] })⟩, ⟨(some 54), (some (47, true)), (Op.binOp BinOp.eql 3 (Operand.tmp 50) (Operand.tmp 53) 3)⟩, ⟨(some 55), none, (Op.pick (Operand.tmp 47) (Operand.tmp 54) (Operand.const (Value.bool false)))⟩, ⟨(some 8), none, (Op.assign (Operand.tmp 55))⟩] [0, 0, 3, 0, 0, 31, 63, 127, 255, 255, 255, 2047, 255, 255, 255, 32767, 65535, 131071, 262143, 524287, 524287, 2097151, 524287, 524287, 16777215, 33554431, 67108863, 134217727]) .ret))))
def k3 : Nat → List (Nat × Option Nat) × List Nat := fun _ => ([], [])
/- gleaninglaw32.SearchNarrows -/

def c4 : CC := (.seq (.run [⟨(some 4), none, (Op.box 24 (Operand.tmp 1))⟩, ⟨(some 6), none, (Op.assign (Operand.const (Value.bool false)))⟩]) (.seq (.run [⟨(some 12), none, (Op.call { callee := (Callee.value (Operand.func 7)), args := #[], argTypes := #[] })⟩, ⟨(some 7), none, (Op.assign (Operand.tmp 12))⟩]) (.seq (.seq (.run [⟨(some 13), none, (Op.move (Operand.tmp 7))⟩, ⟨(some 14), none, (Op.unOp UnOp.not 4 (Operand.tmp 13))⟩, ⟨(some 15), none, (Op.move (Operand.tmp 14))⟩, ⟨(some 16), (some (15, false)), (Op.move (Operand.tmp 0))⟩, ⟨(some 17), (some (15, false)), (Op.call { callee := (Callee.value (Operand.func 8)), args := #[(Operand.tmp 16)], argTypes := #[22] })⟩, ⟨(some 18), (some (15, false)), (Op.unOp UnOp.not 4 (Operand.tmp 17))⟩, ⟨(some 19), none, (Op.pick (Operand.tmp 15) (Operand.const (Value.bool true)) (Operand.tmp 18))⟩, ⟨(some 20), none, (Op.move (Operand.tmp 19))⟩, ⟨(some 21), (some (20, false)), (Op.load 24 (Operand.tmp 4))⟩, ⟨(some 22), (some (20, false)), (Op.call { callee := (Callee.value (Operand.func 9)), args := #[(Operand.tmp 21)], argTypes := #[24] })⟩, ⟨(some 23), (some (20, false)), (Op.unOp UnOp.not 4 (Operand.tmp 22))⟩, ⟨(some 24), none, (Op.pick (Operand.tmp 20) (Operand.const (Value.bool true)) (Operand.tmp 23))⟩]) (.cond (Operand.tmp 24) (.seq (.run [⟨(some 25), none, (Op.move (Operand.tmp 7))⟩, ⟨(some 6), none, (Op.assign (Operand.tmp 25))⟩]) .ret) .skip)) (.seq (.run [⟨(some 26), none, (Op.load 24 (Operand.tmp 4))⟩, ⟨(some 8), none, (Op.alloc 24)⟩, ⟨none, none, (Op.store 24 (Operand.tmp 8) (Operand.tmp 26))⟩]) (.seq (.seq (.run [⟨(some 27), none, (Op.move (Operand.tmp 2))⟩, ⟨(some 28), none, (Op.binOp BinOp.and 3 (Operand.tmp 27) (Operand.const (Value.int IntKind.i64 3)) 3)⟩]) (.block 0 (.seq (.run [⟨(some 30), none, (Op.binOp BinOp.eql 3 (Operand.tmp 28) (Operand.const (Value.int IntKind.i64 0)) 3)⟩, ⟨(some 29), none, (Op.assign (Operand.tmp 30))⟩]) (.cond (Operand.tmp 29) (.run [⟨(some 31), none, (Op.fieldAddr 24 (Operand.tmp 8) 0)⟩, ⟨none, none, (Op.store 9 (Operand.tmp 31) (Operand.const (Value.string { data := #[] })))⟩]) (.seq (.run [⟨(some 33), none, (Op.binOp BinOp.eql 3 (Operand.tmp 28) (Operand.const (Value.int IntKind.i64 1)) 3)⟩, ⟨(some 32), none, (Op.assign (Operand.tmp 33))⟩]) (.cond (Operand.tmp 32) (.run [⟨(some 34), none, (Op.fieldAddr 24 (Operand.tmp 8) 1)⟩, ⟨none, none, (Op.store 9 (Operand.tmp 34) (Operand.const (Value.string { data := #[] })))⟩]) (.seq (.run [⟨(some 36), none, (Op.binOp BinOp.eql 3 (Operand.tmp 28) (Operand.const (Value.int IntKind.i64 2)) 3)⟩, ⟨(some 35), none, (Op.assign (Operand.tmp 36))⟩]) (.cond (Operand.tmp 35) (.run [⟨(some 37), none, (Op.fieldAddr 24 (Operand.tmp 8) 4)⟩, ⟨none, none, (Op.store 3 (Operand.tmp 37) (Operand.const (Value.int IntKind.i64 0)))⟩]) (.seq (.run [⟨(some 39), none, (Op.binOp BinOp.eql 3 (Operand.tmp 28) (Operand.const (Value.int IntKind.i64 3)) 3)⟩, ⟨(some 38), none, (Op.assign (Operand.tmp 39))⟩]) (.cond (Operand.tmp 38) (.run [⟨(some 40), none, (Op.fieldAddr 24 (Operand.tmp 8) 5)⟩, ⟨none, none, (Op.store 4 (Operand.tmp 40) (Operand.const (Value.bool false)))⟩]) .skip)))))))))) (.seq (.run [⟨(some 41), none, (Op.move (Operand.tmp 0))⟩, ⟨(some 42), none, (Op.load 24 (Operand.tmp 4))⟩, ⟨(some 43), none, (Op.call { callee := (Callee.value (Operand.func 14)), args := #[(Operand.tmp 41), (Operand.tmp 42), (Operand.const (Value.int IntKind.i64 1000))], argTypes := #[22, 24, 3] })⟩, ⟨(some 9), none, (Op.assign (Operand.tmp 43))⟩]) (.seq (.run [⟨(some 44), none, (Op.move (Operand.tmp 0))⟩, ⟨(some 45), none, (Op.load 24 (Operand.tmp 8))⟩, ⟨(some 46), none, (Op.call { callee := (Callee.value (Operand.func 14)), args := #[(Operand.tmp 44), (Operand.tmp 45), (Operand.const (Value.int IntKind.i64 1000))], argTypes := #[22, 24, 3] })⟩, ⟨(some 10), none, (Op.assign (Operand.tmp 46))⟩]) (.seq (.run [⟨(some 47), none, (Op.move (Operand.tmp 0))⟩, ⟨(some 48), none, (Op.build 24 #[])⟩, ⟨(some 49), none, (Op.call { callee := (Callee.value (Operand.func 14)), args := #[(Operand.tmp 47), (Operand.tmp 48), (Operand.const (Value.int IntKind.i64 1000))], argTypes := #[22, 24, 3] })⟩, ⟨(some 11), none, (Op.assign (Operand.tmp 49))⟩]) (.seq (.run [⟨(some 50), none, (Op.move (Operand.tmp 9))⟩, ⟨(some 51), none, (Op.move (Operand.tmp 10))⟩, ⟨(some 52), none, (Op.call { callee := (Callee.value (Operand.func 18)), args := #[(Operand.tmp 50), (Operand.tmp 51)], argTypes := #[37, 37] })⟩, ⟨(some 53), none, (Op.move (Operand.tmp 52))⟩, ⟨(some 54), (some (53, true)), (Op.move (Operand.tmp 10))⟩, ⟨(some 55), (some (53, true)), (Op.move (Operand.tmp 11))⟩, ⟨(some 56), (some (53, true)), (Op.call { callee := (Callee.value (Operand.func 18)), args := #[(Operand.tmp 54), (Operand.tmp 55)], argTypes := #[37, 37] })⟩, ⟨(some 57), none, (Op.pick (Operand.tmp 53) (Operand.tmp 56) (Operand.const (Value.bool false)))⟩, ⟨(some 58), none, (Op.move (Operand.tmp 57))⟩, ⟨(some 59), (some (58, true)), (Op.move (Operand.tmp 11))⟩, ⟨(some 60), (some (58, true)), (Op.call { callee := (Callee.builtin Builtin.len), args := #[(Operand.tmp 59)], argTypes := #[37] })⟩, ⟨(some 61), (some (58, true)), (Op.move (Operand.tmp 0))⟩, ⟨(some 62), (some (58, true)), (Op.call { callee := (Callee.value (Operand.func 19)), args := #[(Operand.tmp 61)], argTypes := #[22] })⟩, ⟨(some 63), (some (58, true)), (Op.binOp BinOp.eql 3 (Operand.tmp 60) (Operand.tmp 62) 3)⟩, ⟨(some 64), none, (Op.pick (Operand.tmp 58) (Operand.tmp 63) (Operand.const (Value.bool false)))⟩, ⟨(some 6), none, (Op.assign (Operand.tmp 64))⟩]) .ret)))))))))
def k4 : Nat → List (Nat × Option Nat) × List Nat := fun _ => ([], [])
/- gleaninglaw32.SearchMerged -/
def c5_0 : CC := (.seq (.seq (.run [⟨(some 33), none, (Op.move (Operand.tmp 8))⟩, ⟨(some 34), none, (Op.binOp BinOp.geq 3 (Operand.tmp 33) (Operand.const (Value.int IntKind.i64 0)) 3)⟩]) (.cond (Operand.tmp 34) .skip (.exit 0))) (.seq (.block 1 (.run [⟨(some 37), none, (Op.move (Operand.tmp 7))⟩, ⟨(some 38), none, (Op.move (Operand.tmp 0))⟩, ⟨(some 39), none, (Op.move (Operand.tmp 8))⟩, ⟨(some 40), none, (Op.indexAddr 22 (Operand.tmp 38) (Operand.tmp 39))⟩, ⟨(some 41), none, (Op.load 45 (Operand.tmp 40))⟩, ⟨(some 42), none, (Op.buildSlice 22 1 #[(0, (Operand.tmp 41))])⟩, ⟨(some 43), none, (Op.call { callee := (Callee.builtin Builtin.append), args := #[(Operand.tmp 37), (Operand.tmp 42)], argTypes := #[22, 22] })⟩, ⟨(some 7), none, (Op.assign (Operand.tmp 43))⟩])) (.run [⟨(some 35), none, (Op.move (Operand.tmp 8))⟩, ⟨(some 36), none, (Op.binOp BinOp.sub 3 (Operand.tmp 35) (Operand.const (Value.int IntKind.i64 1)) 3)⟩, ⟨(some 8), none, (Op.assign (Operand.tmp 36))⟩])))
def c5_2 : CC := (.seq (.seq (.run [⟨(some 47), none, (Op.move (Operand.tmp 11))⟩, ⟨(some 48), none, (Op.move (Operand.tmp 0))⟩, ⟨(some 49), none, (Op.call { callee := (Callee.builtin Builtin.len), args := #[(Operand.tmp 48)], argTypes := #[22] })⟩, ⟨(some 50), none, (Op.binOp BinOp.lss 3 (Operand.tmp 47) (Operand.tmp 49) 3)⟩]) (.cond (Operand.tmp 50) .skip (.exit 2))) (.seq (.block 3 (.draw [⟨(some 53), none, (Op.load 45 (Operand.tmp 10))⟩, ⟨(some 54), none, (Op.move (Operand.tmp 0))⟩, ⟨(some 55), none, (Op.move (Operand.tmp 11))⟩, ⟨(some 56), none, (Op.indexAddr 22 (Operand.tmp 54) (Operand.tmp 55))⟩, ⟨(some 57), none, (Op.load 45 (Operand.tmp 56))⟩, ⟨(some 58), none, (Op.move (Operand.tmp 11))⟩, ⟨(some 59), none, (Op.call { callee := (Callee.value (Operand.func 20)), args := #[(Operand.tmp 53), (Operand.tmp 57), (Operand.tmp 58)], argTypes := #[45, 45, 3] })⟩, ⟨none, none, (Op.store 45 (Operand.tmp 10) (Operand.tmp 59))⟩] [0, 0, 0, 6, 14, 0, 63, 127])) (.run [⟨(some 51), none, (Op.move (Operand.tmp 11))⟩, ⟨(some 52), none, (Op.binOp BinOp.add 3 (Operand.tmp 51) (Operand.const (Value.int IntKind.i64 1)) 3)⟩, ⟨(some 11), none, (Op.assign (Operand.tmp 52))⟩])))
def c5 : CC := (.seq (.run [⟨(some 3), none, (Op.box 24 (Operand.tmp 1))⟩, ⟨(some 4), none, (Op.assign (Operand.const (Value.bool false)))⟩]) (.seq (.run [⟨(some 13), none, (Op.call { callee := (Callee.value (Operand.func 7)), args := #[], argTypes := #[] })⟩, ⟨(some 5), none, (Op.assign (Operand.tmp 13))⟩]) (.seq (.seq (.run [⟨(some 14), none, (Op.move (Operand.tmp 5))⟩, ⟨(some 15), none, (Op.unOp UnOp.not 4 (Operand.tmp 14))⟩, ⟨(some 16), none, (Op.move (Operand.tmp 15))⟩, ⟨(some 17), (some (16, false)), (Op.move (Operand.tmp 0))⟩, ⟨(some 18), (some (16, false)), (Op.call { callee := (Callee.value (Operand.func 8)), args := #[(Operand.tmp 17)], argTypes := #[22] })⟩, ⟨(some 19), (some (16, false)), (Op.unOp UnOp.not 4 (Operand.tmp 18))⟩, ⟨(some 20), none, (Op.pick (Operand.tmp 16) (Operand.const (Value.bool true)) (Operand.tmp 19))⟩, ⟨(some 21), none, (Op.move (Operand.tmp 20))⟩, ⟨(some 22), (some (21, false)), (Op.load 24 (Operand.tmp 3))⟩, ⟨(some 23), (some (21, false)), (Op.call { callee := (Callee.value (Operand.func 9)), args := #[(Operand.tmp 22)], argTypes := #[24] })⟩, ⟨(some 24), (some (21, false)), (Op.unOp UnOp.not 4 (Operand.tmp 23))⟩, ⟨(some 25), none, (Op.pick (Operand.tmp 21) (Operand.const (Value.bool true)) (Operand.tmp 24))⟩]) (.cond (Operand.tmp 25) (.seq (.run [⟨(some 26), none, (Op.move (Operand.tmp 5))⟩, ⟨(some 4), none, (Op.assign (Operand.tmp 26))⟩]) .ret) .skip)) (.seq (.run [⟨(some 27), none, (Op.move (Operand.tmp 0))⟩, ⟨(some 28), none, (Op.load 24 (Operand.tmp 3))⟩, ⟨(some 29), none, (Op.call { callee := (Callee.value (Operand.func 14)), args := #[(Operand.tmp 27), (Operand.tmp 28), (Operand.const (Value.int IntKind.i64 1000))], argTypes := #[22, 24, 3] })⟩, ⟨(some 6), none, (Op.assign (Operand.tmp 29))⟩]) (.seq (.run [⟨(some 7), none, (Op.assign (Operand.const (Value.slice none 0 0)))⟩]) (.seq (.seq (.run [⟨(some 30), none, (Op.move (Operand.tmp 0))⟩, ⟨(some 31), none, (Op.call { callee := (Callee.builtin Builtin.len), args := #[(Operand.tmp 30)], argTypes := #[22] })⟩, ⟨(some 32), none, (Op.binOp BinOp.sub 3 (Operand.tmp 31) (Operand.const (Value.int IntKind.i64 1)) 3)⟩, ⟨(some 8), none, (Op.assign (Operand.tmp 32))⟩]) (.block 0 (.loop ([(0, none), (3, none), (6, some 27), (7, some 45), (8, none)], []) c5_0))) (.seq (.run [⟨(some 44), none, (Op.move (Operand.tmp 7))⟩, ⟨(some 45), none, (Op.load 24 (Operand.tmp 3))⟩, ⟨(some 46), none, (Op.call { callee := (Callee.value (Operand.func 14)), args := #[(Operand.tmp 44), (Operand.tmp 45), (Operand.const (Value.int IntKind.i64 1000))], argTypes := #[22, 24, 3] })⟩, ⟨(some 9), none, (Op.assign (Operand.tmp 46))⟩]) (.seq (.run [⟨(some 10), none, (Op.alloc 45)⟩]) (.seq (.seq (.run [⟨(some 11), none, (Op.assign (Operand.const (Value.int IntKind.i64 0)))⟩]) (.block 2 (.loop ([(0, none), (3, none), (6, some 27), (9, some 27), (10, none), (11, none)], []) c5_2))) (.seq (.run [⟨(some 60), none, (Op.load 45 (Operand.tmp 10))⟩, ⟨(some 61), none, (Op.buildSlice 22 1 #[(0, (Operand.tmp 60))])⟩, ⟨(some 62), none, (Op.load 24 (Operand.tmp 3))⟩, ⟨(some 63), none, (Op.call { callee := (Callee.value (Operand.func 14)), args := #[(Operand.tmp 61), (Operand.tmp 62), (Operand.const (Value.int IntKind.i64 1000))], argTypes := #[22, 24, 3] })⟩, ⟨(some 12), none, (Op.assign (Operand.tmp 63))⟩]) (.seq (.run [⟨(some 64), none, (Op.move (Operand.tmp 6))⟩, ⟨(some 65), none, (Op.move (Operand.tmp 9))⟩, ⟨(some 66), none, (Op.call { callee := (Callee.value (Operand.func 13)), args := #[(Operand.tmp 64), (Operand.tmp 65)], argTypes := #[37, 37] })⟩, ⟨(some 67), none, (Op.move (Operand.tmp 66))⟩, ⟨(some 68), (some (67, true)), (Op.move (Operand.tmp 6))⟩, ⟨(some 69), (some (67, true)), (Op.move (Operand.tmp 12))⟩, ⟨(some 70), (some (67, true)), (Op.call { callee := (Callee.value (Operand.func 13)), args := #[(Operand.tmp 68), (Operand.tmp 69)], argTypes := #[37, 37] })⟩, ⟨(some 71), none, (Op.pick (Operand.tmp 67) (Operand.tmp 70) (Operand.const (Value.bool false)))⟩, ⟨(some 72), none, (Op.move (Operand.tmp 71))⟩, ⟨(some 73), (some (72, true)), (Op.move (Operand.tmp 6))⟩, ⟨(some 74), (some (72, true)), (Op.call { callee := (Callee.builtin Builtin.len), args := #[(Operand.tmp 73)], argTypes := #[37] })⟩, ⟨(some 75), (some (72, true)), (Op.move (Operand.tmp 0))⟩, ⟨(some 76), (some (72, true)), (Op.load 24 (Operand.tmp 3))⟩, ⟨(some 77), (some (72, true)), (Op.call { callee := (Callee.value (Operand.func 16)), args := #[(Operand.tmp 75), (Operand.tmp 76)], argTypes := #[22, 24] })⟩, ⟨(some 78), (some (72, true)), (Op.binOp BinOp.eql 3 (Operand.tmp 74) (Operand.tmp 77) 3)⟩, ⟨(some 79), none, (Op.pick (Operand.tmp 72) (Operand.tmp 78) (Operand.const (Value.bool false)))⟩, ⟨(some 4), none, (Op.assign (Operand.tmp 79))⟩]) .ret)))))))))))
def k5 : Nat → List (Nat × Option Nat) × List Nat := fun | 0 => ([(0, none), (3, none), (6, some 27), (7, some 45), (8, none)], []) | 2 => ([(0, none), (3, none), (6, some 27), (9, some 27), (10, none), (11, none)], []) | _ => ([], [])
/- gleaninglaw32.SearchFirst -/
def c6_0 : CC := (.seq (.seq (.run [⟨(some 41), none, (Op.move (Operand.tmp 10))⟩, ⟨(some 42), none, (Op.move (Operand.tmp 9))⟩, ⟨(some 43), none, (Op.call { callee := (Callee.builtin Builtin.len), args := #[(Operand.tmp 42)], argTypes := #[37] })⟩, ⟨(some 44), none, (Op.binOp BinOp.lss 3 (Operand.tmp 41) (Operand.tmp 43) 3)⟩]) (.cond (Operand.tmp 44) .skip (.exit 0))) (.seq (.block 1 (.seq (.draw [⟨(some 47), none, (Op.move (Operand.tmp 9))⟩, ⟨(some 48), none, (Op.move (Operand.tmp 10))⟩, ⟨(some 49), none, (Op.binOp BinOp.sub 3 (Operand.tmp 48) (Operand.const (Value.int IntKind.i64 1)) 3)⟩, ⟨(some 50), none, (Op.indexAddr 37 (Operand.tmp 47) (Operand.tmp 49))⟩, ⟨(some 51), none, (Op.load 27 (Operand.tmp 50))⟩, ⟨(some 52), none, (Op.move (Operand.tmp 9))⟩, ⟨(some 53), none, (Op.move (Operand.tmp 10))⟩, ⟨(some 54), none, (Op.indexAddr 37 (Operand.tmp 52) (Operand.tmp 53))⟩, ⟨(some 55), none, (Op.load 27 (Operand.tmp 54))⟩, ⟨(some 56), none, (Op.call { callee := (Callee.value (Operand.func 21)), args := #[(Operand.tmp 51), (Operand.tmp 55)], argTypes := #[27, 27] })⟩, ⟨(some 57), none, (Op.unOp UnOp.not 4 (Operand.tmp 56))⟩] [0, 0, 2, 7, 15, 0, 0, 96, 224, 511, 1023]) (.cond (Operand.tmp 57) (.seq (.run [⟨(some 6), none, (Op.assign (Operand.const (Value.bool false)))⟩]) .ret) .skip))) (.run [⟨(some 45), none, (Op.move (Operand.tmp 10))⟩, ⟨(some 46), none, (Op.binOp BinOp.add 3 (Operand.tmp 45) (Operand.const (Value.int IntKind.i64 1)) 3)⟩, ⟨(some 10), none, (Op.assign (Operand.tmp 46))⟩])))
def c6 : CC := (.seq (.run [⟨(some 4), none, (Op.box 24 (Operand.tmp 1))⟩, ⟨(some 6), none, (Op.assign (Operand.const (Value.bool false)))⟩]) (.seq (.run [⟨(some 12), none, (Op.call { callee := (Callee.value (Operand.func 7)), args := #[], argTypes := #[] })⟩, ⟨(some 7), none, (Op.assign (Operand.tmp 12))⟩]) (.seq (.seq (.run [⟨(some 13), none, (Op.move (Operand.tmp 7))⟩, ⟨(some 14), none, (Op.unOp UnOp.not 4 (Operand.tmp 13))⟩, ⟨(some 15), none, (Op.move (Operand.tmp 14))⟩, ⟨(some 16), (some (15, false)), (Op.move (Operand.tmp 0))⟩, ⟨(some 17), (some (15, false)), (Op.call { callee := (Callee.value (Operand.func 8)), args := #[(Operand.tmp 16)], argTypes := #[22] })⟩, ⟨(some 18), (some (15, false)), (Op.unOp UnOp.not 4 (Operand.tmp 17))⟩, ⟨(some 19), none, (Op.pick (Operand.tmp 15) (Operand.const (Value.bool true)) (Operand.tmp 18))⟩, ⟨(some 20), none, (Op.move (Operand.tmp 19))⟩, ⟨(some 21), (some (20, false)), (Op.load 24 (Operand.tmp 4))⟩, ⟨(some 22), (some (20, false)), (Op.call { callee := (Callee.value (Operand.func 9)), args := #[(Operand.tmp 21)], argTypes := #[24] })⟩, ⟨(some 23), (some (20, false)), (Op.unOp UnOp.not 4 (Operand.tmp 22))⟩, ⟨(some 24), none, (Op.pick (Operand.tmp 20) (Operand.const (Value.bool true)) (Operand.tmp 23))⟩, ⟨(some 25), none, (Op.move (Operand.tmp 24))⟩, ⟨(some 26), (some (25, false)), (Op.move (Operand.tmp 2))⟩, ⟨(some 27), (some (25, false)), (Op.binOp BinOp.lss 3 (Operand.tmp 26) (Operand.const (Value.int IntKind.i64 0)) 3)⟩, ⟨(some 28), none, (Op.pick (Operand.tmp 25) (Operand.const (Value.bool true)) (Operand.tmp 27))⟩, ⟨(some 29), none, (Op.move (Operand.tmp 28))⟩, ⟨(some 30), (some (29, false)), (Op.move (Operand.tmp 2))⟩, ⟨(some 31), (some (29, false)), (Op.binOp BinOp.gtr 3 (Operand.tmp 30) (Operand.const (Value.int IntKind.i64 1000)) 3)⟩, ⟨(some 32), none, (Op.pick (Operand.tmp 29) (Operand.const (Value.bool true)) (Operand.tmp 31))⟩]) (.cond (Operand.tmp 32) (.seq (.run [⟨(some 33), none, (Op.move (Operand.tmp 7))⟩, ⟨(some 6), none, (Op.assign (Operand.tmp 33))⟩]) .ret) .skip)) (.seq (.run [⟨(some 34), none, (Op.move (Operand.tmp 0))⟩, ⟨(some 35), none, (Op.load 24 (Operand.tmp 4))⟩, ⟨(some 36), none, (Op.move (Operand.tmp 2))⟩, ⟨(some 37), none, (Op.call { callee := (Callee.value (Operand.func 14)), args := #[(Operand.tmp 34), (Operand.tmp 35), (Operand.tmp 36)], argTypes := #[22, 24, 3] })⟩, ⟨(some 8), none, (Op.assign (Operand.tmp 37))⟩]) (.seq (.run [⟨(some 38), none, (Op.move (Operand.tmp 0))⟩, ⟨(some 39), none, (Op.load 24 (Operand.tmp 4))⟩, ⟨(some 40), none, (Op.call { callee := (Callee.value (Operand.func 14)), args := #[(Operand.tmp 38), (Operand.tmp 39), (Operand.const (Value.int IntKind.i64 1000))], argTypes := #[22, 24, 3] })⟩, ⟨(some 9), none, (Op.assign (Operand.tmp 40))⟩]) (.seq (.seq (.run [⟨(some 10), none, (Op.assign (Operand.const (Value.int IntKind.i64 1)))⟩]) (.block 0 (.loop ([(2, none), (8, some 27), (9, some 27), (10, none)], []) c6_0))) (.seq (.run [⟨(some 58), none, (Op.move (Operand.tmp 2))⟩, ⟨(some 11), none, (Op.assign (Operand.tmp 58))⟩]) (.seq (.seq (.run [⟨(some 59), none, (Op.move (Operand.tmp 9))⟩, ⟨(some 60), none, (Op.call { callee := (Callee.builtin Builtin.len), args := #[(Operand.tmp 59)], argTypes := #[37] })⟩, ⟨(some 61), none, (Op.move (Operand.tmp 2))⟩, ⟨(some 62), none, (Op.binOp BinOp.lss 3 (Operand.tmp 60) (Operand.tmp 61) 3)⟩]) (.cond (Operand.tmp 62) (.run [⟨(some 63), none, (Op.move (Operand.tmp 9))⟩, ⟨(some 64), none, (Op.call { callee := (Callee.builtin Builtin.len), args := #[(Operand.tmp 63)], argTypes := #[37] })⟩, ⟨(some 11), none, (Op.assign (Operand.tmp 64))⟩]) .skip)) (.seq (.run [⟨(some 65), none, (Op.move (Operand.tmp 8))⟩, ⟨(some 66), none, (Op.call { callee := (Callee.builtin Builtin.len), args := #[(Operand.tmp 65)], argTypes := #[37] })⟩, ⟨(some 67), none, (Op.move (Operand.tmp 11))⟩, ⟨(some 68), none, (Op.binOp BinOp.eql 3 (Operand.tmp 66) (Operand.tmp 67) 3)⟩, ⟨(some 69), none, (Op.move (Operand.tmp 68))⟩, ⟨(some 70), (some (69, true)), (Op.move (Operand.tmp 8))⟩, ⟨(some 71), (some (69, true)), (Op.move (Operand.tmp 9))⟩, ⟨(some 72), (some (69, true)), (Op.move (Operand.tmp 11))⟩, ⟨(some 73), (some (69, true)), (Op.slice 37 (Operand.tmp 71) none (some (Operand.tmp 72)) none)⟩, ⟨(some 74), (some (69, true)), (Op.call { callee := (Callee.value (Operand.func 13)), args := #[(Operand.tmp 70), (Operand.tmp 73)], argTypes := #[37, 37] })⟩, ⟨(some 75), none, (Op.pick (Operand.tmp 69) (Operand.tmp 74) (Operand.const (Value.bool false)))⟩, ⟨(some 6), none, (Op.assign (Operand.tmp 75))⟩]) .ret)))))))))
def k6 : Nat → List (Nat × Option Nat) × List Nat := fun | 0 => ([(2, none), (8, some 27), (9, some 27), (10, none)], []) | _ => ([], [])
/- gleaninglaw32.alive -/

def c7 : CC := (.seq (.run [⟨(some 0), none, (Op.assign (Operand.const (Value.bool false)))⟩]) (.seq (.run [⟨(some 2), none, (Op.build 27 #[(1, (Operand.const (Value.int IntKind.u64 4)))])⟩, ⟨(some 3), none, (Op.build 30 #[(6, (Operand.const (Value.int IntKind.i64 9)))])⟩, ⟨(some 4), none, (Op.buildSlice 49 1 #[(0, (Operand.tmp 3))])⟩, ⟨(some 5), none, (Op.build 51 #[(0, (Operand.tmp 2)), (4, (Operand.tmp 4))])⟩, ⟨(some 6), none, (Op.buildSlice 43 1 #[(0, (Operand.tmp 5))])⟩, ⟨(some 7), none, (Op.build 45 #[(3, (Operand.tmp 6))])⟩, ⟨(some 8), none, (Op.buildSlice 22 1 #[(0, (Operand.tmp 7))])⟩, ⟨(some 1), none, (Op.assign (Operand.tmp 8))⟩]) (.seq (.run [⟨(some 9), none, (Op.build 24 #[])⟩, ⟨(some 10), none, (Op.call { callee := (Callee.value (Operand.func 14)), args := #[(Operand.const (Value.slice none 0 0)), (Operand.tmp 9), (Operand.const (Value.int IntKind.i64 9))], argTypes := #[22, 24, 3] })⟩, ⟨(some 11), none, (Op.call { callee := (Callee.builtin Builtin.len), args := #[(Operand.tmp 10)], argTypes := #[37] })⟩, ⟨(some 12), none, (Op.binOp BinOp.eql 3 (Operand.tmp 11) (Operand.const (Value.int IntKind.i64 0)) 3)⟩, ⟨(some 13), none, (Op.move (Operand.tmp 12))⟩, ⟨(some 14), (some (13, true)), (Op.move (Operand.tmp 1))⟩, ⟨(some 15), (some (13, true)), (Op.build 24 #[(4, (Operand.const (Value.int IntKind.i64 9)))])⟩, ⟨(some 16), (some (13, true)), (Op.call { callee := (Callee.value (Operand.func 14)), args := #[(Operand.tmp 14), (Operand.tmp 15), (Operand.const (Value.int IntKind.i64 1))], argTypes := #[22, 24, 3] })⟩, ⟨(some 17), (some (13, true)), (Op.call { callee := (Callee.builtin Builtin.len), args := #[(Operand.tmp 16)], argTypes := #[37] })⟩, ⟨(some 18), (some (13, true)), (Op.binOp BinOp.eql 3 (Operand.tmp 17) (Operand.const (Value.int IntKind.i64 1)) 3)⟩, ⟨(some 19), none, (Op.pick (Operand.tmp 13) (Operand.tmp 18) (Operand.const (Value.bool false)))⟩, ⟨(some 20), none, (Op.move (Operand.tmp 19))⟩, ⟨(some 21), (some (20, true)), (Op.move (Operand.tmp 1))⟩, ⟨(some 22), (some (20, true)), (Op.build 24 #[(4, (Operand.const (Value.int IntKind.i64 10)))])⟩, ⟨(some 23), (some (20, true)), (Op.call { callee := (Callee.value (Operand.func 16)), args := #[(Operand.tmp 21), (Operand.tmp 22)], argTypes := #[22, 24] })⟩, ⟨(some 24), (some (20, true)), (Op.binOp BinOp.eql 3 (Operand.tmp 23) (Operand.const (Value.int IntKind.i64 0)) 3)⟩, ⟨(some 25), none, (Op.pick (Operand.tmp 20) (Operand.tmp 24) (Operand.const (Value.bool false)))⟩, ⟨(some 26), none, (Op.move (Operand.tmp 25))⟩, ⟨(some 27), (some (26, true)), (Op.build 24 #[])⟩, ⟨(some 28), (some (26, true)), (Op.build 30 #[])⟩, ⟨(some 29), (some (26, true)), (Op.call { callee := (Callee.value (Operand.func 11)), args := #[(Operand.tmp 27), (Operand.tmp 28)], argTypes := #[24, 30] })⟩, ⟨(some 30), none, (Op.pick (Operand.tmp 26) (Operand.tmp 29) (Operand.const (Value.bool false)))⟩, ⟨(some 0), none, (Op.assign (Operand.tmp 30))⟩]) .ret)))
def k7 : Nat → List (Nat × Option Nat) × List Nat := fun _ => ([], [])
/- gleaninglaw19.Few -/
def c8_0 : CC := (.seq (.seq (.run [⟨(some 5), none, (Op.move (Operand.tmp 4))⟩, ⟨(some 6), none, (Op.move (Operand.tmp 0))⟩, ⟨(some 7), none, (Op.call { callee := (Callee.builtin Builtin.len), args := #[(Operand.tmp 6)], argTypes := #[22] })⟩, ⟨(some 8), none, (Op.binOp BinOp.lss 3 (Operand.tmp 5) (Operand.tmp 7) 3)⟩, ⟨(some 9), none, (Op.move (Operand.tmp 8))⟩, ⟨(some 10), (some (9, true)), (Op.move (Operand.tmp 4))⟩, ⟨(some 11), (some (9, true)), (Op.binOp BinOp.lss 3 (Operand.tmp 10) (Operand.const (Value.int IntKind.i64 20)) 3)⟩, ⟨(some 12), none, (Op.pick (Operand.tmp 9) (Operand.tmp 11) (Operand.const (Value.bool false)))⟩]) (.cond (Operand.tmp 12) .skip (.exit 0))) (.seq (.block 1 (.run [⟨(some 15), none, (Op.move (Operand.tmp 3))⟩, ⟨(some 16), none, (Op.move (Operand.tmp 0))⟩, ⟨(some 17), none, (Op.move (Operand.tmp 4))⟩, ⟨(some 18), none, (Op.indexAddr 22 (Operand.tmp 16) (Operand.tmp 17))⟩, ⟨(some 19), none, (Op.fieldAddr 45 (Operand.tmp 18) 3)⟩, ⟨(some 20), none, (Op.load 43 (Operand.tmp 19))⟩, ⟨(some 21), none, (Op.call { callee := (Callee.builtin Builtin.append), args := #[(Operand.tmp 15), (Operand.tmp 20)], argTypes := #[43, 43] })⟩, ⟨(some 3), none, (Op.assign (Operand.tmp 21))⟩])) (.run [⟨(some 13), none, (Op.move (Operand.tmp 4))⟩, ⟨(some 14), none, (Op.binOp BinOp.add 3 (Operand.tmp 13) (Operand.const (Value.int IntKind.i64 1)) 3)⟩, ⟨(some 4), none, (Op.assign (Operand.tmp 14))⟩])))
def c8 : CC := (.seq (.run [⟨(some 2), none, (Op.assign (Operand.const (Value.bool false)))⟩]) (.seq (.run [⟨(some 3), none, (Op.assign (Operand.const (Value.slice none 0 0)))⟩]) (.seq (.seq (.run [⟨(some 4), none, (Op.assign (Operand.const (Value.int IntKind.i64 0)))⟩]) (.block 0 (.loop ([(0, none), (3, some 51), (4, none)], []) c8_0))) (.seq (.run [⟨(some 22), none, (Op.move (Operand.tmp 0))⟩, ⟨(some 23), none, (Op.call { callee := (Callee.builtin Builtin.len), args := #[(Operand.tmp 22)], argTypes := #[22] })⟩, ⟨(some 24), none, (Op.binOp BinOp.leq 3 (Operand.tmp 23) (Operand.const (Value.int IntKind.i64 12)) 3)⟩, ⟨(some 25), none, (Op.move (Operand.tmp 24))⟩, ⟨(some 26), (some (25, true)), (Op.move (Operand.tmp 3))⟩, ⟨(some 27), (some (25, true)), (Op.call { callee := (Callee.value (Operand.func 22)), args := #[(Operand.tmp 26)], argTypes := #[43] })⟩, ⟨(some 28), none, (Op.pick (Operand.tmp 25) (Operand.tmp 27) (Operand.const (Value.bool false)))⟩, ⟨(some 2), none, (Op.assign (Operand.tmp 28))⟩]) .ret))))
def k8 : Nat → List (Nat × Option Nat) × List Nat := fun | 0 => ([(0, none), (3, some 51), (4, none)], []) | _ => ([], [])
/- gleaninglaw32.Few -/

def c9 : CC := (.seq (.run [⟨(some 1), none, (Op.box 24 (Operand.tmp 0))⟩, ⟨(some 2), none, (Op.assign (Operand.const (Value.bool false)))⟩]) (.seq (.run [⟨(some 3), none, (Op.fieldAddr 24 (Operand.tmp 1) 0)⟩, ⟨(some 4), none, (Op.load 9 (Operand.tmp 3))⟩, ⟨(some 5), none, (Op.call { callee := (Callee.builtin Builtin.len), args := #[(Operand.tmp 4)], argTypes := #[9] })⟩, ⟨(some 6), none, (Op.binOp BinOp.leq 3 (Operand.tmp 5) (Operand.const (Value.int IntKind.i64 60)) 3)⟩, ⟨(some 7), none, (Op.move (Operand.tmp 6))⟩, ⟨(some 8), (some (7, true)), (Op.fieldAddr 24 (Operand.tmp 1) 1)⟩, ⟨(some 9), (some (7, true)), (Op.load 9 (Operand.tmp 8))⟩, ⟨(some 10), (some (7, true)), (Op.call { callee := (Callee.builtin Builtin.len), args := #[(Operand.tmp 9)], argTypes := #[9] })⟩, ⟨(some 11), (some (7, true)), (Op.binOp BinOp.leq 3 (Operand.tmp 10) (Operand.const (Value.int IntKind.i64 60)) 3)⟩, ⟨(some 12), none, (Op.pick (Operand.tmp 7) (Operand.tmp 11) (Operand.const (Value.bool false)))⟩, ⟨(some 13), none, (Op.move (Operand.tmp 12))⟩, ⟨(some 14), (some (13, true)), (Op.fieldAddr 24 (Operand.tmp 1) 2)⟩, ⟨(some 15), (some (13, true)), (Op.load 9 (Operand.tmp 14))⟩, ⟨(some 16), (some (13, true)), (Op.call { callee := (Callee.builtin Builtin.len), args := #[(Operand.tmp 15)], argTypes := #[9] })⟩, ⟨(some 17), (some (13, true)), (Op.binOp BinOp.leq 3 (Operand.tmp 16) (Operand.const (Value.int IntKind.i64 60)) 3)⟩, ⟨(some 18), none, (Op.pick (Operand.tmp 13) (Operand.tmp 17) (Operand.const (Value.bool false)))⟩, ⟨(some 19), none, (Op.move (Operand.tmp 18))⟩, ⟨(some 20), (some (19, true)), (Op.fieldAddr 24 (Operand.tmp 1) 3)⟩, ⟨(some 21), (some (19, true)), (Op.load 9 (Operand.tmp 20))⟩, ⟨(some 22), (some (19, true)), (Op.call { callee := (Callee.builtin Builtin.len), args := #[(Operand.tmp 21)], argTypes := #[9] })⟩, ⟨(some 23), (some (19, true)), (Op.binOp BinOp.leq 3 (Operand.tmp 22) (Operand.const (Value.int IntKind.i64 60)) 3)⟩, ⟨(some 24), none, (Op.pick (Operand.tmp 19) (Operand.tmp 23) (Operand.const (Value.bool false)))⟩, ⟨(some 2), none, (Op.assign (Operand.tmp 24))⟩]) .ret))
def k9 : Nat → List (Nat × Option Nat) × List Nat := fun _ => ([], [])
/- gleaninglaw3.Few -/
def c10_0 : CC := (.seq (.seq (.run [⟨(some 20), none, (Op.move (Operand.tmp 3))⟩, ⟨(some 21), none, (Op.fieldAddr 30 (Operand.tmp 1) 8)⟩, ⟨(some 22), none, (Op.load 28 (Operand.tmp 21))⟩, ⟨(some 23), none, (Op.call { callee := (Callee.builtin Builtin.len), args := #[(Operand.tmp 22)], argTypes := #[28] })⟩, ⟨(some 24), none, (Op.binOp BinOp.lss 3 (Operand.tmp 20) (Operand.tmp 23) 3)⟩]) (.cond (Operand.tmp 24) .skip (.exit 0))) (.seq (.block 1 (.seq (.run [⟨(some 27), none, (Op.fieldAddr 30 (Operand.tmp 1) 8)⟩, ⟨(some 28), none, (Op.load 28 (Operand.tmp 27))⟩, ⟨(some 29), none, (Op.move (Operand.tmp 3))⟩, ⟨(some 30), none, (Op.indexAddr 28 (Operand.tmp 28) (Operand.tmp 29))⟩, ⟨(some 31), none, (Op.fieldAddr 54 (Operand.tmp 30) 0)⟩, ⟨(some 32), none, (Op.load 9 (Operand.tmp 31))⟩, ⟨(some 33), none, (Op.call { callee := (Callee.builtin Builtin.len), args := #[(Operand.tmp 32)], argTypes := #[9] })⟩, ⟨(some 34), none, (Op.binOp BinOp.gtr 3 (Operand.tmp 33) (Operand.const (Value.int IntKind.i64 100)) 3)⟩, ⟨(some 35), none, (Op.move (Operand.tmp 34))⟩, ⟨(some 36), (some (35, false)), (Op.fieldAddr 30 (Operand.tmp 1) 8)⟩, ⟨(some 37), (some (35, false)), (Op.load 28 (Operand.tmp 36))⟩, ⟨(some 38), (some (35, false)), (Op.move (Operand.tmp 3))⟩, ⟨(some 39), (some (35, false)), (Op.indexAddr 28 (Operand.tmp 37) (Operand.tmp 38))⟩, ⟨(some 40), (some (35, false)), (Op.fieldAddr 54 (Operand.tmp 39) 1)⟩, ⟨(some 41), (some (35, false)), (Op.load 9 (Operand.tmp 40))⟩, ⟨(some 42), (some (35, false)), (Op.call { callee := (Callee.builtin Builtin.len), args := #[(Operand.tmp 41)], argTypes := #[9] })⟩, ⟨(some 43), (some (35, false)), (Op.binOp BinOp.gtr 3 (Operand.tmp 42) (Operand.const (Value.int IntKind.i64 100)) 3)⟩, ⟨(some 44), none, (Op.pick (Operand.tmp 35) (Operand.const (Value.bool true)) (Operand.tmp 43))⟩]) (.cond (Operand.tmp 44) (.seq (.run [⟨(some 2), none, (Op.assign (Operand.const (Value.bool false)))⟩]) .ret) .skip))) (.run [⟨(some 25), none, (Op.move (Operand.tmp 3))⟩, ⟨(some 26), none, (Op.binOp BinOp.add 3 (Operand.tmp 25) (Operand.const (Value.int IntKind.i64 1)) 3)⟩, ⟨(some 3), none, (Op.assign (Operand.tmp 26))⟩])))
def c10 : CC := (.seq (.run [⟨(some 1), none, (Op.box 30 (Operand.tmp 0))⟩, ⟨(some 2), none, (Op.assign (Operand.const (Value.bool false)))⟩]) (.seq (.seq (.run [⟨(some 4), none, (Op.fieldAddr 30 (Operand.tmp 1) 3)⟩, ⟨(some 5), none, (Op.load 9 (Operand.tmp 4))⟩, ⟨(some 6), none, (Op.call { callee := (Callee.builtin Builtin.len), args := #[(Operand.tmp 5)], argTypes := #[9] })⟩, ⟨(some 7), none, (Op.binOp BinOp.gtr 3 (Operand.tmp 6) (Operand.const (Value.int IntKind.i64 100)) 3)⟩, ⟨(some 8), none, (Op.move (Operand.tmp 7))⟩, ⟨(some 9), (some (8, false)), (Op.fieldAddr 30 (Operand.tmp 1) 4)⟩, ⟨(some 10), (some (8, false)), (Op.load 9 (Operand.tmp 9))⟩, ⟨(some 11), (some (8, false)), (Op.call { callee := (Callee.builtin Builtin.len), args := #[(Operand.tmp 10)], argTypes := #[9] })⟩, ⟨(some 12), (some (8, false)), (Op.binOp BinOp.gtr 3 (Operand.tmp 11) (Operand.const (Value.int IntKind.i64 100)) 3)⟩, ⟨(some 13), none, (Op.pick (Operand.tmp 8) (Operand.const (Value.bool true)) (Operand.tmp 12))⟩, ⟨(some 14), none, (Op.move (Operand.tmp 13))⟩, ⟨(some 15), (some (14, false)), (Op.fieldAddr 30 (Operand.tmp 1) 8)⟩, ⟨(some 16), (some (14, false)), (Op.load 28 (Operand.tmp 15))⟩, ⟨(some 17), (some (14, false)), (Op.call { callee := (Callee.builtin Builtin.len), args := #[(Operand.tmp 16)], argTypes := #[28] })⟩, ⟨(some 18), (some (14, false)), (Op.binOp BinOp.gtr 3 (Operand.tmp 17) (Operand.const (Value.int IntKind.i64 20)) 3)⟩, ⟨(some 19), none, (Op.pick (Operand.tmp 14) (Operand.const (Value.bool true)) (Operand.tmp 18))⟩]) (.cond (Operand.tmp 19) (.seq (.run [⟨(some 2), none, (Op.assign (Operand.const (Value.bool false)))⟩]) .ret) .skip)) (.seq (.seq (.run [⟨(some 3), none, (Op.assign (Operand.const (Value.int IntKind.i64 0)))⟩]) (.block 0 (.loop ([(1, none), (3, none)], []) c10_0))) (.seq (.run [⟨(some 2), none, (Op.assign (Operand.const (Value.bool true)))⟩]) .ret))))
def k10 : Nat → List (Nat × Option Nat) × List Nat := fun | 0 => ([(1, none), (3, none)], []) | _ => ([], [])
/- search.Match -/
def c11_g1 : List COp := [⟨(some 6), none, (Op.fieldAddr 24 (Operand.tmp 2) 0)⟩, ⟨(some 7), none, (Op.load 9 (Operand.tmp 6))⟩, ⟨(some 8), none, (Op.binOp BinOp.neq 9 (Operand.tmp 7) (Operand.const (Value.string { data := #[] })) 9)⟩, ⟨(some 9), none, (Op.move (Operand.tmp 8))⟩, ⟨(some 10), (some (9, true)), (Op.fieldAddr 24 (Operand.tmp 2) 0)⟩, ⟨(some 11), (some (9, true)), (Op.load 9 (Operand.tmp 10))⟩, ⟨(some 12), (some (9, true)), (Op.fieldAddr 30 (Operand.tmp 3) 3)⟩, ⟨(some 13), (some (9, true)), (Op.load 9 (Operand.tmp 12))⟩, ⟨(some 14), (some (9, true)), (Op.binOp BinOp.neq 9 (Operand.tmp 11) (Operand.tmp 13) 9)⟩, ⟨(some 15), none, (Op.pick (Operand.tmp 9) (Operand.tmp 14) (Operand.const (Value.bool false)))⟩, ⟨(some 16), none, (Op.move (Operand.tmp 15))⟩, ⟨(some 17), (some (16, false)), (Op.fieldAddr 24 (Operand.tmp 2) 1)⟩, ⟨(some 18), (some (16, false)), (Op.load 9 (Operand.tmp 17))⟩, ⟨(some 19), (some (16, false)), (Op.binOp BinOp.neq 9 (Operand.tmp 18) (Operand.const (Value.string { data := #[] })) 9)⟩, ⟨(some 20), (some (16, false)), (Op.move (Operand.tmp 19))⟩, ⟨(some 21), (some (20, true)), (Op.fieldAddr 24 (Operand.tmp 2) 1)⟩, ⟨(some 22), (some (20, true)), (Op.load 9 (Operand.tmp 21))⟩, ⟨(some 23), (some (20, true)), (Op.fieldAddr 30 (Operand.tmp 3) 4)⟩, ⟨(some 24), (some (20, true)), (Op.load 9 (Operand.tmp 23))⟩, ⟨(some 25), (some (20, true)), (Op.binOp BinOp.neq 9 (Operand.tmp 22) (Operand.tmp 24) 9)⟩, ⟨(some 26), (some (16, false)), (Op.pick (Operand.tmp 20) (Operand.tmp 25) (Operand.const (Value.bool false)))⟩, ⟨(some 27), none, (Op.pick (Operand.tmp 16) (Operand.const (Value.bool true)) (Operand.tmp 26))⟩, ⟨(some 5), none, (Op.assign (Operand.tmp 27))⟩]
def c11_g3 : List COp := [⟨(some 29), none, (Op.fieldAddr 24 (Operand.tmp 2) 4)⟩, ⟨(some 30), none, (Op.load 3 (Operand.tmp 29))⟩, ⟨(some 31), none, (Op.binOp BinOp.neq 3 (Operand.tmp 30) (Operand.const (Value.int IntKind.i64 0)) 3)⟩, ⟨(some 32), none, (Op.move (Operand.tmp 31))⟩, ⟨(some 33), (some (32, true)), (Op.fieldAddr 30 (Operand.tmp 3) 6)⟩, ⟨(some 34), (some (32, true)), (Op.load 3 (Operand.tmp 33))⟩, ⟨(some 35), (some (32, true)), (Op.fieldAddr 24 (Operand.tmp 2) 4)⟩, ⟨(some 36), (some (32, true)), (Op.load 3 (Operand.tmp 35))⟩, ⟨(some 37), (some (32, true)), (Op.binOp BinOp.lss 3 (Operand.tmp 34) (Operand.tmp 36) 3)⟩, ⟨(some 38), none, (Op.pick (Operand.tmp 32) (Operand.tmp 37) (Operand.const (Value.bool false)))⟩, ⟨(some 39), none, (Op.move (Operand.tmp 38))⟩, ⟨(some 40), (some (39, false)), (Op.fieldAddr 24 (Operand.tmp 2) 5)⟩, ⟨(some 41), (some (39, false)), (Op.load 4 (Operand.tmp 40))⟩, ⟨(some 42), (some (39, false)), (Op.move (Operand.tmp 41))⟩, ⟨(some 43), (some (42, true)), (Op.fieldAddr 30 (Operand.tmp 3) 7)⟩, ⟨(some 44), (some (42, true)), (Op.load 4 (Operand.tmp 43))⟩, ⟨(some 45), (some (42, true)), (Op.unOp UnOp.not 4 (Operand.tmp 44))⟩, ⟨(some 46), (some (39, false)), (Op.pick (Operand.tmp 42) (Operand.tmp 45) (Operand.const (Value.bool false)))⟩, ⟨(some 47), none, (Op.pick (Operand.tmp 39) (Operand.const (Value.bool true)) (Operand.tmp 46))⟩, ⟨(some 28), none, (Op.assign (Operand.tmp 47))⟩]
def c11_g5 : List COp := [⟨(some 48), none, (Op.fieldAddr 24 (Operand.tmp 2) 2)⟩, ⟨(some 49), none, (Op.load 9 (Operand.tmp 48))⟩, ⟨(some 50), none, (Op.binOp BinOp.eql 9 (Operand.tmp 49) (Operand.const (Value.string { data := #[] })) 9)⟩, ⟨(some 51), none, (Op.move (Operand.tmp 50))⟩, ⟨(some 52), (some (51, true)), (Op.fieldAddr 24 (Operand.tmp 2) 3)⟩, ⟨(some 53), (some (51, true)), (Op.load 9 (Operand.tmp 52))⟩, ⟨(some 54), (some (51, true)), (Op.binOp BinOp.eql 9 (Operand.tmp 53) (Operand.const (Value.string { data := #[] })) 9)⟩, ⟨(some 55), none, (Op.pick (Operand.tmp 51) (Operand.tmp 54) (Operand.const (Value.bool false)))⟩, ⟨(some 56), none, (Op.move (Operand.tmp 55))⟩, ⟨(some 57), (some (56, false)), (Op.fieldAddr 30 (Operand.tmp 3) 8)⟩, ⟨(some 58), (some (56, false)), (Op.load 28 (Operand.tmp 57))⟩, ⟨(some 59), (some (56, false)), (Op.fieldAddr 24 (Operand.tmp 2) 2)⟩, ⟨(some 60), (some (56, false)), (Op.load 9 (Operand.tmp 59))⟩, ⟨(some 61), (some (56, false)), (Op.fieldAddr 24 (Operand.tmp 2) 3)⟩, ⟨(some 62), (some (56, false)), (Op.load 9 (Operand.tmp 61))⟩, ⟨(some 63), (some (56, false)), (Op.build 54 #[(0, (Operand.tmp 60)), (1, (Operand.tmp 62))])⟩, ⟨(some 64), (some (56, false)), (Op.call { callee := (Callee.value (Operand.func 23)), args := #[(Operand.tmp 58), (Operand.tmp 63)], argTypes := #[28, 54] })⟩, ⟨(some 65), none, (Op.pick (Operand.tmp 56) (Operand.const (Value.bool true)) (Operand.tmp 64))⟩, ⟨(some 4), none, (Op.assign (Operand.tmp 65))⟩]
def c11 : CC := (.seq (.run [⟨(some 2), none, (Op.box 24 (Operand.tmp 0))⟩, ⟨(some 3), none, (Op.box 30 (Operand.tmp 1))⟩, ⟨(some 4), none, (Op.assign (Operand.const (Value.bool false)))⟩]) (.seq (.block 0 (.seq (.run c11_g1) (.cond (Operand.tmp 5) (.seq (.run [⟨(some 4), none, (Op.assign (Operand.const (Value.bool false)))⟩]) .ret) (.seq (.run c11_g3) (.cond (Operand.tmp 28) (.seq (.run [⟨(some 4), none, (Op.assign (Operand.const (Value.bool false)))⟩]) .ret) .skip))))) (.seq (.run c11_g5) .ret)))
def k11 : Nat → List (Nat × Option Nat) × List Nat := fun _ => ([], [])
/- gleaningref28.Match -/
def c12_g1 : List COp := [⟨(some 7), none, (Op.fieldAddr 24 (Operand.tmp 2) 0)⟩, ⟨(some 8), none, (Op.load 9 (Operand.tmp 7))⟩, ⟨(some 9), none, (Op.binOp BinOp.neq 9 (Operand.tmp 8) (Operand.const (Value.string { data := #[] })) 9)⟩, ⟨(some 10), none, (Op.move (Operand.tmp 9))⟩, ⟨(some 11), (some (10, true)), (Op.fieldAddr 24 (Operand.tmp 2) 0)⟩, ⟨(some 12), (some (10, true)), (Op.load 9 (Operand.tmp 11))⟩, ⟨(some 13), (some (10, true)), (Op.fieldAddr 30 (Operand.tmp 3) 3)⟩, ⟨(some 14), (some (10, true)), (Op.load 9 (Operand.tmp 13))⟩, ⟨(some 15), (some (10, true)), (Op.binOp BinOp.neq 9 (Operand.tmp 12) (Operand.tmp 14) 9)⟩, ⟨(some 16), none, (Op.pick (Operand.tmp 10) (Operand.tmp 15) (Operand.const (Value.bool false)))⟩, ⟨(some 17), none, (Op.move (Operand.tmp 16))⟩, ⟨(some 18), (some (17, false)), (Op.fieldAddr 24 (Operand.tmp 2) 1)⟩, ⟨(some 19), (some (17, false)), (Op.load 9 (Operand.tmp 18))⟩, ⟨(some 20), (some (17, false)), (Op.binOp BinOp.neq 9 (Operand.tmp 19) (Operand.const (Value.string { data := #[] })) 9)⟩, ⟨(some 21), (some (17, false)), (Op.move (Operand.tmp 20))⟩, ⟨(some 22), (some (21, true)), (Op.fieldAddr 24 (Operand.tmp 2) 1)⟩, ⟨(some 23), (some (21, true)), (Op.load 9 (Operand.tmp 22))⟩, ⟨(some 24), (some (21, true)), (Op.fieldAddr 30 (Operand.tmp 3) 4)⟩, ⟨(some 25), (some (21, true)), (Op.load 9 (Operand.tmp 24))⟩, ⟨(some 26), (some (21, true)), (Op.binOp BinOp.neq 9 (Operand.tmp 23) (Operand.tmp 25) 9)⟩, ⟨(some 27), (some (17, false)), (Op.pick (Operand.tmp 21) (Operand.tmp 26) (Operand.const (Value.bool false)))⟩, ⟨(some 28), none, (Op.pick (Operand.tmp 17) (Operand.const (Value.bool true)) (Operand.tmp 27))⟩, ⟨(some 29), none, (Op.move (Operand.tmp 28))⟩, ⟨(some 30), (some (29, false)), (Op.fieldAddr 24 (Operand.tmp 2) 4)⟩, ⟨(some 31), (some (29, false)), (Op.load 3 (Operand.tmp 30))⟩, ⟨(some 32), (some (29, false)), (Op.binOp BinOp.neq 3 (Operand.tmp 31) (Operand.const (Value.int IntKind.i64 0)) 3)⟩, ⟨(some 33), (some (29, false)), (Op.move (Operand.tmp 32))⟩, ⟨(some 34), (some (33, true)), (Op.fieldAddr 30 (Operand.tmp 3) 6)⟩, ⟨(some 35), (some (33, true)), (Op.load 3 (Operand.tmp 34))⟩, ⟨(some 36), (some (33, true)), (Op.fieldAddr 24 (Operand.tmp 2) 4)⟩, ⟨(some 37), (some (33, true)), (Op.load 3 (Operand.tmp 36))⟩, ⟨(some 38), (some (33, true)), (Op.binOp BinOp.lss 3 (Operand.tmp 35) (Operand.tmp 37) 3)⟩, ⟨(some 39), (some (29, false)), (Op.pick (Operand.tmp 33) (Operand.tmp 38) (Operand.const (Value.bool false)))⟩, ⟨(some 40), none, (Op.pick (Operand.tmp 29) (Operand.const (Value.bool true)) (Operand.tmp 39))⟩, ⟨(some 41), none, (Op.move (Operand.tmp 40))⟩, ⟨(some 42), (some (41, false)), (Op.fieldAddr 24 (Operand.tmp 2) 5)⟩, ⟨(some 43), (some (41, false)), (Op.load 4 (Operand.tmp 42))⟩, ⟨(some 44), (some (41, false)), (Op.move (Operand.tmp 43))⟩, ⟨(some 45), (some (44, true)), (Op.fieldAddr 30 (Operand.tmp 3) 7)⟩, ⟨(some 46), (some (44, true)), (Op.load 4 (Operand.tmp 45))⟩, ⟨(some 47), (some (44, true)), (Op.unOp UnOp.not 4 (Operand.tmp 46))⟩, ⟨(some 48), (some (41, false)), (Op.pick (Operand.tmp 44) (Operand.tmp 47) (Operand.const (Value.bool false)))⟩, ⟨(some 49), none, (Op.pick (Operand.tmp 41) (Operand.const (Value.bool true)) (Operand.tmp 48))⟩]
def c12_g7 : List COp := [⟨(some 65), none, (Op.move (Operand.tmp 5))⟩, ⟨(some 66), none, (Op.move (Operand.tmp 65))⟩, ⟨(some 67), (some (66, false)), (Op.fieldAddr 30 (Operand.tmp 3) 8)⟩, ⟨(some 68), (some (66, false)), (Op.load 28 (Operand.tmp 67))⟩, ⟨(some 69), (some (66, false)), (Op.move (Operand.tmp 6))⟩, ⟨(some 70), (some (66, false)), (Op.indexAddr 28 (Operand.tmp 68) (Operand.tmp 69))⟩, ⟨(some 71), (some (66, false)), (Op.fieldAddr 54 (Operand.tmp 70) 0)⟩, ⟨(some 72), (some (66, false)), (Op.load 9 (Operand.tmp 71))⟩, ⟨(some 73), (some (66, false)), (Op.fieldAddr 24 (Operand.tmp 2) 2)⟩, ⟨(some 74), (some (66, false)), (Op.load 9 (Operand.tmp 73))⟩, ⟨(some 75), (some (66, false)), (Op.binOp BinOp.eql 9 (Operand.tmp 72) (Operand.tmp 74) 9)⟩, ⟨(some 76), (some (66, false)), (Op.move (Operand.tmp 75))⟩, ⟨(some 77), (some (76, true)), (Op.fieldAddr 30 (Operand.tmp 3) 8)⟩, ⟨(some 78), (some (76, true)), (Op.load 28 (Operand.tmp 77))⟩, ⟨(some 79), (some (76, true)), (Op.move (Operand.tmp 6))⟩, ⟨(some 80), (some (76, true)), (Op.indexAddr 28 (Operand.tmp 78) (Operand.tmp 79))⟩, ⟨(some 81), (some (76, true)), (Op.fieldAddr 54 (Operand.tmp 80) 1)⟩, ⟨(some 82), (some (76, true)), (Op.load 9 (Operand.tmp 81))⟩, ⟨(some 83), (some (76, true)), (Op.fieldAddr 24 (Operand.tmp 2) 3)⟩, ⟨(some 84), (some (76, true)), (Op.load 9 (Operand.tmp 83))⟩, ⟨(some 85), (some (76, true)), (Op.binOp BinOp.eql 9 (Operand.tmp 82) (Operand.tmp 84) 9)⟩, ⟨(some 86), (some (66, false)), (Op.pick (Operand.tmp 76) (Operand.tmp 85) (Operand.const (Value.bool false)))⟩, ⟨(some 87), none, (Op.pick (Operand.tmp 66) (Operand.const (Value.bool true)) (Operand.tmp 86))⟩, ⟨(some 5), none, (Op.assign (Operand.tmp 87))⟩]
def c12_0 : CC := (.seq (.seq (.run [⟨(some 58), none, (Op.move (Operand.tmp 6))⟩, ⟨(some 59), none, (Op.fieldAddr 30 (Operand.tmp 3) 8)⟩, ⟨(some 60), none, (Op.load 28 (Operand.tmp 59))⟩, ⟨(some 61), none, (Op.call { callee := (Callee.builtin Builtin.len), args := #[(Operand.tmp 60)], argTypes := #[28] })⟩, ⟨(some 62), none, (Op.binOp BinOp.lss 3 (Operand.tmp 58) (Operand.tmp 61) 3)⟩]) (.cond (Operand.tmp 62) .skip (.exit 0))) (.seq (.block 1 (.draw c12_g7 [0, 1, 3, 7, 3, 31, 63, 127, 3, 259, 1023, 2047, 4095, 8191, 4095, 32767, 65535, 131071, 4095, 266239, 1048575, 2097151, 4194303, 8388607])) (.run [⟨(some 63), none, (Op.move (Operand.tmp 6))⟩, ⟨(some 64), none, (Op.binOp BinOp.add 3 (Operand.tmp 63) (Operand.const (Value.int IntKind.i64 1)) 3)⟩, ⟨(some 6), none, (Op.assign (Operand.tmp 64))⟩])))
def c12 : CC := (.seq (.run [⟨(some 2), none, (Op.box 24 (Operand.tmp 0))⟩, ⟨(some 3), none, (Op.box 30 (Operand.tmp 1))⟩, ⟨(some 4), none, (Op.assign (Operand.const (Value.bool false)))⟩]) (.seq (.seq (.run c12_g1) (.cond (Operand.tmp 49) (.seq (.run [⟨(some 4), none, (Op.assign (Operand.const (Value.bool false)))⟩]) .ret) .skip)) (.seq (.run [⟨(some 50), none, (Op.fieldAddr 24 (Operand.tmp 2) 2)⟩, ⟨(some 51), none, (Op.load 9 (Operand.tmp 50))⟩, ⟨(some 52), none, (Op.binOp BinOp.eql 9 (Operand.tmp 51) (Operand.const (Value.string { data := #[] })) 9)⟩, ⟨(some 53), none, (Op.move (Operand.tmp 52))⟩, ⟨(some 54), (some (53, true)), (Op.fieldAddr 24 (Operand.tmp 2) 3)⟩, ⟨(some 55), (some (53, true)), (Op.load 9 (Operand.tmp 54))⟩, ⟨(some 56), (some (53, true)), (Op.binOp BinOp.eql 9 (Operand.tmp 55) (Operand.const (Value.string { data := #[] })) 9)⟩, ⟨(some 57), none, (Op.pick (Operand.tmp 53) (Operand.tmp 56) (Operand.const (Value.bool false)))⟩, ⟨(some 5), none, (Op.assign (Operand.tmp 57))⟩]) (.seq (.seq (.run [⟨(some 6), none, (Op.assign (Operand.const (Value.int IntKind.i64 0)))⟩]) (.block 0 (.loop ([(2, none), (3, none), (5, none), (6, none)], []) c12_0))) (.seq (.run [⟨(some 88), none, (Op.move (Operand.tmp 5))⟩, ⟨(some 4), none, (Op.assign (Operand.tmp 88))⟩]) .ret)))))
def k12 : Nat → List (Nat × Option Nat) × List Nat := fun | 0 => ([(2, none), (3, none), (5, none), (6, none)], []) | _ => ([], [])
/- gleaningref28.SameTraces -/
def c13_0 : CC := (.seq (.seq (.run [⟨(some 11), none, (Op.move (Operand.tmp 5))⟩, ⟨(some 12), none, (Op.move (Operand.tmp 0))⟩, ⟨(some 13), none, (Op.call { callee := (Callee.builtin Builtin.len), args := #[(Operand.tmp 12)], argTypes := #[37] })⟩, ⟨(some 14), none, (Op.binOp BinOp.lss 3 (Operand.tmp 11) (Operand.tmp 13) 3)⟩]) (.cond (Operand.tmp 14) .skip (.exit 0))) (.seq (.block 1 (.seq (.draw [⟨(some 17), none, (Op.move (Operand.tmp 0))⟩, ⟨(some 18), none, (Op.move (Operand.tmp 5))⟩, ⟨(some 19), none, (Op.indexAddr 37 (Operand.tmp 17) (Operand.tmp 18))⟩, ⟨(some 20), none, (Op.load 27 (Operand.tmp 19))⟩, ⟨(some 21), none, (Op.move (Operand.tmp 1))⟩, ⟨(some 22), none, (Op.move (Operand.tmp 5))⟩, ⟨(some 23), none, (Op.indexAddr 37 (Operand.tmp 21) (Operand.tmp 22))⟩, ⟨(some 24), none, (Op.load 27 (Operand.tmp 23))⟩, ⟨(some 25), none, (Op.binOp BinOp.neq 27 (Operand.tmp 20) (Operand.tmp 24) 27)⟩] [0, 0, 3, 7, 0, 0, 48, 112, 255]) (.cond (Operand.tmp 25) (.seq (.run [⟨(some 4), none, (Op.assign (Operand.const (Value.bool false)))⟩]) .ret) .skip))) (.run [⟨(some 15), none, (Op.move (Operand.tmp 5))⟩, ⟨(some 16), none, (Op.binOp BinOp.add 3 (Operand.tmp 15) (Operand.const (Value.int IntKind.i64 1)) 3)⟩, ⟨(some 5), none, (Op.assign (Operand.tmp 16))⟩])))
def c13 : CC := (.seq (.run [⟨(some 4), none, (Op.assign (Operand.const (Value.bool false)))⟩]) (.seq (.seq (.run [⟨(some 6), none, (Op.move (Operand.tmp 0))⟩, ⟨(some 7), none, (Op.call { callee := (Callee.builtin Builtin.len), args := #[(Operand.tmp 6)], argTypes := #[37] })⟩, ⟨(some 8), none, (Op.move (Operand.tmp 1))⟩, ⟨(some 9), none, (Op.call { callee := (Callee.builtin Builtin.len), args := #[(Operand.tmp 8)], argTypes := #[37] })⟩, ⟨(some 10), none, (Op.binOp BinOp.neq 3 (Operand.tmp 7) (Operand.tmp 9) 3)⟩]) (.cond (Operand.tmp 10) (.seq (.run [⟨(some 4), none, (Op.assign (Operand.const (Value.bool false)))⟩]) .ret) .skip)) (.seq (.seq (.run [⟨(some 5), none, (Op.assign (Operand.const (Value.int IntKind.i64 0)))⟩]) (.block 0 (.loop ([(0, none), (1, none), (5, none)], []) c13_0))) (.seq (.run [⟨(some 4), none, (Op.assign (Operand.const (Value.bool true)))⟩]) .ret))))
def k13 : Nat → List (Nat × Option Nat) × List Nat := fun | 0 => ([(0, none), (1, none), (5, none)], []) | _ => ([], [])
/- search.Find -/

def c14 : CC := (.seq (.run [⟨(some 4), none, (Op.box 24 (Operand.tmp 1))⟩, ⟨(some 6), none, (Op.assign (Operand.const (Value.slice none 0 0)))⟩]) (.seq (.run [⟨(some 8), none, (Op.move (Operand.tmp 0))⟩, ⟨(some 9), none, (Op.load 24 (Operand.tmp 4))⟩, ⟨(some 10), none, (Op.call { callee := (Callee.value (Operand.func 24)), args := #[(Operand.tmp 8), (Operand.tmp 9)], argTypes := #[22, 24] })⟩, ⟨(some 7), none, (Op.assign (Operand.tmp 10))⟩]) (.seq (.run [⟨(some 11), none, (Op.move (Operand.tmp 7))⟩, ⟨(some 12), none, (Op.move (Operand.tmp 2))⟩, ⟨(some 13), none, (Op.move (Operand.tmp 7))⟩, ⟨(some 14), none, (Op.call { callee := (Callee.builtin Builtin.len), args := #[(Operand.tmp 13)], argTypes := #[37] })⟩, ⟨(some 15), none, (Op.call { callee := (Callee.builtin Builtin.min), args := #[(Operand.tmp 12), (Operand.tmp 14)], argTypes := #[3, 3] })⟩, ⟨(some 16), none, (Op.call { callee := (Callee.builtin Builtin.max), args := #[(Operand.const (Value.int IntKind.i64 0)), (Operand.tmp 15)], argTypes := #[3, 3] })⟩, ⟨(some 17), none, (Op.slice 37 (Operand.tmp 11) none (some (Operand.tmp 16)) none)⟩, ⟨(some 6), none, (Op.assign (Operand.tmp 17))⟩]) .ret)))
def k14 : Nat → List (Nat × Option Nat) × List Nat := fun _ => ([], [])
/- gleaningref28.Find -/

def c15 : CC := (.seq (.run [⟨(some 4), none, (Op.box 24 (Operand.tmp 1))⟩, ⟨(some 6), none, (Op.assign (Operand.const (Value.slice none 0 0)))⟩]) (.seq (.run [⟨(some 8), none, (Op.move (Operand.tmp 0))⟩, ⟨(some 9), none, (Op.load 24 (Operand.tmp 4))⟩, ⟨(some 10), none, (Op.call { callee := (Callee.value (Operand.func 25)), args := #[(Operand.tmp 8), (Operand.tmp 9)], argTypes := #[22, 24] })⟩, ⟨(some 7), none, (Op.assign (Operand.tmp 10))⟩]) (.seq (.run [⟨(some 11), none, (Op.move (Operand.tmp 7))⟩, ⟨(some 12), none, (Op.move (Operand.tmp 2))⟩, ⟨(some 13), none, (Op.move (Operand.tmp 7))⟩, ⟨(some 14), none, (Op.call { callee := (Callee.builtin Builtin.len), args := #[(Operand.tmp 13)], argTypes := #[37] })⟩, ⟨(some 15), none, (Op.call { callee := (Callee.value (Operand.func 26)), args := #[(Operand.tmp 12), (Operand.const (Value.int IntKind.i64 0)), (Operand.tmp 14)], argTypes := #[3, 3, 3] })⟩, ⟨(some 16), none, (Op.slice 37 (Operand.tmp 11) none (some (Operand.tmp 15)) none)⟩, ⟨(some 6), none, (Op.assign (Operand.tmp 16))⟩]) .ret)))
def k15 : Nat → List (Nat × Option Nat) × List Nat := fun _ => ([], [])
/- search.Count -/

def c16 : CC := (.seq (.run [⟨(some 3), none, (Op.box 24 (Operand.tmp 1))⟩, ⟨(some 4), none, (Op.assign (Operand.const (Value.int IntKind.i64 0)))⟩]) (.seq (.run [⟨(some 5), none, (Op.move (Operand.tmp 0))⟩, ⟨(some 6), none, (Op.load 24 (Operand.tmp 3))⟩, ⟨(some 7), none, (Op.call { callee := (Callee.value (Operand.func 24)), args := #[(Operand.tmp 5), (Operand.tmp 6)], argTypes := #[22, 24] })⟩, ⟨(some 8), none, (Op.call { callee := (Callee.builtin Builtin.len), args := #[(Operand.tmp 7)], argTypes := #[37] })⟩, ⟨(some 4), none, (Op.assign (Operand.tmp 8))⟩]) .ret))
def k16 : Nat → List (Nat × Option Nat) × List Nat := fun _ => ([], [])
/- gleaningref28.Count -/

def c17 : CC := (.seq (.run [⟨(some 3), none, (Op.box 24 (Operand.tmp 1))⟩, ⟨(some 4), none, (Op.assign (Operand.const (Value.int IntKind.i64 0)))⟩]) (.seq (.run [⟨(some 5), none, (Op.move (Operand.tmp 0))⟩, ⟨(some 6), none, (Op.load 24 (Operand.tmp 3))⟩, ⟨(some 7), none, (Op.call { callee := (Callee.value (Operand.func 25)), args := #[(Operand.tmp 5), (Operand.tmp 6)], argTypes := #[22, 24] })⟩, ⟨(some 8), none, (Op.call { callee := (Callee.builtin Builtin.len), args := #[(Operand.tmp 7)], argTypes := #[37] })⟩, ⟨(some 4), none, (Op.assign (Operand.tmp 8))⟩]) .ret))
def k17 : Nat → List (Nat × Option Nat) × List Nat := fun _ => ([], [])
/- gleaninglaw32.within -/
def c18_0 : CC := (.seq (.seq (.run [⟨(some 7), none, (Op.move (Operand.tmp 6))⟩, ⟨(some 8), none, (Op.move (Operand.tmp 1))⟩, ⟨(some 9), none, (Op.call { callee := (Callee.builtin Builtin.len), args := #[(Operand.tmp 8)], argTypes := #[37] })⟩, ⟨(some 10), none, (Op.binOp BinOp.lss 3 (Operand.tmp 7) (Operand.tmp 9) 3)⟩, ⟨(some 11), none, (Op.move (Operand.tmp 10))⟩, ⟨(some 12), (some (11, true)), (Op.move (Operand.tmp 5))⟩, ⟨(some 13), (some (11, true)), (Op.move (Operand.tmp 0))⟩, ⟨(some 14), (some (11, true)), (Op.call { callee := (Callee.builtin Builtin.len), args := #[(Operand.tmp 13)], argTypes := #[37] })⟩, ⟨(some 15), (some (11, true)), (Op.binOp BinOp.lss 3 (Operand.tmp 12) (Operand.tmp 14) 3)⟩, ⟨(some 16), none, (Op.pick (Operand.tmp 11) (Operand.tmp 15) (Operand.const (Value.bool false)))⟩]) (.cond (Operand.tmp 16) .skip (.exit 0))) (.seq (.block 1 (.seq (.draw [⟨(some 19), none, (Op.move (Operand.tmp 0))⟩, ⟨(some 20), none, (Op.move (Operand.tmp 5))⟩, ⟨(some 21), none, (Op.indexAddr 37 (Operand.tmp 19) (Operand.tmp 20))⟩, ⟨(some 22), none, (Op.load 27 (Operand.tmp 21))⟩, ⟨(some 23), none, (Op.move (Operand.tmp 1))⟩, ⟨(some 24), none, (Op.move (Operand.tmp 6))⟩, ⟨(some 25), none, (Op.indexAddr 37 (Operand.tmp 23) (Operand.tmp 24))⟩, ⟨(some 26), none, (Op.load 27 (Operand.tmp 25))⟩, ⟨(some 27), none, (Op.binOp BinOp.eql 27 (Operand.tmp 22) (Operand.tmp 26) 27)⟩] [0, 0, 3, 7, 0, 0, 48, 112, 255]) (.cond (Operand.tmp 27) (.run [⟨(some 28), none, (Op.move (Operand.tmp 5))⟩, ⟨(some 29), none, (Op.binOp BinOp.add 3 (Operand.tmp 28) (Operand.const (Value.int IntKind.i64 1)) 3)⟩, ⟨(some 5), none, (Op.assign (Operand.tmp 29))⟩]) .skip))) (.run [⟨(some 17), none, (Op.move (Operand.tmp 6))⟩, ⟨(some 18), none, (Op.binOp BinOp.add 3 (Operand.tmp 17) (Operand.const (Value.int IntKind.i64 1)) 3)⟩, ⟨(some 6), none, (Op.assign (Operand.tmp 18))⟩])))
def c18 : CC := (.seq (.run [⟨(some 4), none, (Op.assign (Operand.const (Value.bool false)))⟩]) (.seq (.run [⟨(some 5), none, (Op.assign (Operand.const (Value.int IntKind.i64 0)))⟩]) (.seq (.seq (.run [⟨(some 6), none, (Op.assign (Operand.const (Value.int IntKind.i64 0)))⟩]) (.block 0 (.loop ([(0, none), (1, none), (5, none), (6, none)], []) c18_0))) (.seq (.run [⟨(some 30), none, (Op.move (Operand.tmp 5))⟩, ⟨(some 31), none, (Op.move (Operand.tmp 0))⟩, ⟨(some 32), none, (Op.call { callee := (Callee.builtin Builtin.len), args := #[(Operand.tmp 31)], argTypes := #[37] })⟩, ⟨(some 33), none, (Op.binOp BinOp.eql 3 (Operand.tmp 30) (Operand.tmp 32) 3)⟩, ⟨(some 4), none, (Op.assign (Operand.tmp 33))⟩]) .ret))))
def k18 : Nat → List (Nat × Option Nat) × List Nat := fun | 0 => ([(0, none), (1, none), (5, none), (6, none)], []) | _ => ([], [])
/- gleaninglaw32.spanned -/
def c19_4 : CC := (.seq (.seq (.run [⟨(some 37), none, (Op.move (Operand.tmp 8))⟩, ⟨(some 38), none, (Op.move (Operand.tmp 3))⟩, ⟨(some 39), none, (Op.call { callee := (Callee.builtin Builtin.len), args := #[(Operand.tmp 38)], argTypes := #[37] })⟩, ⟨(some 40), none, (Op.binOp BinOp.lss 3 (Operand.tmp 37) (Operand.tmp 39) 3)⟩]) (.cond (Operand.tmp 40) .skip (.exit 4))) (.seq (.block 5 (.draw [⟨(some 43), none, (Op.move (Operand.tmp 7))⟩, ⟨(some 44), none, (Op.move (Operand.tmp 43))⟩, ⟨(some 45), (some (44, false)), (Op.move (Operand.tmp 3))⟩, ⟨(some 46), (some (44, false)), (Op.move (Operand.tmp 8))⟩, ⟨(some 47), (some (44, false)), (Op.indexAddr 37 (Operand.tmp 45) (Operand.tmp 46))⟩, ⟨(some 48), (some (44, false)), (Op.load 27 (Operand.tmp 47))⟩, ⟨(some 49), (some (44, false)), (Op.fieldAddr 51 (Operand.tmp 6) 0)⟩, ⟨(some 50), (some (44, false)), (Op.load 27 (Operand.tmp 49))⟩, ⟨(some 51), (some (44, false)), (Op.binOp BinOp.eql 27 (Operand.tmp 48) (Operand.tmp 50) 27)⟩, ⟨(some 52), none, (Op.pick (Operand.tmp 44) (Operand.const (Value.bool true)) (Operand.tmp 51))⟩, ⟨(some 7), none, (Op.assign (Operand.tmp 52))⟩] [0, 1, 3, 3, 15, 31, 3, 67, 255, 511, 1023])) (.run [⟨(some 41), none, (Op.move (Operand.tmp 8))⟩, ⟨(some 42), none, (Op.binOp BinOp.add 3 (Operand.tmp 41) (Operand.const (Value.int IntKind.i64 1)) 3)⟩, ⟨(some 8), none, (Op.assign (Operand.tmp 42))⟩])))
def c19_2 : CC := (.seq (.seq (.run [⟨(some 15), none, (Op.move (Operand.tmp 5))⟩, ⟨(some 16), none, (Op.move (Operand.tmp 0))⟩, ⟨(some 17), none, (Op.move (Operand.tmp 4))⟩, ⟨(some 18), none, (Op.indexAddr 22 (Operand.tmp 16) (Operand.tmp 17))⟩, ⟨(some 19), none, (Op.fieldAddr 45 (Operand.tmp 18) 3)⟩, ⟨(some 20), none, (Op.load 43 (Operand.tmp 19))⟩, ⟨(some 21), none, (Op.call { callee := (Callee.builtin Builtin.len), args := #[(Operand.tmp 20)], argTypes := #[43] })⟩, ⟨(some 22), none, (Op.binOp BinOp.lss 3 (Operand.tmp 15) (Operand.tmp 21) 3)⟩]) (.cond (Operand.tmp 22) .skip (.exit 2))) (.seq (.block 3 (.seq (.run [⟨(some 25), none, (Op.move (Operand.tmp 0))⟩, ⟨(some 26), none, (Op.move (Operand.tmp 4))⟩, ⟨(some 27), none, (Op.indexAddr 22 (Operand.tmp 25) (Operand.tmp 26))⟩, ⟨(some 28), none, (Op.fieldAddr 45 (Operand.tmp 27) 3)⟩, ⟨(some 29), none, (Op.load 43 (Operand.tmp 28))⟩, ⟨(some 30), none, (Op.move (Operand.tmp 5))⟩, ⟨(some 31), none, (Op.indexAddr 43 (Operand.tmp 29) (Operand.tmp 30))⟩, ⟨(some 32), none, (Op.load 51 (Operand.tmp 31))⟩, ⟨(some 6), none, (Op.alloc 51)⟩, ⟨none, none, (Op.store 51 (Operand.tmp 6) (Operand.tmp 32))⟩]) (.seq (.run [⟨(some 33), none, (Op.fieldAddr 51 (Operand.tmp 6) 4)⟩, ⟨(some 34), none, (Op.load 49 (Operand.tmp 33))⟩, ⟨(some 35), none, (Op.call { callee := (Callee.builtin Builtin.len), args := #[(Operand.tmp 34)], argTypes := #[49] })⟩, ⟨(some 36), none, (Op.binOp BinOp.eql 3 (Operand.tmp 35) (Operand.const (Value.int IntKind.i64 0)) 3)⟩, ⟨(some 7), none, (Op.assign (Operand.tmp 36))⟩]) (.seq (.seq (.run [⟨(some 8), none, (Op.assign (Operand.const (Value.int IntKind.i64 0)))⟩]) (.block 4 (.loop ([(0, none), (3, some 27), (4, none), (5, none), (6, none), (7, none), (8, none)], []) c19_4))) (.seq (.run [⟨(some 53), none, (Op.move (Operand.tmp 7))⟩, ⟨(some 54), none, (Op.unOp UnOp.not 4 (Operand.tmp 53))⟩]) (.cond (Operand.tmp 54) (.run [⟨(some 55), none, (Op.move (Operand.tmp 3))⟩, ⟨(some 56), none, (Op.fieldAddr 51 (Operand.tmp 6) 0)⟩, ⟨(some 57), none, (Op.load 27 (Operand.tmp 56))⟩, ⟨(some 58), none, (Op.buildSlice 37 1 #[(0, (Operand.tmp 57))])⟩, ⟨(some 59), none, (Op.call { callee := (Callee.builtin Builtin.append), args := #[(Operand.tmp 55), (Operand.tmp 58)], argTypes := #[37, 37] })⟩, ⟨(some 3), none, (Op.assign (Operand.tmp 59))⟩]) .skip)))))) (.run [⟨(some 23), none, (Op.move (Operand.tmp 5))⟩, ⟨(some 24), none, (Op.binOp BinOp.add 3 (Operand.tmp 23) (Operand.const (Value.int IntKind.i64 1)) 3)⟩, ⟨(some 5), none, (Op.assign (Operand.tmp 24))⟩])))
def c19_0 : CC := (.seq (.seq (.run [⟨(some 9), none, (Op.move (Operand.tmp 4))⟩, ⟨(some 10), none, (Op.move (Operand.tmp 0))⟩, ⟨(some 11), none, (Op.call { callee := (Callee.builtin Builtin.len), args := #[(Operand.tmp 10)], argTypes := #[22] })⟩, ⟨(some 12), none, (Op.binOp BinOp.lss 3 (Operand.tmp 9) (Operand.tmp 11) 3)⟩]) (.cond (Operand.tmp 12) .skip (.exit 0))) (.seq (.block 1 (.seq (.run [⟨(some 5), none, (Op.assign (Operand.const (Value.int IntKind.i64 0)))⟩]) (.block 2 (.loop ([(0, none), (3, some 27), (4, none), (5, none)], []) c19_2)))) (.run [⟨(some 13), none, (Op.move (Operand.tmp 4))⟩, ⟨(some 14), none, (Op.binOp BinOp.add 3 (Operand.tmp 13) (Operand.const (Value.int IntKind.i64 1)) 3)⟩, ⟨(some 4), none, (Op.assign (Operand.tmp 14))⟩])))
def c19 : CC := (.seq (.run [⟨(some 2), none, (Op.assign (Operand.const (Value.int IntKind.i64 0)))⟩]) (.seq (.run [⟨(some 3), none, (Op.assign (Operand.const (Value.slice none 0 0)))⟩]) (.seq (.seq (.run [⟨(some 4), none, (Op.assign (Operand.const (Value.int IntKind.i64 0)))⟩]) (.block 0 (.loop ([(0, none), (3, some 27), (4, none)], []) c19_0))) (.seq (.run [⟨(some 60), none, (Op.move (Operand.tmp 3))⟩, ⟨(some 61), none, (Op.call { callee := (Callee.builtin Builtin.len), args := #[(Operand.tmp 60)], argTypes := #[37] })⟩, ⟨(some 2), none, (Op.assign (Operand.tmp 61))⟩]) .ret))))
def k19 : Nat → List (Nat × Option Nat) × List Nat := fun | 0 => ([(0, none), (3, some 27), (4, none)], []) | 2 => ([(0, none), (3, some 27), (4, none), (5, none)], []) | 4 => ([(0, none), (3, some 27), (4, none), (5, none), (6, none), (7, none), (8, none)], []) | _ => ([], [])
/- gleaningref15.Join -/

def c20 : CC := (.seq (.run [⟨(some 3), none, (Op.box 45 (Operand.tmp 0))⟩, ⟨(some 4), none, (Op.box 45 (Operand.tmp 1))⟩, ⟨(some 6), none, (Op.alloc 45)⟩]) (.seq (.run [⟨(some 9), none, (Op.fieldAddr 45 (Operand.tmp 3) 1)⟩, ⟨(some 10), none, (Op.load 3 (Operand.tmp 9))⟩, ⟨(some 7), none, (Op.assign (Operand.tmp 10))⟩]) (.seq (.seq (.run [⟨(some 11), none, (Op.fieldAddr 45 (Operand.tmp 4) 1)⟩, ⟨(some 12), none, (Op.load 3 (Operand.tmp 11))⟩, ⟨(some 13), none, (Op.move (Operand.tmp 7))⟩, ⟨(some 14), none, (Op.binOp BinOp.gtr 3 (Operand.tmp 12) (Operand.tmp 13) 3)⟩]) (.cond (Operand.tmp 14) (.run [⟨(some 15), none, (Op.fieldAddr 45 (Operand.tmp 4) 1)⟩, ⟨(some 16), none, (Op.load 3 (Operand.tmp 15))⟩, ⟨(some 7), none, (Op.assign (Operand.tmp 16))⟩]) .skip)) (.seq (.run [⟨(some 17), none, (Op.fieldAddr 45 (Operand.tmp 3) 2)⟩, ⟨(some 18), none, (Op.load 3 (Operand.tmp 17))⟩, ⟨(some 8), none, (Op.assign (Operand.tmp 18))⟩]) (.seq (.seq (.run [⟨(some 19), none, (Op.fieldAddr 45 (Operand.tmp 4) 2)⟩, ⟨(some 20), none, (Op.load 3 (Operand.tmp 19))⟩, ⟨(some 21), none, (Op.move (Operand.tmp 8))⟩, ⟨(some 22), none, (Op.binOp BinOp.gtr 3 (Operand.tmp 20) (Operand.tmp 21) 3)⟩]) (.cond (Operand.tmp 22) (.run [⟨(some 23), none, (Op.fieldAddr 45 (Operand.tmp 4) 2)⟩, ⟨(some 24), none, (Op.load 3 (Operand.tmp 23))⟩, ⟨(some 8), none, (Op.assign (Operand.tmp 24))⟩]) .skip)) (.seq (.draw [⟨(some 25), none, (Op.move (Operand.tmp 2))⟩, ⟨(some 26), none, (Op.move (Operand.tmp 7))⟩, ⟨(some 27), none, (Op.move (Operand.tmp 8))⟩, ⟨(some 28), none, (Op.binOp BinOp.add 3 (Operand.tmp 27) (Operand.const (Value.int IntKind.i64 1)) 3)⟩, ⟨(some 29), none, (Op.fieldAddr 45 (Operand.tmp 3) 3)⟩, ⟨(some 30), none, (Op.load 43 (Operand.tmp 29))⟩, ⟨(some 31), none, (Op.call { callee := (Callee.builtin Builtin.append), args := #[(Operand.const (Value.slice none 0 0)), (Operand.tmp 30)], argTypes := #[43, 43] })⟩, ⟨(some 32), none, (Op.fieldAddr 45 (Operand.tmp 4) 3)⟩, ⟨(some 33), none, (Op.load 43 (Operand.tmp 32))⟩, ⟨(some 34), none, (Op.call { callee := (Callee.builtin Builtin.append), args := #[(Operand.tmp 31), (Operand.tmp 33)], argTypes := #[43, 43] })⟩, ⟨(some 35), none, (Op.call { callee := (Callee.value (Operand.func 27)), args := #[(Operand.tmp 25), (Operand.tmp 26), (Operand.tmp 28), (Operand.tmp 34)], argTypes := #[3, 3, 3, 43] })⟩, ⟨none, none, (Op.store 45 (Operand.tmp 6) (Operand.tmp 35))⟩] [0, 0, 0, 4, 0, 16, 48, 0, 128, 496, 1023, 2047]) .ret))))))
def k20 : Nat → List (Nat × Option Nat) × List Nat := fun _ => ([], [])
/- gleaningref15.LessTrace -/

def c21 : CC := (.seq (.run [⟨(some 2), none, (Op.box 27 (Operand.tmp 0))⟩, ⟨(some 3), none, (Op.box 27 (Operand.tmp 1))⟩, ⟨(some 4), none, (Op.assign (Operand.const (Value.bool false)))⟩]) (.seq (.run [⟨(some 5), none, (Op.fieldAddr 27 (Operand.tmp 2) 0)⟩, ⟨(some 6), none, (Op.load 25 (Operand.tmp 5))⟩, ⟨(some 7), none, (Op.fieldAddr 27 (Operand.tmp 3) 0)⟩, ⟨(some 8), none, (Op.load 25 (Operand.tmp 7))⟩, ⟨(some 9), none, (Op.binOp BinOp.lss 25 (Operand.tmp 6) (Operand.tmp 8) 25)⟩, ⟨(some 10), none, (Op.move (Operand.tmp 9))⟩, ⟨(some 11), (some (10, false)), (Op.fieldAddr 27 (Operand.tmp 2) 0)⟩, ⟨(some 12), (some (10, false)), (Op.load 25 (Operand.tmp 11))⟩, ⟨(some 13), (some (10, false)), (Op.fieldAddr 27 (Operand.tmp 3) 0)⟩, ⟨(some 14), (some (10, false)), (Op.load 25 (Operand.tmp 13))⟩, ⟨(some 15), (some (10, false)), (Op.binOp BinOp.eql 25 (Operand.tmp 12) (Operand.tmp 14) 25)⟩, ⟨(some 16), (some (10, false)), (Op.move (Operand.tmp 15))⟩, ⟨(some 17), (some (16, true)), (Op.fieldAddr 27 (Operand.tmp 2) 1)⟩, ⟨(some 18), (some (16, true)), (Op.load 25 (Operand.tmp 17))⟩, ⟨(some 19), (some (16, true)), (Op.fieldAddr 27 (Operand.tmp 3) 1)⟩, ⟨(some 20), (some (16, true)), (Op.load 25 (Operand.tmp 19))⟩, ⟨(some 21), (some (16, true)), (Op.binOp BinOp.lss 25 (Operand.tmp 18) (Operand.tmp 20) 25)⟩, ⟨(some 22), (some (10, false)), (Op.pick (Operand.tmp 16) (Operand.tmp 21) (Operand.const (Value.bool false)))⟩, ⟨(some 23), none, (Op.pick (Operand.tmp 10) (Operand.const (Value.bool true)) (Operand.tmp 22))⟩, ⟨(some 4), none, (Op.assign (Operand.tmp 23))⟩]) .ret))
def k21 : Nat → List (Nat × Option Nat) × List Nat := fun _ => ([], [])
/- gleaninglaw15.Few -/
def c22_0 : CC := (.seq (.seq (.run [⟨(some 5), none, (Op.move (Operand.tmp 4))⟩, ⟨(some 6), none, (Op.move (Operand.tmp 0))⟩, ⟨(some 7), none, (Op.call { callee := (Callee.builtin Builtin.len), args := #[(Operand.tmp 6)], argTypes := #[43] })⟩, ⟨(some 8), none, (Op.binOp BinOp.lss 3 (Operand.tmp 5) (Operand.tmp 7) 3)⟩, ⟨(some 9), none, (Op.move (Operand.tmp 8))⟩, ⟨(some 10), (some (9, true)), (Op.move (Operand.tmp 3))⟩, ⟨(some 11), (some (9, true)), (Op.binOp BinOp.lss 3 (Operand.tmp 10) (Operand.const (Value.int IntKind.i64 1000)) 3)⟩, ⟨(some 12), none, (Op.pick (Operand.tmp 9) (Operand.tmp 11) (Operand.const (Value.bool false)))⟩]) (.cond (Operand.tmp 12) .skip (.exit 0))) (.seq (.block 1 (.seq (.seq (.run [⟨(some 15), none, (Op.move (Operand.tmp 0))⟩, ⟨(some 16), none, (Op.move (Operand.tmp 4))⟩, ⟨(some 17), none, (Op.indexAddr 43 (Operand.tmp 15) (Operand.tmp 16))⟩, ⟨(some 18), none, (Op.fieldAddr 51 (Operand.tmp 17) 4)⟩, ⟨(some 19), none, (Op.load 49 (Operand.tmp 18))⟩, ⟨(some 20), none, (Op.call { callee := (Callee.value (Operand.func 28)), args := #[(Operand.tmp 19)], argTypes := #[49] })⟩, ⟨(some 21), none, (Op.unOp UnOp.not 4 (Operand.tmp 20))⟩]) (.cond (Operand.tmp 21) (.seq (.run [⟨(some 2), none, (Op.assign (Operand.const (Value.bool false)))⟩]) .ret) .skip)) (.run [⟨(some 22), none, (Op.move (Operand.tmp 3))⟩, ⟨(some 23), none, (Op.binOp BinOp.add 3 (Operand.tmp 22) (Operand.const (Value.int IntKind.i64 1)) 3)⟩, ⟨(some 24), none, (Op.move (Operand.tmp 0))⟩, ⟨(some 25), none, (Op.move (Operand.tmp 4))⟩, ⟨(some 26), none, (Op.indexAddr 43 (Operand.tmp 24) (Operand.tmp 25))⟩, ⟨(some 27), none, (Op.fieldAddr 51 (Operand.tmp 26) 4)⟩, ⟨(some 28), none, (Op.load 49 (Operand.tmp 27))⟩, ⟨(some 29), none, (Op.call { callee := (Callee.builtin Builtin.len), args := #[(Operand.tmp 28)], argTypes := #[49] })⟩, ⟨(some 30), none, (Op.binOp BinOp.add 3 (Operand.tmp 23) (Operand.tmp 29) 3)⟩, ⟨(some 3), none, (Op.assign (Operand.tmp 30))⟩]))) (.run [⟨(some 13), none, (Op.move (Operand.tmp 4))⟩, ⟨(some 14), none, (Op.binOp BinOp.add 3 (Operand.tmp 13) (Operand.const (Value.int IntKind.i64 1)) 3)⟩, ⟨(some 4), none, (Op.assign (Operand.tmp 14))⟩])))
def c22 : CC := (.seq (.run [⟨(some 2), none, (Op.assign (Operand.const (Value.bool false)))⟩]) (.seq (.run [⟨(some 3), none, (Op.assign (Operand.const (Value.int IntKind.i64 0)))⟩]) (.seq (.seq (.run [⟨(some 4), none, (Op.assign (Operand.const (Value.int IntKind.i64 0)))⟩]) (.block 0 (.loop ([(0, none), (3, none), (4, none)], []) c22_0))) (.seq (.run [⟨(some 31), none, (Op.move (Operand.tmp 3))⟩, ⟨(some 32), none, (Op.binOp BinOp.leq 3 (Operand.tmp 31) (Operand.const (Value.int IntKind.i64 120)) 3)⟩, ⟨(some 2), none, (Op.assign (Operand.tmp 32))⟩]) .ret))))
def k22 : Nat → List (Nat × Option Nat) × List Nat := fun | 0 => ([(0, none), (3, none), (4, none)], []) | _ => ([], [])
/- slices.Contains[[]api.Attr,api.Attr] -/

def c23 : CC := (.seq (.run [⟨(some 3), none, (Op.box 54 (Operand.tmp 1))⟩, ⟨(some 4), none, (Op.assign (Operand.const (Value.bool false)))⟩]) (.seq (.run [⟨(some 5), none, (Op.move (Operand.tmp 0))⟩, ⟨(some 6), none, (Op.load 54 (Operand.tmp 3))⟩, ⟨(some 7), none, (Op.call { callee := (Callee.value (Operand.func 29)), args := #[(Operand.tmp 5), (Operand.tmp 6)], argTypes := #[28, 54] })⟩, ⟨(some 8), none, (Op.binOp BinOp.geq 3 (Operand.tmp 7) (Operand.const (Value.int IntKind.i64 0)) 3)⟩, ⟨(some 4), none, (Op.assign (Operand.tmp 8))⟩]) .ret))
def k23 : Nat → List (Nat × Option Nat) × List Nat := fun _ => ([], [])
/- search.all -/
def c24_2 : CC := (.seq (.run [⟨(some 20), none, (Op.binOp BinOp.lss 3 (Operand.tmp 19) (Operand.tmp 18) 3)⟩]) (.seq (.cond (Operand.tmp 20) .skip (.exit 2)) (.seq (.block 3 (.seq (.run [⟨(some 21), none, (Op.indexAddr 43 (Operand.tmp 17) (Operand.tmp 19))⟩, ⟨(some 22), none, (Op.load 51 (Operand.tmp 21))⟩, ⟨(some 9), none, (Op.alloc 51)⟩, ⟨none, none, (Op.store 51 (Operand.tmp 9) (Operand.tmp 22))⟩]) (.seq (.run [⟨(some 23), none, (Op.fieldAddr 51 (Operand.tmp 9) 4)⟩, ⟨(some 24), none, (Op.load 49 (Operand.tmp 23))⟩, ⟨(some 25), none, (Op.makeFunc (Fn.func 31) #[] #[(Operand.tmp 3)])⟩, ⟨(some 26), none, (Op.call { callee := (Callee.value (Operand.func 30)), args := #[(Operand.tmp 24), (Operand.tmp 25)], argTypes := #[49, 34] })⟩]) (.cond (Operand.tmp 26) (.run [⟨(some 27), none, (Op.move (Operand.tmp 5))⟩, ⟨(some 28), none, (Op.fieldAddr 51 (Operand.tmp 9) 0)⟩, ⟨(some 29), none, (Op.load 27 (Operand.tmp 28))⟩, ⟨(some 30), none, (Op.buildSlice 37 1 #[(0, (Operand.tmp 29))])⟩, ⟨(some 31), none, (Op.call { callee := (Callee.builtin Builtin.append), args := #[(Operand.tmp 27), (Operand.tmp 30)], argTypes := #[37, 37] })⟩, ⟨(some 5), none, (Op.assign (Operand.tmp 31))⟩]) .skip)))) (.run [⟨(some 32), none, (Op.binOp BinOp.add 3 (Operand.tmp 19) (Operand.const (Value.int IntKind.i64 1)) 3)⟩, ⟨(some 19), none, (Op.move (Operand.tmp 32))⟩]))))
def c24_0 : CC := (.seq (.run [⟨(some 13), none, (Op.binOp BinOp.lss 3 (Operand.tmp 12) (Operand.tmp 11) 3)⟩]) (.seq (.cond (Operand.tmp 13) .skip (.exit 0)) (.seq (.block 1 (.seq (.run [⟨(some 14), none, (Op.indexAddr 22 (Operand.tmp 10) (Operand.tmp 12))⟩, ⟨(some 15), none, (Op.load 45 (Operand.tmp 14))⟩, ⟨(some 7), none, (Op.alloc 45)⟩, ⟨none, none, (Op.store 45 (Operand.tmp 7) (Operand.tmp 15))⟩]) (.seq (.run [⟨(some 16), none, (Op.fieldAddr 45 (Operand.tmp 7) 3)⟩, ⟨(some 17), none, (Op.load 43 (Operand.tmp 16))⟩, ⟨(some 18), none, (Op.call { callee := (Callee.builtin Builtin.len), args := #[(Operand.tmp 17)], argTypes := #[43] })⟩, ⟨(some 19), none, (Op.move (Operand.const (Value.int IntKind.i64 0)))⟩]) (.block 2 (.loop ([(3, none), (5, some 27), (10, none), (11, none), (12, none), (17, none), (18, none), (19, none)], []) c24_2))))) (.run [⟨(some 33), none, (Op.binOp BinOp.add 3 (Operand.tmp 12) (Operand.const (Value.int IntKind.i64 1)) 3)⟩, ⟨(some 12), none, (Op.move (Operand.tmp 33))⟩]))))
def c24 : CC := (.seq (.run [⟨(some 3), none, (Op.box 24 (Operand.tmp 1))⟩, ⟨(some 4), none, (Op.assign (Operand.const (Value.slice none 0 0)))⟩]) (.seq (.run [⟨(some 5), none, (Op.assign (Operand.const (Value.slice none 0 0)))⟩]) (.seq (.seq (.run [⟨(some 10), none, (Op.move (Operand.tmp 0))⟩, ⟨(some 11), none, (Op.call { callee := (Callee.builtin Builtin.len), args := #[(Operand.tmp 10)], argTypes := #[22] })⟩, ⟨(some 12), none, (Op.move (Operand.const (Value.int IntKind.i64 0)))⟩]) (.block 0 (.loop ([(3, none), (5, some 27), (10, none), (11, none), (12, none)], []) c24_0))) (.seq (.run [⟨(some 34), none, (Op.move (Operand.tmp 5))⟩, ⟨(some 35), none, (Op.call { callee := (Callee.value (Operand.func 32)), args := #[(Operand.tmp 34), (Operand.func 33)], argTypes := #[37, 63] })⟩]) (.seq (.run [⟨(some 36), none, (Op.move (Operand.tmp 5))⟩, ⟨(some 37), none, (Op.call { callee := (Callee.value (Operand.func 34)), args := #[(Operand.tmp 36)], argTypes := #[37] })⟩, ⟨(some 4), none, (Op.assign (Operand.tmp 37))⟩]) .ret)))))
def k24 : Nat → List (Nat × Option Nat) × List Nat := fun | 0 => ([(3, none), (5, some 27), (10, none), (11, none), (12, none)], []) | 2 => ([(3, none), (5, some 27), (10, none), (11, none), (12, none), (17, none), (18, none), (19, none)], []) | _ => ([], [])
/- gleaningref28.all -/
def c25_4 : CC := (.seq (.seq (.run [⟨(some 36), none, (Op.move (Operand.tmp 10))⟩, ⟨(some 37), none, (Op.fieldAddr 51 (Operand.tmp 8) 4)⟩, ⟨(some 38), none, (Op.load 49 (Operand.tmp 37))⟩, ⟨(some 39), none, (Op.call { callee := (Callee.builtin Builtin.len), args := #[(Operand.tmp 38)], argTypes := #[49] })⟩, ⟨(some 40), none, (Op.binOp BinOp.lss 3 (Operand.tmp 36) (Operand.tmp 39) 3)⟩]) (.cond (Operand.tmp 40) .skip (.exit 4))) (.seq (.block 5 (.draw [⟨(some 43), none, (Op.move (Operand.tmp 9))⟩, ⟨(some 44), none, (Op.move (Operand.tmp 43))⟩, ⟨(some 45), (some (44, false)), (Op.load 24 (Operand.tmp 3))⟩, ⟨(some 46), (some (44, false)), (Op.fieldAddr 51 (Operand.tmp 8) 4)⟩, ⟨(some 47), (some (44, false)), (Op.load 49 (Operand.tmp 46))⟩, ⟨(some 48), (some (44, false)), (Op.move (Operand.tmp 10))⟩, ⟨(some 49), (some (44, false)), (Op.indexAddr 49 (Operand.tmp 47) (Operand.tmp 48))⟩, ⟨(some 50), (some (44, false)), (Op.load 30 (Operand.tmp 49))⟩, ⟨(some 51), (some (44, false)), (Op.call { callee := (Callee.value (Operand.func 12)), args := #[(Operand.tmp 45), (Operand.tmp 50)], argTypes := #[24, 30] })⟩, ⟨(some 52), none, (Op.pick (Operand.tmp 44) (Operand.const (Value.bool true)) (Operand.tmp 51))⟩, ⟨(some 9), none, (Op.assign (Operand.tmp 52))⟩] [0, 1, 3, 3, 11, 3, 59, 123, 255, 511, 1023])) (.run [⟨(some 41), none, (Op.move (Operand.tmp 10))⟩, ⟨(some 42), none, (Op.binOp BinOp.add 3 (Operand.tmp 41) (Operand.const (Value.int IntKind.i64 1)) 3)⟩, ⟨(some 10), none, (Op.assign (Operand.tmp 42))⟩])))
def c25_6 : CC := (.seq (.seq (.draw [⟨(some 53), none, (Op.move (Operand.tmp 11))⟩, ⟨(some 54), none, (Op.move (Operand.tmp 5))⟩, ⟨(some 55), none, (Op.call { callee := (Callee.builtin Builtin.len), args := #[(Operand.tmp 54)], argTypes := #[37] })⟩, ⟨(some 56), none, (Op.binOp BinOp.lss 3 (Operand.tmp 53) (Operand.tmp 55) 3)⟩, ⟨(some 57), none, (Op.move (Operand.tmp 56))⟩, ⟨(some 58), (some (57, true)), (Op.move (Operand.tmp 5))⟩, ⟨(some 59), (some (57, true)), (Op.move (Operand.tmp 11))⟩, ⟨(some 60), (some (57, true)), (Op.indexAddr 37 (Operand.tmp 58) (Operand.tmp 59))⟩, ⟨(some 61), (some (57, true)), (Op.load 27 (Operand.tmp 60))⟩, ⟨(some 62), (some (57, true)), (Op.fieldAddr 51 (Operand.tmp 8) 0)⟩, ⟨(some 63), (some (57, true)), (Op.load 27 (Operand.tmp 62))⟩, ⟨(some 64), (some (57, true)), (Op.call { callee := (Callee.value (Operand.func 21)), args := #[(Operand.tmp 61), (Operand.tmp 63)], argTypes := #[27, 27] })⟩, ⟨(some 65), none, (Op.pick (Operand.tmp 57) (Operand.tmp 64) (Operand.const (Value.bool false)))⟩] [0, 0, 2, 7, 15, 31, 31, 127, 255, 31, 543, 2047, 4095]) (.cond (Operand.tmp 65) .skip (.exit 6))) (.block 7 (.run [⟨(some 66), none, (Op.move (Operand.tmp 11))⟩, ⟨(some 67), none, (Op.binOp BinOp.add 3 (Operand.tmp 66) (Operand.const (Value.int IntKind.i64 1)) 3)⟩, ⟨(some 11), none, (Op.assign (Operand.tmp 67))⟩])))
def c25_2 : CC := (.seq (.seq (.run [⟨(some 18), none, (Op.move (Operand.tmp 7))⟩, ⟨(some 19), none, (Op.move (Operand.tmp 0))⟩, ⟨(some 20), none, (Op.move (Operand.tmp 6))⟩, ⟨(some 21), none, (Op.indexAddr 22 (Operand.tmp 19) (Operand.tmp 20))⟩, ⟨(some 22), none, (Op.fieldAddr 45 (Operand.tmp 21) 3)⟩, ⟨(some 23), none, (Op.load 43 (Operand.tmp 22))⟩, ⟨(some 24), none, (Op.call { callee := (Callee.builtin Builtin.len), args := #[(Operand.tmp 23)], argTypes := #[43] })⟩, ⟨(some 25), none, (Op.binOp BinOp.lss 3 (Operand.tmp 18) (Operand.tmp 24) 3)⟩]) (.cond (Operand.tmp 25) .skip (.exit 2))) (.seq (.block 3 (.seq (.run [⟨(some 28), none, (Op.move (Operand.tmp 0))⟩, ⟨(some 29), none, (Op.move (Operand.tmp 6))⟩, ⟨(some 30), none, (Op.indexAddr 22 (Operand.tmp 28) (Operand.tmp 29))⟩, ⟨(some 31), none, (Op.fieldAddr 45 (Operand.tmp 30) 3)⟩, ⟨(some 32), none, (Op.load 43 (Operand.tmp 31))⟩, ⟨(some 33), none, (Op.move (Operand.tmp 7))⟩, ⟨(some 34), none, (Op.indexAddr 43 (Operand.tmp 32) (Operand.tmp 33))⟩, ⟨(some 35), none, (Op.load 51 (Operand.tmp 34))⟩, ⟨(some 8), none, (Op.alloc 51)⟩, ⟨none, none, (Op.store 51 (Operand.tmp 8) (Operand.tmp 35))⟩]) (.seq (.run [⟨(some 9), none, (Op.assign (Operand.const (Value.bool false)))⟩]) (.seq (.seq (.run [⟨(some 10), none, (Op.assign (Operand.const (Value.int IntKind.i64 0)))⟩]) (.block 4 (.loop ([(0, none), (3, none), (5, some 27), (6, none), (7, none), (8, none), (9, none), (10, none)], []) c25_4))) (.seq (.run [⟨(some 11), none, (Op.assign (Operand.const (Value.int IntKind.i64 0)))⟩]) (.seq (.block 6 (.loop ([(0, none), (3, none), (5, some 27), (6, none), (7, none), (8, none), (9, none), (11, none)], []) c25_6)) (.seq (.draw [⟨(some 68), none, (Op.move (Operand.tmp 9))⟩, ⟨(some 69), none, (Op.move (Operand.tmp 68))⟩, ⟨(some 70), (some (69, true)), (Op.move (Operand.tmp 11))⟩, ⟨(some 71), (some (69, true)), (Op.move (Operand.tmp 5))⟩, ⟨(some 72), (some (69, true)), (Op.call { callee := (Callee.builtin Builtin.len), args := #[(Operand.tmp 71)], argTypes := #[37] })⟩, ⟨(some 73), (some (69, true)), (Op.binOp BinOp.eql 3 (Operand.tmp 70) (Operand.tmp 72) 3)⟩, ⟨(some 74), (some (69, true)), (Op.move (Operand.tmp 73))⟩, ⟨(some 75), (some (74, false)), (Op.move (Operand.tmp 5))⟩, ⟨(some 76), (some (74, false)), (Op.move (Operand.tmp 11))⟩, ⟨(some 77), (some (74, false)), (Op.indexAddr 37 (Operand.tmp 75) (Operand.tmp 76))⟩, ⟨(some 78), (some (74, false)), (Op.load 27 (Operand.tmp 77))⟩, ⟨(some 79), (some (74, false)), (Op.fieldAddr 51 (Operand.tmp 8) 0)⟩, ⟨(some 80), (some (74, false)), (Op.load 27 (Operand.tmp 79))⟩, ⟨(some 81), (some (74, false)), (Op.binOp BinOp.neq 27 (Operand.tmp 78) (Operand.tmp 80) 27)⟩, ⟨(some 82), (some (69, true)), (Op.pick (Operand.tmp 74) (Operand.const (Value.bool true)) (Operand.tmp 81))⟩, ⟨(some 83), none, (Op.pick (Operand.tmp 69) (Operand.tmp 82) (Operand.const (Value.bool false)))⟩] [0, 1, 3, 3, 11, 31, 63, 127, 127, 511, 1023, 127, 2175, 8191, 16383, 32767]) (.cond (Operand.tmp 83) (.draw [⟨(some 84), none, (Op.move (Operand.tmp 5))⟩, ⟨(some 85), none, (Op.move (Operand.tmp 11))⟩, ⟨(some 86), none, (Op.slice 37 (Operand.tmp 84) none (some (Operand.tmp 85)) none)⟩, ⟨(some 87), none, (Op.call { callee := (Callee.builtin Builtin.append), args := #[(Operand.const (Value.slice none 0 0)), (Operand.tmp 86)], argTypes := #[37, 37] })⟩, ⟨(some 88), none, (Op.fieldAddr 51 (Operand.tmp 8) 0)⟩, ⟨(some 89), none, (Op.load 27 (Operand.tmp 88))⟩, ⟨(some 90), none, (Op.buildSlice 37 1 #[(0, (Operand.tmp 89))])⟩, ⟨(some 91), none, (Op.call { callee := (Callee.builtin Builtin.append), args := #[(Operand.tmp 87), (Operand.tmp 90)], argTypes := #[37, 37] })⟩, ⟨(some 92), none, (Op.move (Operand.tmp 5))⟩, ⟨(some 93), none, (Op.move (Operand.tmp 11))⟩, ⟨(some 94), none, (Op.slice 37 (Operand.tmp 92) (some (Operand.tmp 93)) none none)⟩, ⟨(some 95), none, (Op.call { callee := (Callee.builtin Builtin.append), args := #[(Operand.tmp 91), (Operand.tmp 94)], argTypes := #[37, 37] })⟩, ⟨(some 5), none, (Op.assign (Operand.tmp 95))⟩] [0, 0, 3, 7, 0, 16, 48, 127, 0, 0, 768, 2047, 4095]) .skip)))))))) (.run [⟨(some 26), none, (Op.move (Operand.tmp 7))⟩, ⟨(some 27), none, (Op.binOp BinOp.add 3 (Operand.tmp 26) (Operand.const (Value.int IntKind.i64 1)) 3)⟩, ⟨(some 7), none, (Op.assign (Operand.tmp 27))⟩])))
def c25_0 : CC := (.seq (.seq (.run [⟨(some 12), none, (Op.move (Operand.tmp 6))⟩, ⟨(some 13), none, (Op.move (Operand.tmp 0))⟩, ⟨(some 14), none, (Op.call { callee := (Callee.builtin Builtin.len), args := #[(Operand.tmp 13)], argTypes := #[22] })⟩, ⟨(some 15), none, (Op.binOp BinOp.lss 3 (Operand.tmp 12) (Operand.tmp 14) 3)⟩]) (.cond (Operand.tmp 15) .skip (.exit 0))) (.seq (.block 1 (.seq (.run [⟨(some 7), none, (Op.assign (Operand.const (Value.int IntKind.i64 0)))⟩]) (.block 2 (.loop ([(0, none), (3, none), (5, some 27), (6, none), (7, none)], []) c25_2)))) (.run [⟨(some 16), none, (Op.move (Operand.tmp 6))⟩, ⟨(some 17), none, (Op.binOp BinOp.add 3 (Operand.tmp 16) (Operand.const (Value.int IntKind.i64 1)) 3)⟩, ⟨(some 6), none, (Op.assign (Operand.tmp 17))⟩])))
def c25 : CC := (.seq (.run [⟨(some 3), none, (Op.box 24 (Operand.tmp 1))⟩, ⟨(some 4), none, (Op.assign (Operand.const (Value.slice none 0 0)))⟩]) (.seq (.run [⟨(some 5), none, (Op.assign (Operand.const (Value.slice none 0 0)))⟩]) (.seq (.seq (.run [⟨(some 6), none, (Op.assign (Operand.const (Value.int IntKind.i64 0)))⟩]) (.block 0 (.loop ([(0, none), (3, none), (5, some 27), (6, none)], []) c25_0))) (.seq (.run [⟨(some 96), none, (Op.move (Operand.tmp 5))⟩, ⟨(some 4), none, (Op.assign (Operand.tmp 96))⟩]) .ret))))
def k25 : Nat → List (Nat × Option Nat) × List Nat := fun | 0 => ([(0, none), (3, none), (5, some 27), (6, none)], []) | 2 => ([(0, none), (3, none), (5, some 27), (6, none), (7, none)], []) | 4 => ([(0, none), (3, none), (5, some 27), (6, none), (7, none), (8, none), (9, none), (10, none)], []) | 6 => ([(0, none), (3, none), (5, some 27), (6, none), (7, none), (8, none), (9, none), (11, none)], []) | _ => ([], [])
/- gleaningref1.Cap -/

def c26 : CC := (.seq (.run [⟨(some 6), none, (Op.assign (Operand.const (Value.int IntKind.i64 0)))⟩]) (.seq (.block 0 (.seq (.run [⟨(some 8), none, (Op.move (Operand.tmp 0))⟩, ⟨(some 9), none, (Op.move (Operand.tmp 1))⟩, ⟨(some 10), none, (Op.binOp BinOp.lss 3 (Operand.tmp 8) (Operand.tmp 9) 3)⟩, ⟨(some 7), none, (Op.assign (Operand.tmp 10))⟩]) (.cond (Operand.tmp 7) (.seq (.run [⟨(some 11), none, (Op.move (Operand.tmp 1))⟩, ⟨(some 6), none, (Op.assign (Operand.tmp 11))⟩]) .ret) (.seq (.run [⟨(some 13), none, (Op.move (Operand.tmp 0))⟩, ⟨(some 14), none, (Op.move (Operand.tmp 2))⟩, ⟨(some 15), none, (Op.binOp BinOp.gtr 3 (Operand.tmp 13) (Operand.tmp 14) 3)⟩, ⟨(some 12), none, (Op.assign (Operand.tmp 15))⟩]) (.cond (Operand.tmp 12) (.seq (.run [⟨(some 16), none, (Op.move (Operand.tmp 2))⟩, ⟨(some 6), none, (Op.assign (Operand.tmp 16))⟩]) .ret) .skip))))) (.seq (.run [⟨(some 17), none, (Op.move (Operand.tmp 0))⟩, ⟨(some 6), none, (Op.assign (Operand.tmp 17))⟩]) .ret)))
def k26 : Nat → List (Nat × Option Nat) × List Nat := fun _ => ([], [])
/- gleaningref15.Make -/
def c27_2 : CC := (.seq (.seq (.draw [⟨(some 25), none, (Op.move (Operand.tmp 11))⟩, ⟨(some 26), none, (Op.binOp BinOp.gtr 3 (Operand.tmp 25) (Operand.const (Value.int IntKind.i64 0)) 3)⟩, ⟨(some 27), none, (Op.move (Operand.tmp 26))⟩, ⟨(some 28), (some (27, true)), (Op.move (Operand.tmp 3))⟩, ⟨(some 29), (some (27, true)), (Op.move (Operand.tmp 10))⟩, ⟨(some 30), (some (27, true)), (Op.indexAddr 43 (Operand.tmp 28) (Operand.tmp 29))⟩, ⟨(some 31), (some (27, true)), (Op.fieldAddr 51 (Operand.tmp 30) 0)⟩, ⟨(some 32), (some (27, true)), (Op.load 27 (Operand.tmp 31))⟩, ⟨(some 33), (some (27, true)), (Op.fieldAddr 45 (Operand.tmp 9) 3)⟩, ⟨(some 34), (some (27, true)), (Op.load 43 (Operand.tmp 33))⟩, ⟨(some 35), (some (27, true)), (Op.move (Operand.tmp 11))⟩, ⟨(some 36), (some (27, true)), (Op.binOp BinOp.sub 3 (Operand.tmp 35) (Operand.const (Value.int IntKind.i64 1)) 3)⟩, ⟨(some 37), (some (27, true)), (Op.indexAddr 43 (Operand.tmp 34) (Operand.tmp 36))⟩, ⟨(some 38), (some (27, true)), (Op.fieldAddr 51 (Operand.tmp 37) 0)⟩, ⟨(some 39), (some (27, true)), (Op.load 27 (Operand.tmp 38))⟩, ⟨(some 40), (some (27, true)), (Op.call { callee := (Callee.value (Operand.func 21)), args := #[(Operand.tmp 32), (Operand.tmp 39)], argTypes := #[27, 27] })⟩, ⟨(some 41), none, (Op.pick (Operand.tmp 27) (Operand.tmp 40) (Operand.const (Value.bool false)))⟩] [0, 1, 3, 7, 7, 31, 63, 127, 7, 263, 7, 1031, 3847, 7943, 16135, 32767, 65535]) (.cond (Operand.tmp 41) .skip (.exit 2))) (.block 3 (.run [⟨(some 42), none, (Op.move (Operand.tmp 11))⟩, ⟨(some 43), none, (Op.binOp BinOp.sub 3 (Operand.tmp 42) (Operand.const (Value.int IntKind.i64 1)) 3)⟩, ⟨(some 11), none, (Op.assign (Operand.tmp 43))⟩])))
def c27_0 : CC := (.seq (.seq (.run [⟨(some 16), none, (Op.move (Operand.tmp 10))⟩, ⟨(some 17), none, (Op.move (Operand.tmp 3))⟩, ⟨(some 18), none, (Op.call { callee := (Callee.builtin Builtin.len), args := #[(Operand.tmp 17)], argTypes := #[43] })⟩, ⟨(some 19), none, (Op.binOp BinOp.lss 3 (Operand.tmp 16) (Operand.tmp 18) 3)⟩]) (.cond (Operand.tmp 19) .skip (.exit 0))) (.seq (.block 1 (.seq (.run [⟨(some 22), none, (Op.fieldAddr 45 (Operand.tmp 9) 3)⟩, ⟨(some 23), none, (Op.load 43 (Operand.tmp 22))⟩, ⟨(some 24), none, (Op.call { callee := (Callee.builtin Builtin.len), args := #[(Operand.tmp 23)], argTypes := #[43] })⟩, ⟨(some 11), none, (Op.assign (Operand.tmp 24))⟩]) (.seq (.block 2 (.loop ([(3, none), (8, none), (9, none), (10, none), (11, none)], []) c27_2)) (.draw [⟨(some 44), none, (Op.fieldAddr 45 (Operand.tmp 9) 3)⟩, ⟨(some 45), none, (Op.load 43 (Operand.tmp 44))⟩, ⟨(some 46), none, (Op.move (Operand.tmp 11))⟩, ⟨(some 47), none, (Op.slice 43 (Operand.tmp 45) none (some (Operand.tmp 46)) none)⟩, ⟨(some 48), none, (Op.call { callee := (Callee.builtin Builtin.append), args := #[(Operand.const (Value.slice none 0 0)), (Operand.tmp 47)], argTypes := #[43, 43] })⟩, ⟨(some 49), none, (Op.move (Operand.tmp 3))⟩, ⟨(some 50), none, (Op.move (Operand.tmp 10))⟩, ⟨(some 51), none, (Op.indexAddr 43 (Operand.tmp 49) (Operand.tmp 50))⟩, ⟨(some 52), none, (Op.load 51 (Operand.tmp 51))⟩, ⟨(some 53), none, (Op.buildSlice 43 1 #[(0, (Operand.tmp 52))])⟩, ⟨(some 54), none, (Op.call { callee := (Callee.builtin Builtin.append), args := #[(Operand.tmp 48), (Operand.tmp 53)], argTypes := #[43, 43] })⟩, ⟨(some 55), none, (Op.fieldAddr 45 (Operand.tmp 9) 3)⟩, ⟨(some 56), none, (Op.load 43 (Operand.tmp 55))⟩, ⟨(some 57), none, (Op.move (Operand.tmp 11))⟩, ⟨(some 58), none, (Op.slice 43 (Operand.tmp 56) (some (Operand.tmp 57)) none none)⟩, ⟨(some 59), none, (Op.call { callee := (Callee.builtin Builtin.append), args := #[(Operand.tmp 54), (Operand.tmp 58)], argTypes := #[43, 43] })⟩, ⟨(some 60), none, (Op.fieldAddr 45 (Operand.tmp 9) 3)⟩, ⟨none, none, (Op.store 43 (Operand.tmp 60) (Operand.tmp 59))⟩] [0, 1, 0, 7, 15, 0, 0, 96, 224, 480, 1023, 0, 2048, 0, 14336, 32767, 65535, 131071])))) (.run [⟨(some 20), none, (Op.move (Operand.tmp 10))⟩, ⟨(some 21), none, (Op.binOp BinOp.add 3 (Operand.tmp 20) (Operand.const (Value.int IntKind.i64 1)) 3)⟩, ⟨(some 10), none, (Op.assign (Operand.tmp 21))⟩])))
def c27 : CC := (.seq (.run [⟨(some 8), none, (Op.alloc 45)⟩]) (.seq (.run [⟨(some 12), none, (Op.move (Operand.tmp 0))⟩, ⟨(some 13), none, (Op.move (Operand.tmp 1))⟩, ⟨(some 14), none, (Op.move (Operand.tmp 2))⟩, ⟨(some 15), none, (Op.build 45 #[(0, (Operand.tmp 12)), (1, (Operand.tmp 13)), (2, (Operand.tmp 14))])⟩, ⟨(some 9), none, (Op.alloc 45)⟩, ⟨none, none, (Op.store 45 (Operand.tmp 9) (Operand.tmp 15))⟩]) (.seq (.seq (.run [⟨(some 10), none, (Op.assign (Operand.const (Value.int IntKind.i64 0)))⟩]) (.block 0 (.loop ([(3, none), (8, none), (9, none), (10, none)], []) c27_0))) (.seq (.run [⟨(some 61), none, (Op.load 45 (Operand.tmp 9))⟩, ⟨none, none, (Op.store 45 (Operand.tmp 8) (Operand.tmp 61))⟩]) .ret))))
def k27 : Nat → List (Nat × Option Nat) × List Nat := fun | 0 => ([(3, none), (8, none), (9, none), (10, none)], []) | 2 => ([(3, none), (8, none), (9, none), (10, none), (11, none)], []) | _ => ([], [])
/- gleaninglaw3.FewAll -/
def c28_0 : CC := (.seq (.seq (.run [⟨(some 7), none, (Op.move (Operand.tmp 3))⟩, ⟨(some 8), none, (Op.move (Operand.tmp 0))⟩, ⟨(some 9), none, (Op.call { callee := (Callee.builtin Builtin.len), args := #[(Operand.tmp 8)], argTypes := #[49] })⟩, ⟨(some 10), none, (Op.binOp BinOp.lss 3 (Operand.tmp 7) (Operand.tmp 9) 3)⟩]) (.cond (Operand.tmp 10) .skip (.exit 0))) (.seq (.block 1 (.seq (.run [⟨(some 13), none, (Op.move (Operand.tmp 0))⟩, ⟨(some 14), none, (Op.move (Operand.tmp 3))⟩, ⟨(some 15), none, (Op.indexAddr 49 (Operand.tmp 13) (Operand.tmp 14))⟩, ⟨(some 16), none, (Op.load 30 (Operand.tmp 15))⟩, ⟨(some 17), none, (Op.call { callee := (Callee.value (Operand.func 10)), args := #[(Operand.tmp 16)], argTypes := #[30] })⟩, ⟨(some 18), none, (Op.unOp UnOp.not 4 (Operand.tmp 17))⟩]) (.cond (Operand.tmp 18) (.seq (.run [⟨(some 2), none, (Op.assign (Operand.const (Value.bool false)))⟩]) .ret) .skip))) (.run [⟨(some 11), none, (Op.move (Operand.tmp 3))⟩, ⟨(some 12), none, (Op.binOp BinOp.add 3 (Operand.tmp 11) (Operand.const (Value.int IntKind.i64 1)) 3)⟩, ⟨(some 3), none, (Op.assign (Operand.tmp 12))⟩])))
def c28 : CC := (.seq (.run [⟨(some 2), none, (Op.assign (Operand.const (Value.bool false)))⟩]) (.seq (.seq (.run [⟨(some 4), none, (Op.move (Operand.tmp 0))⟩, ⟨(some 5), none, (Op.call { callee := (Callee.builtin Builtin.len), args := #[(Operand.tmp 4)], argTypes := #[49] })⟩, ⟨(some 6), none, (Op.binOp BinOp.gtr 3 (Operand.tmp 5) (Operand.const (Value.int IntKind.i64 60)) 3)⟩]) (.cond (Operand.tmp 6) (.seq (.run [⟨(some 2), none, (Op.assign (Operand.const (Value.bool false)))⟩]) .ret) .skip)) (.seq (.seq (.run [⟨(some 3), none, (Op.assign (Operand.const (Value.int IntKind.i64 0)))⟩]) (.block 0 (.loop ([(0, none), (3, none)], []) c28_0))) (.seq (.run [⟨(some 2), none, (Op.assign (Operand.const (Value.bool true)))⟩]) .ret))))
def k28 : Nat → List (Nat × Option Nat) × List Nat := fun | 0 => ([(0, none), (3, none)], []) | _ => ([], [])
/- slices.Index[[]api.Attr,api.Attr] -/
def c29_0 : CC := (.seq (.run [⟨(some 9), none, (Op.binOp BinOp.lss 3 (Operand.tmp 8) (Operand.tmp 7) 3)⟩]) (.seq (.cond (Operand.tmp 9) .skip (.exit 0)) (.seq (.block 1 (.seq (.run [⟨(some 10), none, (Op.move (Operand.tmp 8))⟩, ⟨(some 5), none, (Op.assign (Operand.tmp 10))⟩]) (.seq (.draw [⟨(some 11), none, (Op.load 54 (Operand.tmp 3))⟩, ⟨(some 12), none, (Op.move (Operand.tmp 0))⟩, ⟨(some 13), none, (Op.move (Operand.tmp 5))⟩, ⟨(some 14), none, (Op.indexAddr 28 (Operand.tmp 12) (Operand.tmp 13))⟩, ⟨(some 15), none, (Op.load 54 (Operand.tmp 14))⟩, ⟨(some 16), none, (Op.binOp BinOp.eql 54 (Operand.tmp 11) (Operand.tmp 15) 54)⟩] [0, 0, 0, 6, 14, 31]) (.cond (Operand.tmp 16) (.seq (.run [⟨(some 17), none, (Op.move (Operand.tmp 5))⟩, ⟨(some 4), none, (Op.assign (Operand.tmp 17))⟩]) .ret) .skip)))) (.run [⟨(some 18), none, (Op.binOp BinOp.add 3 (Operand.tmp 8) (Operand.const (Value.int IntKind.i64 1)) 3)⟩, ⟨(some 8), none, (Op.move (Operand.tmp 18))⟩]))))
def c29 : CC := (.seq (.run [⟨(some 3), none, (Op.box 54 (Operand.tmp 1))⟩, ⟨(some 4), none, (Op.assign (Operand.const (Value.int IntKind.i64 0)))⟩]) (.seq (.seq (.run [⟨(some 6), none, (Op.move (Operand.tmp 0))⟩, ⟨(some 7), none, (Op.call { callee := (Callee.builtin Builtin.len), args := #[(Operand.tmp 6)], argTypes := #[28] })⟩, ⟨(some 8), none, (Op.move (Operand.const (Value.int IntKind.i64 0)))⟩]) (.block 0 (.loop ([(0, none), (3, none), (7, none), (8, none)], []) c29_0))) (.seq (.run [⟨(some 4), none, (Op.assign (Operand.const (Value.int IntKind.i64 (-1))))⟩]) .ret)))
def k29 : Nat → List (Nat × Option Nat) × List Nat := fun | 0 => ([(0, none), (3, none), (7, none), (8, none)], []) | _ => ([], [])
/- slices.ContainsFunc[[]api.Span,api.Span] -/

def c30 : CC := (.seq (.run [⟨(some 4), none, (Op.assign (Operand.const (Value.bool false)))⟩]) (.seq (.run [⟨(some 5), none, (Op.move (Operand.tmp 0))⟩, ⟨(some 6), none, (Op.move (Operand.tmp 1))⟩, ⟨(some 7), none, (Op.call { callee := (Callee.value (Operand.func 35)), args := #[(Operand.tmp 5), (Operand.tmp 6)], argTypes := #[49, 34] })⟩, ⟨(some 8), none, (Op.binOp BinOp.geq 3 (Operand.tmp 7) (Operand.const (Value.int IntKind.i64 0)) 3)⟩, ⟨(some 4), none, (Op.assign (Operand.tmp 8))⟩]) .ret))
def k30 : Nat → List (Nat × Option Nat) × List Nat := fun _ => ([], [])
/- search.all$1 -/

def c31 : CC := (.seq (.run [⟨(some 2), none, (Op.box 30 (Operand.tmp 0))⟩, ⟨(some 3), none, (Op.assign (Operand.const (Value.bool false)))⟩]) (.seq (.run [⟨(some 4), none, (Op.load 24 (Operand.tmp 1))⟩, ⟨(some 5), none, (Op.load 30 (Operand.tmp 2))⟩, ⟨(some 6), none, (Op.call { callee := (Callee.value (Operand.func 11)), args := #[(Operand.tmp 4), (Operand.tmp 5)], argTypes := #[24, 30] })⟩, ⟨(some 3), none, (Op.assign (Operand.tmp 6))⟩]) .ret))
def k31 : Nat → List (Nat × Option Nat) × List Nat := fun _ => ([], [])
/- search.compare -/

def c33 : CC := (.seq (.run [⟨(some 2), none, (Op.box 27 (Operand.tmp 0))⟩, ⟨(some 3), none, (Op.box 27 (Operand.tmp 1))⟩, ⟨(some 4), none, (Op.assign (Operand.const (Value.int IntKind.i64 0)))⟩]) (.seq (.draw [⟨(some 5), none, (Op.fieldAddr 27 (Operand.tmp 2) 0)⟩, ⟨(some 6), none, (Op.load 25 (Operand.tmp 5))⟩, ⟨(some 7), none, (Op.fieldAddr 27 (Operand.tmp 3) 0)⟩, ⟨(some 8), none, (Op.load 25 (Operand.tmp 7))⟩, ⟨(some 9), none, (Op.call { callee := (Callee.value (Operand.func 39)), args := #[(Operand.tmp 6), (Operand.tmp 8)], argTypes := #[25, 25] })⟩, ⟨(some 10), none, (Op.fieldAddr 27 (Operand.tmp 2) 1)⟩, ⟨(some 11), none, (Op.load 25 (Operand.tmp 10))⟩, ⟨(some 12), none, (Op.fieldAddr 27 (Operand.tmp 3) 1)⟩, ⟨(some 13), none, (Op.load 25 (Operand.tmp 12))⟩, ⟨(some 14), none, (Op.call { callee := (Callee.value (Operand.func 39)), args := #[(Operand.tmp 11), (Operand.tmp 13)], argTypes := #[25, 25] })⟩, ⟨(some 15), none, (Op.buildSlice 82 2 #[(0, (Operand.tmp 9)), (1, (Operand.tmp 14))])⟩, ⟨(some 16), none, (Op.call { callee := (Callee.value (Operand.func 38)), args := #[(Operand.tmp 15)], argTypes := #[82] })⟩, ⟨(some 4), none, (Op.assign (Operand.tmp 16))⟩] [0, 1, 0, 4, 15, 0, 32, 0, 128, 511, 1023, 2047, 4095]) .ret))
def k33 : Nat → List (Nat × Option Nat) × List Nat := fun _ => ([], [])
/- slices.Compact[[]api.Trace,api.Trace] -/
def c34_2 : CC := (.seq (.seq (.run [⟨(some 29), none, (Op.move (Operand.tmp 5))⟩, ⟨(some 30), none, (Op.move (Operand.tmp 4))⟩, ⟨(some 31), none, (Op.call { callee := (Callee.builtin Builtin.len), args := #[(Operand.tmp 30)], argTypes := #[37] })⟩, ⟨(some 32), none, (Op.binOp BinOp.lss 3 (Operand.tmp 29) (Operand.tmp 31) 3)⟩]) (.cond (Operand.tmp 32) .skip (.exit 2))) (.seq (.block 3 (.seq (.draw [⟨(some 35), none, (Op.move (Operand.tmp 4))⟩, ⟨(some 36), none, (Op.move (Operand.tmp 5))⟩, ⟨(some 37), none, (Op.indexAddr 37 (Operand.tmp 35) (Operand.tmp 36))⟩, ⟨(some 38), none, (Op.load 27 (Operand.tmp 37))⟩, ⟨(some 39), none, (Op.move (Operand.tmp 4))⟩, ⟨(some 40), none, (Op.move (Operand.tmp 5))⟩, ⟨(some 41), none, (Op.binOp BinOp.sub 3 (Operand.tmp 40) (Operand.const (Value.int IntKind.i64 1)) 3)⟩, ⟨(some 42), none, (Op.indexAddr 37 (Operand.tmp 39) (Operand.tmp 41))⟩, ⟨(some 43), none, (Op.load 27 (Operand.tmp 42))⟩, ⟨(some 44), none, (Op.binOp BinOp.neq 27 (Operand.tmp 38) (Operand.tmp 43) 27)⟩] [0, 0, 3, 7, 0, 0, 32, 112, 240, 511]) (.cond (Operand.tmp 44) (.seq (.run [⟨(some 45), none, (Op.move (Operand.tmp 0))⟩, ⟨(some 46), none, (Op.move (Operand.tmp 3))⟩, ⟨(some 47), none, (Op.move (Operand.tmp 4))⟩, ⟨(some 48), none, (Op.move (Operand.tmp 5))⟩, ⟨(some 49), none, (Op.indexAddr 37 (Operand.tmp 47) (Operand.tmp 48))⟩, ⟨(some 50), none, (Op.load 27 (Operand.tmp 49))⟩, ⟨(some 51), none, (Op.indexAddr 37 (Operand.tmp 45) (Operand.tmp 46))⟩, ⟨none, none, (Op.store 27 (Operand.tmp 51) (Operand.tmp 50))⟩]) (.run [⟨(some 52), none, (Op.move (Operand.tmp 3))⟩, ⟨(some 53), none, (Op.binOp BinOp.add 3 (Operand.tmp 52) (Operand.const (Value.int IntKind.i64 1)) 3)⟩, ⟨(some 3), none, (Op.assign (Operand.tmp 53))⟩])) .skip))) (.run [⟨(some 33), none, (Op.move (Operand.tmp 5))⟩, ⟨(some 34), none, (Op.binOp BinOp.add 3 (Operand.tmp 33) (Operand.const (Value.int IntKind.i64 1)) 3)⟩, ⟨(some 5), none, (Op.assign (Operand.tmp 34))⟩])))
def c34_0 : CC := (.seq (.seq (.run [⟨(some 10), none, (Op.move (Operand.tmp 3))⟩, ⟨(some 11), none, (Op.move (Operand.tmp 0))⟩, ⟨(some 12), none, (Op.call { callee := (Callee.builtin Builtin.len), args := #[(Operand.tmp 11)], argTypes := #[37] })⟩, ⟨(some 13), none, (Op.binOp BinOp.lss 3 (Operand.tmp 10) (Operand.tmp 12) 3)⟩]) (.cond (Operand.tmp 13) .skip (.exit 0))) (.seq (.block 1 (.seq (.draw [⟨(some 16), none, (Op.move (Operand.tmp 0))⟩, ⟨(some 17), none, (Op.move (Operand.tmp 3))⟩, ⟨(some 18), none, (Op.indexAddr 37 (Operand.tmp 16) (Operand.tmp 17))⟩, ⟨(some 19), none, (Op.load 27 (Operand.tmp 18))⟩, ⟨(some 20), none, (Op.move (Operand.tmp 0))⟩, ⟨(some 21), none, (Op.move (Operand.tmp 3))⟩, ⟨(some 22), none, (Op.binOp BinOp.sub 3 (Operand.tmp 21) (Operand.const (Value.int IntKind.i64 1)) 3)⟩, ⟨(some 23), none, (Op.indexAddr 37 (Operand.tmp 20) (Operand.tmp 22))⟩, ⟨(some 24), none, (Op.load 27 (Operand.tmp 23))⟩, ⟨(some 25), none, (Op.binOp BinOp.eql 27 (Operand.tmp 19) (Operand.tmp 24) 27)⟩] [0, 0, 3, 7, 0, 0, 32, 112, 240, 511]) (.cond (Operand.tmp 25) (.seq (.run [⟨(some 26), none, (Op.move (Operand.tmp 0))⟩, ⟨(some 27), none, (Op.move (Operand.tmp 3))⟩, ⟨(some 28), none, (Op.slice 37 (Operand.tmp 26) (some (Operand.tmp 27)) none none)⟩, ⟨(some 4), none, (Op.assign (Operand.tmp 28))⟩]) (.seq (.seq (.run [⟨(some 5), none, (Op.assign (Operand.const (Value.int IntKind.i64 1)))⟩]) (.block 2 (.loop ([(0, none), (3, none), (4, none), (5, none)], []) c34_2))) (.seq (.run [⟨(some 54), none, (Op.move (Operand.tmp 0))⟩, ⟨(some 55), none, (Op.move (Operand.tmp 3))⟩, ⟨(some 56), none, (Op.slice 37 (Operand.tmp 54) (some (Operand.tmp 55)) none none)⟩, ⟨none, none, (Op.call { callee := (Callee.builtin Builtin.clear), args := #[(Operand.tmp 56)], argTypes := #[37] })⟩]) (.seq (.run [⟨(some 57), none, (Op.move (Operand.tmp 0))⟩, ⟨(some 58), none, (Op.move (Operand.tmp 3))⟩, ⟨(some 59), none, (Op.slice 37 (Operand.tmp 57) none (some (Operand.tmp 58)) none)⟩, ⟨(some 2), none, (Op.assign (Operand.tmp 59))⟩]) .ret)))) .skip))) (.run [⟨(some 14), none, (Op.move (Operand.tmp 3))⟩, ⟨(some 15), none, (Op.binOp BinOp.add 3 (Operand.tmp 14) (Operand.const (Value.int IntKind.i64 1)) 3)⟩, ⟨(some 3), none, (Op.assign (Operand.tmp 15))⟩])))
def c34 : CC := (.seq (.run [⟨(some 2), none, (Op.assign (Operand.const (Value.slice none 0 0)))⟩]) (.seq (.seq (.run [⟨(some 6), none, (Op.move (Operand.tmp 0))⟩, ⟨(some 7), none, (Op.call { callee := (Callee.builtin Builtin.len), args := #[(Operand.tmp 6)], argTypes := #[37] })⟩, ⟨(some 8), none, (Op.binOp BinOp.lss 3 (Operand.tmp 7) (Operand.const (Value.int IntKind.i64 2)) 3)⟩]) (.cond (Operand.tmp 8) (.seq (.run [⟨(some 9), none, (Op.move (Operand.tmp 0))⟩, ⟨(some 2), none, (Op.assign (Operand.tmp 9))⟩]) .ret) .skip)) (.seq (.seq (.run [⟨(some 3), none, (Op.assign (Operand.const (Value.int IntKind.i64 1)))⟩]) (.block 0 (.loop ([(0, none), (3, none)], []) c34_0))) (.seq (.run [⟨(some 60), none, (Op.move (Operand.tmp 0))⟩, ⟨(some 2), none, (Op.assign (Operand.tmp 60))⟩]) .ret))))
def k34 : Nat → List (Nat × Option Nat) × List Nat := fun | 0 => ([(0, none), (3, none)], []) | 2 => ([(0, none), (3, none), (4, none), (5, none)], []) | _ => ([], [])
/- slices.IndexFunc[[]api.Span,api.Span] -/
def c35_0 : CC := (.seq (.run [⟨(some 9), none, (Op.binOp BinOp.lss 3 (Operand.tmp 8) (Operand.tmp 7) 3)⟩]) (.seq (.cond (Operand.tmp 9) .skip (.exit 0)) (.seq (.block 1 (.seq (.run [⟨(some 10), none, (Op.move (Operand.tmp 8))⟩, ⟨(some 5), none, (Op.assign (Operand.tmp 10))⟩]) (.seq (.run [⟨(some 11), none, (Op.move (Operand.tmp 1))⟩, ⟨(some 12), none, (Op.move (Operand.tmp 0))⟩, ⟨(some 13), none, (Op.move (Operand.tmp 5))⟩, ⟨(some 14), none, (Op.indexAddr 49 (Operand.tmp 12) (Operand.tmp 13))⟩, ⟨(some 15), none, (Op.load 30 (Operand.tmp 14))⟩, ⟨(some 16), none, (Op.call { callee := (Callee.value (Operand.tmp 11)), args := #[(Operand.tmp 15)], argTypes := #[30] })⟩]) (.cond (Operand.tmp 16) (.seq (.run [⟨(some 17), none, (Op.move (Operand.tmp 5))⟩, ⟨(some 4), none, (Op.assign (Operand.tmp 17))⟩]) .ret) .skip)))) (.run [⟨(some 18), none, (Op.binOp BinOp.add 3 (Operand.tmp 8) (Operand.const (Value.int IntKind.i64 1)) 3)⟩, ⟨(some 8), none, (Op.move (Operand.tmp 18))⟩]))))
def c35 : CC := (.seq (.run [⟨(some 4), none, (Op.assign (Operand.const (Value.int IntKind.i64 0)))⟩]) (.seq (.seq (.run [⟨(some 6), none, (Op.move (Operand.tmp 0))⟩, ⟨(some 7), none, (Op.call { callee := (Callee.builtin Builtin.len), args := #[(Operand.tmp 6)], argTypes := #[49] })⟩, ⟨(some 8), none, (Op.move (Operand.const (Value.int IntKind.i64 0)))⟩]) (.block 0 (.loop ([(0, none), (1, none), (7, none), (8, none)], []) c35_0))) (.seq (.run [⟨(some 4), none, (Op.assign (Operand.const (Value.int IntKind.i64 (-1))))⟩]) .ret)))
def k35 : Nat → List (Nat × Option Nat) × List Nat := fun | 0 => ([(0, none), (1, none), (7, none), (8, none)], []) | _ => ([], [])
/- cmp.Or[int] -/
def c38_0 : CC := (.seq (.run [⟨(some 9), none, (Op.binOp BinOp.lss 3 (Operand.tmp 8) (Operand.tmp 7) 3)⟩]) (.seq (.cond (Operand.tmp 9) .skip (.exit 0)) (.seq (.block 1 (.seq (.run [⟨(some 10), none, (Op.indexAddr 82 (Operand.tmp 6) (Operand.tmp 8))⟩, ⟨(some 11), none, (Op.load 3 (Operand.tmp 10))⟩, ⟨(some 5), none, (Op.assign (Operand.tmp 11))⟩]) (.seq (.run [⟨(some 12), none, (Op.move (Operand.tmp 5))⟩, ⟨(some 13), none, (Op.move (Operand.tmp 3))⟩, ⟨(some 14), none, (Op.binOp BinOp.neq 3 (Operand.tmp 12) (Operand.tmp 13) 3)⟩]) (.cond (Operand.tmp 14) (.seq (.run [⟨(some 15), none, (Op.move (Operand.tmp 5))⟩, ⟨(some 2), none, (Op.assign (Operand.tmp 15))⟩]) .ret) .skip)))) (.run [⟨(some 16), none, (Op.binOp BinOp.add 3 (Operand.tmp 8) (Operand.const (Value.int IntKind.i64 1)) 3)⟩, ⟨(some 8), none, (Op.move (Operand.tmp 16))⟩]))))
def c38 : CC := (.seq (.run [⟨(some 2), none, (Op.assign (Operand.const (Value.int IntKind.i64 0)))⟩]) (.seq (.run [⟨(some 3), none, (Op.assign (Operand.const (Value.int IntKind.i64 0)))⟩]) (.seq (.seq (.run [⟨(some 6), none, (Op.move (Operand.tmp 0))⟩, ⟨(some 7), none, (Op.call { callee := (Callee.builtin Builtin.len), args := #[(Operand.tmp 6)], argTypes := #[82] })⟩, ⟨(some 8), none, (Op.move (Operand.const (Value.int IntKind.i64 0)))⟩]) (.block 0 (.loop ([(3, none), (6, none), (7, none), (8, none)], []) c38_0))) (.seq (.run [⟨(some 17), none, (Op.move (Operand.tmp 3))⟩, ⟨(some 2), none, (Op.assign (Operand.tmp 17))⟩]) .ret))))
def k38 : Nat → List (Nat × Option Nat) × List Nat := fun | 0 => ([(3, none), (6, none), (7, none), (8, none)], []) | _ => ([], [])
/- cmp.Compare[uint64] -/

def c39 : CC := (.seq (.run [⟨(some 4), none, (Op.assign (Operand.const (Value.int IntKind.i64 0)))⟩]) (.seq (.run [⟨(some 7), none, (Op.move (Operand.tmp 0))⟩, ⟨(some 8), none, (Op.call { callee := (Callee.value (Operand.func 50)), args := #[(Operand.tmp 7)], argTypes := #[25] })⟩, ⟨(some 5), none, (Op.assign (Operand.tmp 8))⟩]) (.seq (.run [⟨(some 9), none, (Op.move (Operand.tmp 1))⟩, ⟨(some 10), none, (Op.call { callee := (Callee.value (Operand.func 50)), args := #[(Operand.tmp 9)], argTypes := #[25] })⟩, ⟨(some 6), none, (Op.assign (Operand.tmp 10))⟩]) (.seq (.seq (.run [⟨(some 11), none, (Op.move (Operand.tmp 5))⟩]) (.cond (Operand.tmp 11) (.seq (.seq (.run [⟨(some 12), none, (Op.move (Operand.tmp 6))⟩]) (.cond (Operand.tmp 12) (.seq (.run [⟨(some 4), none, (Op.assign (Operand.const (Value.int IntKind.i64 0)))⟩]) .ret) .skip)) (.seq (.run [⟨(some 4), none, (Op.assign (Operand.const (Value.int IntKind.i64 (-1))))⟩]) .ret)) .skip)) (.seq (.seq (.run [⟨(some 13), none, (Op.move (Operand.tmp 6))⟩]) (.cond (Operand.tmp 13) (.seq (.run [⟨(some 4), none, (Op.assign (Operand.const (Value.int IntKind.i64 1)))⟩]) .ret) .skip)) (.seq (.seq (.run [⟨(some 14), none, (Op.move (Operand.tmp 0))⟩, ⟨(some 15), none, (Op.move (Operand.tmp 1))⟩, ⟨(some 16), none, (Op.binOp BinOp.lss 25 (Operand.tmp 14) (Operand.tmp 15) 25)⟩]) (.cond (Operand.tmp 16) (.seq (.run [⟨(some 4), none, (Op.assign (Operand.const (Value.int IntKind.i64 (-1))))⟩]) .ret) .skip)) (.seq (.seq (.run [⟨(some 17), none, (Op.move (Operand.tmp 0))⟩, ⟨(some 18), none, (Op.move (Operand.tmp 1))⟩, ⟨(some 19), none, (Op.binOp BinOp.gtr 25 (Operand.tmp 17) (Operand.tmp 18) 25)⟩]) (.cond (Operand.tmp 19) (.seq (.run [⟨(some 4), none, (Op.assign (Operand.const (Value.int IntKind.i64 1)))⟩]) .ret) .skip)) (.seq (.run [⟨(some 4), none, (Op.assign (Operand.const (Value.int IntKind.i64 0)))⟩]) .ret))))))))
def k39 : Nat → List (Nat × Option Nat) × List Nat := fun _ => ([], [])
/- cmp.isNaN[uint64] -/

def c50 : CC := (.seq (.run [⟨(some 2), none, (Op.assign (Operand.const (Value.bool false)))⟩]) (.seq (.run [⟨(some 3), none, (Op.move (Operand.tmp 0))⟩, ⟨(some 4), none, (Op.move (Operand.tmp 0))⟩, ⟨(some 5), none, (Op.binOp BinOp.neq 25 (Operand.tmp 3) (Operand.tmp 4) 25)⟩, ⟨(some 2), none, (Op.assign (Operand.tmp 5))⟩]) .ret))
def k50 : Nat → List (Nat × Option Nat) × List Nat := fun _ => ([], [])
def md : Nat → List Nat
  | 3 => [0, 0, 0, 0]
  | 4 => [0, 0, 0]
  | 5 => [0, 0]
  | 6 => [0, 0, 0]
  | 7 => []
  | 8 => [0]
  | 9 => [0]
  | 10 => [0]
  | 11 => [0, 0]
  | 12 => [0, 0]
  | 13 => [0, 0]
  | 14 => [0, 0, 0]
  | 15 => [0, 0, 0]
  | 16 => [0, 0]
  | 17 => [0, 0]
  | 18 => [0, 0]
  | 19 => [0]
  | 20 => [0, 0, 0]
  | 21 => [0, 0]
  | 22 => [0]
  | 23 => [0, 0]
  | 24 => [0, 0]
  | 25 => [0, 0]
  | 26 => [0, 0, 0]
  | 27 => [0, 0, 0, 0]
  | 28 => [0]
  | 29 => [0, 0]
  | 30 => [0, 0]
  | 31 => [0, 0]
  | 33 => [0, 0]
  | 34 => [1]
  | 35 => [0, 0]
  | 38 => [0]
  | 39 => [0, 0]
  | 50 => [0]
  | _ => []
def rm : Nat → List Nat
  | 3 => [0]
  | 4 => [0]
  | 5 => [0]
  | 6 => [0]
  | 7 => [0]
  | 8 => [0]
  | 9 => [0]
  | 10 => [0]
  | 11 => [0]
  | 12 => [0]
  | 13 => [0]
  | 14 => [1]
  | 15 => [1]
  | 16 => [0]
  | 17 => [0]
  | 18 => [0]
  | 19 => [0]
  | 20 => [0]
  | 21 => [0]
  | 22 => [0]
  | 23 => [0]
  | 24 => [1]
  | 25 => [1]
  | 26 => [0]
  | 27 => [0]
  | 28 => [0]
  | 29 => [0]
  | 30 => [0]
  | 31 => [0]
  | 33 => [0]
  | 34 => [1]
  | 35 => [0]
  | 38 => [0]
  | 39 => [0]
  | 50 => [0]
  | _ => []
def fns : Nat → Option CFn
  | 3 => some ⟨[.tmp 8], [4], c3⟩
  | 4 => some ⟨[.tmp 6], [4], c4⟩
  | 5 => some ⟨[.tmp 4], [4], c5⟩
  | 6 => some ⟨[.tmp 6], [4], c6⟩
  | 7 => some ⟨[.tmp 0], [4], c7⟩
  | 8 => some ⟨[.tmp 2], [4], c8⟩
  | 9 => some ⟨[.tmp 2], [4], c9⟩
  | 10 => some ⟨[.tmp 2], [4], c10⟩
  | 11 => some ⟨[.tmp 4], [4], c11⟩
  | 12 => some ⟨[.tmp 4], [4], c12⟩
  | 13 => some ⟨[.tmp 4], [4], c13⟩
  | 14 => some ⟨[.tmp 6], [37], c14⟩
  | 15 => some ⟨[.tmp 6], [37], c15⟩
  | 16 => some ⟨[.tmp 4], [3], c16⟩
  | 17 => some ⟨[.tmp 4], [3], c17⟩
  | 18 => some ⟨[.tmp 4], [4], c18⟩
  | 19 => some ⟨[.tmp 2], [3], c19⟩
  | 20 => some ⟨[.cell 6 45], [45], c20⟩
  | 21 => some ⟨[.tmp 4], [4], c21⟩
  | 22 => some ⟨[.tmp 2], [4], c22⟩
  | 23 => some ⟨[.tmp 4], [4], c23⟩
  | 24 => some ⟨[.tmp 4], [37], c24⟩
  | 25 => some ⟨[.tmp 4], [37], c25⟩
  | 26 => some ⟨[.tmp 6], [3], c26⟩
  | 27 => some ⟨[.cell 8 45], [45], c27⟩
  | 28 => some ⟨[.tmp 2], [4], c28⟩
  | 29 => some ⟨[.tmp 4], [3], c29⟩
  | 30 => some ⟨[.tmp 4], [4], c30⟩
  | 31 => some ⟨[.tmp 3], [4], c31⟩
  | 33 => some ⟨[.tmp 4], [3], c33⟩
  | 34 => some ⟨[.tmp 2], [37], c34⟩
  | 35 => some ⟨[.tmp 4], [3], c35⟩
  | 38 => some ⟨[.tmp 2], [3], c38⟩
  | 39 => some ⟨[.tmp 4], [3], c39⟩
  | 50 => some ⟨[.tmp 2], [4], c50⟩
  | _ => none
def eqT : Nat → Bool
  | 27 => true
  | 54 => true
  | _ => false
def prT : Nat → List (Option Nat)
  | _ => []
noncomputable def srtT : Nat → Option SortF
  | 32 => some srtTr
  | _ => none
def giv0 : CallF := fun _ _ => none
noncomputable def cx : Cx := { P := Try.prog, md := md, rm := rm, eqT := eqT, pr := prT, giv := giv0, fns := fns, srt := srtT }
@[go_sem] theorem cxP : cx.P = Try.prog := rfl
theorem cxmd : cx.md = md := rfl
theorem cxrm : cx.rm = rm := rfl
@[go_sem] theorem cxeq : cx.eqT = eqT := rfl
theorem cxfns : cx.fns = fns := rfl
@[go_sem] theorem cxgiv (f : Nat) (t : List PV) : cx.giv f t = none := rfl
@[go_sem] theorem cxpr (t : Nat) : cx.pr t = prT t := rfl
attribute [go_sem] prT eqT
@[go_sem] theorem srt_3 : cx.srt 3 = none := rfl
@[go_sem] theorem srt_4 : cx.srt 4 = none := rfl
@[go_sem] theorem srt_5 : cx.srt 5 = none := rfl
@[go_sem] theorem srt_6 : cx.srt 6 = none := rfl
@[go_sem] theorem srt_7 : cx.srt 7 = none := rfl
@[go_sem] theorem srt_8 : cx.srt 8 = none := rfl
@[go_sem] theorem srt_9 : cx.srt 9 = none := rfl
@[go_sem] theorem srt_10 : cx.srt 10 = none := rfl
@[go_sem] theorem srt_11 : cx.srt 11 = none := rfl
@[go_sem] theorem srt_12 : cx.srt 12 = none := rfl
@[go_sem] theorem srt_13 : cx.srt 13 = none := rfl
@[go_sem] theorem srt_14 : cx.srt 14 = none := rfl
@[go_sem] theorem srt_15 : cx.srt 15 = none := rfl
@[go_sem] theorem srt_16 : cx.srt 16 = none := rfl
@[go_sem] theorem srt_17 : cx.srt 17 = none := rfl
@[go_sem] theorem srt_18 : cx.srt 18 = none := rfl
@[go_sem] theorem srt_19 : cx.srt 19 = none := rfl
@[go_sem] theorem srt_20 : cx.srt 20 = none := rfl
@[go_sem] theorem srt_21 : cx.srt 21 = none := rfl
@[go_sem] theorem srt_22 : cx.srt 22 = none := rfl
@[go_sem] theorem srt_23 : cx.srt 23 = none := rfl
@[go_sem] theorem srt_24 : cx.srt 24 = none := rfl
@[go_sem] theorem srt_25 : cx.srt 25 = none := rfl
@[go_sem] theorem srt_26 : cx.srt 26 = none := rfl
@[go_sem] theorem srt_27 : cx.srt 27 = none := rfl
@[go_sem] theorem srt_28 : cx.srt 28 = none := rfl
@[go_sem] theorem srt_29 : cx.srt 29 = none := rfl
@[go_sem] theorem srt_30 : cx.srt 30 = none := rfl
@[go_sem] theorem srt_31 : cx.srt 31 = none := rfl
@[go_sem] theorem srt_32 : cx.srt 32 = some srtTr := rfl
@[go_sem] theorem srt_33 : cx.srt 33 = none := rfl
@[go_sem] theorem srt_34 : cx.srt 34 = none := rfl
@[go_sem] theorem srt_35 : cx.srt 35 = none := rfl
@[go_sem] theorem srt_38 : cx.srt 38 = none := rfl
@[go_sem] theorem srt_39 : cx.srt 39 = none := rfl
@[go_sem] theorem srt_50 : cx.srt 50 = none := rfl
theorem fns_3 : cx.fns 3 = some ⟨[.tmp 8], [4], c3⟩ := rfl
@[go_sem] theorem md_3 : cx.md 3 = [0, 0, 0, 0] := rfl
@[go_sem] theorem rm_3 : cx.rm 3 = [0] := rfl
theorem fns_4 : cx.fns 4 = some ⟨[.tmp 6], [4], c4⟩ := rfl
@[go_sem] theorem md_4 : cx.md 4 = [0, 0, 0] := rfl
@[go_sem] theorem rm_4 : cx.rm 4 = [0] := rfl
theorem fns_5 : cx.fns 5 = some ⟨[.tmp 4], [4], c5⟩ := rfl
@[go_sem] theorem md_5 : cx.md 5 = [0, 0] := rfl
@[go_sem] theorem rm_5 : cx.rm 5 = [0] := rfl
theorem fns_6 : cx.fns 6 = some ⟨[.tmp 6], [4], c6⟩ := rfl
@[go_sem] theorem md_6 : cx.md 6 = [0, 0, 0] := rfl
@[go_sem] theorem rm_6 : cx.rm 6 = [0] := rfl
theorem fns_7 : cx.fns 7 = some ⟨[.tmp 0], [4], c7⟩ := rfl
@[go_sem] theorem md_7 : cx.md 7 = [] := rfl
@[go_sem] theorem rm_7 : cx.rm 7 = [0] := rfl
theorem fns_8 : cx.fns 8 = some ⟨[.tmp 2], [4], c8⟩ := rfl
@[go_sem] theorem md_8 : cx.md 8 = [0] := rfl
@[go_sem] theorem rm_8 : cx.rm 8 = [0] := rfl
theorem fns_9 : cx.fns 9 = some ⟨[.tmp 2], [4], c9⟩ := rfl
@[go_sem] theorem md_9 : cx.md 9 = [0] := rfl
@[go_sem] theorem rm_9 : cx.rm 9 = [0] := rfl
theorem fns_10 : cx.fns 10 = some ⟨[.tmp 2], [4], c10⟩ := rfl
@[go_sem] theorem md_10 : cx.md 10 = [0] := rfl
@[go_sem] theorem rm_10 : cx.rm 10 = [0] := rfl
theorem fns_11 : cx.fns 11 = some ⟨[.tmp 4], [4], c11⟩ := rfl
@[go_sem] theorem md_11 : cx.md 11 = [0, 0] := rfl
@[go_sem] theorem rm_11 : cx.rm 11 = [0] := rfl
theorem fns_12 : cx.fns 12 = some ⟨[.tmp 4], [4], c12⟩ := rfl
@[go_sem] theorem md_12 : cx.md 12 = [0, 0] := rfl
@[go_sem] theorem rm_12 : cx.rm 12 = [0] := rfl
theorem fns_13 : cx.fns 13 = some ⟨[.tmp 4], [4], c13⟩ := rfl
@[go_sem] theorem md_13 : cx.md 13 = [0, 0] := rfl
@[go_sem] theorem rm_13 : cx.rm 13 = [0] := rfl
theorem fns_14 : cx.fns 14 = some ⟨[.tmp 6], [37], c14⟩ := rfl
@[go_sem] theorem md_14 : cx.md 14 = [0, 0, 0] := rfl
@[go_sem] theorem rm_14 : cx.rm 14 = [1] := rfl
theorem fns_15 : cx.fns 15 = some ⟨[.tmp 6], [37], c15⟩ := rfl
@[go_sem] theorem md_15 : cx.md 15 = [0, 0, 0] := rfl
@[go_sem] theorem rm_15 : cx.rm 15 = [1] := rfl
theorem fns_16 : cx.fns 16 = some ⟨[.tmp 4], [3], c16⟩ := rfl
@[go_sem] theorem md_16 : cx.md 16 = [0, 0] := rfl
@[go_sem] theorem rm_16 : cx.rm 16 = [0] := rfl
theorem fns_17 : cx.fns 17 = some ⟨[.tmp 4], [3], c17⟩ := rfl
@[go_sem] theorem md_17 : cx.md 17 = [0, 0] := rfl
@[go_sem] theorem rm_17 : cx.rm 17 = [0] := rfl
theorem fns_18 : cx.fns 18 = some ⟨[.tmp 4], [4], c18⟩ := rfl
@[go_sem] theorem md_18 : cx.md 18 = [0, 0] := rfl
@[go_sem] theorem rm_18 : cx.rm 18 = [0] := rfl
theorem fns_19 : cx.fns 19 = some ⟨[.tmp 2], [3], c19⟩ := rfl
@[go_sem] theorem md_19 : cx.md 19 = [0] := rfl
@[go_sem] theorem rm_19 : cx.rm 19 = [0] := rfl
theorem fns_20 : cx.fns 20 = some ⟨[.cell 6 45], [45], c20⟩ := rfl
@[go_sem] theorem md_20 : cx.md 20 = [0, 0, 0] := rfl
@[go_sem] theorem rm_20 : cx.rm 20 = [0] := rfl
theorem fns_21 : cx.fns 21 = some ⟨[.tmp 4], [4], c21⟩ := rfl
@[go_sem] theorem md_21 : cx.md 21 = [0, 0] := rfl
@[go_sem] theorem rm_21 : cx.rm 21 = [0] := rfl
theorem fns_22 : cx.fns 22 = some ⟨[.tmp 2], [4], c22⟩ := rfl
@[go_sem] theorem md_22 : cx.md 22 = [0] := rfl
@[go_sem] theorem rm_22 : cx.rm 22 = [0] := rfl
theorem fns_23 : cx.fns 23 = some ⟨[.tmp 4], [4], c23⟩ := rfl
@[go_sem] theorem md_23 : cx.md 23 = [0, 0] := rfl
@[go_sem] theorem rm_23 : cx.rm 23 = [0] := rfl
theorem fns_24 : cx.fns 24 = some ⟨[.tmp 4], [37], c24⟩ := rfl
@[go_sem] theorem md_24 : cx.md 24 = [0, 0] := rfl
@[go_sem] theorem rm_24 : cx.rm 24 = [1] := rfl
theorem fns_25 : cx.fns 25 = some ⟨[.tmp 4], [37], c25⟩ := rfl
@[go_sem] theorem md_25 : cx.md 25 = [0, 0] := rfl
@[go_sem] theorem rm_25 : cx.rm 25 = [1] := rfl
theorem fns_26 : cx.fns 26 = some ⟨[.tmp 6], [3], c26⟩ := rfl
@[go_sem] theorem md_26 : cx.md 26 = [0, 0, 0] := rfl
@[go_sem] theorem rm_26 : cx.rm 26 = [0] := rfl
theorem fns_27 : cx.fns 27 = some ⟨[.cell 8 45], [45], c27⟩ := rfl
@[go_sem] theorem md_27 : cx.md 27 = [0, 0, 0, 0] := rfl
@[go_sem] theorem rm_27 : cx.rm 27 = [0] := rfl
theorem fns_28 : cx.fns 28 = some ⟨[.tmp 2], [4], c28⟩ := rfl
@[go_sem] theorem md_28 : cx.md 28 = [0] := rfl
@[go_sem] theorem rm_28 : cx.rm 28 = [0] := rfl
theorem fns_29 : cx.fns 29 = some ⟨[.tmp 4], [3], c29⟩ := rfl
@[go_sem] theorem md_29 : cx.md 29 = [0, 0] := rfl
@[go_sem] theorem rm_29 : cx.rm 29 = [0] := rfl
theorem fns_30 : cx.fns 30 = some ⟨[.tmp 4], [4], c30⟩ := rfl
@[go_sem] theorem md_30 : cx.md 30 = [0, 0] := rfl
@[go_sem] theorem rm_30 : cx.rm 30 = [0] := rfl
theorem fns_31 : cx.fns 31 = some ⟨[.tmp 3], [4], c31⟩ := rfl
@[go_sem] theorem md_31 : cx.md 31 = [0, 0] := rfl
@[go_sem] theorem rm_31 : cx.rm 31 = [0] := rfl
theorem fns_33 : cx.fns 33 = some ⟨[.tmp 4], [3], c33⟩ := rfl
@[go_sem] theorem md_33 : cx.md 33 = [0, 0] := rfl
@[go_sem] theorem rm_33 : cx.rm 33 = [0] := rfl
theorem fns_34 : cx.fns 34 = some ⟨[.tmp 2], [37], c34⟩ := rfl
@[go_sem] theorem md_34 : cx.md 34 = [1] := rfl
@[go_sem] theorem rm_34 : cx.rm 34 = [1] := rfl
theorem fns_35 : cx.fns 35 = some ⟨[.tmp 4], [3], c35⟩ := rfl
@[go_sem] theorem md_35 : cx.md 35 = [0, 0] := rfl
@[go_sem] theorem rm_35 : cx.rm 35 = [0] := rfl
theorem fns_38 : cx.fns 38 = some ⟨[.tmp 2], [3], c38⟩ := rfl
@[go_sem] theorem md_38 : cx.md 38 = [0] := rfl
@[go_sem] theorem rm_38 : cx.rm 38 = [0] := rfl
theorem fns_39 : cx.fns 39 = some ⟨[.tmp 4], [3], c39⟩ := rfl
@[go_sem] theorem md_39 : cx.md 39 = [0, 0] := rfl
@[go_sem] theorem rm_39 : cx.rm 39 = [0] := rfl
theorem fns_50 : cx.fns 50 = some ⟨[.tmp 2], [4], c50⟩ := rfl
@[go_sem] theorem md_50 : cx.md 50 = [0] := rfl
@[go_sem] theorem rm_50 : cx.rm 50 = [0] := rfl
theorem fok_3 : FnOk cx 3 ⟨[.tmp 8], [4], c3⟩ := ⟨⟨Try.f3, Try.f3.body.getD .skip, k3, by kernel_rfl, by kernel_rfl, by kernel_rfl, by kernel_rfl, by kernel_rfl, Nat.le_of_ble_eq_true (by kernel_rfl), by kernel_rfl⟩⟩
theorem fok_4 : FnOk cx 4 ⟨[.tmp 6], [4], c4⟩ := ⟨⟨Try.f4, Try.f4.body.getD .skip, k4, by kernel_rfl, by kernel_rfl, by kernel_rfl, by kernel_rfl, by kernel_rfl, Nat.le_of_ble_eq_true (by kernel_rfl), by kernel_rfl⟩⟩
theorem fok_5 : FnOk cx 5 ⟨[.tmp 4], [4], c5⟩ := ⟨⟨Try.f5, Try.f5.body.getD .skip, k5, by kernel_rfl, by kernel_rfl, by kernel_rfl, by kernel_rfl, by kernel_rfl, Nat.le_of_ble_eq_true (by kernel_rfl), by kernel_rfl⟩⟩
theorem fok_6 : FnOk cx 6 ⟨[.tmp 6], [4], c6⟩ := ⟨⟨Try.f6, Try.f6.body.getD .skip, k6, by kernel_rfl, by kernel_rfl, by kernel_rfl, by kernel_rfl, by kernel_rfl, Nat.le_of_ble_eq_true (by kernel_rfl), by kernel_rfl⟩⟩
theorem fok_7 : FnOk cx 7 ⟨[.tmp 0], [4], c7⟩ := ⟨⟨Try.f7, Try.f7.body.getD .skip, k7, by kernel_rfl, by kernel_rfl, by kernel_rfl, by kernel_rfl, by kernel_rfl, Nat.le_of_ble_eq_true (by kernel_rfl), by kernel_rfl⟩⟩
theorem fok_8 : FnOk cx 8 ⟨[.tmp 2], [4], c8⟩ := ⟨⟨Try.f8, Try.f8.body.getD .skip, k8, by kernel_rfl, by kernel_rfl, by kernel_rfl, by kernel_rfl, by kernel_rfl, Nat.le_of_ble_eq_true (by kernel_rfl), by kernel_rfl⟩⟩
theorem fok_9 : FnOk cx 9 ⟨[.tmp 2], [4], c9⟩ := ⟨⟨Try.f9, Try.f9.body.getD .skip, k9, by kernel_rfl, by kernel_rfl, by kernel_rfl, by kernel_rfl, by kernel_rfl, Nat.le_of_ble_eq_true (by kernel_rfl), by kernel_rfl⟩⟩
theorem fok_10 : FnOk cx 10 ⟨[.tmp 2], [4], c10⟩ := ⟨⟨Try.f10, Try.f10.body.getD .skip, k10, by kernel_rfl, by kernel_rfl, by kernel_rfl, by kernel_rfl, by kernel_rfl, Nat.le_of_ble_eq_true (by kernel_rfl), by kernel_rfl⟩⟩
theorem fok_11 : FnOk cx 11 ⟨[.tmp 4], [4], c11⟩ := ⟨⟨Try.f11, Try.f11.body.getD .skip, k11, by kernel_rfl, by kernel_rfl, by kernel_rfl, by kernel_rfl, by kernel_rfl, Nat.le_of_ble_eq_true (by kernel_rfl), by kernel_rfl⟩⟩
theorem fok_12 : FnOk cx 12 ⟨[.tmp 4], [4], c12⟩ := ⟨⟨Try.f12, Try.f12.body.getD .skip, k12, by kernel_rfl, by kernel_rfl, by kernel_rfl, by kernel_rfl, by kernel_rfl, Nat.le_of_ble_eq_true (by kernel_rfl), by kernel_rfl⟩⟩
theorem fok_13 : FnOk cx 13 ⟨[.tmp 4], [4], c13⟩ := ⟨⟨Try.f13, Try.f13.body.getD .skip, k13, by kernel_rfl, by kernel_rfl, by kernel_rfl, by kernel_rfl, by kernel_rfl, Nat.le_of_ble_eq_true (by kernel_rfl), by kernel_rfl⟩⟩
theorem fok_14 : FnOk cx 14 ⟨[.tmp 6], [37], c14⟩ := ⟨⟨Try.f14, Try.f14.body.getD .skip, k14, by kernel_rfl, by kernel_rfl, by kernel_rfl, by kernel_rfl, by kernel_rfl, Nat.le_of_ble_eq_true (by kernel_rfl), by kernel_rfl⟩⟩
theorem fok_15 : FnOk cx 15 ⟨[.tmp 6], [37], c15⟩ := ⟨⟨Try.f15, Try.f15.body.getD .skip, k15, by kernel_rfl, by kernel_rfl, by kernel_rfl, by kernel_rfl, by kernel_rfl, Nat.le_of_ble_eq_true (by kernel_rfl), by kernel_rfl⟩⟩
theorem fok_16 : FnOk cx 16 ⟨[.tmp 4], [3], c16⟩ := ⟨⟨Try.f16, Try.f16.body.getD .skip, k16, by kernel_rfl, by kernel_rfl, by kernel_rfl, by kernel_rfl, by kernel_rfl, Nat.le_of_ble_eq_true (by kernel_rfl), by kernel_rfl⟩⟩
theorem fok_17 : FnOk cx 17 ⟨[.tmp 4], [3], c17⟩ := ⟨⟨Try.f17, Try.f17.body.getD .skip, k17, by kernel_rfl, by kernel_rfl, by kernel_rfl, by kernel_rfl, by kernel_rfl, Nat.le_of_ble_eq_true (by kernel_rfl), by kernel_rfl⟩⟩
theorem fok_18 : FnOk cx 18 ⟨[.tmp 4], [4], c18⟩ := ⟨⟨Try.f18, Try.f18.body.getD .skip, k18, by kernel_rfl, by kernel_rfl, by kernel_rfl, by kernel_rfl, by kernel_rfl, Nat.le_of_ble_eq_true (by kernel_rfl), by kernel_rfl⟩⟩
theorem fok_19 : FnOk cx 19 ⟨[.tmp 2], [3], c19⟩ := ⟨⟨Try.f19, Try.f19.body.getD .skip, k19, by kernel_rfl, by kernel_rfl, by kernel_rfl, by kernel_rfl, by kernel_rfl, Nat.le_of_ble_eq_true (by kernel_rfl), by kernel_rfl⟩⟩
theorem fok_20 : FnOk cx 20 ⟨[.cell 6 45], [45], c20⟩ := ⟨⟨Try.f20, Try.f20.body.getD .skip, k20, by kernel_rfl, by kernel_rfl, by kernel_rfl, by kernel_rfl, by kernel_rfl, Nat.le_of_ble_eq_true (by kernel_rfl), by kernel_rfl⟩⟩
theorem fok_21 : FnOk cx 21 ⟨[.tmp 4], [4], c21⟩ := ⟨⟨Try.f21, Try.f21.body.getD .skip, k21, by kernel_rfl, by kernel_rfl, by kernel_rfl, by kernel_rfl, by kernel_rfl, Nat.le_of_ble_eq_true (by kernel_rfl), by kernel_rfl⟩⟩
theorem fok_22 : FnOk cx 22 ⟨[.tmp 2], [4], c22⟩ := ⟨⟨Try.f22, Try.f22.body.getD .skip, k22, by kernel_rfl, by kernel_rfl, by kernel_rfl, by kernel_rfl, by kernel_rfl, Nat.le_of_ble_eq_true (by kernel_rfl), by kernel_rfl⟩⟩
theorem fok_23 : FnOk cx 23 ⟨[.tmp 4], [4], c23⟩ := ⟨⟨Try.f23, Try.f23.body.getD .skip, k23, by kernel_rfl, by kernel_rfl, by kernel_rfl, by kernel_rfl, by kernel_rfl, Nat.le_of_ble_eq_true (by kernel_rfl), by kernel_rfl⟩⟩
theorem fok_24 : FnOk cx 24 ⟨[.tmp 4], [37], c24⟩ := ⟨⟨Try.f24, Try.f24.body.getD .skip, k24, by kernel_rfl, by kernel_rfl, by kernel_rfl, by kernel_rfl, by kernel_rfl, Nat.le_of_ble_eq_true (by kernel_rfl), by kernel_rfl⟩⟩
theorem fok_25 : FnOk cx 25 ⟨[.tmp 4], [37], c25⟩ := ⟨⟨Try.f25, Try.f25.body.getD .skip, k25, by kernel_rfl, by kernel_rfl, by kernel_rfl, by kernel_rfl, by kernel_rfl, Nat.le_of_ble_eq_true (by kernel_rfl), by kernel_rfl⟩⟩
theorem fok_26 : FnOk cx 26 ⟨[.tmp 6], [3], c26⟩ := ⟨⟨Try.f26, Try.f26.body.getD .skip, k26, by kernel_rfl, by kernel_rfl, by kernel_rfl, by kernel_rfl, by kernel_rfl, Nat.le_of_ble_eq_true (by kernel_rfl), by kernel_rfl⟩⟩
theorem fok_27 : FnOk cx 27 ⟨[.cell 8 45], [45], c27⟩ := ⟨⟨Try.f27, Try.f27.body.getD .skip, k27, by kernel_rfl, by kernel_rfl, by kernel_rfl, by kernel_rfl, by kernel_rfl, Nat.le_of_ble_eq_true (by kernel_rfl), by kernel_rfl⟩⟩
theorem fok_28 : FnOk cx 28 ⟨[.tmp 2], [4], c28⟩ := ⟨⟨Try.f28, Try.f28.body.getD .skip, k28, by kernel_rfl, by kernel_rfl, by kernel_rfl, by kernel_rfl, by kernel_rfl, Nat.le_of_ble_eq_true (by kernel_rfl), by kernel_rfl⟩⟩
theorem fok_29 : FnOk cx 29 ⟨[.tmp 4], [3], c29⟩ := ⟨⟨Try.f29, Try.f29.body.getD .skip, k29, by kernel_rfl, by kernel_rfl, by kernel_rfl, by kernel_rfl, by kernel_rfl, Nat.le_of_ble_eq_true (by kernel_rfl), by kernel_rfl⟩⟩
theorem fok_30 : FnOk cx 30 ⟨[.tmp 4], [4], c30⟩ := ⟨⟨Try.f30, Try.f30.body.getD .skip, k30, by kernel_rfl, by kernel_rfl, by kernel_rfl, by kernel_rfl, by kernel_rfl, Nat.le_of_ble_eq_true (by kernel_rfl), by kernel_rfl⟩⟩
theorem fok_31 : FnOk cx 31 ⟨[.tmp 3], [4], c31⟩ := ⟨⟨Try.f31, Try.f31.body.getD .skip, k31, by kernel_rfl, by kernel_rfl, by kernel_rfl, by kernel_rfl, by kernel_rfl, Nat.le_of_ble_eq_true (by kernel_rfl), by kernel_rfl⟩⟩
theorem fok_33 : FnOk cx 33 ⟨[.tmp 4], [3], c33⟩ := ⟨⟨Try.f33, Try.f33.body.getD .skip, k33, by kernel_rfl, by kernel_rfl, by kernel_rfl, by kernel_rfl, by kernel_rfl, Nat.le_of_ble_eq_true (by kernel_rfl), by kernel_rfl⟩⟩
theorem fok_34 : FnOk cx 34 ⟨[.tmp 2], [37], c34⟩ := ⟨⟨Try.f34, Try.f34.body.getD .skip, k34, by kernel_rfl, by kernel_rfl, by kernel_rfl, by kernel_rfl, by kernel_rfl, Nat.le_of_ble_eq_true (by kernel_rfl), by kernel_rfl⟩⟩
theorem fok_35 : FnOk cx 35 ⟨[.tmp 4], [3], c35⟩ := ⟨⟨Try.f35, Try.f35.body.getD .skip, k35, by kernel_rfl, by kernel_rfl, by kernel_rfl, by kernel_rfl, by kernel_rfl, Nat.le_of_ble_eq_true (by kernel_rfl), by kernel_rfl⟩⟩
theorem fok_38 : FnOk cx 38 ⟨[.tmp 2], [3], c38⟩ := ⟨⟨Try.f38, Try.f38.body.getD .skip, k38, by kernel_rfl, by kernel_rfl, by kernel_rfl, by kernel_rfl, by kernel_rfl, Nat.le_of_ble_eq_true (by kernel_rfl), by kernel_rfl⟩⟩
theorem fok_39 : FnOk cx 39 ⟨[.tmp 4], [3], c39⟩ := ⟨⟨Try.f39, Try.f39.body.getD .skip, k39, by kernel_rfl, by kernel_rfl, by kernel_rfl, by kernel_rfl, by kernel_rfl, Nat.le_of_ble_eq_true (by kernel_rfl), by kernel_rfl⟩⟩
theorem fok_50 : FnOk cx 50 ⟨[.tmp 2], [4], c50⟩ := ⟨⟨Try.f50, Try.f50.body.getD .skip, k50, by kernel_rfl, by kernel_rfl, by kernel_rfl, by kernel_rfl, by kernel_rfl, Nat.le_of_ble_eq_true (by kernel_rfl), by kernel_rfl⟩⟩
theorem fok : ∀ f cf, cx.fns f = some cf → FnOk cx f cf := by
  intro f cf h
  show FnOk cx f cf
  unfold cx fns at h
  simp only at h
  split at h <;> first
    | (cases h; exact fok_3)
    | (cases h; exact fok_4)
    | (cases h; exact fok_5)
    | (cases h; exact fok_6)
    | (cases h; exact fok_7)
    | (cases h; exact fok_8)
    | (cases h; exact fok_9)
    | (cases h; exact fok_10)
    | (cases h; exact fok_11)
    | (cases h; exact fok_12)
    | (cases h; exact fok_13)
    | (cases h; exact fok_14)
    | (cases h; exact fok_15)
    | (cases h; exact fok_16)
    | (cases h; exact fok_17)
    | (cases h; exact fok_18)
    | (cases h; exact fok_19)
    | (cases h; exact fok_20)
    | (cases h; exact fok_21)
    | (cases h; exact fok_22)
    | (cases h; exact fok_23)
    | (cases h; exact fok_24)
    | (cases h; exact fok_25)
    | (cases h; exact fok_26)
    | (cases h; exact fok_27)
    | (cases h; exact fok_28)
    | (cases h; exact fok_29)
    | (cases h; exact fok_30)
    | (cases h; exact fok_31)
    | (cases h; exact fok_33)
    | (cases h; exact fok_34)
    | (cases h; exact fok_35)
    | (cases h; exact fok_38)
    | (cases h; exact fok_39)
    | (cases h; exact fok_50)
    | cases h
theorem follows : cx.P.follows .mixedOrders = true := by kernel_rfl
@[go_sem] theorem szT3 : szOf Try.prog 3 = 1 := by kernel_rfl
@[go_sem] theorem byT3 : byOf Try.prog 3 = 8 := by kernel_rfl
@[go_sem] theorem agT3 : aggT Try.prog 3 = false := by kernel_rfl
@[go_sem] theorem slT3 : slT Try.prog 3 = none := by kernel_rfl
@[go_sem] theorem arT3 : arT Try.prog 3 = none := by kernel_rfl
@[go_sem] theorem inT3 : inT Try.prog 3 = some .i64 := by kernel_rfl
@[go_sem] theorem mpT3 : mpT Try.prog 3 = false := by kernel_rfl
@[go_sem] theorem stT3 : stT Try.prog 3 = false := by kernel_rfl
@[go_sem] theorem blT3 : blT Try.prog 3 = false := by kernel_rfl
@[go_sem] theorem okT3 : okT Try.prog 3 = true := by kernel_rfl
@[go_sem] theorem boT3 : boT Try.prog 3 = false := by kernel_rfl
@[go_sem] theorem ptT3 : ptT Try.prog 3 = false := by kernel_rfl
@[go_sem] theorem elT3 : elT Try.prog 3 = true := by kernel_rfl
@[go_sem] theorem zcT3 : zc Try.prog 3 = some [.s (.int .i64 0)] := by kernel_rfl
@[go_sem] theorem szT4 : szOf Try.prog 4 = 1 := by kernel_rfl
@[go_sem] theorem byT4 : byOf Try.prog 4 = 1 := by kernel_rfl
@[go_sem] theorem agT4 : aggT Try.prog 4 = false := by kernel_rfl
@[go_sem] theorem slT4 : slT Try.prog 4 = none := by kernel_rfl
@[go_sem] theorem arT4 : arT Try.prog 4 = none := by kernel_rfl
@[go_sem] theorem inT4 : inT Try.prog 4 = none := by kernel_rfl
@[go_sem] theorem mpT4 : mpT Try.prog 4 = false := by kernel_rfl
@[go_sem] theorem stT4 : stT Try.prog 4 = false := by kernel_rfl
@[go_sem] theorem blT4 : blT Try.prog 4 = false := by kernel_rfl
@[go_sem] theorem okT4 : okT Try.prog 4 = true := by kernel_rfl
@[go_sem] theorem boT4 : boT Try.prog 4 = true := by kernel_rfl
@[go_sem] theorem ptT4 : ptT Try.prog 4 = false := by kernel_rfl
@[go_sem] theorem elT4 : elT Try.prog 4 = true := by kernel_rfl
@[go_sem] theorem zcT4 : zc Try.prog 4 = some [.s (.bool false)] := by kernel_rfl
@[go_sem] theorem szT9 : szOf Try.prog 9 = 1 := by kernel_rfl
@[go_sem] theorem byT9 : byOf Try.prog 9 = 16 := by kernel_rfl
@[go_sem] theorem agT9 : aggT Try.prog 9 = false := by kernel_rfl
@[go_sem] theorem slT9 : slT Try.prog 9 = none := by kernel_rfl
@[go_sem] theorem arT9 : arT Try.prog 9 = none := by kernel_rfl
@[go_sem] theorem inT9 : inT Try.prog 9 = none := by kernel_rfl
@[go_sem] theorem mpT9 : mpT Try.prog 9 = false := by kernel_rfl
@[go_sem] theorem stT9 : stT Try.prog 9 = true := by kernel_rfl
@[go_sem] theorem blT9 : blT Try.prog 9 = false := by kernel_rfl
@[go_sem] theorem okT9 : okT Try.prog 9 = true := by kernel_rfl
@[go_sem] theorem boT9 : boT Try.prog 9 = false := by kernel_rfl
@[go_sem] theorem ptT9 : ptT Try.prog 9 = false := by kernel_rfl
@[go_sem] theorem elT9 : elT Try.prog 9 = true := by kernel_rfl
@[go_sem] theorem zcT9 : zc Try.prog 9 = some [.s (.string ⟨#[]⟩)] := by kernel_rfl
@[go_sem] theorem szT22 : szOf Try.prog 22 = 1 := by kernel_rfl
@[go_sem] theorem byT22 : byOf Try.prog 22 = 24 := by kernel_rfl
@[go_sem] theorem agT22 : aggT Try.prog 22 = false := by kernel_rfl
@[go_sem] theorem slT22 : slT Try.prog 22 = some 45 := by kernel_rfl
@[go_sem] theorem arT22 : arT Try.prog 22 = none := by kernel_rfl
@[go_sem] theorem inT22 : inT Try.prog 22 = none := by kernel_rfl
@[go_sem] theorem mpT22 : mpT Try.prog 22 = false := by kernel_rfl
@[go_sem] theorem stT22 : stT Try.prog 22 = false := by kernel_rfl
@[go_sem] theorem blT22 : blT Try.prog 22 = false := by kernel_rfl
@[go_sem] theorem okT22 : okT Try.prog 22 = true := by kernel_rfl
@[go_sem] theorem boT22 : boT Try.prog 22 = false := by kernel_rfl
@[go_sem] theorem ptT22 : ptT Try.prog 22 = false := by kernel_rfl
@[go_sem] theorem elT22 : elT Try.prog 22 = true := by kernel_rfl
@[go_sem] theorem zcT22 : zc Try.prog 22 = some [.z] := by kernel_rfl
@[go_sem] theorem szT24 : szOf Try.prog 24 = 6 := by kernel_rfl
@[go_sem] theorem byT24 : byOf Try.prog 24 = 80 := by kernel_rfl
@[go_sem] theorem agT24 : aggT Try.prog 24 = true := by kernel_rfl
@[go_sem] theorem slT24 : slT Try.prog 24 = none := by kernel_rfl
@[go_sem] theorem arT24 : arT Try.prog 24 = none := by kernel_rfl
@[go_sem] theorem inT24 : inT Try.prog 24 = none := by kernel_rfl
@[go_sem] theorem mpT24 : mpT Try.prog 24 = false := by kernel_rfl
@[go_sem] theorem stT24 : stT Try.prog 24 = false := by kernel_rfl
@[go_sem] theorem blT24 : blT Try.prog 24 = true := by kernel_rfl
@[go_sem] theorem okT24 : okT Try.prog 24 = true := by kernel_rfl
@[go_sem] theorem boT24 : boT Try.prog 24 = false := by kernel_rfl
@[go_sem] theorem ptT24 : ptT Try.prog 24 = false := by kernel_rfl
@[go_sem] theorem elT24 : elT Try.prog 24 = true := by kernel_rfl
@[go_sem] theorem zcT24 : zc Try.prog 24 = some [.s (.string ⟨#[]⟩), .s (.string ⟨#[]⟩), .s (.string ⟨#[]⟩), .s (.string ⟨#[]⟩), .s (.int .i64 0), .s (.bool false)] := by kernel_rfl
@[go_sem] theorem fiT24_0 : fieldT Try.prog 24 0 = some (0, 9) := by kernel_rfl
@[go_sem] theorem fiT24_1 : fieldT Try.prog 24 1 = some (1, 9) := by kernel_rfl
@[go_sem] theorem fiT24_2 : fieldT Try.prog 24 2 = some (2, 9) := by kernel_rfl
@[go_sem] theorem fiT24_3 : fieldT Try.prog 24 3 = some (3, 9) := by kernel_rfl
@[go_sem] theorem fiT24_4 : fieldT Try.prog 24 4 = some (4, 3) := by kernel_rfl
@[go_sem] theorem fiT24_5 : fieldT Try.prog 24 5 = some (5, 4) := by kernel_rfl
@[go_sem] theorem szT25 : szOf Try.prog 25 = 1 := by kernel_rfl
@[go_sem] theorem byT25 : byOf Try.prog 25 = 8 := by kernel_rfl
@[go_sem] theorem agT25 : aggT Try.prog 25 = false := by kernel_rfl
@[go_sem] theorem slT25 : slT Try.prog 25 = none := by kernel_rfl
@[go_sem] theorem arT25 : arT Try.prog 25 = none := by kernel_rfl
@[go_sem] theorem inT25 : inT Try.prog 25 = some .u64 := by kernel_rfl
@[go_sem] theorem mpT25 : mpT Try.prog 25 = false := by kernel_rfl
@[go_sem] theorem stT25 : stT Try.prog 25 = false := by kernel_rfl
@[go_sem] theorem blT25 : blT Try.prog 25 = false := by kernel_rfl
@[go_sem] theorem okT25 : okT Try.prog 25 = true := by kernel_rfl
@[go_sem] theorem boT25 : boT Try.prog 25 = false := by kernel_rfl
@[go_sem] theorem ptT25 : ptT Try.prog 25 = false := by kernel_rfl
@[go_sem] theorem elT25 : elT Try.prog 25 = true := by kernel_rfl
@[go_sem] theorem zcT25 : zc Try.prog 25 = some [.s (.int .u64 0)] := by kernel_rfl
@[go_sem] theorem szT27 : szOf Try.prog 27 = 2 := by kernel_rfl
@[go_sem] theorem byT27 : byOf Try.prog 27 = 16 := by kernel_rfl
@[go_sem] theorem agT27 : aggT Try.prog 27 = true := by kernel_rfl
@[go_sem] theorem slT27 : slT Try.prog 27 = none := by kernel_rfl
@[go_sem] theorem arT27 : arT Try.prog 27 = none := by kernel_rfl
@[go_sem] theorem inT27 : inT Try.prog 27 = none := by kernel_rfl
@[go_sem] theorem mpT27 : mpT Try.prog 27 = false := by kernel_rfl
@[go_sem] theorem stT27 : stT Try.prog 27 = false := by kernel_rfl
@[go_sem] theorem blT27 : blT Try.prog 27 = true := by kernel_rfl
@[go_sem] theorem okT27 : okT Try.prog 27 = true := by kernel_rfl
@[go_sem] theorem boT27 : boT Try.prog 27 = false := by kernel_rfl
@[go_sem] theorem ptT27 : ptT Try.prog 27 = false := by kernel_rfl
@[go_sem] theorem elT27 : elT Try.prog 27 = true := by kernel_rfl
@[go_sem] theorem zcT27 : zc Try.prog 27 = some [.s (.int .u64 0), .s (.int .u64 0)] := by kernel_rfl
@[go_sem] theorem fiT27_0 : fieldT Try.prog 27 0 = some (0, 25) := by kernel_rfl
@[go_sem] theorem fiT27_1 : fieldT Try.prog 27 1 = some (1, 25) := by kernel_rfl
@[go_sem] theorem szT28 : szOf Try.prog 28 = 1 := by kernel_rfl
@[go_sem] theorem byT28 : byOf Try.prog 28 = 24 := by kernel_rfl
@[go_sem] theorem agT28 : aggT Try.prog 28 = false := by kernel_rfl
@[go_sem] theorem slT28 : slT Try.prog 28 = some 54 := by kernel_rfl
@[go_sem] theorem arT28 : arT Try.prog 28 = none := by kernel_rfl
@[go_sem] theorem inT28 : inT Try.prog 28 = none := by kernel_rfl
@[go_sem] theorem mpT28 : mpT Try.prog 28 = false := by kernel_rfl
@[go_sem] theorem stT28 : stT Try.prog 28 = false := by kernel_rfl
@[go_sem] theorem blT28 : blT Try.prog 28 = false := by kernel_rfl
@[go_sem] theorem okT28 : okT Try.prog 28 = true := by kernel_rfl
@[go_sem] theorem boT28 : boT Try.prog 28 = false := by kernel_rfl
@[go_sem] theorem ptT28 : ptT Try.prog 28 = false := by kernel_rfl
@[go_sem] theorem elT28 : elT Try.prog 28 = true := by kernel_rfl
@[go_sem] theorem zcT28 : zc Try.prog 28 = some [.z] := by kernel_rfl
@[go_sem] theorem szT30 : szOf Try.prog 30 = 10 := by kernel_rfl
@[go_sem] theorem byT30 : byOf Try.prog 30 = 112 := by kernel_rfl
@[go_sem] theorem agT30 : aggT Try.prog 30 = true := by kernel_rfl
@[go_sem] theorem slT30 : slT Try.prog 30 = none := by kernel_rfl
@[go_sem] theorem arT30 : arT Try.prog 30 = none := by kernel_rfl
@[go_sem] theorem inT30 : inT Try.prog 30 = none := by kernel_rfl
@[go_sem] theorem mpT30 : mpT Try.prog 30 = false := by kernel_rfl
@[go_sem] theorem stT30 : stT Try.prog 30 = false := by kernel_rfl
@[go_sem] theorem blT30 : blT Try.prog 30 = true := by kernel_rfl
@[go_sem] theorem okT30 : okT Try.prog 30 = true := by kernel_rfl
@[go_sem] theorem boT30 : boT Try.prog 30 = false := by kernel_rfl
@[go_sem] theorem ptT30 : ptT Try.prog 30 = false := by kernel_rfl
@[go_sem] theorem elT30 : elT Try.prog 30 = true := by kernel_rfl
@[go_sem] theorem zcT30 : zc Try.prog 30 = some [.s (.int .u64 0), .s (.int .u64 0), .s (.int .u64 0), .s (.int .u64 0), .s (.string ⟨#[]⟩), .s (.string ⟨#[]⟩), .s (.int .i64 0), .s (.int .i64 0), .s (.bool false), .z] := by kernel_rfl
@[go_sem] theorem fiT30_0 : fieldT Try.prog 30 0 = some (0, 27) := by kernel_rfl
@[go_sem] theorem fiT30_1 : fieldT Try.prog 30 1 = some (2, 25) := by kernel_rfl
@[go_sem] theorem fiT30_2 : fieldT Try.prog 30 2 = some (3, 25) := by kernel_rfl
@[go_sem] theorem fiT30_3 : fieldT Try.prog 30 3 = some (4, 9) := by kernel_rfl
@[go_sem] theorem fiT30_4 : fieldT Try.prog 30 4 = some (5, 9) := by kernel_rfl
@[go_sem] theorem fiT30_5 : fieldT Try.prog 30 5 = some (6, 3) := by kernel_rfl
@[go_sem] theorem fiT30_6 : fieldT Try.prog 30 6 = some (7, 3) := by kernel_rfl
@[go_sem] theorem fiT30_7 : fieldT Try.prog 30 7 = some (8, 4) := by kernel_rfl
@[go_sem] theorem fiT30_8 : fieldT Try.prog 30 8 = some (9, 28) := by kernel_rfl
@[go_sem] theorem szT37 : szOf Try.prog 37 = 1 := by kernel_rfl
@[go_sem] theorem byT37 : byOf Try.prog 37 = 24 := by kernel_rfl
@[go_sem] theorem agT37 : aggT Try.prog 37 = false := by kernel_rfl
@[go_sem] theorem slT37 : slT Try.prog 37 = some 27 := by kernel_rfl
@[go_sem] theorem arT37 : arT Try.prog 37 = none := by kernel_rfl
@[go_sem] theorem inT37 : inT Try.prog 37 = none := by kernel_rfl
@[go_sem] theorem mpT37 : mpT Try.prog 37 = false := by kernel_rfl
@[go_sem] theorem stT37 : stT Try.prog 37 = false := by kernel_rfl
@[go_sem] theorem blT37 : blT Try.prog 37 = false := by kernel_rfl
@[go_sem] theorem okT37 : okT Try.prog 37 = true := by kernel_rfl
@[go_sem] theorem boT37 : boT Try.prog 37 = false := by kernel_rfl
@[go_sem] theorem ptT37 : ptT Try.prog 37 = false := by kernel_rfl
@[go_sem] theorem elT37 : elT Try.prog 37 = true := by kernel_rfl
@[go_sem] theorem zcT37 : zc Try.prog 37 = some [.z] := by kernel_rfl
@[go_sem] theorem szT43 : szOf Try.prog 43 = 1 := by kernel_rfl
@[go_sem] theorem byT43 : byOf Try.prog 43 = 24 := by kernel_rfl
@[go_sem] theorem agT43 : aggT Try.prog 43 = false := by kernel_rfl
@[go_sem] theorem slT43 : slT Try.prog 43 = some 51 := by kernel_rfl
@[go_sem] theorem arT43 : arT Try.prog 43 = none := by kernel_rfl
@[go_sem] theorem inT43 : inT Try.prog 43 = none := by kernel_rfl
@[go_sem] theorem mpT43 : mpT Try.prog 43 = false := by kernel_rfl
@[go_sem] theorem stT43 : stT Try.prog 43 = false := by kernel_rfl
@[go_sem] theorem blT43 : blT Try.prog 43 = false := by kernel_rfl
@[go_sem] theorem okT43 : okT Try.prog 43 = true := by kernel_rfl
@[go_sem] theorem boT43 : boT Try.prog 43 = false := by kernel_rfl
@[go_sem] theorem ptT43 : ptT Try.prog 43 = false := by kernel_rfl
@[go_sem] theorem elT43 : elT Try.prog 43 = true := by kernel_rfl
@[go_sem] theorem zcT43 : zc Try.prog 43 = some [.z] := by kernel_rfl
@[go_sem] theorem szT45 : szOf Try.prog 45 = 4 := by kernel_rfl
@[go_sem] theorem byT45 : byOf Try.prog 45 = 48 := by kernel_rfl
@[go_sem] theorem agT45 : aggT Try.prog 45 = true := by kernel_rfl
@[go_sem] theorem slT45 : slT Try.prog 45 = none := by kernel_rfl
@[go_sem] theorem arT45 : arT Try.prog 45 = none := by kernel_rfl
@[go_sem] theorem inT45 : inT Try.prog 45 = none := by kernel_rfl
@[go_sem] theorem mpT45 : mpT Try.prog 45 = false := by kernel_rfl
@[go_sem] theorem stT45 : stT Try.prog 45 = false := by kernel_rfl
@[go_sem] theorem blT45 : blT Try.prog 45 = true := by kernel_rfl
@[go_sem] theorem okT45 : okT Try.prog 45 = true := by kernel_rfl
@[go_sem] theorem boT45 : boT Try.prog 45 = false := by kernel_rfl
@[go_sem] theorem ptT45 : ptT Try.prog 45 = false := by kernel_rfl
@[go_sem] theorem elT45 : elT Try.prog 45 = true := by kernel_rfl
@[go_sem] theorem zcT45 : zc Try.prog 45 = some [.s (.int .i64 0), .s (.int .i64 0), .s (.int .i64 0), .z] := by kernel_rfl
@[go_sem] theorem fiT45_0 : fieldT Try.prog 45 0 = some (0, 3) := by kernel_rfl
@[go_sem] theorem fiT45_1 : fieldT Try.prog 45 1 = some (1, 3) := by kernel_rfl
@[go_sem] theorem fiT45_2 : fieldT Try.prog 45 2 = some (2, 3) := by kernel_rfl
@[go_sem] theorem fiT45_3 : fieldT Try.prog 45 3 = some (3, 43) := by kernel_rfl
@[go_sem] theorem szT49 : szOf Try.prog 49 = 1 := by kernel_rfl
@[go_sem] theorem byT49 : byOf Try.prog 49 = 24 := by kernel_rfl
@[go_sem] theorem agT49 : aggT Try.prog 49 = false := by kernel_rfl
@[go_sem] theorem slT49 : slT Try.prog 49 = some 30 := by kernel_rfl
@[go_sem] theorem arT49 : arT Try.prog 49 = none := by kernel_rfl
@[go_sem] theorem inT49 : inT Try.prog 49 = none := by kernel_rfl
@[go_sem] theorem mpT49 : mpT Try.prog 49 = false := by kernel_rfl
@[go_sem] theorem stT49 : stT Try.prog 49 = false := by kernel_rfl
@[go_sem] theorem blT49 : blT Try.prog 49 = false := by kernel_rfl
@[go_sem] theorem okT49 : okT Try.prog 49 = true := by kernel_rfl
@[go_sem] theorem boT49 : boT Try.prog 49 = false := by kernel_rfl
@[go_sem] theorem ptT49 : ptT Try.prog 49 = false := by kernel_rfl
@[go_sem] theorem elT49 : elT Try.prog 49 = true := by kernel_rfl
@[go_sem] theorem zcT49 : zc Try.prog 49 = some [.z] := by kernel_rfl
@[go_sem] theorem szT51 : szOf Try.prog 51 = 6 := by kernel_rfl
@[go_sem] theorem byT51 : byOf Try.prog 51 = 64 := by kernel_rfl
@[go_sem] theorem agT51 : aggT Try.prog 51 = true := by kernel_rfl
@[go_sem] theorem slT51 : slT Try.prog 51 = none := by kernel_rfl
@[go_sem] theorem arT51 : arT Try.prog 51 = none := by kernel_rfl
@[go_sem] theorem inT51 : inT Try.prog 51 = none := by kernel_rfl
@[go_sem] theorem mpT51 : mpT Try.prog 51 = false := by kernel_rfl
@[go_sem] theorem stT51 : stT Try.prog 51 = false := by kernel_rfl
@[go_sem] theorem blT51 : blT Try.prog 51 = true := by kernel_rfl
@[go_sem] theorem okT51 : okT Try.prog 51 = true := by kernel_rfl
@[go_sem] theorem boT51 : boT Try.prog 51 = false := by kernel_rfl
@[go_sem] theorem ptT51 : ptT Try.prog 51 = false := by kernel_rfl
@[go_sem] theorem elT51 : elT Try.prog 51 = true := by kernel_rfl
@[go_sem] theorem zcT51 : zc Try.prog 51 = some [.s (.int .u64 0), .s (.int .u64 0), .s (.int .i64 0), .s (.int .i64 0), .s (.bool false), .z] := by kernel_rfl
@[go_sem] theorem fiT51_0 : fieldT Try.prog 51 0 = some (0, 27) := by kernel_rfl
@[go_sem] theorem fiT51_1 : fieldT Try.prog 51 1 = some (2, 3) := by kernel_rfl
@[go_sem] theorem fiT51_2 : fieldT Try.prog 51 2 = some (3, 3) := by kernel_rfl
@[go_sem] theorem fiT51_3 : fieldT Try.prog 51 3 = some (4, 4) := by kernel_rfl
@[go_sem] theorem fiT51_4 : fieldT Try.prog 51 4 = some (5, 49) := by kernel_rfl
@[go_sem] theorem szT54 : szOf Try.prog 54 = 2 := by kernel_rfl
@[go_sem] theorem byT54 : byOf Try.prog 54 = 32 := by kernel_rfl
@[go_sem] theorem agT54 : aggT Try.prog 54 = true := by kernel_rfl
@[go_sem] theorem slT54 : slT Try.prog 54 = none := by kernel_rfl
@[go_sem] theorem arT54 : arT Try.prog 54 = none := by kernel_rfl
@[go_sem] theorem inT54 : inT Try.prog 54 = none := by kernel_rfl
@[go_sem] theorem mpT54 : mpT Try.prog 54 = false := by kernel_rfl
@[go_sem] theorem stT54 : stT Try.prog 54 = false := by kernel_rfl
@[go_sem] theorem blT54 : blT Try.prog 54 = true := by kernel_rfl
@[go_sem] theorem okT54 : okT Try.prog 54 = true := by kernel_rfl
@[go_sem] theorem boT54 : boT Try.prog 54 = false := by kernel_rfl
@[go_sem] theorem ptT54 : ptT Try.prog 54 = false := by kernel_rfl
@[go_sem] theorem elT54 : elT Try.prog 54 = true := by kernel_rfl
@[go_sem] theorem zcT54 : zc Try.prog 54 = some [.s (.string ⟨#[]⟩), .s (.string ⟨#[]⟩)] := by kernel_rfl
@[go_sem] theorem fiT54_0 : fieldT Try.prog 54 0 = some (0, 9) := by kernel_rfl
@[go_sem] theorem fiT54_1 : fieldT Try.prog 54 1 = some (1, 9) := by kernel_rfl
@[go_sem] theorem szT82 : szOf Try.prog 82 = 1 := by kernel_rfl
@[go_sem] theorem byT82 : byOf Try.prog 82 = 24 := by kernel_rfl
@[go_sem] theorem agT82 : aggT Try.prog 82 = false := by kernel_rfl
@[go_sem] theorem slT82 : slT Try.prog 82 = some 3 := by kernel_rfl
@[go_sem] theorem arT82 : arT Try.prog 82 = none := by kernel_rfl
@[go_sem] theorem inT82 : inT Try.prog 82 = none := by kernel_rfl
@[go_sem] theorem mpT82 : mpT Try.prog 82 = false := by kernel_rfl
@[go_sem] theorem stT82 : stT Try.prog 82 = false := by kernel_rfl
@[go_sem] theorem blT82 : blT Try.prog 82 = false := by kernel_rfl
@[go_sem] theorem okT82 : okT Try.prog 82 = true := by kernel_rfl
@[go_sem] theorem boT82 : boT Try.prog 82 = false := by kernel_rfl
@[go_sem] theorem ptT82 : ptT Try.prog 82 = false := by kernel_rfl
@[go_sem] theorem elT82 : elT Try.prog 82 = true := by kernel_rfl
@[go_sem] theorem zcT82 : zc Try.prog 82 = some [.z] := by kernel_rfl
end Go.Proofs.Ytihiakgpegfghaa
