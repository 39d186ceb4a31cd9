/- The abstract programs of the checksum functions; that they are the program's. -/
import Derived.Test.YtgbplcelcjffdaaVz
import Derived.Test.YtgbplcelcjffdaaProg
import Derived.KernelRfl
namespace Go.Proofs.Ytgbplcelcjffdaa
open Go AVL
set_option linter.unusedVariables false

def q4_0 : List AOper := [
  ⟨(some 4), (.mv (.v (.bool false))), none⟩]
def q4_1 : List AOper := [
  ⟨(some 6), (.mv (.t 0)), none⟩,
  ⟨(some 7), (.len false (.t 6)), none⟩,
  ⟨(some 8), (.bin .gtr (.t 7) (.v (.int .i64 3000))), none⟩]
def q4_2 : List AOper := [
  ⟨(some 9), (.call 13 []), none⟩,
  ⟨(some 4), (.mv (.t 9)), none⟩]
def q4_3 : List AOper := [
  ⟨(some 10), (.mv (.t 1)), none⟩,
  ⟨(some 11), (.conv .i64 (.t 10)), none⟩,
  ⟨(some 12), (.mv (.t 0)), none⟩,
  ⟨(some 13), (.len false (.t 12)), none⟩,
  ⟨(some 14), (.bin .add (.t 13) (.v (.int .i64 1))), none⟩,
  ⟨(some 15), (.bin .rem (.t 11) (.t 14)), none⟩,
  ⟨(some 5), (.mv (.t 15)), none⟩]
def q4_4 : List DOp := [
  ⟨⟨(some 16), (.mv (.t 0)), none⟩, true, false⟩,
  ⟨⟨(some 17), (.mv (.t 5)), none⟩, true, false⟩,
  ⟨⟨(some 18), (.slc 1 (.t 16) none (some (.t 17))), none⟩, true, false⟩,
  ⟨⟨(some 20), (.mv (.t 0)), none⟩, true, false⟩,
  ⟨⟨(some 21), (.mv (.t 5)), none⟩, true, false⟩,
  ⟨⟨(some 22), (.slc 1 (.t 20) (some (.t 21)) none), none⟩, true, false⟩,
  ⟨⟨(some 24), (.mv (.t 0)), none⟩, true, false⟩,
  ⟨⟨(some 19), (.call 14 [(.sc, (.t 18))]), none⟩, false, true⟩,
  ⟨⟨(some 23), (.call 16 [(.sc, (.t 19)), (.sc, (.t 22))]), none⟩, false, false⟩,
  ⟨⟨(some 25), (.call 14 [(.sc, (.t 24))]), none⟩, false, false⟩,
  ⟨⟨(some 26), (.eq .scI false (.t 23) (.t 25)), none⟩, true, false⟩,
  ⟨⟨(some 27), (.mv (.t 26)), none⟩, true, false⟩,
  ⟨⟨(some 28), (.mv (.t 0)), (some (27, true))⟩, true, false⟩,
  ⟨⟨(some 31), (.mv (.t 0)), (some (27, true))⟩, true, false⟩,
  ⟨⟨(some 29), (.call 14 [(.sc, (.t 28))]), (some (27, true))⟩, false, false⟩,
  ⟨⟨(some 30), (.call 16 [(.sc, (.t 29)), (.sc, (.v .nilS))]), (some (27, true))⟩, false, false⟩,
  ⟨⟨(some 32), (.call 14 [(.sc, (.t 31))]), (some (27, true))⟩, false, false⟩,
  ⟨⟨(some 33), (.eq .scI false (.t 30) (.t 32)), (some (27, true))⟩, true, false⟩,
  ⟨⟨(some 34), (.pick (.t 27) (.t 33) (.v (.bool false))), none⟩, true, false⟩,
  ⟨⟨(some 35), (.mv (.t 34)), none⟩, true, false⟩,
  ⟨⟨(some 36), (.call 13 []), (some (35, true))⟩, false, false⟩,
  ⟨⟨(some 37), (.pick (.t 35) (.t 36) (.v (.bool false))), none⟩, true, false⟩,
  ⟨⟨(some 4), (.mv (.t 37)), none⟩, true, false⟩]
def a4 : AFunc := ⟨[(.tmp 4)], (.seq (.region q4_0) (.seq (.seq (.region q4_1) (.cond (.t 8) (.seq (.region q4_2) .ret) .skip)) (.seq (.region q4_3) (.seq (.regionD q4_4) .ret))))⟩

def q13_0 : List AOper := [
  ⟨(some 0), (.mv (.v (.bool false))), none⟩]
def q13_1 : List AOper := [
  ⟨(some 1), (.bslI 5 .u8 [(.v (.int .u8 49)), (.v (.int .u8 50)), (.v (.int .u8 51)), (.v (.int .u8 52)), (.v (.int .u8 53)), (.v (.int .u8 54)), (.v (.int .u8 55)), (.v (.int .u8 56)), (.v (.int .u8 57))]), none⟩,
  ⟨(some 2), (.xx .sealB [(.t 1)]), none⟩,
  ⟨(some 3), (.call 14 [(.sc, (.t 2))]), none⟩,
  ⟨(some 4), (.eq .scI false (.t 3) (.v (.int .u32 3421780262))), none⟩,
  ⟨(some 5), (.mv (.t 4)), none⟩,
  ⟨(some 6), (.call 14 [(.sc, (.v .nilS))]), (some (5, true))⟩,
  ⟨(some 7), (.eq .scI false (.t 6) (.v (.int .u32 0))), (some (5, true))⟩,
  ⟨(some 8), (.pick (.t 5) (.t 7) (.v (.bool false))), none⟩,
  ⟨(some 9), (.mv (.t 8)), none⟩,
  ⟨(some 10), (.bslI 5 .u8 [(.v (.int .u8 49)), (.v (.int .u8 50)), (.v (.int .u8 51)), (.v (.int .u8 52)), (.v (.int .u8 53))]), (some (9, true))⟩,
  ⟨(some 11), (.xx .sealB [(.t 10)]), (some (9, true))⟩,
  ⟨(some 12), (.call 14 [(.sc, (.t 11))]), (some (9, true))⟩,
  ⟨(some 13), (.bslI 5 .u8 [(.v (.int .u8 54)), (.v (.int .u8 55)), (.v (.int .u8 56)), (.v (.int .u8 57))]), (some (9, true))⟩,
  ⟨(some 14), (.xx .sealB [(.t 13)]), (some (9, true))⟩,
  ⟨(some 15), (.call 16 [(.sc, (.t 12)), (.sc, (.t 14))]), (some (9, true))⟩,
  ⟨(some 16), (.eq .scI false (.t 15) (.v (.int .u32 3421780262))), (some (9, true))⟩,
  ⟨(some 17), (.pick (.t 9) (.t 16) (.v (.bool false))), none⟩,
  ⟨(some 18), (.mv (.t 17)), none⟩,
  ⟨(some 19), (.call 52 [(.sc, (.v (.int .u32 16909060)))]), (some (18, true))⟩,
  ⟨(some 20), (.build (.ia .u8 4) [(.iarr .u8 4 [0, 0, 0, 0])] [(0, (1, (.v (.int .u8 4)))), (1, (1, (.v (.int .u8 3)))), (2, (1, (.v (.int .u8 2)))), (3, (1, (.v (.int .u8 1))))]), (some (18, true))⟩,
  ⟨(some 21), (.eq (.ia 4) false (.t 19) (.t 20)), (some (18, true))⟩,
  ⟨(some 22), (.pick (.t 18) (.t 21) (.v (.bool false))), none⟩,
  ⟨(some 23), (.mv (.t 22)), none⟩,
  ⟨(some 24), (.bslI 5 .u8 [(.v (.int .u8 97))]), (some (23, true))⟩,
  ⟨(some 25), (.xx .sealB [(.t 24)]), (some (23, true))⟩,
  ⟨(some 26), (.call 17 [(.sc, (.t 25))]), (some (23, true))⟩,
  ⟨(some 27), (.call 19 [(.sc, (.t 26))]), (some (23, true))⟩,
  ⟨(some 28), (.pick (.t 23) (.t 27) (.v (.bool false))), none⟩,
  ⟨(some 29), (.mv (.t 28)), none⟩,
  ⟨(some 30), (.bslI 5 .u8 [(.v (.int .u8 97)), (.v (.int .u8 98)), (.v (.int .u8 99))]), (some (29, true))⟩,
  ⟨(some 31), (.xx .sealB [(.t 30)]), (some (29, true))⟩,
  ⟨(some 32), (.call 19 [(.sc, (.t 31))]), (some (29, true))⟩,
  ⟨(some 33), (.un .not (.t 32)), (some (29, true))⟩,
  ⟨(some 34), (.pick (.t 29) (.t 33) (.v (.bool false))), none⟩,
  ⟨(some 0), (.mv (.t 34)), none⟩]
def a13 : AFunc := ⟨[(.tmp 0)], (.seq (.region q13_0) (.seq (.region q13_1) .ret))⟩

def q14_0 : List AOper := [
  ⟨(some 2), (.mv (.v (.int .u32 0))), none⟩]
def q14_1 : List AOper := [
  ⟨(some 3), (.mv (.t 0)), none⟩,
  ⟨(some 4), (.call 16 [(.sc, (.v (.int .u32 0))), (.sc, (.t 3))]), none⟩,
  ⟨(some 2), (.mv (.t 4)), none⟩]
def a14 : AFunc := ⟨[(.tmp 2)], (.seq (.region q14_0) (.seq (.region q14_1) .ret))⟩

def q16_0 : List AOper := [
  ⟨(some 4), (.mv (.v (.int .u32 0))), none⟩]
def q16_1 : List AOper := [
  ⟨(some 8), (.mv (.t 0)), none⟩,
  ⟨(some 9), (.un .xor (.t 8)), none⟩,
  ⟨(some 5), (.mv (.t 9)), none⟩]
def q16_2 : List AOper := [
  ⟨(some 10), (.mv (.t 1)), none⟩,
  ⟨(some 11), (.len false (.t 10)), none⟩,
  ⟨(some 12), (.mv (.v (.int .i64 0))), none⟩]
def q16_3 : List AOper := [
  ⟨(some 13), (.bin .lss (.t 12) (.t 11)), none⟩]
def q16_4 : List AOper := [
  ⟨(some 14), (.idx 1 (.t 10) (.t 12)), none⟩,
  ⟨(some 15), (.load .sc 1 (.t 14)), none⟩,
  ⟨(some 7), (.mv (.t 15)), none⟩]
def q16_5 : List AOper := [
  ⟨(some 16), (.mv (.t 5)), none⟩,
  ⟨(some 17), (.mv (.t 7)), none⟩,
  ⟨(some 18), (.call 54 [(.sc, (.t 16)), (.sc, (.t 17))]), none⟩,
  ⟨(some 5), (.mv (.t 18)), none⟩]
def q16_6 : List AOper := [
  ⟨(some 19), (.bin .add (.t 12) (.v (.int .i64 1))), none⟩,
  ⟨(some 12), (.mv (.t 19)), none⟩]
def q16_L7 : ACode := (.seq (.region q16_3) (.seq (.cond (.t 13) .skip (.exit 0)) (.seq (.block 1 (.seq (.region q16_4) (.region q16_5))) (.region q16_6))))
def q16_7 : List AOper := [
  ⟨(some 20), (.mv (.t 5)), none⟩,
  ⟨(some 21), (.un .xor (.t 20)), none⟩,
  ⟨(some 4), (.mv (.t 21)), none⟩]
def a16 : AFunc := ⟨[(.tmp 4)], (.seq (.region q16_0) (.seq (.region q16_1) (.seq (.seq (.region q16_2) (.block 0 (.loop q16_L7))) (.seq (.region q16_7) .ret))))⟩

def q17_0 : List AOper := [
  ⟨(some 2), (.mv (.v .nilS)), none⟩]
def q17_1 : List AOper := [
  ⟨(some 4), (.mv (.t 0)), none⟩,
  ⟨(some 5), (.call 14 [(.sc, (.t 4))]), none⟩,
  ⟨(some 6), (.call 52 [(.sc, (.t 5))]), none⟩,
  ⟨(some 3), (.alloc 68 [(.iarr .u8 4 [0, 0, 0, 0])]), none⟩,
  ⟨none, (.store (.ia .u8 4) 4 (.t 3) (.t 6)), none⟩]
def q17_2 : List DOp := [
  ⟨⟨(some 8), (.mv (.t 0)), none⟩, true, false⟩,
  ⟨⟨(some 10), (.slcA 4 (.t 3) none none), none⟩, true, false⟩,
  ⟨⟨(some 7), (.bslI 5 .u8 []), none⟩, false, false⟩,
  ⟨⟨(some 9), (.appI 5 .u8 1 (.t 7) (.t 8)), none⟩, false, false⟩,
  ⟨⟨(some 11), (.appI 5 .u8 1 (.t 9) (.t 10)), none⟩, false, false⟩,
  ⟨⟨(some 2), (.mv (.t 11)), none⟩, true, false⟩]
def a17 : AFunc := ⟨[(.tmp 2)], (.seq (.region q17_0) (.seq (.region q17_1) (.seq (.regionD q17_2) .ret)))⟩

def q19_0 : List AOper := [
  ⟨(some 2), (.mv (.v (.bool false))), none⟩]
def q19_1 : List AOper := [
  ⟨(some 4), (.mv (.t 0)), none⟩,
  ⟨(some 5), (.len false (.t 4)), none⟩,
  ⟨(some 6), (.bin .sub (.t 5) (.v (.int .i64 4))), none⟩,
  ⟨(some 3), (.mv (.t 6)), none⟩]
def q19_2 : List AOper := [
  ⟨(some 7), (.mv (.t 3)), none⟩,
  ⟨(some 8), (.bin .lss (.t 7) (.v (.int .i64 0))), none⟩]
def q19_3 : List AOper := [
  ⟨(some 2), (.mv (.v (.bool false))), none⟩]
def q19_4 : List DOp := [
  ⟨⟨(some 9), (.mv (.t 0)), none⟩, true, false⟩,
  ⟨⟨(some 10), (.mv (.t 3)), none⟩, true, false⟩,
  ⟨⟨(some 11), (.slc 1 (.t 9) none (some (.t 10))), none⟩, true, false⟩,
  ⟨⟨(some 14), (.mv (.t 0)), none⟩, true, false⟩,
  ⟨⟨(some 15), (.mv (.t 3)), none⟩, true, false⟩,
  ⟨⟨(some 16), (.slc 1 (.t 14) (some (.t 15)) none), none⟩, true, false⟩,
  ⟨⟨(some 17), (.s2a 4 (.t 16)), none⟩, true, false⟩,
  ⟨⟨(some 18), (.load (.ia .u8 4) 4 (.t 17)), none⟩, true, false⟩,
  ⟨⟨(some 12), (.call 14 [(.sc, (.t 11))]), none⟩, false, true⟩,
  ⟨⟨(some 13), (.call 52 [(.sc, (.t 12))]), none⟩, false, true⟩,
  ⟨⟨(some 19), (.eq (.ia 4) false (.t 13) (.t 18)), none⟩, true, false⟩,
  ⟨⟨(some 2), (.mv (.t 19)), none⟩, true, false⟩]
def a19 : AFunc := ⟨[(.tmp 2)], (.seq (.region q19_0) (.seq (.region q19_1) (.seq (.seq (.region q19_2) (.cond (.t 8) (.seq (.region q19_3) .ret) .skip)) (.seq (.regionD q19_4) .ret))))⟩

def q52_0 : List AOper := [
  ⟨(some 2), (.alloc 68 [(.iarr .u8 4 [0, 0, 0, 0])]), none⟩]
def q52_1 : List AOper := [
  ⟨(some 3), (.mv (.t 0)), none⟩,
  ⟨(some 4), (.conv .u8 (.t 3)), none⟩,
  ⟨(some 5), (.mv (.t 0)), none⟩,
  ⟨(some 6), (.bin .shr (.t 5) (.v (.int .u64 8))), none⟩,
  ⟨(some 7), (.conv .u8 (.t 6)), none⟩,
  ⟨(some 8), (.mv (.t 0)), none⟩,
  ⟨(some 9), (.bin .shr (.t 8) (.v (.int .u64 16))), none⟩,
  ⟨(some 10), (.conv .u8 (.t 9)), none⟩,
  ⟨(some 11), (.mv (.t 0)), none⟩,
  ⟨(some 12), (.bin .shr (.t 11) (.v (.int .u64 24))), none⟩,
  ⟨(some 13), (.conv .u8 (.t 12)), none⟩,
  ⟨(some 14), (.build (.ia .u8 4) [(.iarr .u8 4 [0, 0, 0, 0])] [(0, (1, (.t 4))), (1, (1, (.t 7))), (2, (1, (.t 10))), (3, (1, (.t 13)))]), none⟩,
  ⟨none, (.store (.ia .u8 4) 4 (.t 2) (.t 14)), none⟩]
def a52 : AFunc := ⟨[(.cell 2 (.ia .u8 4) 4)], (.seq (.region q52_0) (.seq (.region q52_1) .ret))⟩

def q54_0 : List AOper := [
  ⟨(some 4), (.mv (.v (.int .u32 0))), none⟩]
def q54_1 : List AOper := [
  ⟨(some 5), (.mv (.t 0)), none⟩,
  ⟨(some 6), (.mv (.t 1)), none⟩,
  ⟨(some 7), (.conv .u32 (.t 6)), none⟩,
  ⟨(some 8), (.bin .xor (.t 5) (.t 7)), none⟩,
  ⟨(some 0), (.mv (.t 8)), none⟩]
def q54_2 : List AOper := [
  ⟨(some 9), (.mv (.v (.int .i64 0))), none⟩]
def q54_3 : List AOper := [
  ⟨(some 10), (.bin .lss (.t 9) (.v (.int .i64 8))), none⟩]
def q54_4 : List AOper := [
  ⟨(some 11), (.mv (.t 0)), none⟩,
  ⟨(some 12), (.bin .and (.t 11) (.v (.int .u32 1))), none⟩,
  ⟨(some 13), (.eq .scI false (.t 12) (.v (.int .u32 1))), none⟩]
def q54_5 : List AOper := [
  ⟨(some 14), (.mv (.t 0)), none⟩,
  ⟨(some 15), (.bin .shr (.t 14) (.v (.int .u64 1))), none⟩,
  ⟨(some 16), (.bin .xor (.t 15) (.v (.int .u32 3988292384))), none⟩,
  ⟨(some 0), (.mv (.t 16)), none⟩]
def q54_6 : List AOper := [
  ⟨(some 17), (.mv (.t 0)), none⟩,
  ⟨(some 18), (.bin .shr (.t 17) (.v (.int .u64 1))), none⟩,
  ⟨(some 0), (.mv (.t 18)), none⟩]
def q54_7 : List AOper := [
  ⟨(some 19), (.bin .add (.t 9) (.v (.int .i64 1))), none⟩,
  ⟨(some 9), (.mv (.t 19)), none⟩]
def q54_L8 : ACode := (.seq (.region q54_3) (.seq (.cond (.t 10) .skip (.exit 0)) (.seq (.block 1 (.seq (.region q54_4) (.cond (.t 13) (.region q54_5) (.region q54_6)))) (.region q54_7))))
def q54_8 : List AOper := [
  ⟨(some 20), (.mv (.t 0)), none⟩,
  ⟨(some 4), (.mv (.t 20)), none⟩]
def a54 : AFunc := ⟨[(.tmp 4)], (.seq (.region q54_0) (.seq (.region q54_1) (.seq (.seq (.region q54_2) (.block 0 (.loop q54_L8))) (.seq (.region q54_8) .ret))))⟩

def q18_0 : List AOper := [
  ⟨(some 2), (.mv (.v (.int .u64 0))), none⟩]
def q18_1 : List AOper := [
  ⟨(some 3), (.mv (.t 0)), none⟩,
  ⟨(some 4), (.len false (.t 3)), none⟩,
  ⟨(some 5), (.eq .scI false (.t 4) (.v (.int .i64 0))), none⟩]
def q18_2 : List AOper := [
  ⟨(some 2), (.mv (.v (.int .u64 0))), none⟩]
def q18_3 : List AOper := [
  ⟨(some 6), (.mv (.t 0)), none⟩,
  ⟨(some 7), (.len false (.t 6)), none⟩,
  ⟨(some 8), (.bin .gtr (.t 7) (.v (.int .i64 8))), none⟩]
def q18_4 : List AOper := [
  ⟨(some 9), (.mv (.t 0)), none⟩,
  ⟨(some 10), (.slc 1 (.t 9) none (some (.v (.int .i64 8)))), none⟩,
  ⟨(some 11), (.call 18 [(.sc, (.t 10))]), none⟩,
  ⟨(some 2), (.mv (.t 11)), none⟩]
def q18_5 : List DOp := [
  ⟨⟨(some 12), (.mv (.t 0)), none⟩, true, false⟩,
  ⟨⟨(some 13), (.idx 1 (.t 12) (.v (.int .i64 0))), none⟩, true, false⟩,
  ⟨⟨(some 14), (.load .sc 1 (.t 13)), none⟩, true, false⟩,
  ⟨⟨(some 15), (.conv .u64 (.t 14)), none⟩, true, false⟩,
  ⟨⟨(some 16), (.mv (.t 0)), none⟩, true, false⟩,
  ⟨⟨(some 17), (.slc 1 (.t 16) (some (.v (.int .i64 1))) none), none⟩, true, false⟩,
  ⟨⟨(some 18), (.call 18 [(.sc, (.t 17))]), none⟩, false, true⟩,
  ⟨⟨(some 19), (.bin .mul (.v (.int .u64 256)) (.t 18)), none⟩, true, false⟩,
  ⟨⟨(some 20), (.bin .add (.t 15) (.t 19)), none⟩, true, false⟩,
  ⟨⟨(some 2), (.mv (.t 20)), none⟩, true, false⟩]
def a18 : AFunc := ⟨[(.tmp 2)], (.seq (.region q18_0) (.seq (.seq (.region q18_1) (.cond (.t 5) (.seq (.region q18_2) .ret) .skip)) (.seq (.seq (.region q18_3) (.cond (.t 8) (.seq (.region q18_4) .ret) .skip)) (.seq (.regionD q18_5) .ret))))⟩

def q20_0 : List AOper := [
  ⟨(some 4), (.mv (.v (.bool false))), none⟩]
def q20_1 : List AOper := [
  ⟨(some 5), (.mv (.t 0)), none⟩,
  ⟨(some 6), (.xx .bstr [(.t 5)]), none⟩,
  ⟨(some 7), (.mv (.t 1)), none⟩,
  ⟨(some 8), (.xx .bstr [(.t 7)]), none⟩,
  ⟨(some 9), (.eq .scS false (.t 6) (.t 8)), none⟩,
  ⟨(some 4), (.mv (.t 9)), none⟩]
def a20 : AFunc := ⟨[(.tmp 4)], (.seq (.region q20_0) (.seq (.region q20_1) .ret))⟩

def q5_0 : List AOper := [
  ⟨(some 2), (.mv (.v (.bool false))), none⟩]
def q5_1 : List AOper := [
  ⟨(some 5), (.mv (.t 0)), none⟩,
  ⟨(some 6), (.len false (.t 5)), none⟩,
  ⟨(some 7), (.bin .gtr (.t 6) (.v (.int .i64 300))), none⟩]
def q5_2 : List AOper := [
  ⟨(some 8), (.call 13 []), none⟩,
  ⟨(some 2), (.mv (.t 8)), none⟩]
def q5_3 : List AOper := [
  ⟨(some 9), (.mv (.t 0)), none⟩,
  ⟨(some 10), (.call 17 [(.sc, (.t 9))]), none⟩,
  ⟨(some 3), (.mv (.t 10)), none⟩]
def q5_4 : List AOper := [
  ⟨(some 4), (.mv (.v (.bool false))), none⟩]
def q5_5 : List AOper := [
  ⟨(some 11), (.mv (.t 0)), none⟩,
  ⟨(some 12), (.len false (.t 11)), none⟩,
  ⟨(some 13), (.bin .geq (.t 12) (.v (.int .i64 4))), none⟩]
def q5_6 : List DOp := [
  ⟨⟨(some 14), (.mv (.t 0)), none⟩, true, false⟩,
  ⟨⟨(some 15), (.mv (.t 0)), none⟩, true, false⟩,
  ⟨⟨(some 16), (.len false (.t 15)), none⟩, true, false⟩,
  ⟨⟨(some 17), (.bin .sub (.t 16) (.v (.int .i64 4))), none⟩, true, false⟩,
  ⟨⟨(some 18), (.slc 1 (.t 14) none (some (.t 17))), none⟩, true, false⟩,
  ⟨⟨(some 20), (.mv (.t 0)), none⟩, true, false⟩,
  ⟨⟨(some 21), (.mv (.t 0)), none⟩, true, false⟩,
  ⟨⟨(some 22), (.len false (.t 21)), none⟩, true, false⟩,
  ⟨⟨(some 23), (.bin .sub (.t 22) (.v (.int .i64 4))), none⟩, true, false⟩,
  ⟨⟨(some 24), (.slc 1 (.t 20) (some (.t 23)) none), none⟩, true, false⟩,
  ⟨⟨(some 19), (.call 15 [(.sc, (.t 18))]), none⟩, false, true⟩,
  ⟨⟨(some 25), (.call 18 [(.sc, (.t 24))]), none⟩, false, false⟩,
  ⟨⟨(some 26), (.conv .u32 (.t 25)), none⟩, true, false⟩,
  ⟨⟨(some 27), (.eq .scI false (.t 19) (.t 26)), none⟩, true, false⟩,
  ⟨⟨(some 4), (.mv (.t 27)), none⟩, true, false⟩]
def q5_7 : List AOper := [
  ⟨(some 28), (.mv (.t 3)), none⟩,
  ⟨(some 29), (.call 19 [(.sc, (.t 28))]), none⟩,
  ⟨(some 30), (.mv (.t 29)), none⟩,
  ⟨(some 31), (.mv (.t 3)), (some (30, true))⟩,
  ⟨(some 32), (.len false (.t 31)), (some (30, true))⟩,
  ⟨(some 33), (.mv (.t 0)), (some (30, true))⟩,
  ⟨(some 34), (.len false (.t 33)), (some (30, true))⟩,
  ⟨(some 35), (.bin .add (.t 34) (.v (.int .i64 4))), (some (30, true))⟩,
  ⟨(some 36), (.eq .scI false (.t 32) (.t 35)), (some (30, true))⟩,
  ⟨(some 37), (.pick (.t 30) (.t 36) (.v (.bool false))), none⟩,
  ⟨(some 38), (.mv (.t 37)), none⟩,
  ⟨(some 39), (.mv (.t 3)), (some (38, true))⟩,
  ⟨(some 40), (.mv (.t 0)), (some (38, true))⟩,
  ⟨(some 41), (.len false (.t 40)), (some (38, true))⟩,
  ⟨(some 42), (.slc 1 (.t 39) none (some (.t 41))), (some (38, true))⟩,
  ⟨(some 43), (.mv (.t 0)), (some (38, true))⟩,
  ⟨(some 44), (.call 20 [(.sc, (.t 42)), (.sc, (.t 43))]), (some (38, true))⟩,
  ⟨(some 45), (.pick (.t 38) (.t 44) (.v (.bool false))), none⟩,
  ⟨(some 46), (.mv (.t 45)), none⟩,
  ⟨(some 47), (.mv (.t 3)), (some (46, true))⟩,
  ⟨(some 48), (.mv (.t 0)), (some (46, true))⟩,
  ⟨(some 49), (.len false (.t 48)), (some (46, true))⟩,
  ⟨(some 50), (.slc 1 (.t 47) (some (.t 49)) none), (some (46, true))⟩,
  ⟨(some 51), (.call 18 [(.sc, (.t 50))]), (some (46, true))⟩,
  ⟨(some 52), (.mv (.t 0)), (some (46, true))⟩,
  ⟨(some 53), (.call 14 [(.sc, (.t 52))]), (some (46, true))⟩,
  ⟨(some 54), (.conv .u64 (.t 53)), (some (46, true))⟩,
  ⟨(some 55), (.eq .scI false (.t 51) (.t 54)), (some (46, true))⟩,
  ⟨(some 56), (.pick (.t 46) (.t 55) (.v (.bool false))), none⟩,
  ⟨(some 57), (.mv (.t 56)), none⟩,
  ⟨(some 58), (.mv (.t 0)), (some (57, true))⟩,
  ⟨(some 59), (.call 19 [(.sc, (.t 58))]), (some (57, true))⟩,
  ⟨(some 60), (.mv (.t 4)), (some (57, true))⟩,
  ⟨(some 61), (.eq .scB false (.t 59) (.t 60)), (some (57, true))⟩,
  ⟨(some 62), (.pick (.t 57) (.t 61) (.v (.bool false))), none⟩,
  ⟨(some 63), (.mv (.t 62)), none⟩,
  ⟨(some 64), (.call 13 []), (some (63, true))⟩,
  ⟨(some 65), (.pick (.t 63) (.t 64) (.v (.bool false))), none⟩,
  ⟨(some 2), (.mv (.t 65)), none⟩]
def a5 : AFunc := ⟨[(.tmp 2)], (.seq (.region q5_0) (.seq (.seq (.region q5_1) (.cond (.t 7) (.seq (.region q5_2) .ret) .skip)) (.seq (.region q5_3) (.seq (.region q5_4) (.seq (.seq (.region q5_5) (.cond (.t 13) (.regionD q5_6) .skip)) (.seq (.region q5_7) .ret))))))⟩

def q6_0 : List AOper := [
  ⟨(some 6), (.mv (.v (.bool false))), none⟩]
def q6_1 : List AOper := [
  ⟨(some 11), (.mv (.t 0)), none⟩,
  ⟨(some 12), (.len false (.t 11)), none⟩,
  ⟨(some 13), (.bin .gtr (.t 12) (.v (.int .i64 300))), none⟩,
  ⟨(some 14), (.mv (.t 13)), none⟩,
  ⟨(some 15), (.mv (.t 2)), (some (14, false))⟩,
  ⟨(some 16), (.eq .scI false (.t 15) (.v (.int .u32 0))), (some (14, false))⟩,
  ⟨(some 17), (.pick (.t 14) (.v (.bool true)) (.t 16)), none⟩]
def q6_2 : List AOper := [
  ⟨(some 18), (.call 13 []), none⟩,
  ⟨(some 6), (.mv (.t 18)), none⟩]
def q6_3 : List AOper := [
  ⟨(some 19), (.mv (.t 0)), none⟩,
  ⟨(some 20), (.call 17 [(.sc, (.t 19))]), none⟩,
  ⟨(some 7), (.mv (.t 20)), none⟩]
def q6_4 : List AOper := [
  ⟨(some 21), (.mv (.t 7)), none⟩,
  ⟨(some 22), (.len false (.t 21)), none⟩,
  ⟨(some 23), (.bin .lss (.t 22) (.v (.int .i64 4))), none⟩]
def q6_5 : List AOper := [
  ⟨(some 6), (.mv (.v (.bool false))), none⟩]
def q6_6 : List AOper := [
  ⟨(some 24), (.mv (.t 1)), none⟩,
  ⟨(some 25), (.conv .i64 (.t 24)), none⟩,
  ⟨(some 26), (.mv (.t 7)), none⟩,
  ⟨(some 27), (.len false (.t 26)), none⟩,
  ⟨(some 28), (.bin .mul (.v (.int .i64 8)) (.t 27)), none⟩,
  ⟨(some 29), (.bin .sub (.t 28) (.v (.int .i64 31))), none⟩,
  ⟨(some 30), (.bin .rem (.t 25) (.t 29)), none⟩,
  ⟨(some 8), (.mv (.t 30)), none⟩]
def q6_7 : List AOper := [
  ⟨(some 9), (.mv (.v (.int .i64 0))), none⟩]
def q6_8 : List AOper := [
  ⟨(some 31), (.mv (.t 9)), none⟩,
  ⟨(some 32), (.bin .lss (.t 31) (.v (.int .i64 32))), none⟩]
def q6_9 : List AOper := [
  ⟨(some 35), (.mv (.t 2)), none⟩,
  ⟨(some 36), (.mv (.t 9)), none⟩,
  ⟨(some 37), (.conv .u64 (.t 36)), none⟩,
  ⟨(some 38), (.bin .shr (.t 35) (.t 37)), none⟩,
  ⟨(some 39), (.bin .and (.t 38) (.v (.int .u32 1))), none⟩,
  ⟨(some 40), (.eq .scI false (.t 39) (.v (.int .u32 1))), none⟩]
def q6_10 : List AOper := [
  ⟨(some 41), (.mv (.t 8)), none⟩,
  ⟨(some 42), (.mv (.t 9)), none⟩,
  ⟨(some 43), (.bin .add (.t 41) (.t 42)), none⟩,
  ⟨(some 10), (.mv (.t 43)), none⟩]
def q6_11 : List AOper := [
  ⟨(some 44), (.mv (.t 7)), none⟩,
  ⟨(some 45), (.mv (.t 10)), none⟩,
  ⟨(some 46), (.bin .quo (.t 45) (.v (.int .i64 8))), none⟩,
  ⟨(some 47), (.mv (.t 7)), none⟩,
  ⟨(some 48), (.mv (.t 10)), none⟩,
  ⟨(some 49), (.bin .quo (.t 48) (.v (.int .i64 8))), none⟩,
  ⟨(some 50), (.idx 1 (.t 47) (.t 49)), none⟩,
  ⟨(some 51), (.load .sc 1 (.t 50)), none⟩,
  ⟨(some 52), (.mv (.t 10)), none⟩,
  ⟨(some 53), (.bin .rem (.t 52) (.v (.int .i64 8))), none⟩,
  ⟨(some 54), (.conv .u64 (.t 53)), none⟩,
  ⟨(some 55), (.bin .shl (.v (.int .u8 1)) (.t 54)), none⟩,
  ⟨(some 56), (.bin .xor (.t 51) (.t 55)), none⟩,
  ⟨(some 57), (.idx 1 (.t 44) (.t 46)), none⟩,
  ⟨none, (.store .sc 1 (.t 57) (.t 56)), none⟩]
def q6_12 : List AOper := [
  ⟨(some 33), (.mv (.t 9)), none⟩,
  ⟨(some 34), (.bin .add (.t 33) (.v (.int .i64 1))), none⟩,
  ⟨(some 9), (.mv (.t 34)), none⟩]
def q6_L13 : ACode := (.seq (.seq (.region q6_8) (.cond (.t 32) .skip (.exit 0))) (.seq (.block 1 (.seq (.region q6_9) (.cond (.t 40) (.seq (.region q6_10) (.region q6_11)) .skip))) (.region q6_12)))
def q6_13 : List AOper := [
  ⟨(some 58), (.mv (.t 7)), none⟩,
  ⟨(some 59), (.call 19 [(.sc, (.t 58))]), none⟩,
  ⟨(some 60), (.un .not (.t 59)), none⟩,
  ⟨(some 61), (.mv (.t 60)), none⟩,
  ⟨(some 62), (.call 13 []), (some (61, true))⟩,
  ⟨(some 63), (.pick (.t 61) (.t 62) (.v (.bool false))), none⟩,
  ⟨(some 6), (.mv (.t 63)), none⟩]
def a6 : AFunc := ⟨[(.tmp 6)], (.seq (.region q6_0) (.seq (.seq (.region q6_1) (.cond (.t 17) (.seq (.region q6_2) .ret) .skip)) (.seq (.region q6_3) (.seq (.seq (.region q6_4) (.cond (.t 23) (.seq (.region q6_5) .ret) .skip)) (.seq (.region q6_6) (.seq (.seq (.region q6_7) (.block 0 (.loop q6_L13))) (.seq (.region q6_13) .ret)))))))⟩


theorem c4 : trF Try.prog Try.f4 = some a4 := by kernel_rfl
theorem g4 : Try.prog.funcs[4]? = some Try.f4 := by kernel_rfl
theorem n4 : Try.f4.ntmps = Try.f4.ntmps := rfl
theorem c13 : trF Try.prog Try.f13 = some a13 := by kernel_rfl
theorem g13 : Try.prog.funcs[13]? = some Try.f13 := by kernel_rfl
theorem n13 : Try.f13.ntmps = Try.f13.ntmps := rfl
theorem c14 : trF Try.prog Try.f14 = some a14 := by kernel_rfl
theorem g14 : Try.prog.funcs[14]? = some Try.f14 := by kernel_rfl
theorem n14 : Try.f14.ntmps = Try.f14.ntmps := rfl
theorem c16 : trF Try.prog Try.f16 = some a16 := by kernel_rfl
theorem g16 : Try.prog.funcs[16]? = some Try.f16 := by kernel_rfl
theorem n16 : Try.f16.ntmps = Try.f16.ntmps := rfl
theorem c17 : trF Try.prog Try.f17 = some a17 := by kernel_rfl
theorem g17 : Try.prog.funcs[17]? = some Try.f17 := by kernel_rfl
theorem n17 : Try.f17.ntmps = Try.f17.ntmps := rfl
theorem c19 : trF Try.prog Try.f19 = some a19 := by kernel_rfl
theorem g19 : Try.prog.funcs[19]? = some Try.f19 := by kernel_rfl
theorem n19 : Try.f19.ntmps = Try.f19.ntmps := rfl
theorem c52 : trF Try.prog Try.f52 = some a52 := by kernel_rfl
theorem g52 : Try.prog.funcs[52]? = some Try.f52 := by kernel_rfl
theorem n52 : Try.f52.ntmps = Try.f52.ntmps := rfl
theorem c54 : trF Try.prog Try.f54 = some a54 := by kernel_rfl
theorem g54 : Try.prog.funcs[54]? = some Try.f54 := by kernel_rfl
theorem n54 : Try.f54.ntmps = Try.f54.ntmps := rfl
theorem c18 : trF Try.prog Try.f18 = some a18 := by kernel_rfl
theorem g18 : Try.prog.funcs[18]? = some Try.f18 := by kernel_rfl
theorem n18 : Try.f18.ntmps = Try.f18.ntmps := rfl
theorem c20 : trF Try.prog Try.f20 = some a20 := by kernel_rfl
theorem g20 : Try.prog.funcs[20]? = some Try.f20 := by kernel_rfl
theorem n20 : Try.f20.ntmps = Try.f20.ntmps := rfl
theorem c5 : trF Try.prog Try.f5 = some a5 := by kernel_rfl
theorem g5 : Try.prog.funcs[5]? = some Try.f5 := by kernel_rfl
theorem n5 : Try.f5.ntmps = Try.f5.ntmps := rfl
theorem c6 : trF Try.prog Try.f6 = some a6 := by kernel_rfl
theorem g6 : Try.prog.funcs[6]? = some Try.f6 := by kernel_rfl
theorem n6 : Try.f6.ntmps = Try.f6.ntmps := rfl
end Go.Proofs.Ytgbplcelcjffdaa
