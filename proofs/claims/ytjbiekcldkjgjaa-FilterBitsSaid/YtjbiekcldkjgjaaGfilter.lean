/- Abstract programs; that they are the program's. -/
import Derived.Test.YtjbiekcldkjgjaaFn
namespace Go.Proofs.Ytjbiekcldkjgjaa
open Go AVL
set_option linter.unusedVariables false

def q_filter_Of_0 : List AOper := [
  ⟨(some 4), (.mv (.v .nilP)), none⟩,
  ⟨(some 5), (.mv (.v (.int .i64 0))), none⟩]
def q_filter_Of_1 : List AOper := [
  ⟨(some 11), (.mv (.t 0)), none⟩,
  ⟨(some 12), (.call F_filter_New [(.sc, (.t 11))]), none⟩,
  ⟨(some 10), (.mv (.t 12)), none⟩,
  ⟨(some 13), (.ext 0 (.t 10)), none⟩,
  ⟨(some 14), (.ext 1 (.t 10)), none⟩,
  ⟨(some 6), (.mv (.t 13)), none⟩,
  ⟨(some 7), (.mv (.t 14)), none⟩]
def q_filter_Of_2 : List AOper := [
  ⟨(some 15), (.mv (.t 7)), none⟩,
  ⟨(some 16), (.eq .scI true (.t 15) (.v (.int .i64 0))), none⟩]
def q_filter_Of_3 : List AOper := [
  ⟨(some 17), (.mv (.t 7)), none⟩,
  ⟨(some 4), (.mv (.v .nilP)), none⟩,
  ⟨(some 5), (.mv (.t 17)), none⟩]
def q_filter_Of_4 : List AOper := [
  ⟨(some 18), (.mv (.t 1)), none⟩,
  ⟨(some 19), (.len false (.t 18)), none⟩,
  ⟨(some 20), (.mv (.v (.int .i64 0))), none⟩]
def q_filter_Of_5 : List AOper := [
  ⟨(some 21), (.bin .lss (.t 20) (.t 19)), none⟩]
def q_filter_Of_6 : List AOper := [
  ⟨(some 22), (.idx 32 (.t 18) (.t 20)), none⟩,
  ⟨(some 23), (.load (.ia .u8 32) 32 (.t 22)), none⟩,
  ⟨(some 9), (.alloc 39 [(.iarr .u8 32 (List.replicate 32 0))]), none⟩,
  ⟨none, (.store (.ia .u8 32) 32 (.t 9) (.t 23)), none⟩]
def q_filter_Of_7 : List AOper := [
  ⟨(some 24), (.mv (.t 6)), none⟩,
  ⟨(some 25), (.load (.ia .u8 32) 32 (.t 9)), none⟩,
  ⟨(some 26), (.call F_Pfilter_Filter_Put [(.sc, (.t 24)), ((.ia .u8 32), (.t 25))]), none⟩]
def q_filter_Of_8 : List AOper := [
  ⟨(some 27), (.bin .add (.t 20) (.v (.int .i64 1))), none⟩,
  ⟨(some 20), (.mv (.t 27)), none⟩]
def q_filter_Of_L9 : ACode := (.seq (.region q_filter_Of_5) (.seq (.cond (.t 21) .skip (.exit 0)) (.seq (.block 1 (.seq (.region q_filter_Of_6) (.region q_filter_Of_7))) (.region q_filter_Of_8))))
def q_filter_Of_9 : List AOper := [
  ⟨(some 28), (.mv (.t 6)), none⟩,
  ⟨(some 4), (.mv (.t 28)), none⟩,
  ⟨(some 5), (.mv (.v (.int .i64 0))), none⟩]
def a_filter_Of : AFunc := ⟨[(.tmp 4), (.tmp 5)], (.seq (.region q_filter_Of_0) (.seq (.region q_filter_Of_1) (.seq (.seq (.region q_filter_Of_2) (.cond (.t 16) (.seq (.region q_filter_Of_3) .ret) .skip)) (.seq (.seq (.region q_filter_Of_4) (.block 0 (.loop q_filter_Of_L9))) (.seq (.region q_filter_Of_9) .ret)))))⟩

def q_filter_New_0 : List AOper := [
  ⟨(some 2), (.mv (.v .nilP)), none⟩,
  ⟨(some 3), (.mv (.v (.int .i64 0))), none⟩]
def q_filter_New_1 : List AOper := [
  ⟨(some 4), (.mv (.t 0)), none⟩,
  ⟨(some 5), (.bin .lss (.t 4) (.v (.int .i64 8))), none⟩,
  ⟨(some 6), (.mv (.t 5)), none⟩,
  ⟨(some 7), (.mv (.t 0)), (some (6, false))⟩,
  ⟨(some 8), (.bin .gtr (.t 7) (.v (.int .i64 16384))), (some (6, false))⟩,
  ⟨(some 9), (.pick (.t 6) (.v (.bool true)) (.t 8)), none⟩,
  ⟨(some 10), (.mv (.t 9)), none⟩,
  ⟨(some 11), (.mv (.t 0)), (some (10, false))⟩,
  ⟨(some 12), (.bin .rem (.t 11) (.v (.int .i64 8))), (some (10, false))⟩,
  ⟨(some 13), (.eq .scI true (.t 12) (.v (.int .i64 0))), (some (10, false))⟩,
  ⟨(some 14), (.pick (.t 10) (.v (.bool true)) (.t 13)), none⟩]
def q_filter_New_2 : List AOper := [
  ⟨(some 2), (.mv (.v .nilP)), none⟩,
  ⟨(some 3), (.mv (.v (.int .i64 2))), none⟩]
def q_filter_New_3 : List AOper := [
  ⟨(some 15), (.mv (.t 0)), none⟩,
  ⟨(some 16), (.bin .quo (.t 15) (.v (.int .i64 8))), none⟩,
  ⟨(some 17), (.mkI 5 .u8 1 (.t 16) (.t 16)), none⟩,
  ⟨(some 18), (.build .ag [.nilS, (.int .i64 0)] [(0, (1, (.t 17)))]), none⟩,
  ⟨(some 19), (.box 104 .ag (.t 18)), none⟩,
  ⟨(some 2), (.mv (.t 19)), none⟩,
  ⟨(some 3), (.mv (.v (.int .i64 0))), none⟩]
def a_filter_New : AFunc := ⟨[(.tmp 2), (.tmp 3)], (.seq (.region q_filter_New_0) (.seq (.seq (.region q_filter_New_1) (.cond (.t 14) (.seq (.region q_filter_New_2) .ret) .skip)) (.seq (.region q_filter_New_3) .ret)))⟩

def q_filter_probe_0 : List AOper := [
  ⟨(some 3), (.box 39 (.ia .u8 32) (.t 0)), none⟩,
  ⟨(some 6), (.mv (.v (.int .i64 0))), none⟩]
def q_filter_probe_1 : List AOper := [
  ⟨(some 7), (.mv (.t 1)), none⟩,
  ⟨(some 8), (.bin .mul (.v (.int .i64 8)) (.t 7)), none⟩,
  ⟨(some 9), (.mv (.t 1)), none⟩,
  ⟨(some 10), (.bin .mul (.v (.int .i64 8)) (.t 9)), none⟩,
  ⟨(some 11), (.bin .add (.t 10) (.v (.int .i64 8))), none⟩,
  ⟨(some 12), (.slcA 32 (.t 3) (some (.t 8)) (some (.t 11))), none⟩,
  ⟨(some 13), (.call F_word_Get [(.sc, (.t 12))]), none⟩,
  ⟨(some 14), (.mv (.t 2)), none⟩,
  ⟨(some 15), (.conv .u64 (.t 14)), none⟩,
  ⟨(some 16), (.bin .rem (.t 13) (.t 15)), none⟩,
  ⟨(some 17), (.conv .i64 (.t 16)), none⟩,
  ⟨(some 6), (.mv (.t 17)), none⟩]
def a_filter_probe : AFunc := ⟨[(.tmp 6)], (.seq (.region q_filter_probe_0) (.seq (.region q_filter_probe_1) .ret))⟩

def q_Pfilter_Filter_Len_0 : List AOper := [
  ⟨(some 2), (.mv (.v (.int .i64 0))), none⟩]
def q_Pfilter_Filter_Len_1 : List AOper := [
  ⟨(some 3), (.mv (.t 0)), none⟩,
  ⟨(some 4), (.xx (.p .nilCk) [(.t 3)]), none⟩,
  ⟨(some 5), (.fadr 1 1 .sc (.t 4)), none⟩,
  ⟨(some 6), (.load .sc 1 (.t 5)), none⟩,
  ⟨(some 2), (.mv (.t 6)), none⟩]
def a_Pfilter_Filter_Len : AFunc := ⟨[(.tmp 2)], (.seq (.region q_Pfilter_Filter_Len_0) (.seq (.region q_Pfilter_Filter_Len_1) .ret))⟩

def q_Pfilter_Filter_Size_0 : List AOper := [
  ⟨(some 2), (.mv (.v (.int .i64 0))), none⟩]
def q_Pfilter_Filter_Size_1 : List AOper := [
  ⟨(some 3), (.mv (.t 0)), none⟩,
  ⟨(some 4), (.xx (.p .nilCk) [(.t 3)]), none⟩,
  ⟨(some 5), (.fadr 0 1 .sc (.t 4)), none⟩,
  ⟨(some 6), (.load .sc 1 (.t 5)), none⟩,
  ⟨(some 7), (.len false (.t 6)), none⟩,
  ⟨(some 8), (.bin .mul (.v (.int .i64 8)) (.t 7)), none⟩,
  ⟨(some 2), (.mv (.t 8)), none⟩]
def a_Pfilter_Filter_Size : AFunc := ⟨[(.tmp 2)], (.seq (.region q_Pfilter_Filter_Size_0) (.seq (.region q_Pfilter_Filter_Size_1) .ret))⟩

def q_Pfilter_Filter_Ones_0 : List AOper := [
  ⟨(some 2), (.mv (.v (.int .i64 0))), none⟩]
def q_Pfilter_Filter_Ones_1 : List AOper := [
  ⟨(some 3), (.mv (.v (.int .i64 0))), none⟩]
def q_Pfilter_Filter_Ones_2 : List AOper := [
  ⟨(some 6), (.mv (.t 0)), none⟩,
  ⟨(some 7), (.xx (.p .nilCk) [(.t 6)]), none⟩,
  ⟨(some 8), (.fadr 0 1 .sc (.t 7)), none⟩,
  ⟨(some 9), (.load .sc 1 (.t 8)), none⟩,
  ⟨(some 10), (.len false (.t 9)), none⟩,
  ⟨(some 11), (.mv (.v (.int .i64 0))), none⟩]
def q_Pfilter_Filter_Ones_3 : List AOper := [
  ⟨(some 12), (.bin .lss (.t 11) (.t 10)), none⟩]
def q_Pfilter_Filter_Ones_4 : List AOper := [
  ⟨(some 13), (.idx 1 (.t 9) (.t 11)), none⟩,
  ⟨(some 14), (.load .sc 1 (.t 13)), none⟩,
  ⟨(some 5), (.mv (.t 14)), none⟩]
def q_Pfilter_Filter_Ones_5 : List AOper := [
  ⟨(some 15), (.mv (.t 3)), none⟩,
  ⟨(some 16), (.mv (.t 5)), none⟩,
  ⟨(some 17), (.call F_math_bits_OnesCount8 [(.sc, (.t 16))]), none⟩,
  ⟨(some 18), (.bin .add (.t 15) (.t 17)), none⟩,
  ⟨(some 3), (.mv (.t 18)), none⟩]
def q_Pfilter_Filter_Ones_6 : List AOper := [
  ⟨(some 19), (.bin .add (.t 11) (.v (.int .i64 1))), none⟩,
  ⟨(some 11), (.mv (.t 19)), none⟩]
def q_Pfilter_Filter_Ones_L7 : ACode := (.seq (.region q_Pfilter_Filter_Ones_3) (.seq (.cond (.t 12) .skip (.exit 0)) (.seq (.block 1 (.seq (.region q_Pfilter_Filter_Ones_4) (.region q_Pfilter_Filter_Ones_5))) (.region q_Pfilter_Filter_Ones_6))))
def q_Pfilter_Filter_Ones_7 : List AOper := [
  ⟨(some 20), (.mv (.t 3)), none⟩,
  ⟨(some 2), (.mv (.t 20)), none⟩]
def a_Pfilter_Filter_Ones : AFunc := ⟨[(.tmp 2)], (.seq (.region q_Pfilter_Filter_Ones_0) (.seq (.region q_Pfilter_Filter_Ones_1) (.seq (.seq (.region q_Pfilter_Filter_Ones_2) (.block 0 (.loop q_Pfilter_Filter_Ones_L7))) (.seq (.region q_Pfilter_Filter_Ones_7) .ret))))⟩

def q_Pfilter_Filter_Bytes_0 : List AOper := [
  ⟨(some 2), (.mv (.v .nilS)), none⟩]
def q_Pfilter_Filter_Bytes_1 : List AOper := [
  ⟨(some 3), (.bslI 5 .u8 []), none⟩,
  ⟨(some 4), (.mv (.t 0)), none⟩,
  ⟨(some 5), (.xx (.p .nilCk) [(.t 4)]), none⟩,
  ⟨(some 6), (.fadr 0 1 .sc (.t 5)), none⟩,
  ⟨(some 7), (.load .sc 1 (.t 6)), none⟩,
  ⟨(some 8), (.appI 5 .u8 1 (.t 3) (.t 7)), none⟩,
  ⟨(some 2), (.mv (.t 8)), none⟩]
def a_Pfilter_Filter_Bytes : AFunc := ⟨[(.tmp 2)], (.seq (.region q_Pfilter_Filter_Bytes_0) (.seq (.region q_Pfilter_Filter_Bytes_1) .ret))⟩

def q_Pfilter_Filter_Missing_0 : List AOper := [
  ⟨(some 4), (.mv (.v .nilS)), none⟩]
def q_Pfilter_Filter_Missing_1 : List AOper := [
  ⟨(some 5), (.mv (.v .nilS)), none⟩]
def q_Pfilter_Filter_Missing_2 : List AOper := [
  ⟨(some 8), (.mv (.t 1)), none⟩,
  ⟨(some 9), (.len false (.t 8)), none⟩,
  ⟨(some 10), (.mv (.v (.int .i64 0))), none⟩]
def q_Pfilter_Filter_Missing_3 : List AOper := [
  ⟨(some 11), (.bin .lss (.t 10) (.t 9)), none⟩]
def q_Pfilter_Filter_Missing_4 : List AOper := [
  ⟨(some 12), (.idx 32 (.t 8) (.t 10)), none⟩,
  ⟨(some 13), (.load (.ia .u8 32) 32 (.t 12)), none⟩,
  ⟨(some 7), (.alloc 39 [(.iarr .u8 32 (List.replicate 32 0))]), none⟩,
  ⟨none, (.store (.ia .u8 32) 32 (.t 7) (.t 13)), none⟩]
def q_Pfilter_Filter_Missing_5 : List AOper := [
  ⟨(some 14), (.mv (.t 0)), none⟩,
  ⟨(some 15), (.load (.ia .u8 32) 32 (.t 7)), none⟩,
  ⟨(some 16), (.call F_Pfilter_Filter_Has [(.sc, (.t 14)), ((.ia .u8 32), (.t 15))]), none⟩,
  ⟨(some 17), (.un .not (.t 16)), none⟩]
def q_Pfilter_Filter_Missing_6 : List AOper := [
  ⟨(some 18), (.mv (.t 5)), none⟩,
  ⟨(some 19), (.load (.ia .u8 32) 32 (.t 7)), none⟩,
  ⟨(some 20), (.bsl 39 (.ia .u8 32) 32 [(.t 19)]), none⟩,
  ⟨(some 21), (.app 39 32 32 (.t 18) (.t 20)), none⟩,
  ⟨(some 5), (.mv (.t 21)), none⟩]
def q_Pfilter_Filter_Missing_7 : List AOper := [
  ⟨(some 22), (.bin .add (.t 10) (.v (.int .i64 1))), none⟩,
  ⟨(some 10), (.mv (.t 22)), none⟩]
def q_Pfilter_Filter_Missing_L8 : ACode := (.seq (.region q_Pfilter_Filter_Missing_3) (.seq (.cond (.t 11) .skip (.exit 0)) (.seq (.block 1 (.seq (.region q_Pfilter_Filter_Missing_4) (.seq (.region q_Pfilter_Filter_Missing_5) (.cond (.t 17) (.region q_Pfilter_Filter_Missing_6) .skip)))) (.region q_Pfilter_Filter_Missing_7))))
def q_Pfilter_Filter_Missing_8 : List AOper := [
  ⟨(some 23), (.mv (.t 5)), none⟩,
  ⟨(some 4), (.mv (.t 23)), none⟩]
def a_Pfilter_Filter_Missing : AFunc := ⟨[(.tmp 4)], (.seq (.region q_Pfilter_Filter_Missing_0) (.seq (.region q_Pfilter_Filter_Missing_1) (.seq (.seq (.region q_Pfilter_Filter_Missing_2) (.block 0 (.loop q_Pfilter_Filter_Missing_L8))) (.seq (.region q_Pfilter_Filter_Missing_8) .ret))))⟩

def q_Pfilter_Filter_Has_0 : List AOper := [
  ⟨(some 3), (.box 39 (.ia .u8 32) (.t 1)), none⟩,
  ⟨(some 4), (.mv (.v (.bool false))), none⟩]
def q_Pfilter_Filter_Has_1 : List AOper := [
  ⟨(some 5), (.mv (.t 0)), none⟩,
  ⟨(some 6), (.load (.ia .u8 32) 32 (.t 3)), none⟩,
  ⟨(some 7), (.mv (.t 0)), none⟩,
  ⟨(some 8), (.xx (.p (.mkF (.func F_Pfilter_Filter_has) 1)) [(.t 7)]), none⟩,
  ⟨(some 9), (.call F_Pfilter_Filter_each [(.sc, (.t 5)), ((.ia .u8 32), (.t 6)), (.sc, (.t 8))]), none⟩,
  ⟨(some 4), (.mv (.t 9)), none⟩]
def a_Pfilter_Filter_Has : AFunc := ⟨[(.tmp 4)], (.seq (.region q_Pfilter_Filter_Has_0) (.seq (.region q_Pfilter_Filter_Has_1) .ret))⟩

def q_Pfilter_Filter_Put_0 : List AOper := [
  ⟨(some 2), (.box 24 .sc (.t 0)), none⟩,
  ⟨(some 3), (.box 39 (.ia .u8 32) (.t 1)), none⟩]
def q_Pfilter_Filter_Put_1 : List AOper := [
  ⟨(some 4), (.alloc 109 [.nilF]), none⟩,
  ⟨none, (.store .sc 1 (.t 4) (.v (.func (.func F_Pfilter_Filter_set) [] []))), none⟩]
def q_Pfilter_Filter_Put_2 : List AOper := [
  ⟨(some 5), (.load .sc 1 (.t 2)), none⟩,
  ⟨(some 6), (.load (.ia .u8 32) 32 (.t 3)), none⟩,
  ⟨(some 7), (.xx (.p (.mkF (.func F_Pfilter_Filter_Put_1) 0)) [(.t 4), (.t 2)]), none⟩,
  ⟨(some 8), (.call F_Pfilter_Filter_each [(.sc, (.t 5)), ((.ia .u8 32), (.t 6)), (.sc, (.t 7))]), none⟩]
def q_Pfilter_Filter_Put_3 : List AOper := [
  ⟨(some 9), (.load .sc 1 (.t 2)), none⟩,
  ⟨(some 10), (.xx (.p .nilCk) [(.t 9)]), none⟩,
  ⟨(some 11), (.fadr 1 1 .sc (.t 10)), none⟩,
  ⟨(some 12), (.load .sc 1 (.t 11)), none⟩,
  ⟨(some 13), (.bin .add (.t 12) (.v (.int .i64 1))), none⟩,
  ⟨(some 14), (.xx (.p .nilCk) [(.t 9)]), none⟩,
  ⟨(some 15), (.fadr 1 1 .sc (.t 14)), none⟩,
  ⟨none, (.store .sc 1 (.t 15) (.t 13)), none⟩]
def a_Pfilter_Filter_Put : AFunc := ⟨[], (.seq (.region q_Pfilter_Filter_Put_0) (.seq (.region q_Pfilter_Filter_Put_1) (.seq (.region q_Pfilter_Filter_Put_2) (.region q_Pfilter_Filter_Put_3))))⟩

def q_Pfilter_Filter_Join_0 : List AOper := [
  ⟨(some 4), (.mv (.v (.int .i64 0))), none⟩]
def q_Pfilter_Filter_Join_1 : List DOp := [
  ⟨⟨(some 7), (.mv (.t 1)), none⟩, true, false⟩,
  ⟨⟨(some 8), (.xx (.p (.isNil .ptr false)) [(.t 7)]), none⟩, true, false⟩,
  ⟨⟨(some 9), (.mv (.t 8)), none⟩, true, false⟩,
  ⟨⟨(some 10), (.mv (.t 1)), (some (9, false))⟩, true, false⟩,
  ⟨⟨(some 11), (.xx (.p .nilCk) [(.t 10)]), (some (9, false))⟩, true, false⟩,
  ⟨⟨(some 12), (.fadr 0 1 .sc (.t 11)), (some (9, false))⟩, true, false⟩,
  ⟨⟨(some 13), (.load .sc 1 (.t 12)), (some (9, false))⟩, true, false⟩,
  ⟨⟨(some 14), (.len false (.t 13)), (some (9, false))⟩, true, false⟩,
  ⟨⟨(some 15), (.mv (.t 0)), (some (9, false))⟩, true, false⟩,
  ⟨⟨(some 16), (.xx (.p .nilCk) [(.t 15)]), (some (9, false))⟩, true, false⟩,
  ⟨⟨(some 17), (.fadr 0 1 .sc (.t 16)), (some (9, false))⟩, true, false⟩,
  ⟨⟨(some 18), (.load .sc 1 (.t 17)), (some (9, false))⟩, true, false⟩,
  ⟨⟨(some 19), (.len false (.t 18)), (some (9, false))⟩, true, false⟩,
  ⟨⟨(some 20), (.eq .scI true (.t 14) (.t 19)), (some (9, false))⟩, true, false⟩,
  ⟨⟨(some 21), (.pick (.t 9) (.v (.bool true)) (.t 20)), none⟩, true, false⟩]
def q_Pfilter_Filter_Join_2 : List AOper := [
  ⟨(some 4), (.mv (.v (.int .i64 15))), none⟩]
def q_Pfilter_Filter_Join_3 : List AOper := [
  ⟨(some 22), (.mv (.t 1)), none⟩,
  ⟨(some 23), (.xx (.p .nilCk) [(.t 22)]), none⟩,
  ⟨(some 24), (.fadr 0 1 .sc (.t 23)), none⟩,
  ⟨(some 25), (.load .sc 1 (.t 24)), none⟩,
  ⟨(some 26), (.len false (.t 25)), none⟩,
  ⟨(some 27), (.mv (.v (.int .i64 0))), none⟩]
def q_Pfilter_Filter_Join_4 : List AOper := [
  ⟨(some 28), (.bin .lss (.t 27) (.t 26)), none⟩]
def q_Pfilter_Filter_Join_5 : List AOper := [
  ⟨(some 29), (.mv (.t 27)), none⟩,
  ⟨(some 30), (.idx 1 (.t 25) (.t 27)), none⟩,
  ⟨(some 31), (.load .sc 1 (.t 30)), none⟩,
  ⟨(some 5), (.mv (.t 29)), none⟩,
  ⟨(some 6), (.mv (.t 31)), none⟩]
def q_Pfilter_Filter_Join_6 : List AOper := [
  ⟨(some 32), (.mv (.t 0)), none⟩,
  ⟨(some 33), (.xx (.p .nilCk) [(.t 32)]), none⟩,
  ⟨(some 34), (.fadr 0 1 .sc (.t 33)), none⟩,
  ⟨(some 35), (.load .sc 1 (.t 34)), none⟩,
  ⟨(some 36), (.mv (.t 5)), none⟩,
  ⟨(some 37), (.idx 1 (.t 35) (.t 36)), none⟩,
  ⟨(some 38), (.load .sc 1 (.t 37)), none⟩,
  ⟨(some 39), (.mv (.t 6)), none⟩,
  ⟨(some 40), (.bin .or (.t 38) (.t 39)), none⟩,
  ⟨(some 41), (.idx 1 (.t 35) (.t 36)), none⟩,
  ⟨none, (.store .sc 1 (.t 41) (.t 40)), none⟩]
def q_Pfilter_Filter_Join_7 : List AOper := [
  ⟨(some 42), (.bin .add (.t 27) (.v (.int .i64 1))), none⟩,
  ⟨(some 27), (.mv (.t 42)), none⟩]
def q_Pfilter_Filter_Join_L8 : ACode := (.seq (.region q_Pfilter_Filter_Join_4) (.seq (.cond (.t 28) .skip (.exit 0)) (.seq (.block 1 (.seq (.region q_Pfilter_Filter_Join_5) (.region q_Pfilter_Filter_Join_6))) (.region q_Pfilter_Filter_Join_7))))
def q_Pfilter_Filter_Join_8 : List DOp := [
  ⟨⟨(some 43), (.mv (.t 0)), none⟩, true, false⟩,
  ⟨⟨(some 44), (.xx (.p .nilCk) [(.t 43)]), none⟩, true, false⟩,
  ⟨⟨(some 45), (.fadr 1 1 .sc (.t 44)), none⟩, true, false⟩,
  ⟨⟨(some 46), (.load .sc 1 (.t 45)), none⟩, true, false⟩,
  ⟨⟨(some 47), (.mv (.t 1)), none⟩, true, false⟩,
  ⟨⟨(some 48), (.xx (.p .nilCk) [(.t 47)]), none⟩, true, false⟩,
  ⟨⟨(some 49), (.fadr 1 1 .sc (.t 48)), none⟩, true, false⟩,
  ⟨⟨(some 50), (.load .sc 1 (.t 49)), none⟩, true, false⟩,
  ⟨⟨(some 51), (.bin .add (.t 46) (.t 50)), none⟩, true, false⟩,
  ⟨⟨(some 52), (.xx (.p .nilCk) [(.t 43)]), none⟩, true, false⟩,
  ⟨⟨(some 53), (.fadr 1 1 .sc (.t 52)), none⟩, true, false⟩,
  ⟨⟨none, (.store .sc 1 (.t 53) (.t 51)), none⟩, false, false⟩]
def q_Pfilter_Filter_Join_9 : List AOper := [
  ⟨(some 4), (.mv (.v (.int .i64 0))), none⟩]
def a_Pfilter_Filter_Join : AFunc := ⟨[(.tmp 4)], (.seq (.region q_Pfilter_Filter_Join_0) (.seq (.seq (.regionD q_Pfilter_Filter_Join_1) (.cond (.t 21) (.seq (.region q_Pfilter_Filter_Join_2) .ret) .skip)) (.seq (.seq (.region q_Pfilter_Filter_Join_3) (.block 0 (.loop q_Pfilter_Filter_Join_L8))) (.seq (.regionD q_Pfilter_Filter_Join_8) (.seq (.region q_Pfilter_Filter_Join_9) .ret)))))⟩

def q_Pfilter_Filter_each_0 : List AOper := [
  ⟨(some 4), (.box 39 (.ia .u8 32) (.t 1)), none⟩,
  ⟨(some 6), (.mv (.v (.bool false))), none⟩]
def q_Pfilter_Filter_each_1 : List AOper := [
  ⟨(some 7), (.mv (.v (.bool true))), none⟩]
def q_Pfilter_Filter_each_2 : List AOper := [
  ⟨(some 9), (.mv (.v (.int .i64 0))), none⟩]
def q_Pfilter_Filter_each_3 : List AOper := [
  ⟨(some 10), (.bin .lss (.t 9) (.v (.int .i64 4))), none⟩]
def q_Pfilter_Filter_each_4 : List AOper := [
  ⟨(some 11), (.mv (.t 9)), none⟩,
  ⟨(some 8), (.mv (.t 11)), none⟩]
def q_Pfilter_Filter_each_5 : List DOp := [
  ⟨⟨(some 12), (.mv (.t 2)), none⟩, true, false⟩,
  ⟨⟨(some 13), (.load (.ia .u8 32) 32 (.t 4)), none⟩, true, false⟩,
  ⟨⟨(some 14), (.mv (.t 8)), none⟩, true, false⟩,
  ⟨⟨(some 15), (.mv (.t 0)), none⟩, true, false⟩,
  ⟨⟨(some 16), (.xx (.p .nilCk) [(.t 15)]), none⟩, true, false⟩,
  ⟨⟨(some 17), (.fadr 0 1 .sc (.t 16)), none⟩, true, false⟩,
  ⟨⟨(some 18), (.load .sc 1 (.t 17)), none⟩, true, false⟩,
  ⟨⟨(some 19), (.len false (.t 18)), none⟩, true, false⟩,
  ⟨⟨(some 20), (.bin .mul (.v (.int .i64 8)) (.t 19)), none⟩, true, false⟩,
  ⟨⟨(some 21), (.call F_filter_probe [((.ia .u8 32), (.t 13)), (.sc, (.t 14)), (.sc, (.t 20))]), none⟩, false, false⟩,
  ⟨⟨(some 22), (.callV (.t 12) [(.sc, (.t 21))]), none⟩, false, false⟩,
  ⟨⟨(some 23), (.un .not (.t 22)), none⟩, true, false⟩]
def q_Pfilter_Filter_each_6 : List AOper := [
  ⟨(some 7), (.mv (.v (.bool false))), none⟩]
def q_Pfilter_Filter_each_7 : List AOper := [
  ⟨(some 24), (.bin .add (.t 9) (.v (.int .i64 1))), none⟩,
  ⟨(some 9), (.mv (.t 24)), none⟩]
def q_Pfilter_Filter_each_L8 : ACode := (.seq (.region q_Pfilter_Filter_each_3) (.seq (.cond (.t 10) .skip (.exit 0)) (.seq (.block 1 (.seq (.region q_Pfilter_Filter_each_4) (.seq (.regionD q_Pfilter_Filter_each_5) (.cond (.t 23) (.region q_Pfilter_Filter_each_6) .skip)))) (.region q_Pfilter_Filter_each_7))))
def q_Pfilter_Filter_each_8 : List AOper := [
  ⟨(some 25), (.mv (.t 7)), none⟩,
  ⟨(some 6), (.mv (.t 25)), none⟩]
def a_Pfilter_Filter_each : AFunc := ⟨[(.tmp 6)], (.seq (.region q_Pfilter_Filter_each_0) (.seq (.region q_Pfilter_Filter_each_1) (.seq (.seq (.region q_Pfilter_Filter_each_2) (.block 0 (.loop q_Pfilter_Filter_each_L8))) (.seq (.region q_Pfilter_Filter_each_8) .ret))))⟩

def q_Pfilter_Filter_has_0 : List AOper := [
  ⟨(some 4), (.mv (.v (.bool false))), none⟩]
def q_Pfilter_Filter_has_1 : List AOper := [
  ⟨(some 5), (.mv (.t 0)), none⟩,
  ⟨(some 6), (.xx (.p .nilCk) [(.t 5)]), none⟩,
  ⟨(some 7), (.fadr 0 1 .sc (.t 6)), none⟩,
  ⟨(some 8), (.load .sc 1 (.t 7)), none⟩,
  ⟨(some 9), (.mv (.t 1)), none⟩,
  ⟨(some 10), (.bin .quo (.t 9) (.v (.int .i64 8))), none⟩,
  ⟨(some 11), (.idx 1 (.t 8) (.t 10)), none⟩,
  ⟨(some 12), (.load .sc 1 (.t 11)), none⟩,
  ⟨(some 13), (.mv (.t 1)), none⟩,
  ⟨(some 14), (.bin .rem (.t 13) (.v (.int .i64 8))), none⟩,
  ⟨(some 15), (.bin .shr (.t 12) (.t 14)), none⟩,
  ⟨(some 16), (.bin .and (.t 15) (.v (.int .u8 1))), none⟩,
  ⟨(some 17), (.eq .scI false (.t 16) (.v (.int .u8 1))), none⟩,
  ⟨(some 4), (.mv (.t 17)), none⟩]
def a_Pfilter_Filter_has : AFunc := ⟨[(.tmp 4)], (.seq (.region q_Pfilter_Filter_has_0) (.seq (.region q_Pfilter_Filter_has_1) .ret))⟩

def q_Pfilter_Filter_set_0 : List AOper := [
  ⟨(some 4), (.mv (.v (.bool false))), none⟩]
def q_Pfilter_Filter_set_1 : List DOp := [
  ⟨⟨(some 5), (.mv (.t 0)), none⟩, true, false⟩,
  ⟨⟨(some 6), (.xx (.p .nilCk) [(.t 5)]), none⟩, true, false⟩,
  ⟨⟨(some 7), (.fadr 0 1 .sc (.t 6)), none⟩, true, false⟩,
  ⟨⟨(some 8), (.load .sc 1 (.t 7)), none⟩, true, false⟩,
  ⟨⟨(some 9), (.mv (.t 1)), none⟩, true, false⟩,
  ⟨⟨(some 10), (.bin .quo (.t 9) (.v (.int .i64 8))), none⟩, true, false⟩,
  ⟨⟨(some 11), (.idx 1 (.t 8) (.t 10)), none⟩, true, false⟩,
  ⟨⟨(some 12), (.load .sc 1 (.t 11)), none⟩, true, false⟩,
  ⟨⟨(some 13), (.mv (.t 1)), none⟩, true, false⟩,
  ⟨⟨(some 14), (.bin .rem (.t 13) (.v (.int .i64 8))), none⟩, true, false⟩,
  ⟨⟨(some 15), (.bin .shl (.v (.int .u8 1)) (.t 14)), none⟩, true, false⟩,
  ⟨⟨(some 16), (.bin .or (.t 12) (.t 15)), none⟩, true, false⟩,
  ⟨⟨(some 17), (.idx 1 (.t 8) (.t 10)), none⟩, true, false⟩,
  ⟨⟨none, (.store .sc 1 (.t 17) (.t 16)), none⟩, false, false⟩]
def q_Pfilter_Filter_set_2 : List AOper := [
  ⟨(some 4), (.mv (.v (.bool true))), none⟩]
def a_Pfilter_Filter_set : AFunc := ⟨[(.tmp 4)], (.seq (.region q_Pfilter_Filter_set_0) (.seq (.regionD q_Pfilter_Filter_set_1) (.seq (.region q_Pfilter_Filter_set_2) .ret)))⟩

def q_Pfilter_Filter_Put_1_0 : List AOper := [
  ⟨(some 4), (.mv (.v (.bool false))), none⟩]
def q_Pfilter_Filter_Put_1_1 : List AOper := [
  ⟨(some 5), (.load .sc 1 (.t 1)), none⟩,
  ⟨(some 6), (.load .sc 1 (.t 2)), none⟩,
  ⟨(some 7), (.mv (.t 0)), none⟩,
  ⟨(some 8), (.callV (.t 5) [(.sc, (.t 6)), (.sc, (.t 7))]), none⟩,
  ⟨(some 4), (.mv (.t 8)), none⟩]
def a_Pfilter_Filter_Put_1 : AFunc := ⟨[(.tmp 4)], (.seq (.region q_Pfilter_Filter_Put_1_0) (.seq (.region q_Pfilter_Filter_Put_1_1) .ret))⟩

def q_law32_FilterBits_0 : List AOper := [
  ⟨(some 8), (.mv (.v (.bool false))), none⟩]
def q_law32_FilterBits_1 : List AOper := [
  ⟨(some 18), (.mv (.t 1)), none⟩,
  ⟨(some 19), (.len false (.t 18)), none⟩,
  ⟨(some 20), (.bin .gtr (.t 19) (.v (.int .i64 60))), none⟩,
  ⟨(some 21), (.mv (.t 20)), none⟩,
  ⟨(some 22), (.mv (.t 2)), (some (21, false))⟩,
  ⟨(some 23), (.len false (.t 22)), (some (21, false))⟩,
  ⟨(some 24), (.bin .gtr (.t 23) (.v (.int .i64 60))), (some (21, false))⟩,
  ⟨(some 25), (.pick (.t 21) (.v (.bool true)) (.t 24)), none⟩]
def q_law32_FilterBits_2 : List AOper := [
  ⟨(some 26), (.call F_law32_works []), none⟩,
  ⟨(some 8), (.mv (.t 26)), none⟩]
def q_law32_FilterBits_3 : List AOper := [
  ⟨(some 28), (.mv (.t 0)), none⟩,
  ⟨(some 29), (.call F_law32_size [(.sc, (.t 28))]), none⟩,
  ⟨(some 30), (.mv (.t 1)), none⟩,
  ⟨(some 31), (.call F_filter_Of [(.sc, (.t 29)), (.sc, (.t 30))]), none⟩,
  ⟨(some 27), (.mv (.t 31)), none⟩,
  ⟨(some 32), (.ext 0 (.t 27)), none⟩,
  ⟨(some 33), (.ext 1 (.t 27)), none⟩,
  ⟨(some 9), (.mv (.t 32)), none⟩,
  ⟨(some 10), (.mv (.t 33)), none⟩]
def q_law32_FilterBits_4 : List AOper := [
  ⟨(some 35), (.mv (.t 3)), none⟩,
  ⟨(some 36), (.call F_filter_New [(.sc, (.t 35))]), none⟩,
  ⟨(some 34), (.mv (.t 36)), none⟩,
  ⟨(some 37), (.ext 0 (.t 34)), none⟩,
  ⟨(some 38), (.ext 1 (.t 34)), none⟩,
  ⟨(some 11), (.mv (.t 37)), none⟩,
  ⟨(some 12), (.mv (.t 38)), none⟩]
def q_law32_FilterBits_5 : List AOper := [
  ⟨(some 39), (.mv (.t 10)), none⟩,
  ⟨(some 40), (.eq .scI true (.t 39) (.v (.int .i64 0))), none⟩,
  ⟨(some 41), (.mv (.t 40)), none⟩,
  ⟨(some 42), (.mv (.t 9)), (some (41, false))⟩,
  ⟨(some 43), (.xx (.p (.isNil .ptr false)) [(.t 42)]), (some (41, false))⟩,
  ⟨(some 44), (.pick (.t 41) (.v (.bool true)) (.t 43)), none⟩,
  ⟨(some 45), (.mv (.t 44)), none⟩,
  ⟨(some 46), (.mv (.t 12)), (some (45, false))⟩,
  ⟨(some 47), (.eq .scI false (.t 46) (.v (.int .i64 0))), (some (45, false))⟩,
  ⟨(some 48), (.mv (.t 3)), (some (45, false))⟩,
  ⟨(some 49), (.bin .geq (.t 48) (.v (.int .i64 8))), (some (45, false))⟩,
  ⟨(some 50), (.mv (.t 49)), (some (45, false))⟩,
  ⟨(some 51), (.mv (.t 3)), (some (50, true))⟩,
  ⟨(some 52), (.bin .leq (.t 51) (.v (.int .i64 16384))), (some (50, true))⟩,
  ⟨(some 53), (.pick (.t 50) (.t 52) (.v (.bool false))), (some (45, false))⟩,
  ⟨(some 54), (.mv (.t 53)), (some (45, false))⟩,
  ⟨(some 55), (.mv (.t 3)), (some (54, true))⟩,
  ⟨(some 56), (.bin .rem (.t 55) (.v (.int .i64 8))), (some (54, true))⟩,
  ⟨(some 57), (.eq .scI false (.t 56) (.v (.int .i64 0))), (some (54, true))⟩,
  ⟨(some 58), (.pick (.t 54) (.t 57) (.v (.bool false))), (some (45, false))⟩,
  ⟨(some 59), (.eq .scB true (.t 47) (.t 58)), (some (45, false))⟩,
  ⟨(some 60), (.pick (.t 45) (.v (.bool true)) (.t 59)), none⟩,
  ⟨(some 61), (.mv (.t 60)), none⟩,
  ⟨(some 62), (.mv (.t 11)), (some (61, false))⟩,
  ⟨(some 63), (.xx (.p (.isNil .ptr false)) [(.t 62)]), (some (61, false))⟩,
  ⟨(some 64), (.mv (.t 12)), (some (61, false))⟩,
  ⟨(some 65), (.eq .scI true (.t 64) (.v (.int .i64 0))), (some (61, false))⟩,
  ⟨(some 66), (.eq .scB true (.t 63) (.t 65)), (some (61, false))⟩,
  ⟨(some 67), (.pick (.t 61) (.v (.bool true)) (.t 66)), none⟩]
def q_law32_FilterBits_6 : List AOper := [
  ⟨(some 8), (.mv (.v (.bool false))), none⟩]
def q_law32_FilterBits_7 : List AOper := [
  ⟨(some 68), (.mv (.t 1)), none⟩,
  ⟨(some 69), (.mv (.t 0)), none⟩,
  ⟨(some 70), (.call F_law32_size [(.sc, (.t 69))]), none⟩,
  ⟨(some 71), (.call F_ref32_Set [(.sc, (.t 68)), (.sc, (.t 70))]), none⟩,
  ⟨(some 13), (.mv (.t 71)), none⟩]
def q_law32_FilterBits_8 : List AOper := [
  ⟨(some 72), (.mv (.t 9)), none⟩,
  ⟨(some 73), (.call F_Pfilter_Filter_Len [(.sc, (.t 72))]), none⟩,
  ⟨(some 74), (.mv (.t 1)), none⟩,
  ⟨(some 75), (.len false (.t 74)), none⟩,
  ⟨(some 76), (.eq .scI true (.t 73) (.t 75)), none⟩,
  ⟨(some 77), (.mv (.t 76)), none⟩,
  ⟨(some 78), (.mv (.t 9)), (some (77, false))⟩,
  ⟨(some 79), (.call F_Pfilter_Filter_Size [(.sc, (.t 78))]), (some (77, false))⟩,
  ⟨(some 80), (.mv (.t 0)), (some (77, false))⟩,
  ⟨(some 81), (.call F_law32_size [(.sc, (.t 80))]), (some (77, false))⟩,
  ⟨(some 82), (.eq .scI true (.t 79) (.t 81)), (some (77, false))⟩,
  ⟨(some 83), (.pick (.t 77) (.v (.bool true)) (.t 82)), none⟩,
  ⟨(some 84), (.mv (.t 83)), none⟩,
  ⟨(some 85), (.mv (.t 9)), (some (84, false))⟩,
  ⟨(some 86), (.call F_Pfilter_Filter_Ones [(.sc, (.t 85))]), (some (84, false))⟩,
  ⟨(some 87), (.mv (.t 13)), (some (84, false))⟩,
  ⟨(some 88), (.len false (.t 87)), (some (84, false))⟩,
  ⟨(some 89), (.eq .scI true (.t 86) (.t 88)), (some (84, false))⟩,
  ⟨(some 90), (.pick (.t 84) (.v (.bool true)) (.t 89)), none⟩,
  ⟨(some 91), (.mv (.t 90)), none⟩,
  ⟨(some 92), (.mv (.t 9)), (some (91, false))⟩,
  ⟨(some 93), (.call F_Pfilter_Filter_Bytes [(.sc, (.t 92))]), (some (91, false))⟩,
  ⟨(some 94), (.mv (.t 13)), (some (91, false))⟩,
  ⟨(some 95), (.mv (.t 0)), (some (91, false))⟩,
  ⟨(some 96), (.call F_law32_size [(.sc, (.t 95))]), (some (91, false))⟩,
  ⟨(some 97), (.call F_ref32_Bytes [(.sc, (.t 94)), (.sc, (.t 96))]), (some (91, false))⟩,
  ⟨(some 98), (.call F_ref01_Same [(.sc, (.t 93)), (.sc, (.t 97))]), (some (91, false))⟩,
  ⟨(some 99), (.un .not (.t 98)), (some (91, false))⟩,
  ⟨(some 100), (.pick (.t 91) (.v (.bool true)) (.t 99)), none⟩]
def q_law32_FilterBits_9 : List AOper := [
  ⟨(some 8), (.mv (.v (.bool false))), none⟩]
def q_law32_FilterBits_10 : List AOper := [
  ⟨(some 101), (.mv (.t 9)), none⟩,
  ⟨(some 102), (.mv (.t 2)), none⟩,
  ⟨(some 103), (.call F_Pfilter_Filter_Missing [(.sc, (.t 101)), (.sc, (.t 102))]), none⟩,
  ⟨(some 14), (.mv (.t 103)), none⟩]
def q_law32_FilterBits_11 : List AOper := [
  ⟨(some 15), (.mv (.v (.int .i64 0))), none⟩]
def q_law32_FilterBits_12 : List AOper := [
  ⟨(some 16), (.mv (.v (.int .i64 0))), none⟩]
def q_law32_FilterBits_13 : List AOper := [
  ⟨(some 104), (.mv (.t 16)), none⟩,
  ⟨(some 105), (.mv (.t 2)), none⟩,
  ⟨(some 106), (.len false (.t 105)), none⟩,
  ⟨(some 107), (.bin .lss (.t 104) (.t 106)), none⟩]
def q_law32_FilterBits_14 : List DOp := [
  ⟨⟨(some 110), (.mv (.t 13)), none⟩, true, false⟩,
  ⟨⟨(some 111), (.mv (.t 2)), none⟩, true, false⟩,
  ⟨⟨(some 112), (.mv (.t 16)), none⟩, true, false⟩,
  ⟨⟨(some 113), (.idx 32 (.t 111) (.t 112)), none⟩, true, false⟩,
  ⟨⟨(some 114), (.load (.ia .u8 32) 32 (.t 113)), none⟩, true, false⟩,
  ⟨⟨(some 115), (.mv (.t 0)), none⟩, true, false⟩,
  ⟨⟨(some 116), (.call F_law32_size [(.sc, (.t 115))]), none⟩, false, true⟩,
  ⟨⟨(some 117), (.call F_ref32_Has [(.sc, (.t 110)), ((.ia .u8 32), (.t 114)), (.sc, (.t 116))]), none⟩, false, false⟩,
  ⟨⟨(some 17), (.mv (.t 117)), none⟩, true, false⟩]
def q_law32_FilterBits_15 : List AOper := [
  ⟨(some 118), (.mv (.t 9)), none⟩,
  ⟨(some 119), (.mv (.t 2)), none⟩,
  ⟨(some 120), (.mv (.t 16)), none⟩,
  ⟨(some 121), (.idx 32 (.t 119) (.t 120)), none⟩,
  ⟨(some 122), (.load (.ia .u8 32) 32 (.t 121)), none⟩,
  ⟨(some 123), (.call F_Pfilter_Filter_Has [(.sc, (.t 118)), ((.ia .u8 32), (.t 122))]), none⟩,
  ⟨(some 124), (.mv (.t 17)), none⟩,
  ⟨(some 125), (.eq .scB true (.t 123) (.t 124)), none⟩]
def q_law32_FilterBits_16 : List AOper := [
  ⟨(some 8), (.mv (.v (.bool false))), none⟩]
def q_law32_FilterBits_17 : List AOper := [
  ⟨(some 126), (.mv (.t 17)), none⟩,
  ⟨(some 127), (.un .not (.t 126)), none⟩]
def q_law32_FilterBits_18 : List DOp := [
  ⟨⟨(some 128), (.mv (.t 15)), none⟩, true, false⟩,
  ⟨⟨(some 129), (.mv (.t 14)), none⟩, true, false⟩,
  ⟨⟨(some 130), (.len false (.t 129)), none⟩, true, false⟩,
  ⟨⟨(some 131), (.bin .geq (.t 128) (.t 130)), none⟩, true, false⟩,
  ⟨⟨(some 132), (.mv (.t 131)), none⟩, true, false⟩,
  ⟨⟨(some 133), (.mv (.t 14)), (some (132, false))⟩, true, false⟩,
  ⟨⟨(some 134), (.mv (.t 15)), (some (132, false))⟩, true, false⟩,
  ⟨⟨(some 135), (.idx 32 (.t 133) (.t 134)), (some (132, false))⟩, true, false⟩,
  ⟨⟨(some 136), (.load (.ia .u8 32) 32 (.t 135)), (some (132, false))⟩, true, false⟩,
  ⟨⟨(some 137), (.mv (.t 2)), (some (132, false))⟩, true, false⟩,
  ⟨⟨(some 138), (.mv (.t 16)), (some (132, false))⟩, true, false⟩,
  ⟨⟨(some 139), (.idx 32 (.t 137) (.t 138)), (some (132, false))⟩, true, false⟩,
  ⟨⟨(some 140), (.load (.ia .u8 32) 32 (.t 139)), (some (132, false))⟩, true, false⟩,
  ⟨⟨(some 141), (.eq (.ia 32) true (.t 136) (.t 140)), (some (132, false))⟩, true, false⟩,
  ⟨⟨(some 142), (.pick (.t 132) (.v (.bool true)) (.t 141)), none⟩, true, false⟩]
def q_law32_FilterBits_19 : List AOper := [
  ⟨(some 8), (.mv (.v (.bool false))), none⟩]
def q_law32_FilterBits_20 : List AOper := [
  ⟨(some 143), (.mv (.t 15)), none⟩,
  ⟨(some 144), (.bin .add (.t 143) (.v (.int .i64 1))), none⟩,
  ⟨(some 15), (.mv (.t 144)), none⟩]
def q_law32_FilterBits_21 : List AOper := [
  ⟨(some 108), (.mv (.t 16)), none⟩,
  ⟨(some 109), (.bin .add (.t 108) (.v (.int .i64 1))), none⟩,
  ⟨(some 16), (.mv (.t 109)), none⟩]
def q_law32_FilterBits_L22 : ACode := (.seq (.seq (.region q_law32_FilterBits_13) (.cond (.t 107) .skip (.exit 0))) (.seq (.block 1 (.seq (.regionD q_law32_FilterBits_14) (.seq (.seq (.region q_law32_FilterBits_15) (.cond (.t 125) (.seq (.region q_law32_FilterBits_16) .ret) .skip)) (.seq (.region q_law32_FilterBits_17) (.cond (.t 127) (.seq (.seq (.regionD q_law32_FilterBits_18) (.cond (.t 142) (.seq (.region q_law32_FilterBits_19) .ret) .skip)) (.region q_law32_FilterBits_20)) .skip))))) (.region q_law32_FilterBits_21)))
def q_law32_FilterBits_22 : List AOper := [
  ⟨(some 145), (.mv (.t 15)), none⟩,
  ⟨(some 146), (.mv (.t 14)), none⟩,
  ⟨(some 147), (.len false (.t 146)), none⟩,
  ⟨(some 148), (.eq .scI false (.t 145) (.t 147)), none⟩,
  ⟨(some 149), (.mv (.t 148)), none⟩,
  ⟨(some 150), (.call F_law32_works []), (some (149, true))⟩,
  ⟨(some 151), (.pick (.t 149) (.t 150) (.v (.bool false))), none⟩,
  ⟨(some 8), (.mv (.t 151)), none⟩]
def a_law32_FilterBits : AFunc := ⟨[(.tmp 8)], (.seq (.region q_law32_FilterBits_0) (.seq (.seq (.region q_law32_FilterBits_1) (.cond (.t 25) (.seq (.region q_law32_FilterBits_2) .ret) .skip)) (.seq (.region q_law32_FilterBits_3) (.seq (.region q_law32_FilterBits_4) (.seq (.seq (.region q_law32_FilterBits_5) (.cond (.t 67) (.seq (.region q_law32_FilterBits_6) .ret) .skip)) (.seq (.region q_law32_FilterBits_7) (.seq (.seq (.region q_law32_FilterBits_8) (.cond (.t 100) (.seq (.region q_law32_FilterBits_9) .ret) .skip)) (.seq (.region q_law32_FilterBits_10) (.seq (.region q_law32_FilterBits_11) (.seq (.seq (.region q_law32_FilterBits_12) (.block 0 (.loop q_law32_FilterBits_L22))) (.seq (.region q_law32_FilterBits_22) .ret)))))))))))⟩

def q_law32_FilterKeeps_0 : List AOper := [
  ⟨(some 4), (.mv (.v (.bool false))), none⟩]
def q_law32_FilterKeeps_1 : List AOper := [
  ⟨(some 11), (.mv (.t 1)), none⟩,
  ⟨(some 12), (.len false (.t 11)), none⟩,
  ⟨(some 13), (.bin .gtr (.t 12) (.v (.int .i64 200))), none⟩]
def q_law32_FilterKeeps_2 : List AOper := [
  ⟨(some 14), (.call F_law32_works []), none⟩,
  ⟨(some 4), (.mv (.t 14)), none⟩]
def q_law32_FilterKeeps_3 : List AOper := [
  ⟨(some 16), (.mv (.t 0)), none⟩,
  ⟨(some 17), (.call F_law32_size [(.sc, (.t 16))]), none⟩,
  ⟨(some 18), (.call F_filter_New [(.sc, (.t 17))]), none⟩,
  ⟨(some 15), (.mv (.t 18)), none⟩,
  ⟨(some 19), (.ext 0 (.t 15)), none⟩,
  ⟨(some 20), (.ext 1 (.t 15)), none⟩,
  ⟨(some 5), (.mv (.t 19)), none⟩,
  ⟨(some 6), (.mv (.t 20)), none⟩]
def q_law32_FilterKeeps_4 : List AOper := [
  ⟨(some 22), (.mv (.t 0)), none⟩,
  ⟨(some 23), (.call F_law32_size [(.sc, (.t 22))]), none⟩,
  ⟨(some 24), (.call F_filter_New [(.sc, (.t 23))]), none⟩,
  ⟨(some 21), (.mv (.t 24)), none⟩,
  ⟨(some 25), (.ext 0 (.t 21)), none⟩,
  ⟨(some 26), (.ext 1 (.t 21)), none⟩,
  ⟨(some 7), (.mv (.t 25)), none⟩,
  ⟨(some 8), (.mv (.t 26)), none⟩]
def q_law32_FilterKeeps_5 : List AOper := [
  ⟨(some 27), (.mv (.t 5)), none⟩,
  ⟨(some 28), (.xx (.p (.isNil .ptr false)) [(.t 27)]), none⟩,
  ⟨(some 29), (.mv (.t 28)), none⟩,
  ⟨(some 30), (.mv (.t 7)), (some (29, false))⟩,
  ⟨(some 31), (.xx (.p (.isNil .ptr false)) [(.t 30)]), (some (29, false))⟩,
  ⟨(some 32), (.pick (.t 29) (.v (.bool true)) (.t 31)), none⟩,
  ⟨(some 33), (.mv (.t 32)), none⟩,
  ⟨(some 34), (.mv (.t 6)), (some (33, false))⟩,
  ⟨(some 35), (.eq .scI true (.t 34) (.v (.int .i64 0))), (some (33, false))⟩,
  ⟨(some 36), (.pick (.t 33) (.v (.bool true)) (.t 35)), none⟩,
  ⟨(some 37), (.mv (.t 36)), none⟩,
  ⟨(some 38), (.mv (.t 8)), (some (37, false))⟩,
  ⟨(some 39), (.eq .scI true (.t 38) (.v (.int .i64 0))), (some (37, false))⟩,
  ⟨(some 40), (.pick (.t 37) (.v (.bool true)) (.t 39)), none⟩]
def q_law32_FilterKeeps_6 : List AOper := [
  ⟨(some 4), (.mv (.v (.bool false))), none⟩]
def q_law32_FilterKeeps_7 : List AOper := [
  ⟨(some 9), (.mv (.v (.int .i64 0))), none⟩]
def q_law32_FilterKeeps_8 : List AOper := [
  ⟨(some 41), (.mv (.t 9)), none⟩,
  ⟨(some 42), (.mv (.t 1)), none⟩,
  ⟨(some 43), (.len false (.t 42)), none⟩,
  ⟨(some 44), (.bin .lss (.t 41) (.t 43)), none⟩]
def q_law32_FilterKeeps_9 : List AOper := [
  ⟨(some 47), (.mv (.t 5)), none⟩,
  ⟨(some 48), (.mv (.t 1)), none⟩,
  ⟨(some 49), (.mv (.t 9)), none⟩,
  ⟨(some 50), (.idx 32 (.t 48) (.t 49)), none⟩,
  ⟨(some 51), (.load (.ia .u8 32) 32 (.t 50)), none⟩,
  ⟨(some 52), (.call F_Pfilter_Filter_Put [(.sc, (.t 47)), ((.ia .u8 32), (.t 51))]), none⟩]
def q_law32_FilterKeeps_10 : List AOper := [
  ⟨(some 53), (.mv (.t 7)), none⟩,
  ⟨(some 54), (.mv (.t 1)), none⟩,
  ⟨(some 55), (.mv (.t 1)), none⟩,
  ⟨(some 56), (.len false (.t 55)), none⟩,
  ⟨(some 57), (.bin .sub (.t 56) (.v (.int .i64 1))), none⟩,
  ⟨(some 58), (.mv (.t 9)), none⟩,
  ⟨(some 59), (.bin .sub (.t 57) (.t 58)), none⟩,
  ⟨(some 60), (.idx 32 (.t 54) (.t 59)), none⟩,
  ⟨(some 61), (.load (.ia .u8 32) 32 (.t 60)), none⟩,
  ⟨(some 62), (.call F_Pfilter_Filter_Put [(.sc, (.t 53)), ((.ia .u8 32), (.t 61))]), none⟩]
def q_law32_FilterKeeps_11 : List AOper := [
  ⟨(some 45), (.mv (.t 9)), none⟩,
  ⟨(some 46), (.bin .add (.t 45) (.v (.int .i64 1))), none⟩,
  ⟨(some 9), (.mv (.t 46)), none⟩]
def q_law32_FilterKeeps_L12 : ACode := (.seq (.seq (.region q_law32_FilterKeeps_8) (.cond (.t 44) .skip (.exit 0))) (.seq (.block 1 (.seq (.region q_law32_FilterKeeps_9) (.region q_law32_FilterKeeps_10))) (.region q_law32_FilterKeeps_11)))
def q_law32_FilterKeeps_12 : List AOper := [
  ⟨(some 10), (.mv (.v (.int .i64 0))), none⟩]
def q_law32_FilterKeeps_13 : List AOper := [
  ⟨(some 63), (.mv (.t 10)), none⟩,
  ⟨(some 64), (.mv (.t 1)), none⟩,
  ⟨(some 65), (.len false (.t 64)), none⟩,
  ⟨(some 66), (.bin .lss (.t 63) (.t 65)), none⟩]
def q_law32_FilterKeeps_14 : List AOper := [
  ⟨(some 69), (.mv (.t 5)), none⟩,
  ⟨(some 70), (.mv (.t 1)), none⟩,
  ⟨(some 71), (.mv (.t 10)), none⟩,
  ⟨(some 72), (.idx 32 (.t 70) (.t 71)), none⟩,
  ⟨(some 73), (.load (.ia .u8 32) 32 (.t 72)), none⟩,
  ⟨(some 74), (.call F_Pfilter_Filter_Has [(.sc, (.t 69)), ((.ia .u8 32), (.t 73))]), none⟩,
  ⟨(some 75), (.un .not (.t 74)), none⟩,
  ⟨(some 76), (.mv (.t 75)), none⟩,
  ⟨(some 77), (.mv (.t 7)), (some (76, false))⟩,
  ⟨(some 78), (.mv (.t 1)), (some (76, false))⟩,
  ⟨(some 79), (.mv (.t 10)), (some (76, false))⟩,
  ⟨(some 80), (.idx 32 (.t 78) (.t 79)), (some (76, false))⟩,
  ⟨(some 81), (.load (.ia .u8 32) 32 (.t 80)), (some (76, false))⟩,
  ⟨(some 82), (.call F_Pfilter_Filter_Has [(.sc, (.t 77)), ((.ia .u8 32), (.t 81))]), (some (76, false))⟩,
  ⟨(some 83), (.un .not (.t 82)), (some (76, false))⟩,
  ⟨(some 84), (.pick (.t 76) (.v (.bool true)) (.t 83)), none⟩]
def q_law32_FilterKeeps_15 : List AOper := [
  ⟨(some 4), (.mv (.v (.bool false))), none⟩]
def q_law32_FilterKeeps_16 : List AOper := [
  ⟨(some 67), (.mv (.t 10)), none⟩,
  ⟨(some 68), (.bin .add (.t 67) (.v (.int .i64 1))), none⟩,
  ⟨(some 10), (.mv (.t 68)), none⟩]
def q_law32_FilterKeeps_L17 : ACode := (.seq (.seq (.region q_law32_FilterKeeps_13) (.cond (.t 66) .skip (.exit 2))) (.seq (.block 3 (.seq (.region q_law32_FilterKeeps_14) (.cond (.t 84) (.seq (.region q_law32_FilterKeeps_15) .ret) .skip))) (.region q_law32_FilterKeeps_16)))
def q_law32_FilterKeeps_17 : List AOper := [
  ⟨(some 85), (.mv (.t 5)), none⟩,
  ⟨(some 86), (.call F_Pfilter_Filter_Bytes [(.sc, (.t 85))]), none⟩,
  ⟨(some 87), (.mv (.t 7)), none⟩,
  ⟨(some 88), (.call F_Pfilter_Filter_Bytes [(.sc, (.t 87))]), none⟩,
  ⟨(some 89), (.call F_ref01_Same [(.sc, (.t 86)), (.sc, (.t 88))]), none⟩,
  ⟨(some 90), (.mv (.t 89)), none⟩,
  ⟨(some 91), (.mv (.t 5)), (some (90, true))⟩,
  ⟨(some 92), (.mv (.t 1)), (some (90, true))⟩,
  ⟨(some 93), (.call F_Pfilter_Filter_Missing [(.sc, (.t 91)), (.sc, (.t 92))]), (some (90, true))⟩,
  ⟨(some 94), (.len false (.t 93)), (some (90, true))⟩,
  ⟨(some 95), (.eq .scI false (.t 94) (.v (.int .i64 0))), (some (90, true))⟩,
  ⟨(some 96), (.pick (.t 90) (.t 95) (.v (.bool false))), none⟩,
  ⟨(some 97), (.mv (.t 96)), none⟩,
  ⟨(some 98), (.call F_law32_works []), (some (97, true))⟩,
  ⟨(some 99), (.pick (.t 97) (.t 98) (.v (.bool false))), none⟩,
  ⟨(some 4), (.mv (.t 99)), none⟩]
def a_law32_FilterKeeps : AFunc := ⟨[(.tmp 4)], (.seq (.region q_law32_FilterKeeps_0) (.seq (.seq (.region q_law32_FilterKeeps_1) (.cond (.t 13) (.seq (.region q_law32_FilterKeeps_2) .ret) .skip)) (.seq (.region q_law32_FilterKeeps_3) (.seq (.region q_law32_FilterKeeps_4) (.seq (.seq (.region q_law32_FilterKeeps_5) (.cond (.t 40) (.seq (.region q_law32_FilterKeeps_6) .ret) .skip)) (.seq (.seq (.region q_law32_FilterKeeps_7) (.block 0 (.loop q_law32_FilterKeeps_L12))) (.seq (.seq (.region q_law32_FilterKeeps_12) (.block 2 (.loop q_law32_FilterKeeps_L17))) (.seq (.region q_law32_FilterKeeps_17) .ret))))))))⟩

def q_law32_FilterJoins_0 : List AOper := [
  ⟨(some 8), (.mv (.v (.bool false))), none⟩]
def q_law32_FilterJoins_1 : List AOper := [
  ⟨(some 18), (.mv (.t 2)), none⟩,
  ⟨(some 19), (.len false (.t 18)), none⟩,
  ⟨(some 20), (.bin .gtr (.t 19) (.v (.int .i64 60))), none⟩,
  ⟨(some 21), (.mv (.t 20)), none⟩,
  ⟨(some 22), (.mv (.t 3)), (some (21, false))⟩,
  ⟨(some 23), (.len false (.t 22)), (some (21, false))⟩,
  ⟨(some 24), (.bin .gtr (.t 23) (.v (.int .i64 60))), (some (21, false))⟩,
  ⟨(some 25), (.pick (.t 21) (.v (.bool true)) (.t 24)), none⟩]
def q_law32_FilterJoins_2 : List AOper := [
  ⟨(some 26), (.call F_law32_works []), none⟩,
  ⟨(some 8), (.mv (.t 26)), none⟩]
def q_law32_FilterJoins_3 : List AOper := [
  ⟨(some 28), (.mv (.t 0)), none⟩,
  ⟨(some 29), (.call F_law32_size [(.sc, (.t 28))]), none⟩,
  ⟨(some 30), (.mv (.t 2)), none⟩,
  ⟨(some 31), (.call F_filter_Of [(.sc, (.t 29)), (.sc, (.t 30))]), none⟩,
  ⟨(some 27), (.mv (.t 31)), none⟩,
  ⟨(some 32), (.ext 0 (.t 27)), none⟩,
  ⟨(some 33), (.ext 1 (.t 27)), none⟩,
  ⟨(some 9), (.mv (.t 32)), none⟩,
  ⟨(some 10), (.mv (.t 33)), none⟩]
def q_law32_FilterJoins_4 : List AOper := [
  ⟨(some 35), (.mv (.t 1)), none⟩,
  ⟨(some 36), (.call F_law32_size [(.sc, (.t 35))]), none⟩,
  ⟨(some 37), (.mv (.t 3)), none⟩,
  ⟨(some 38), (.call F_filter_Of [(.sc, (.t 36)), (.sc, (.t 37))]), none⟩,
  ⟨(some 34), (.mv (.t 38)), none⟩,
  ⟨(some 39), (.ext 0 (.t 34)), none⟩,
  ⟨(some 40), (.ext 1 (.t 34)), none⟩,
  ⟨(some 11), (.mv (.t 39)), none⟩,
  ⟨(some 12), (.mv (.t 40)), none⟩]
def q_law32_FilterJoins_5 : List AOper := [
  ⟨(some 13), (.mv (.v .nilS)), none⟩]
def q_law32_FilterJoins_6 : List AOper := [
  ⟨(some 41), (.mv (.t 13)), none⟩,
  ⟨(some 42), (.mv (.t 2)), none⟩,
  ⟨(some 43), (.app 39 32 32 (.t 41) (.t 42)), none⟩,
  ⟨(some 44), (.mv (.t 3)), none⟩,
  ⟨(some 45), (.app 39 32 32 (.t 43) (.t 44)), none⟩,
  ⟨(some 13), (.mv (.t 45)), none⟩]
def q_law32_FilterJoins_7 : List AOper := [
  ⟨(some 47), (.mv (.t 0)), none⟩,
  ⟨(some 48), (.call F_law32_size [(.sc, (.t 47))]), none⟩,
  ⟨(some 49), (.mv (.t 13)), none⟩,
  ⟨(some 50), (.call F_filter_Of [(.sc, (.t 48)), (.sc, (.t 49))]), none⟩,
  ⟨(some 46), (.mv (.t 50)), none⟩,
  ⟨(some 51), (.ext 0 (.t 46)), none⟩,
  ⟨(some 52), (.ext 1 (.t 46)), none⟩,
  ⟨(some 14), (.mv (.t 51)), none⟩,
  ⟨(some 15), (.mv (.t 52)), none⟩]
def q_law32_FilterJoins_8 : List AOper := [
  ⟨(some 53), (.mv (.t 9)), none⟩,
  ⟨(some 54), (.xx (.p (.isNil .ptr false)) [(.t 53)]), none⟩,
  ⟨(some 55), (.mv (.t 54)), none⟩,
  ⟨(some 56), (.mv (.t 11)), (some (55, false))⟩,
  ⟨(some 57), (.xx (.p (.isNil .ptr false)) [(.t 56)]), (some (55, false))⟩,
  ⟨(some 58), (.pick (.t 55) (.v (.bool true)) (.t 57)), none⟩,
  ⟨(some 59), (.mv (.t 58)), none⟩,
  ⟨(some 60), (.mv (.t 14)), (some (59, false))⟩,
  ⟨(some 61), (.xx (.p (.isNil .ptr false)) [(.t 60)]), (some (59, false))⟩,
  ⟨(some 62), (.pick (.t 59) (.v (.bool true)) (.t 61)), none⟩,
  ⟨(some 63), (.mv (.t 62)), none⟩,
  ⟨(some 64), (.mv (.t 10)), (some (63, false))⟩,
  ⟨(some 65), (.eq .scI true (.t 64) (.v (.int .i64 0))), (some (63, false))⟩,
  ⟨(some 66), (.pick (.t 63) (.v (.bool true)) (.t 65)), none⟩,
  ⟨(some 67), (.mv (.t 66)), none⟩,
  ⟨(some 68), (.mv (.t 12)), (some (67, false))⟩,
  ⟨(some 69), (.eq .scI true (.t 68) (.v (.int .i64 0))), (some (67, false))⟩,
  ⟨(some 70), (.pick (.t 67) (.v (.bool true)) (.t 69)), none⟩,
  ⟨(some 71), (.mv (.t 70)), none⟩,
  ⟨(some 72), (.mv (.t 15)), (some (71, false))⟩,
  ⟨(some 73), (.eq .scI true (.t 72) (.v (.int .i64 0))), (some (71, false))⟩,
  ⟨(some 74), (.pick (.t 71) (.v (.bool true)) (.t 73)), none⟩]
def q_law32_FilterJoins_9 : List AOper := [
  ⟨(some 8), (.mv (.v (.bool false))), none⟩]
def q_law32_FilterJoins_10 : List AOper := [
  ⟨(some 75), (.mv (.t 9)), none⟩,
  ⟨(some 76), (.call F_Pfilter_Filter_Bytes [(.sc, (.t 75))]), none⟩,
  ⟨(some 16), (.mv (.t 76)), none⟩]
def q_law32_FilterJoins_11 : List AOper := [
  ⟨(some 77), (.mv (.t 9)), none⟩,
  ⟨(some 78), (.mv (.t 11)), none⟩,
  ⟨(some 79), (.call F_Pfilter_Filter_Join [(.sc, (.t 77)), (.sc, (.t 78))]), none⟩,
  ⟨(some 17), (.mv (.t 79)), none⟩]
def q_law32_FilterJoins_12 : List AOper := [
  ⟨(some 80), (.mv (.t 0)), none⟩,
  ⟨(some 81), (.call F_law32_size [(.sc, (.t 80))]), none⟩,
  ⟨(some 82), (.mv (.t 1)), none⟩,
  ⟨(some 83), (.call F_law32_size [(.sc, (.t 82))]), none⟩,
  ⟨(some 84), (.eq .scI true (.t 81) (.t 83)), none⟩]
def q_law32_FilterJoins_13 : List AOper := [
  ⟨(some 85), (.mv (.t 17)), none⟩,
  ⟨(some 86), (.eq .scI false (.t 85) (.v (.int .i64 15))), none⟩,
  ⟨(some 87), (.mv (.t 86)), none⟩,
  ⟨(some 88), (.mv (.t 9)), (some (87, true))⟩,
  ⟨(some 89), (.call F_Pfilter_Filter_Bytes [(.sc, (.t 88))]), (some (87, true))⟩,
  ⟨(some 90), (.mv (.t 16)), (some (87, true))⟩,
  ⟨(some 91), (.call F_ref01_Same [(.sc, (.t 89)), (.sc, (.t 90))]), (some (87, true))⟩,
  ⟨(some 92), (.pick (.t 87) (.t 91) (.v (.bool false))), none⟩,
  ⟨(some 93), (.mv (.t 92)), none⟩,
  ⟨(some 94), (.mv (.t 9)), (some (93, true))⟩,
  ⟨(some 95), (.call F_Pfilter_Filter_Len [(.sc, (.t 94))]), (some (93, true))⟩,
  ⟨(some 96), (.mv (.t 2)), (some (93, true))⟩,
  ⟨(some 97), (.len false (.t 96)), (some (93, true))⟩,
  ⟨(some 98), (.eq .scI false (.t 95) (.t 97)), (some (93, true))⟩,
  ⟨(some 99), (.pick (.t 93) (.t 98) (.v (.bool false))), none⟩,
  ⟨(some 100), (.mv (.t 99)), none⟩,
  ⟨(some 101), (.call F_law32_works []), (some (100, true))⟩,
  ⟨(some 102), (.pick (.t 100) (.t 101) (.v (.bool false))), none⟩,
  ⟨(some 8), (.mv (.t 102)), none⟩]
def q_law32_FilterJoins_14 : List AOper := [
  ⟨(some 103), (.mv (.t 17)), none⟩,
  ⟨(some 104), (.eq .scI false (.t 103) (.v (.int .i64 0))), none⟩,
  ⟨(some 105), (.mv (.t 104)), none⟩,
  ⟨(some 106), (.mv (.t 9)), (some (105, true))⟩,
  ⟨(some 107), (.call F_Pfilter_Filter_Bytes [(.sc, (.t 106))]), (some (105, true))⟩,
  ⟨(some 108), (.mv (.t 14)), (some (105, true))⟩,
  ⟨(some 109), (.call F_Pfilter_Filter_Bytes [(.sc, (.t 108))]), (some (105, true))⟩,
  ⟨(some 110), (.call F_ref01_Same [(.sc, (.t 107)), (.sc, (.t 109))]), (some (105, true))⟩,
  ⟨(some 111), (.pick (.t 105) (.t 110) (.v (.bool false))), none⟩,
  ⟨(some 112), (.mv (.t 111)), none⟩,
  ⟨(some 113), (.mv (.t 9)), (some (112, true))⟩,
  ⟨(some 114), (.call F_Pfilter_Filter_Len [(.sc, (.t 113))]), (some (112, true))⟩,
  ⟨(some 115), (.mv (.t 13)), (some (112, true))⟩,
  ⟨(some 116), (.len false (.t 115)), (some (112, true))⟩,
  ⟨(some 117), (.eq .scI false (.t 114) (.t 116)), (some (112, true))⟩,
  ⟨(some 118), (.pick (.t 112) (.t 117) (.v (.bool false))), none⟩,
  ⟨(some 119), (.mv (.t 118)), none⟩,
  ⟨(some 120), (.call F_law32_works []), (some (119, true))⟩,
  ⟨(some 121), (.pick (.t 119) (.t 120) (.v (.bool false))), none⟩,
  ⟨(some 8), (.mv (.t 121)), none⟩]
def a_law32_FilterJoins : AFunc := ⟨[(.tmp 8)], (.seq (.region q_law32_FilterJoins_0) (.seq (.seq (.region q_law32_FilterJoins_1) (.cond (.t 25) (.seq (.region q_law32_FilterJoins_2) .ret) .skip)) (.seq (.region q_law32_FilterJoins_3) (.seq (.region q_law32_FilterJoins_4) (.seq (.region q_law32_FilterJoins_5) (.seq (.region q_law32_FilterJoins_6) (.seq (.region q_law32_FilterJoins_7) (.seq (.seq (.region q_law32_FilterJoins_8) (.cond (.t 74) (.seq (.region q_law32_FilterJoins_9) .ret) .skip)) (.seq (.region q_law32_FilterJoins_10) (.seq (.region q_law32_FilterJoins_11) (.seq (.seq (.region q_law32_FilterJoins_12) (.cond (.t 84) (.seq (.region q_law32_FilterJoins_13) .ret) .skip)) (.seq (.region q_law32_FilterJoins_14) .ret))))))))))))⟩

def q_law32_works_0 : List AOper := [
  ⟨(some 0), (.mv (.v (.bool false))), none⟩]
def q_law32_works_1 : List AOper := [
  ⟨(some 13), (.build (.ia .u8 32) [(.iarr .u8 32 (List.replicate 32 0))] [(0, (1, (.v (.int .u8 1))))]), none⟩,
  ⟨(some 14), (.build (.ia .u8 32) [(.iarr .u8 32 (List.replicate 32 0))] [(0, (1, (.v (.int .u8 2))))]), none⟩,
  ⟨(some 15), (.bsl 39 (.ia .u8 32) 32 [(.t 13), (.t 14)]), none⟩,
  ⟨(some 16), (.call F_filter_Of [(.sc, (.v (.int .i64 64))), (.sc, (.t 15))]), none⟩,
  ⟨(some 12), (.mv (.t 16)), none⟩,
  ⟨(some 17), (.ext 0 (.t 12)), none⟩,
  ⟨(some 18), (.ext 1 (.t 12)), none⟩,
  ⟨(some 1), (.mv (.t 17)), none⟩,
  ⟨(some 2), (.mv (.t 18)), none⟩]
def q_law32_works_2 : List AOper := [
  ⟨(some 20), (.call F_filter_New [(.sc, (.v (.int .i64 9)))]), none⟩,
  ⟨(some 19), (.mv (.t 20)), none⟩,
  ⟨(some 21), (.ext 0 (.t 19)), none⟩,
  ⟨(some 22), (.ext 1 (.t 19)), none⟩,
  ⟨(some 3), (.mv (.t 21)), none⟩,
  ⟨(some 4), (.mv (.t 22)), none⟩]
def q_law32_works_3 : List AOper := [
  ⟨(some 24), (.call F_filter_New [(.sc, (.v (.int .i64 64)))]), none⟩,
  ⟨(some 23), (.mv (.t 24)), none⟩,
  ⟨(some 25), (.ext 0 (.t 23)), none⟩,
  ⟨(some 26), (.ext 1 (.t 23)), none⟩,
  ⟨(some 5), (.mv (.t 25)), none⟩,
  ⟨(some 6), (.mv (.t 26)), none⟩]
def q_law32_works_4 : List AOper := [
  ⟨(some 28), (.call F_filter_New [(.sc, (.v (.int .i64 8)))]), none⟩,
  ⟨(some 27), (.mv (.t 28)), none⟩,
  ⟨(some 29), (.ext 0 (.t 27)), none⟩,
  ⟨(some 30), (.ext 1 (.t 27)), none⟩,
  ⟨(some 7), (.mv (.t 29)), none⟩,
  ⟨(some 8), (.mv (.t 30)), none⟩]
def q_law32_works_5 : List AOper := [
  ⟨(some 31), (.mv (.t 1)), none⟩,
  ⟨(some 32), (.xx (.p (.isNil .ptr false)) [(.t 31)]), none⟩,
  ⟨(some 33), (.mv (.t 32)), none⟩,
  ⟨(some 34), (.mv (.t 5)), (some (33, false))⟩,
  ⟨(some 35), (.xx (.p (.isNil .ptr false)) [(.t 34)]), (some (33, false))⟩,
  ⟨(some 36), (.pick (.t 33) (.v (.bool true)) (.t 35)), none⟩,
  ⟨(some 37), (.mv (.t 36)), none⟩,
  ⟨(some 38), (.mv (.t 7)), (some (37, false))⟩,
  ⟨(some 39), (.xx (.p (.isNil .ptr false)) [(.t 38)]), (some (37, false))⟩,
  ⟨(some 40), (.pick (.t 37) (.v (.bool true)) (.t 39)), none⟩]
def q_law32_works_6 : List AOper := [
  ⟨(some 0), (.mv (.v (.bool false))), none⟩]
def q_law32_works_7 : List AOper := [
  ⟨(some 41), (.mv (.t 1)), none⟩,
  ⟨(some 42), (.mv (.t 5)), none⟩,
  ⟨(some 43), (.call F_Pfilter_Filter_Join [(.sc, (.t 41)), (.sc, (.t 42))]), none⟩,
  ⟨(some 9), (.mv (.t 43)), none⟩]
def q_law32_works_8 : List AOper := [
  ⟨(some 44), (.mv (.t 1)), none⟩,
  ⟨(some 45), (.mv (.t 7)), none⟩,
  ⟨(some 46), (.call F_Pfilter_Filter_Join [(.sc, (.t 44)), (.sc, (.t 45))]), none⟩,
  ⟨(some 10), (.mv (.t 46)), none⟩]
def q_law32_works_9 : List AOper := [
  ⟨(some 47), (.mv (.t 5)), none⟩,
  ⟨(some 48), (.build (.ia .u8 32) [(.iarr .u8 32 (List.replicate 32 0))] [(0, (1, (.v (.int .u8 1))))]), none⟩,
  ⟨(some 49), (.bsl 39 (.ia .u8 32) 32 [(.t 48)]), none⟩,
  ⟨(some 50), (.call F_Pfilter_Filter_Missing [(.sc, (.t 47)), (.sc, (.t 49))]), none⟩,
  ⟨(some 11), (.mv (.t 50)), none⟩]
def q_law32_works_10 : List AOper := [
  ⟨(some 51), (.mv (.t 2)), none⟩,
  ⟨(some 52), (.eq .scI false (.t 51) (.v (.int .i64 0))), none⟩,
  ⟨(some 53), (.mv (.t 52)), none⟩,
  ⟨(some 54), (.mv (.t 1)), (some (53, true))⟩,
  ⟨(some 55), (.build (.ia .u8 32) [(.iarr .u8 32 (List.replicate 32 0))] [(0, (1, (.v (.int .u8 1))))]), (some (53, true))⟩,
  ⟨(some 56), (.call F_Pfilter_Filter_Has [(.sc, (.t 54)), ((.ia .u8 32), (.t 55))]), (some (53, true))⟩,
  ⟨(some 57), (.pick (.t 53) (.t 56) (.v (.bool false))), none⟩,
  ⟨(some 58), (.mv (.t 57)), none⟩,
  ⟨(some 59), (.mv (.t 1)), (some (58, true))⟩,
  ⟨(some 60), (.build (.ia .u8 32) [(.iarr .u8 32 (List.replicate 32 0))] [(0, (1, (.v (.int .u8 2))))]), (some (58, true))⟩,
  ⟨(some 61), (.call F_Pfilter_Filter_Has [(.sc, (.t 59)), ((.ia .u8 32), (.t 60))]), (some (58, true))⟩,
  ⟨(some 62), (.pick (.t 58) (.t 61) (.v (.bool false))), none⟩,
  ⟨(some 63), (.mv (.t 62)), none⟩,
  ⟨(some 64), (.mv (.t 1)), (some (63, true))⟩,
  ⟨(some 65), (.build (.ia .u8 32) [(.iarr .u8 32 (List.replicate 32 0))] [(0, (1, (.v (.int .u8 3))))]), (some (63, true))⟩,
  ⟨(some 66), (.call F_Pfilter_Filter_Has [(.sc, (.t 64)), ((.ia .u8 32), (.t 65))]), (some (63, true))⟩,
  ⟨(some 67), (.un .not (.t 66)), (some (63, true))⟩,
  ⟨(some 68), (.pick (.t 63) (.t 67) (.v (.bool false))), none⟩,
  ⟨(some 69), (.mv (.t 68)), none⟩,
  ⟨(some 70), (.mv (.t 4)), (some (69, true))⟩,
  ⟨(some 71), (.eq .scI false (.t 70) (.v (.int .i64 2))), (some (69, true))⟩,
  ⟨(some 72), (.pick (.t 69) (.t 71) (.v (.bool false))), none⟩,
  ⟨(some 73), (.mv (.t 72)), none⟩,
  ⟨(some 74), (.mv (.t 9)), (some (73, true))⟩,
  ⟨(some 75), (.eq .scI false (.t 74) (.v (.int .i64 0))), (some (73, true))⟩,
  ⟨(some 76), (.pick (.t 73) (.t 75) (.v (.bool false))), none⟩,
  ⟨(some 77), (.mv (.t 76)), none⟩,
  ⟨(some 78), (.mv (.t 10)), (some (77, true))⟩,
  ⟨(some 79), (.eq .scI false (.t 78) (.v (.int .i64 15))), (some (77, true))⟩,
  ⟨(some 80), (.pick (.t 77) (.t 79) (.v (.bool false))), none⟩,
  ⟨(some 81), (.mv (.t 80)), none⟩,
  ⟨(some 82), (.mv (.t 11)), (some (81, true))⟩,
  ⟨(some 83), (.len false (.t 82)), (some (81, true))⟩,
  ⟨(some 84), (.eq .scI false (.t 83) (.v (.int .i64 1))), (some (81, true))⟩,
  ⟨(some 85), (.pick (.t 81) (.t 84) (.v (.bool false))), none⟩,
  ⟨(some 86), (.mv (.t 85)), none⟩,
  ⟨(some 87), (.mv (.t 1)), (some (86, true))⟩,
  ⟨(some 88), (.call F_Pfilter_Filter_Len [(.sc, (.t 87))]), (some (86, true))⟩,
  ⟨(some 89), (.eq .scI false (.t 88) (.v (.int .i64 2))), (some (86, true))⟩,
  ⟨(some 90), (.pick (.t 86) (.t 89) (.v (.bool false))), none⟩,
  ⟨(some 91), (.mv (.t 90)), none⟩,
  ⟨(some 92), (.mv (.t 1)), (some (91, true))⟩,
  ⟨(some 93), (.call F_Pfilter_Filter_Size [(.sc, (.t 92))]), (some (91, true))⟩,
  ⟨(some 94), (.eq .scI false (.t 93) (.v (.int .i64 64))), (some (91, true))⟩,
  ⟨(some 95), (.pick (.t 91) (.t 94) (.v (.bool false))), none⟩,
  ⟨(some 96), (.mv (.t 95)), none⟩,
  ⟨(some 97), (.mv (.t 1)), (some (96, true))⟩,
  ⟨(some 98), (.call F_Pfilter_Filter_Ones [(.sc, (.t 97))]), (some (96, true))⟩,
  ⟨(some 99), (.eq .scI false (.t 98) (.v (.int .i64 3))), (some (96, true))⟩,
  ⟨(some 100), (.pick (.t 96) (.t 99) (.v (.bool false))), none⟩,
  ⟨(some 101), (.mv (.t 100)), none⟩,
  ⟨(some 102), (.mv (.t 1)), (some (101, true))⟩,
  ⟨(some 103), (.call F_Pfilter_Filter_Bytes [(.sc, (.t 102))]), (some (101, true))⟩,
  ⟨(some 104), (.len false (.t 103)), (some (101, true))⟩,
  ⟨(some 105), (.eq .scI false (.t 104) (.v (.int .i64 8))), (some (101, true))⟩,
  ⟨(some 106), (.pick (.t 101) (.t 105) (.v (.bool false))), none⟩,
  ⟨(some 0), (.mv (.t 106)), none⟩]
def a_law32_works : AFunc := ⟨[(.tmp 0)], (.seq (.region q_law32_works_0) (.seq (.region q_law32_works_1) (.seq (.region q_law32_works_2) (.seq (.region q_law32_works_3) (.seq (.region q_law32_works_4) (.seq (.seq (.region q_law32_works_5) (.cond (.t 40) (.seq (.region q_law32_works_6) .ret) .skip)) (.seq (.region q_law32_works_7) (.seq (.region q_law32_works_8) (.seq (.region q_law32_works_9) (.seq (.region q_law32_works_10) .ret))))))))))⟩

def q_law32_size_0 : List AOper := [
  ⟨(some 2), (.mv (.v (.int .i64 0))), none⟩]
def q_law32_size_1 : List AOper := [
  ⟨(some 3), (.mv (.t 0)), none⟩,
  ⟨(some 4), (.conv .i64 (.t 3)), none⟩,
  ⟨(some 5), (.bin .rem (.t 4) (.v (.int .i64 32))), none⟩,
  ⟨(some 6), (.bin .add (.v (.int .i64 1)) (.t 5)), none⟩,
  ⟨(some 7), (.bin .mul (.v (.int .i64 8)) (.t 6)), none⟩,
  ⟨(some 2), (.mv (.t 7)), none⟩]
def a_law32_size : AFunc := ⟨[(.tmp 2)], (.seq (.region q_law32_size_0) (.seq (.region q_law32_size_1) .ret))⟩

def q_ref32_Set_0 : List AOper := [
  ⟨(some 4), (.mv (.v .nilS)), none⟩]
def q_ref32_Set_1 : List AOper := [
  ⟨(some 5), (.mv (.v .nilS)), none⟩]
def q_ref32_Set_2 : List AOper := [
  ⟨(some 6), (.mv (.v (.int .i64 0))), none⟩]
def q_ref32_Set_3 : List AOper := [
  ⟨(some 9), (.mv (.t 6)), none⟩,
  ⟨(some 10), (.mv (.t 0)), none⟩,
  ⟨(some 11), (.len false (.t 10)), none⟩,
  ⟨(some 12), (.bin .lss (.t 9) (.t 11)), none⟩]
def q_ref32_Set_4 : List AOper := [
  ⟨(some 15), (.mv (.t 0)), none⟩,
  ⟨(some 16), (.mv (.t 6)), none⟩,
  ⟨(some 17), (.idx 32 (.t 15) (.t 16)), none⟩,
  ⟨(some 18), (.load (.ia .u8 32) 32 (.t 17)), none⟩,
  ⟨(some 19), (.mv (.t 1)), none⟩,
  ⟨(some 20), (.call F_ref32_Bits [((.ia .u8 32), (.t 18)), (.sc, (.t 19))]), none⟩,
  ⟨(some 7), (.mv (.t 20)), none⟩]
def q_ref32_Set_5 : List AOper := [
  ⟨(some 8), (.mv (.v (.int .i64 0))), none⟩]
def q_ref32_Set_6 : List AOper := [
  ⟨(some 21), (.mv (.t 8)), none⟩,
  ⟨(some 22), (.bin .lss (.t 21) (.v (.int .i64 4))), none⟩]
def q_ref32_Set_7 : List AOper := [
  ⟨(some 25), (.mv (.t 5)), none⟩,
  ⟨(some 26), (.mv (.t 7)), none⟩,
  ⟨(some 27), (.mv (.t 8)), none⟩,
  ⟨(some 28), (.idx 1 (.t 26) (.t 27)), none⟩,
  ⟨(some 29), (.load .sc 1 (.t 28)), none⟩,
  ⟨(some 30), (.call F_ref32_has [(.sc, (.t 25)), (.sc, (.t 29))]), none⟩,
  ⟨(some 31), (.un .not (.t 30)), none⟩]
def q_ref32_Set_8 : List AOper := [
  ⟨(some 32), (.mv (.t 5)), none⟩,
  ⟨(some 33), (.mv (.t 7)), none⟩,
  ⟨(some 34), (.mv (.t 8)), none⟩,
  ⟨(some 35), (.idx 1 (.t 33) (.t 34)), none⟩,
  ⟨(some 36), (.load .sc 1 (.t 35)), none⟩,
  ⟨(some 37), (.bslI 3 .i64 [(.t 36)]), none⟩,
  ⟨(some 38), (.appI 3 .i64 8 (.t 32) (.t 37)), none⟩,
  ⟨(some 5), (.mv (.t 38)), none⟩]
def q_ref32_Set_9 : List AOper := [
  ⟨(some 23), (.mv (.t 8)), none⟩,
  ⟨(some 24), (.bin .add (.t 23) (.v (.int .i64 1))), none⟩,
  ⟨(some 8), (.mv (.t 24)), none⟩]
def q_ref32_Set_L10 : ACode := (.seq (.seq (.region q_ref32_Set_6) (.cond (.t 22) .skip (.exit 2))) (.seq (.block 3 (.seq (.region q_ref32_Set_7) (.cond (.t 31) (.region q_ref32_Set_8) .skip))) (.region q_ref32_Set_9)))
def q_ref32_Set_10 : List AOper := [
  ⟨(some 13), (.mv (.t 6)), none⟩,
  ⟨(some 14), (.bin .add (.t 13) (.v (.int .i64 1))), none⟩,
  ⟨(some 6), (.mv (.t 14)), none⟩]
def q_ref32_Set_L11 : ACode := (.seq (.seq (.region q_ref32_Set_3) (.cond (.t 12) .skip (.exit 0))) (.seq (.block 1 (.seq (.region q_ref32_Set_4) (.seq (.region q_ref32_Set_5) (.block 2 (.loop q_ref32_Set_L10))))) (.region q_ref32_Set_10)))
def q_ref32_Set_11 : List AOper := [
  ⟨(some 39), (.mv (.t 5)), none⟩,
  ⟨(some 4), (.mv (.t 39)), none⟩]
def a_ref32_Set : AFunc := ⟨[(.tmp 4)], (.seq (.region q_ref32_Set_0) (.seq (.region q_ref32_Set_1) (.seq (.seq (.region q_ref32_Set_2) (.block 0 (.loop q_ref32_Set_L11))) (.seq (.region q_ref32_Set_11) .ret))))⟩

def q_ref32_Bytes_0 : List AOper := [
  ⟨(some 4), (.mv (.v .nilS)), none⟩]
def q_ref32_Bytes_1 : List AOper := [
  ⟨(some 9), (.mv (.t 1)), none⟩,
  ⟨(some 10), (.bin .quo (.t 9) (.v (.int .i64 8))), none⟩,
  ⟨(some 11), (.mkI 5 .u8 1 (.t 10) (.t 10)), none⟩,
  ⟨(some 5), (.mv (.t 11)), none⟩]
def q_ref32_Bytes_2 : List AOper := [
  ⟨(some 6), (.mv (.v (.int .i64 0))), none⟩]
def q_ref32_Bytes_3 : List AOper := [
  ⟨(some 12), (.mv (.t 6)), none⟩,
  ⟨(some 13), (.mv (.t 0)), none⟩,
  ⟨(some 14), (.len false (.t 13)), none⟩,
  ⟨(some 15), (.bin .lss (.t 12) (.t 14)), none⟩]
def q_ref32_Bytes_4 : List AOper := [
  ⟨(some 7), (.mv (.v (.int .u8 1))), none⟩]
def q_ref32_Bytes_5 : List AOper := [
  ⟨(some 8), (.mv (.v (.int .i64 0))), none⟩]
def q_ref32_Bytes_6 : List AOper := [
  ⟨(some 18), (.mv (.t 8)), none⟩,
  ⟨(some 19), (.mv (.t 0)), none⟩,
  ⟨(some 20), (.mv (.t 6)), none⟩,
  ⟨(some 21), (.idx 1 (.t 19) (.t 20)), none⟩,
  ⟨(some 22), (.load .sc 1 (.t 21)), none⟩,
  ⟨(some 23), (.bin .rem (.t 22) (.v (.int .i64 8))), none⟩,
  ⟨(some 24), (.bin .lss (.t 18) (.t 23)), none⟩]
def q_ref32_Bytes_7 : List AOper := [
  ⟨(some 27), (.mv (.t 7)), none⟩,
  ⟨(some 28), (.bin .mul (.v (.int .u8 2)) (.t 27)), none⟩,
  ⟨(some 7), (.mv (.t 28)), none⟩]
def q_ref32_Bytes_8 : List AOper := [
  ⟨(some 25), (.mv (.t 8)), none⟩,
  ⟨(some 26), (.bin .add (.t 25) (.v (.int .i64 1))), none⟩,
  ⟨(some 8), (.mv (.t 26)), none⟩]
def q_ref32_Bytes_L9 : ACode := (.seq (.seq (.region q_ref32_Bytes_6) (.cond (.t 24) .skip (.exit 2))) (.seq (.block 3 (.region q_ref32_Bytes_7)) (.region q_ref32_Bytes_8)))
def q_ref32_Bytes_9 : List DOp := [
  ⟨⟨(some 29), (.mv (.t 5)), none⟩, true, false⟩,
  ⟨⟨(some 30), (.mv (.t 0)), none⟩, true, false⟩,
  ⟨⟨(some 31), (.mv (.t 6)), none⟩, true, false⟩,
  ⟨⟨(some 32), (.idx 1 (.t 30) (.t 31)), none⟩, true, false⟩,
  ⟨⟨(some 33), (.load .sc 1 (.t 32)), none⟩, true, false⟩,
  ⟨⟨(some 34), (.bin .quo (.t 33) (.v (.int .i64 8))), none⟩, true, false⟩,
  ⟨⟨(some 35), (.mv (.t 5)), none⟩, true, false⟩,
  ⟨⟨(some 36), (.mv (.t 0)), none⟩, true, false⟩,
  ⟨⟨(some 37), (.mv (.t 6)), none⟩, true, false⟩,
  ⟨⟨(some 38), (.idx 1 (.t 36) (.t 37)), none⟩, true, false⟩,
  ⟨⟨(some 39), (.load .sc 1 (.t 38)), none⟩, true, false⟩,
  ⟨⟨(some 40), (.bin .quo (.t 39) (.v (.int .i64 8))), none⟩, true, false⟩,
  ⟨⟨(some 41), (.idx 1 (.t 35) (.t 40)), none⟩, true, false⟩,
  ⟨⟨(some 42), (.load .sc 1 (.t 41)), none⟩, true, false⟩,
  ⟨⟨(some 43), (.mv (.t 7)), none⟩, true, false⟩,
  ⟨⟨(some 44), (.bin .add (.t 42) (.t 43)), none⟩, true, false⟩,
  ⟨⟨(some 45), (.idx 1 (.t 29) (.t 34)), none⟩, true, false⟩,
  ⟨⟨none, (.store .sc 1 (.t 45) (.t 44)), none⟩, false, false⟩]
def q_ref32_Bytes_10 : List AOper := [
  ⟨(some 16), (.mv (.t 6)), none⟩,
  ⟨(some 17), (.bin .add (.t 16) (.v (.int .i64 1))), none⟩,
  ⟨(some 6), (.mv (.t 17)), none⟩]
def q_ref32_Bytes_L11 : ACode := (.seq (.seq (.region q_ref32_Bytes_3) (.cond (.t 15) .skip (.exit 0))) (.seq (.block 1 (.seq (.region q_ref32_Bytes_4) (.seq (.seq (.region q_ref32_Bytes_5) (.block 2 (.loop q_ref32_Bytes_L9))) (.regionD q_ref32_Bytes_9)))) (.region q_ref32_Bytes_10)))
def q_ref32_Bytes_11 : List AOper := [
  ⟨(some 46), (.mv (.t 5)), none⟩,
  ⟨(some 4), (.mv (.t 46)), none⟩]
def a_ref32_Bytes : AFunc := ⟨[(.tmp 4)], (.seq (.region q_ref32_Bytes_0) (.seq (.region q_ref32_Bytes_1) (.seq (.seq (.region q_ref32_Bytes_2) (.block 0 (.loop q_ref32_Bytes_L11))) (.seq (.region q_ref32_Bytes_11) .ret))))⟩

def q_ref32_Has_0 : List AOper := [
  ⟨(some 4), (.box 39 (.ia .u8 32) (.t 1)), none⟩,
  ⟨(some 6), (.mv (.v (.bool false))), none⟩]
def q_ref32_Has_1 : List AOper := [
  ⟨(some 8), (.load (.ia .u8 32) 32 (.t 4)), none⟩,
  ⟨(some 9), (.mv (.t 2)), none⟩,
  ⟨(some 10), (.call F_ref32_Bits [((.ia .u8 32), (.t 8)), (.sc, (.t 9))]), none⟩,
  ⟨(some 7), (.mv (.t 10)), none⟩]
def q_ref32_Has_2 : List AOper := [
  ⟨(some 11), (.mv (.t 0)), none⟩,
  ⟨(some 12), (.mv (.t 7)), none⟩,
  ⟨(some 13), (.idx 1 (.t 12) (.v (.int .i64 0))), none⟩,
  ⟨(some 14), (.load .sc 1 (.t 13)), none⟩,
  ⟨(some 15), (.call F_ref32_has [(.sc, (.t 11)), (.sc, (.t 14))]), none⟩,
  ⟨(some 16), (.mv (.t 15)), none⟩,
  ⟨(some 17), (.mv (.t 0)), (some (16, true))⟩,
  ⟨(some 18), (.mv (.t 7)), (some (16, true))⟩,
  ⟨(some 19), (.idx 1 (.t 18) (.v (.int .i64 1))), (some (16, true))⟩,
  ⟨(some 20), (.load .sc 1 (.t 19)), (some (16, true))⟩,
  ⟨(some 21), (.call F_ref32_has [(.sc, (.t 17)), (.sc, (.t 20))]), (some (16, true))⟩,
  ⟨(some 22), (.pick (.t 16) (.t 21) (.v (.bool false))), none⟩,
  ⟨(some 23), (.mv (.t 22)), none⟩,
  ⟨(some 24), (.mv (.t 0)), (some (23, true))⟩,
  ⟨(some 25), (.mv (.t 7)), (some (23, true))⟩,
  ⟨(some 26), (.idx 1 (.t 25) (.v (.int .i64 2))), (some (23, true))⟩,
  ⟨(some 27), (.load .sc 1 (.t 26)), (some (23, true))⟩,
  ⟨(some 28), (.call F_ref32_has [(.sc, (.t 24)), (.sc, (.t 27))]), (some (23, true))⟩,
  ⟨(some 29), (.pick (.t 23) (.t 28) (.v (.bool false))), none⟩,
  ⟨(some 30), (.mv (.t 29)), none⟩,
  ⟨(some 31), (.mv (.t 0)), (some (30, true))⟩,
  ⟨(some 32), (.mv (.t 7)), (some (30, true))⟩,
  ⟨(some 33), (.idx 1 (.t 32) (.v (.int .i64 3))), (some (30, true))⟩,
  ⟨(some 34), (.load .sc 1 (.t 33)), (some (30, true))⟩,
  ⟨(some 35), (.call F_ref32_has [(.sc, (.t 31)), (.sc, (.t 34))]), (some (30, true))⟩,
  ⟨(some 36), (.pick (.t 30) (.t 35) (.v (.bool false))), none⟩,
  ⟨(some 6), (.mv (.t 36)), none⟩]
def a_ref32_Has : AFunc := ⟨[(.tmp 6)], (.seq (.region q_ref32_Has_0) (.seq (.region q_ref32_Has_1) (.seq (.region q_ref32_Has_2) .ret)))⟩

def q_ref32_Bits_0 : List AOper := [
  ⟨(some 2), (.box 39 (.ia .u8 32) (.t 0)), none⟩,
  ⟨(some 4), (.mv (.v .nilS)), none⟩]
def q_ref32_Bits_1 : List AOper := [
  ⟨(some 5), (.mv (.v .nilS)), none⟩]
def q_ref32_Bits_2 : List AOper := [
  ⟨(some 6), (.mv (.v (.int .i64 0))), none⟩]
def q_ref32_Bits_3 : List AOper := [
  ⟨(some 9), (.mv (.t 6)), none⟩,
  ⟨(some 10), (.bin .lss (.t 9) (.v (.int .i64 4))), none⟩]
def q_ref32_Bits_4 : List AOper := [
  ⟨(some 7), (.mv (.v .nilS)), none⟩]
def q_ref32_Bits_5 : List AOper := [
  ⟨(some 8), (.mv (.v (.int .i64 0))), none⟩]
def q_ref32_Bits_6 : List AOper := [
  ⟨(some 13), (.mv (.t 8)), none⟩,
  ⟨(some 14), (.bin .lss (.t 13) (.v (.int .i64 8))), none⟩]
def q_ref32_Bits_7 : List AOper := [
  ⟨(some 17), (.mv (.t 7)), none⟩,
  ⟨(some 18), (.mv (.t 6)), none⟩,
  ⟨(some 19), (.bin .mul (.v (.int .i64 8)) (.t 18)), none⟩,
  ⟨(some 20), (.mv (.t 8)), none⟩,
  ⟨(some 21), (.bin .add (.t 19) (.t 20)), none⟩,
  ⟨(some 22), (.idxA 32 1 true (.t 2) (.t 21)), none⟩,
  ⟨(some 23), (.load .sc 1 (.t 22)), none⟩,
  ⟨(some 24), (.bslI 5 .u8 [(.t 23)]), none⟩,
  ⟨(some 25), (.appI 5 .u8 1 (.t 17) (.t 24)), none⟩,
  ⟨(some 7), (.mv (.t 25)), none⟩]
def q_ref32_Bits_8 : List AOper := [
  ⟨(some 15), (.mv (.t 8)), none⟩,
  ⟨(some 16), (.bin .add (.t 15) (.v (.int .i64 1))), none⟩,
  ⟨(some 8), (.mv (.t 16)), none⟩]
def q_ref32_Bits_L9 : ACode := (.seq (.seq (.region q_ref32_Bits_6) (.cond (.t 14) .skip (.exit 2))) (.seq (.block 3 (.region q_ref32_Bits_7)) (.region q_ref32_Bits_8)))
def q_ref32_Bits_9 : List AOper := [
  ⟨(some 26), (.mv (.t 5)), none⟩,
  ⟨(some 27), (.mv (.t 7)), none⟩,
  ⟨(some 28), (.call F_ref01_Get [(.sc, (.t 27))]), none⟩,
  ⟨(some 29), (.mv (.t 1)), none⟩,
  ⟨(some 30), (.conv .u64 (.t 29)), none⟩,
  ⟨(some 31), (.bin .rem (.t 28) (.t 30)), none⟩,
  ⟨(some 32), (.conv .i64 (.t 31)), none⟩,
  ⟨(some 33), (.bslI 3 .i64 [(.t 32)]), none⟩,
  ⟨(some 34), (.appI 3 .i64 8 (.t 26) (.t 33)), none⟩,
  ⟨(some 5), (.mv (.t 34)), none⟩]
def q_ref32_Bits_10 : List AOper := [
  ⟨(some 11), (.mv (.t 6)), none⟩,
  ⟨(some 12), (.bin .add (.t 11) (.v (.int .i64 1))), none⟩,
  ⟨(some 6), (.mv (.t 12)), none⟩]
def q_ref32_Bits_L11 : ACode := (.seq (.seq (.region q_ref32_Bits_3) (.cond (.t 10) .skip (.exit 0))) (.seq (.block 1 (.seq (.region q_ref32_Bits_4) (.seq (.seq (.region q_ref32_Bits_5) (.block 2 (.loop q_ref32_Bits_L9))) (.region q_ref32_Bits_9)))) (.region q_ref32_Bits_10)))
def q_ref32_Bits_11 : List AOper := [
  ⟨(some 35), (.mv (.t 5)), none⟩,
  ⟨(some 4), (.mv (.t 35)), none⟩]
def a_ref32_Bits : AFunc := ⟨[(.tmp 4)], (.seq (.region q_ref32_Bits_0) (.seq (.region q_ref32_Bits_1) (.seq (.seq (.region q_ref32_Bits_2) (.block 0 (.loop q_ref32_Bits_L11))) (.seq (.region q_ref32_Bits_11) .ret))))⟩

def q_ref32_has_0 : List AOper := [
  ⟨(some 4), (.mv (.v (.bool false))), none⟩]
def q_ref32_has_1 : List AOper := [
  ⟨(some 5), (.mv (.v (.int .i64 0))), none⟩]
def q_ref32_has_2 : List AOper := [
  ⟨(some 6), (.mv (.t 5)), none⟩,
  ⟨(some 7), (.mv (.t 0)), none⟩,
  ⟨(some 8), (.len false (.t 7)), none⟩,
  ⟨(some 9), (.bin .lss (.t 6) (.t 8)), none⟩]
def q_ref32_has_3 : List AOper := [
  ⟨(some 12), (.mv (.t 0)), none⟩,
  ⟨(some 13), (.mv (.t 5)), none⟩,
  ⟨(some 14), (.idx 1 (.t 12) (.t 13)), none⟩,
  ⟨(some 15), (.load .sc 1 (.t 14)), none⟩,
  ⟨(some 16), (.mv (.t 1)), none⟩,
  ⟨(some 17), (.eq .scI false (.t 15) (.t 16)), none⟩]
def q_ref32_has_4 : List AOper := [
  ⟨(some 4), (.mv (.v (.bool true))), none⟩]
def q_ref32_has_5 : List AOper := [
  ⟨(some 10), (.mv (.t 5)), none⟩,
  ⟨(some 11), (.bin .add (.t 10) (.v (.int .i64 1))), none⟩,
  ⟨(some 5), (.mv (.t 11)), none⟩]
def q_ref32_has_L6 : ACode := (.seq (.seq (.region q_ref32_has_2) (.cond (.t 9) .skip (.exit 0))) (.seq (.block 1 (.seq (.region q_ref32_has_3) (.cond (.t 17) (.seq (.region q_ref32_has_4) .ret) .skip))) (.region q_ref32_has_5)))
def q_ref32_has_6 : List AOper := [
  ⟨(some 4), (.mv (.v (.bool false))), none⟩]
def a_ref32_has : AFunc := ⟨[(.tmp 4)], (.seq (.region q_ref32_has_0) (.seq (.seq (.region q_ref32_has_1) (.block 0 (.loop q_ref32_has_L6))) (.seq (.region q_ref32_has_6) .ret)))⟩

def q_math_bits_OnesCount8_0 : List AOper := [
  ⟨(some 2), (.mv (.v (.int .i64 0))), none⟩]
def q_math_bits_OnesCount8_1 : List AOper := [
  ⟨(some 3), (.mv (.t 0)), none⟩,
  ⟨(some 4), (.xx (.p .strIdx) [(.v (.str ⟨#[0, 1, 1, 2, 1, 2, 2, 3, 1, 2, 2, 3, 2, 3, 3, 4, 1, 2, 2, 3, 2, 3, 3, 4, 2, 3, 3, 4, 3, 4, 4, 5, 1, 2, 2, 3, 2, 3, 3, 4, 2, 3, 3, 4, 3, 4, 4, 5, 2, 3, 3, 4, 3, 4, 4, 5, 3, 4, 4, 5, 4, 5, 5, 6, 1, 2, 2, 3, 2, 3, 3, 4, 2, 3, 3, 4, 3, 4, 4, 5, 2, 3, 3, 4, 3, 4, 4, 5, 3, 4, 4, 5, 4, 5, 5, 6, 2, 3, 3, 4, 3, 4, 4, 5, 3, 4, 4, 5, 4, 5, 5, 6, 3, 4, 4, 5, 4, 5, 5, 6, 4, 5, 5, 6, 5, 6, 6, 7, 1, 2, 2, 3, 2, 3, 3, 4, 2, 3, 3, 4, 3, 4, 4, 5, 2, 3, 3, 4, 3, 4, 4, 5, 3, 4, 4, 5, 4, 5, 5, 6, 2, 3, 3, 4, 3, 4, 4, 5, 3, 4, 4, 5, 4, 5, 5, 6, 3, 4, 4, 5, 4, 5, 5, 6, 4, 5, 5, 6, 5, 6, 6, 7, 2, 3, 3, 4, 3, 4, 4, 5, 3, 4, 4, 5, 4, 5, 5, 6, 3, 4, 4, 5, 4, 5, 5, 6, 4, 5, 5, 6, 5, 6, 6, 7, 3, 4, 4, 5, 4, 5, 5, 6, 4, 5, 5, 6, 5, 6, 6, 7, 4, 5, 5, 6, 5, 6, 6, 7, 5, 6, 6, 7, 6, 7, 7, 8]⟩)), (.t 3)]), none⟩,
  ⟨(some 5), (.conv .i64 (.t 4)), none⟩,
  ⟨(some 2), (.mv (.t 5)), none⟩]
def a_math_bits_OnesCount8 : AFunc := ⟨[(.tmp 2)], (.seq (.region q_math_bits_OnesCount8_0) (.seq (.region q_math_bits_OnesCount8_1) .ret))⟩


theorem c_filter_Of : trF Try.prog Try.f16 = some a_filter_Of := by kernel_rfl
theorem g_filter_Of : Try.prog.funcs[16]? = some Try.f16 := by kernel_rfl
theorem i_filter_Of {args : List AV} {A : Heap} {Ko : AOut → Heap → Prop} (hn : args.length ≤ 29)
    (h : ∀ R : APost, (∀ e env A, fpost a_filter_Of.res Ko e env A → R e env A) → X Try.prog R a_filter_Of.body .done (env0 args) A) : SimX Try.prog F_filter_Of args A Ko :=
  X_intro g_filter_Of c_filter_Of (by rw [Try.ntmps16]; exact hn) h
theorem v_filter_Of {args : List AV} {v : AV} (hn : args.length ≤ 29) (h : X Try.prog (fin a_filter_Of.res v) a_filter_Of.body .done (env0 args) H0) : Gives Try.prog F_filter_Of args v :=
  Gives_intro g_filter_Of c_filter_Of (by rw [Try.ntmps16]; exact hn) h
theorem e_filter_Of {args : List AV} {Q : AOut → Prop} (hn : args.length ≤ 29) (h : X Try.prog (finE a_filter_Of.res Q) a_filter_Of.body .done (env0 args) H0) : Fins Try.prog F_filter_Of args Q :=
  Fins_intro g_filter_Of c_filter_Of (by rw [Try.ntmps16]; exact hn) h
theorem j_filter_Of {args : List AV} {A : Heap} {K Kp : AV → Heap → Prop} (hn : args.length ≤ 29) (h : X Try.prog (inl a_filter_Of.res K Kp) a_filter_Of.body .done (env0 args) A) : SimX Try.prog F_filter_Of args A (outK K Kp) :=
  X_inl g_filter_Of c_filter_Of (by rw [Try.ntmps16]; exact hn) h
theorem d_filter_Of {args : List AV} {A : Heap} {Ko : AOut → Heap → Prop} (hn : args.length ≤ 29)
    (h : ∀ R : APost, (∀ e env A, fpost a_filter_Of.res Ko e env A → R e env A) → X Try.prog R a_filter_Of.body .done (env0 args) A) : SimD Try.prog F_filter_Of args A Ko :=
  X_introD g_filter_Of c_filter_Of (by rw [Try.ntmps16]; exact hn) h
@[simp] theorem k_filter_Of : callable Try.prog F_filter_Of = true := by kernel_rfl
theorem c_filter_New : trF Try.prog Try.f18 = some a_filter_New := by kernel_rfl
theorem g_filter_New : Try.prog.funcs[18]? = some Try.f18 := by kernel_rfl
theorem i_filter_New {args : List AV} {A : Heap} {Ko : AOut → Heap → Prop} (hn : args.length ≤ 20)
    (h : ∀ R : APost, (∀ e env A, fpost a_filter_New.res Ko e env A → R e env A) → X Try.prog R a_filter_New.body .done (env0 args) A) : SimX Try.prog F_filter_New args A Ko :=
  X_intro g_filter_New c_filter_New (by rw [Try.ntmps18]; exact hn) h
theorem v_filter_New {args : List AV} {v : AV} (hn : args.length ≤ 20) (h : X Try.prog (fin a_filter_New.res v) a_filter_New.body .done (env0 args) H0) : Gives Try.prog F_filter_New args v :=
  Gives_intro g_filter_New c_filter_New (by rw [Try.ntmps18]; exact hn) h
theorem e_filter_New {args : List AV} {Q : AOut → Prop} (hn : args.length ≤ 20) (h : X Try.prog (finE a_filter_New.res Q) a_filter_New.body .done (env0 args) H0) : Fins Try.prog F_filter_New args Q :=
  Fins_intro g_filter_New c_filter_New (by rw [Try.ntmps18]; exact hn) h
theorem j_filter_New {args : List AV} {A : Heap} {K Kp : AV → Heap → Prop} (hn : args.length ≤ 20) (h : X Try.prog (inl a_filter_New.res K Kp) a_filter_New.body .done (env0 args) A) : SimX Try.prog F_filter_New args A (outK K Kp) :=
  X_inl g_filter_New c_filter_New (by rw [Try.ntmps18]; exact hn) h
theorem d_filter_New {args : List AV} {A : Heap} {Ko : AOut → Heap → Prop} (hn : args.length ≤ 20)
    (h : ∀ R : APost, (∀ e env A, fpost a_filter_New.res Ko e env A → R e env A) → X Try.prog R a_filter_New.body .done (env0 args) A) : SimD Try.prog F_filter_New args A Ko :=
  X_introD g_filter_New c_filter_New (by rw [Try.ntmps18]; exact hn) h
@[simp] theorem k_filter_New : callable Try.prog F_filter_New = true := by kernel_rfl
theorem c_filter_probe : trF Try.prog Try.f102 = some a_filter_probe := by kernel_rfl
theorem g_filter_probe : Try.prog.funcs[102]? = some Try.f102 := by kernel_rfl
theorem i_filter_probe {args : List AV} {A : Heap} {Ko : AOut → Heap → Prop} (hn : args.length ≤ 18)
    (h : ∀ R : APost, (∀ e env A, fpost a_filter_probe.res Ko e env A → R e env A) → X Try.prog R a_filter_probe.body .done (env0 args) A) : SimX Try.prog F_filter_probe args A Ko :=
  X_intro g_filter_probe c_filter_probe (by rw [Try.ntmps102]; exact hn) h
theorem v_filter_probe {args : List AV} {v : AV} (hn : args.length ≤ 18) (h : X Try.prog (fin a_filter_probe.res v) a_filter_probe.body .done (env0 args) H0) : Gives Try.prog F_filter_probe args v :=
  Gives_intro g_filter_probe c_filter_probe (by rw [Try.ntmps102]; exact hn) h
theorem e_filter_probe {args : List AV} {Q : AOut → Prop} (hn : args.length ≤ 18) (h : X Try.prog (finE a_filter_probe.res Q) a_filter_probe.body .done (env0 args) H0) : Fins Try.prog F_filter_probe args Q :=
  Fins_intro g_filter_probe c_filter_probe (by rw [Try.ntmps102]; exact hn) h
theorem j_filter_probe {args : List AV} {A : Heap} {K Kp : AV → Heap → Prop} (hn : args.length ≤ 18) (h : X Try.prog (inl a_filter_probe.res K Kp) a_filter_probe.body .done (env0 args) A) : SimX Try.prog F_filter_probe args A (outK K Kp) :=
  X_inl g_filter_probe c_filter_probe (by rw [Try.ntmps102]; exact hn) h
theorem d_filter_probe {args : List AV} {A : Heap} {Ko : AOut → Heap → Prop} (hn : args.length ≤ 18)
    (h : ∀ R : APost, (∀ e env A, fpost a_filter_probe.res Ko e env A → R e env A) → X Try.prog R a_filter_probe.body .done (env0 args) A) : SimD Try.prog F_filter_probe args A Ko :=
  X_introD g_filter_probe c_filter_probe (by rw [Try.ntmps102]; exact hn) h
@[simp] theorem k_filter_probe : callable Try.prog F_filter_probe = true := by kernel_rfl
theorem c_Pfilter_Filter_Len : trF Try.prog Try.f20 = some a_Pfilter_Filter_Len := by kernel_rfl
theorem g_Pfilter_Filter_Len : Try.prog.funcs[20]? = some Try.f20 := by kernel_rfl
theorem i_Pfilter_Filter_Len {args : List AV} {A : Heap} {Ko : AOut → Heap → Prop} (hn : args.length ≤ 7)
    (h : ∀ R : APost, (∀ e env A, fpost a_Pfilter_Filter_Len.res Ko e env A → R e env A) → X Try.prog R a_Pfilter_Filter_Len.body .done (env0 args) A) : SimX Try.prog F_Pfilter_Filter_Len args A Ko :=
  X_intro g_Pfilter_Filter_Len c_Pfilter_Filter_Len (by rw [Try.ntmps20]; exact hn) h
theorem v_Pfilter_Filter_Len {args : List AV} {v : AV} (hn : args.length ≤ 7) (h : X Try.prog (fin a_Pfilter_Filter_Len.res v) a_Pfilter_Filter_Len.body .done (env0 args) H0) : Gives Try.prog F_Pfilter_Filter_Len args v :=
  Gives_intro g_Pfilter_Filter_Len c_Pfilter_Filter_Len (by rw [Try.ntmps20]; exact hn) h
theorem e_Pfilter_Filter_Len {args : List AV} {Q : AOut → Prop} (hn : args.length ≤ 7) (h : X Try.prog (finE a_Pfilter_Filter_Len.res Q) a_Pfilter_Filter_Len.body .done (env0 args) H0) : Fins Try.prog F_Pfilter_Filter_Len args Q :=
  Fins_intro g_Pfilter_Filter_Len c_Pfilter_Filter_Len (by rw [Try.ntmps20]; exact hn) h
theorem j_Pfilter_Filter_Len {args : List AV} {A : Heap} {K Kp : AV → Heap → Prop} (hn : args.length ≤ 7) (h : X Try.prog (inl a_Pfilter_Filter_Len.res K Kp) a_Pfilter_Filter_Len.body .done (env0 args) A) : SimX Try.prog F_Pfilter_Filter_Len args A (outK K Kp) :=
  X_inl g_Pfilter_Filter_Len c_Pfilter_Filter_Len (by rw [Try.ntmps20]; exact hn) h
theorem d_Pfilter_Filter_Len {args : List AV} {A : Heap} {Ko : AOut → Heap → Prop} (hn : args.length ≤ 7)
    (h : ∀ R : APost, (∀ e env A, fpost a_Pfilter_Filter_Len.res Ko e env A → R e env A) → X Try.prog R a_Pfilter_Filter_Len.body .done (env0 args) A) : SimD Try.prog F_Pfilter_Filter_Len args A Ko :=
  X_introD g_Pfilter_Filter_Len c_Pfilter_Filter_Len (by rw [Try.ntmps20]; exact hn) h
@[simp] theorem k_Pfilter_Filter_Len : callable Try.prog F_Pfilter_Filter_Len = true := by kernel_rfl
theorem c_Pfilter_Filter_Size : trF Try.prog Try.f21 = some a_Pfilter_Filter_Size := by kernel_rfl
theorem g_Pfilter_Filter_Size : Try.prog.funcs[21]? = some Try.f21 := by kernel_rfl
theorem i_Pfilter_Filter_Size {args : List AV} {A : Heap} {Ko : AOut → Heap → Prop} (hn : args.length ≤ 9)
    (h : ∀ R : APost, (∀ e env A, fpost a_Pfilter_Filter_Size.res Ko e env A → R e env A) → X Try.prog R a_Pfilter_Filter_Size.body .done (env0 args) A) : SimX Try.prog F_Pfilter_Filter_Size args A Ko :=
  X_intro g_Pfilter_Filter_Size c_Pfilter_Filter_Size (by rw [Try.ntmps21]; exact hn) h
theorem v_Pfilter_Filter_Size {args : List AV} {v : AV} (hn : args.length ≤ 9) (h : X Try.prog (fin a_Pfilter_Filter_Size.res v) a_Pfilter_Filter_Size.body .done (env0 args) H0) : Gives Try.prog F_Pfilter_Filter_Size args v :=
  Gives_intro g_Pfilter_Filter_Size c_Pfilter_Filter_Size (by rw [Try.ntmps21]; exact hn) h
theorem e_Pfilter_Filter_Size {args : List AV} {Q : AOut → Prop} (hn : args.length ≤ 9) (h : X Try.prog (finE a_Pfilter_Filter_Size.res Q) a_Pfilter_Filter_Size.body .done (env0 args) H0) : Fins Try.prog F_Pfilter_Filter_Size args Q :=
  Fins_intro g_Pfilter_Filter_Size c_Pfilter_Filter_Size (by rw [Try.ntmps21]; exact hn) h
theorem j_Pfilter_Filter_Size {args : List AV} {A : Heap} {K Kp : AV → Heap → Prop} (hn : args.length ≤ 9) (h : X Try.prog (inl a_Pfilter_Filter_Size.res K Kp) a_Pfilter_Filter_Size.body .done (env0 args) A) : SimX Try.prog F_Pfilter_Filter_Size args A (outK K Kp) :=
  X_inl g_Pfilter_Filter_Size c_Pfilter_Filter_Size (by rw [Try.ntmps21]; exact hn) h
theorem d_Pfilter_Filter_Size {args : List AV} {A : Heap} {Ko : AOut → Heap → Prop} (hn : args.length ≤ 9)
    (h : ∀ R : APost, (∀ e env A, fpost a_Pfilter_Filter_Size.res Ko e env A → R e env A) → X Try.prog R a_Pfilter_Filter_Size.body .done (env0 args) A) : SimD Try.prog F_Pfilter_Filter_Size args A Ko :=
  X_introD g_Pfilter_Filter_Size c_Pfilter_Filter_Size (by rw [Try.ntmps21]; exact hn) h
@[simp] theorem k_Pfilter_Filter_Size : callable Try.prog F_Pfilter_Filter_Size = true := by kernel_rfl
theorem c_Pfilter_Filter_Ones : trF Try.prog Try.f22 = some a_Pfilter_Filter_Ones := by kernel_rfl
theorem g_Pfilter_Filter_Ones : Try.prog.funcs[22]? = some Try.f22 := by kernel_rfl
theorem i_Pfilter_Filter_Ones {args : List AV} {A : Heap} {Ko : AOut → Heap → Prop} (hn : args.length ≤ 21)
    (h : ∀ R : APost, (∀ e env A, fpost a_Pfilter_Filter_Ones.res Ko e env A → R e env A) → X Try.prog R a_Pfilter_Filter_Ones.body .done (env0 args) A) : SimX Try.prog F_Pfilter_Filter_Ones args A Ko :=
  X_intro g_Pfilter_Filter_Ones c_Pfilter_Filter_Ones (by rw [Try.ntmps22]; exact hn) h
theorem v_Pfilter_Filter_Ones {args : List AV} {v : AV} (hn : args.length ≤ 21) (h : X Try.prog (fin a_Pfilter_Filter_Ones.res v) a_Pfilter_Filter_Ones.body .done (env0 args) H0) : Gives Try.prog F_Pfilter_Filter_Ones args v :=
  Gives_intro g_Pfilter_Filter_Ones c_Pfilter_Filter_Ones (by rw [Try.ntmps22]; exact hn) h
theorem e_Pfilter_Filter_Ones {args : List AV} {Q : AOut → Prop} (hn : args.length ≤ 21) (h : X Try.prog (finE a_Pfilter_Filter_Ones.res Q) a_Pfilter_Filter_Ones.body .done (env0 args) H0) : Fins Try.prog F_Pfilter_Filter_Ones args Q :=
  Fins_intro g_Pfilter_Filter_Ones c_Pfilter_Filter_Ones (by rw [Try.ntmps22]; exact hn) h
theorem j_Pfilter_Filter_Ones {args : List AV} {A : Heap} {K Kp : AV → Heap → Prop} (hn : args.length ≤ 21) (h : X Try.prog (inl a_Pfilter_Filter_Ones.res K Kp) a_Pfilter_Filter_Ones.body .done (env0 args) A) : SimX Try.prog F_Pfilter_Filter_Ones args A (outK K Kp) :=
  X_inl g_Pfilter_Filter_Ones c_Pfilter_Filter_Ones (by rw [Try.ntmps22]; exact hn) h
theorem d_Pfilter_Filter_Ones {args : List AV} {A : Heap} {Ko : AOut → Heap → Prop} (hn : args.length ≤ 21)
    (h : ∀ R : APost, (∀ e env A, fpost a_Pfilter_Filter_Ones.res Ko e env A → R e env A) → X Try.prog R a_Pfilter_Filter_Ones.body .done (env0 args) A) : SimD Try.prog F_Pfilter_Filter_Ones args A Ko :=
  X_introD g_Pfilter_Filter_Ones c_Pfilter_Filter_Ones (by rw [Try.ntmps22]; exact hn) h
@[simp] theorem k_Pfilter_Filter_Ones : callable Try.prog F_Pfilter_Filter_Ones = true := by kernel_rfl
theorem c_Pfilter_Filter_Bytes : trF Try.prog Try.f24 = some a_Pfilter_Filter_Bytes := by kernel_rfl
theorem g_Pfilter_Filter_Bytes : Try.prog.funcs[24]? = some Try.f24 := by kernel_rfl
theorem i_Pfilter_Filter_Bytes {args : List AV} {A : Heap} {Ko : AOut → Heap → Prop} (hn : args.length ≤ 9)
    (h : ∀ R : APost, (∀ e env A, fpost a_Pfilter_Filter_Bytes.res Ko e env A → R e env A) → X Try.prog R a_Pfilter_Filter_Bytes.body .done (env0 args) A) : SimX Try.prog F_Pfilter_Filter_Bytes args A Ko :=
  X_intro g_Pfilter_Filter_Bytes c_Pfilter_Filter_Bytes (by rw [Try.ntmps24]; exact hn) h
theorem v_Pfilter_Filter_Bytes {args : List AV} {v : AV} (hn : args.length ≤ 9) (h : X Try.prog (fin a_Pfilter_Filter_Bytes.res v) a_Pfilter_Filter_Bytes.body .done (env0 args) H0) : Gives Try.prog F_Pfilter_Filter_Bytes args v :=
  Gives_intro g_Pfilter_Filter_Bytes c_Pfilter_Filter_Bytes (by rw [Try.ntmps24]; exact hn) h
theorem e_Pfilter_Filter_Bytes {args : List AV} {Q : AOut → Prop} (hn : args.length ≤ 9) (h : X Try.prog (finE a_Pfilter_Filter_Bytes.res Q) a_Pfilter_Filter_Bytes.body .done (env0 args) H0) : Fins Try.prog F_Pfilter_Filter_Bytes args Q :=
  Fins_intro g_Pfilter_Filter_Bytes c_Pfilter_Filter_Bytes (by rw [Try.ntmps24]; exact hn) h
theorem j_Pfilter_Filter_Bytes {args : List AV} {A : Heap} {K Kp : AV → Heap → Prop} (hn : args.length ≤ 9) (h : X Try.prog (inl a_Pfilter_Filter_Bytes.res K Kp) a_Pfilter_Filter_Bytes.body .done (env0 args) A) : SimX Try.prog F_Pfilter_Filter_Bytes args A (outK K Kp) :=
  X_inl g_Pfilter_Filter_Bytes c_Pfilter_Filter_Bytes (by rw [Try.ntmps24]; exact hn) h
theorem d_Pfilter_Filter_Bytes {args : List AV} {A : Heap} {Ko : AOut → Heap → Prop} (hn : args.length ≤ 9)
    (h : ∀ R : APost, (∀ e env A, fpost a_Pfilter_Filter_Bytes.res Ko e env A → R e env A) → X Try.prog R a_Pfilter_Filter_Bytes.body .done (env0 args) A) : SimD Try.prog F_Pfilter_Filter_Bytes args A Ko :=
  X_introD g_Pfilter_Filter_Bytes c_Pfilter_Filter_Bytes (by rw [Try.ntmps24]; exact hn) h
@[simp] theorem k_Pfilter_Filter_Bytes : callable Try.prog F_Pfilter_Filter_Bytes = true := by kernel_rfl
theorem c_Pfilter_Filter_Missing : trF Try.prog Try.f26 = some a_Pfilter_Filter_Missing := by kernel_rfl
theorem g_Pfilter_Filter_Missing : Try.prog.funcs[26]? = some Try.f26 := by kernel_rfl
theorem i_Pfilter_Filter_Missing {args : List AV} {A : Heap} {Ko : AOut → Heap → Prop} (hn : args.length ≤ 24)
    (h : ∀ R : APost, (∀ e env A, fpost a_Pfilter_Filter_Missing.res Ko e env A → R e env A) → X Try.prog R a_Pfilter_Filter_Missing.body .done (env0 args) A) : SimX Try.prog F_Pfilter_Filter_Missing args A Ko :=
  X_intro g_Pfilter_Filter_Missing c_Pfilter_Filter_Missing (by rw [Try.ntmps26]; exact hn) h
theorem v_Pfilter_Filter_Missing {args : List AV} {v : AV} (hn : args.length ≤ 24) (h : X Try.prog (fin a_Pfilter_Filter_Missing.res v) a_Pfilter_Filter_Missing.body .done (env0 args) H0) : Gives Try.prog F_Pfilter_Filter_Missing args v :=
  Gives_intro g_Pfilter_Filter_Missing c_Pfilter_Filter_Missing (by rw [Try.ntmps26]; exact hn) h
theorem e_Pfilter_Filter_Missing {args : List AV} {Q : AOut → Prop} (hn : args.length ≤ 24) (h : X Try.prog (finE a_Pfilter_Filter_Missing.res Q) a_Pfilter_Filter_Missing.body .done (env0 args) H0) : Fins Try.prog F_Pfilter_Filter_Missing args Q :=
  Fins_intro g_Pfilter_Filter_Missing c_Pfilter_Filter_Missing (by rw [Try.ntmps26]; exact hn) h
theorem j_Pfilter_Filter_Missing {args : List AV} {A : Heap} {K Kp : AV → Heap → Prop} (hn : args.length ≤ 24) (h : X Try.prog (inl a_Pfilter_Filter_Missing.res K Kp) a_Pfilter_Filter_Missing.body .done (env0 args) A) : SimX Try.prog F_Pfilter_Filter_Missing args A (outK K Kp) :=
  X_inl g_Pfilter_Filter_Missing c_Pfilter_Filter_Missing (by rw [Try.ntmps26]; exact hn) h
theorem d_Pfilter_Filter_Missing {args : List AV} {A : Heap} {Ko : AOut → Heap → Prop} (hn : args.length ≤ 24)
    (h : ∀ R : APost, (∀ e env A, fpost a_Pfilter_Filter_Missing.res Ko e env A → R e env A) → X Try.prog R a_Pfilter_Filter_Missing.body .done (env0 args) A) : SimD Try.prog F_Pfilter_Filter_Missing args A Ko :=
  X_introD g_Pfilter_Filter_Missing c_Pfilter_Filter_Missing (by rw [Try.ntmps26]; exact hn) h
@[simp] theorem k_Pfilter_Filter_Missing : callable Try.prog F_Pfilter_Filter_Missing = true := by kernel_rfl
theorem c_Pfilter_Filter_Has : trF Try.prog Try.f28 = some a_Pfilter_Filter_Has := by kernel_rfl
theorem g_Pfilter_Filter_Has : Try.prog.funcs[28]? = some Try.f28 := by kernel_rfl
theorem i_Pfilter_Filter_Has {args : List AV} {A : Heap} {Ko : AOut → Heap → Prop} (hn : args.length ≤ 10)
    (h : ∀ R : APost, (∀ e env A, fpost a_Pfilter_Filter_Has.res Ko e env A → R e env A) → X Try.prog R a_Pfilter_Filter_Has.body .done (env0 args) A) : SimX Try.prog F_Pfilter_Filter_Has args A Ko :=
  X_intro g_Pfilter_Filter_Has c_Pfilter_Filter_Has (by rw [Try.ntmps28]; exact hn) h
theorem v_Pfilter_Filter_Has {args : List AV} {v : AV} (hn : args.length ≤ 10) (h : X Try.prog (fin a_Pfilter_Filter_Has.res v) a_Pfilter_Filter_Has.body .done (env0 args) H0) : Gives Try.prog F_Pfilter_Filter_Has args v :=
  Gives_intro g_Pfilter_Filter_Has c_Pfilter_Filter_Has (by rw [Try.ntmps28]; exact hn) h
theorem e_Pfilter_Filter_Has {args : List AV} {Q : AOut → Prop} (hn : args.length ≤ 10) (h : X Try.prog (finE a_Pfilter_Filter_Has.res Q) a_Pfilter_Filter_Has.body .done (env0 args) H0) : Fins Try.prog F_Pfilter_Filter_Has args Q :=
  Fins_intro g_Pfilter_Filter_Has c_Pfilter_Filter_Has (by rw [Try.ntmps28]; exact hn) h
theorem j_Pfilter_Filter_Has {args : List AV} {A : Heap} {K Kp : AV → Heap → Prop} (hn : args.length ≤ 10) (h : X Try.prog (inl a_Pfilter_Filter_Has.res K Kp) a_Pfilter_Filter_Has.body .done (env0 args) A) : SimX Try.prog F_Pfilter_Filter_Has args A (outK K Kp) :=
  X_inl g_Pfilter_Filter_Has c_Pfilter_Filter_Has (by rw [Try.ntmps28]; exact hn) h
theorem d_Pfilter_Filter_Has {args : List AV} {A : Heap} {Ko : AOut → Heap → Prop} (hn : args.length ≤ 10)
    (h : ∀ R : APost, (∀ e env A, fpost a_Pfilter_Filter_Has.res Ko e env A → R e env A) → X Try.prog R a_Pfilter_Filter_Has.body .done (env0 args) A) : SimD Try.prog F_Pfilter_Filter_Has args A Ko :=
  X_introD g_Pfilter_Filter_Has c_Pfilter_Filter_Has (by rw [Try.ntmps28]; exact hn) h
@[simp] theorem k_Pfilter_Filter_Has : callable Try.prog F_Pfilter_Filter_Has = true := by kernel_rfl
theorem c_Pfilter_Filter_Put : trF Try.prog Try.f29 = some a_Pfilter_Filter_Put := by kernel_rfl
theorem g_Pfilter_Filter_Put : Try.prog.funcs[29]? = some Try.f29 := by kernel_rfl
theorem i_Pfilter_Filter_Put {args : List AV} {A : Heap} {Ko : AOut → Heap → Prop} (hn : args.length ≤ 16)
    (h : ∀ R : APost, (∀ e env A, fpost a_Pfilter_Filter_Put.res Ko e env A → R e env A) → X Try.prog R a_Pfilter_Filter_Put.body .done (env0 args) A) : SimX Try.prog F_Pfilter_Filter_Put args A Ko :=
  X_intro g_Pfilter_Filter_Put c_Pfilter_Filter_Put (by rw [Try.ntmps29]; exact hn) h
theorem v_Pfilter_Filter_Put {args : List AV} {v : AV} (hn : args.length ≤ 16) (h : X Try.prog (fin a_Pfilter_Filter_Put.res v) a_Pfilter_Filter_Put.body .done (env0 args) H0) : Gives Try.prog F_Pfilter_Filter_Put args v :=
  Gives_intro g_Pfilter_Filter_Put c_Pfilter_Filter_Put (by rw [Try.ntmps29]; exact hn) h
theorem e_Pfilter_Filter_Put {args : List AV} {Q : AOut → Prop} (hn : args.length ≤ 16) (h : X Try.prog (finE a_Pfilter_Filter_Put.res Q) a_Pfilter_Filter_Put.body .done (env0 args) H0) : Fins Try.prog F_Pfilter_Filter_Put args Q :=
  Fins_intro g_Pfilter_Filter_Put c_Pfilter_Filter_Put (by rw [Try.ntmps29]; exact hn) h
theorem j_Pfilter_Filter_Put {args : List AV} {A : Heap} {K Kp : AV → Heap → Prop} (hn : args.length ≤ 16) (h : X Try.prog (inl a_Pfilter_Filter_Put.res K Kp) a_Pfilter_Filter_Put.body .done (env0 args) A) : SimX Try.prog F_Pfilter_Filter_Put args A (outK K Kp) :=
  X_inl g_Pfilter_Filter_Put c_Pfilter_Filter_Put (by rw [Try.ntmps29]; exact hn) h
theorem d_Pfilter_Filter_Put {args : List AV} {A : Heap} {Ko : AOut → Heap → Prop} (hn : args.length ≤ 16)
    (h : ∀ R : APost, (∀ e env A, fpost a_Pfilter_Filter_Put.res Ko e env A → R e env A) → X Try.prog R a_Pfilter_Filter_Put.body .done (env0 args) A) : SimD Try.prog F_Pfilter_Filter_Put args A Ko :=
  X_introD g_Pfilter_Filter_Put c_Pfilter_Filter_Put (by rw [Try.ntmps29]; exact hn) h
@[simp] theorem k_Pfilter_Filter_Put : callable Try.prog F_Pfilter_Filter_Put = true := by kernel_rfl
theorem c_Pfilter_Filter_Join : trF Try.prog Try.f30 = some a_Pfilter_Filter_Join := by kernel_rfl
theorem g_Pfilter_Filter_Join : Try.prog.funcs[30]? = some Try.f30 := by kernel_rfl
theorem i_Pfilter_Filter_Join {args : List AV} {A : Heap} {Ko : AOut → Heap → Prop} (hn : args.length ≤ 54)
    (h : ∀ R : APost, (∀ e env A, fpost a_Pfilter_Filter_Join.res Ko e env A → R e env A) → X Try.prog R a_Pfilter_Filter_Join.body .done (env0 args) A) : SimX Try.prog F_Pfilter_Filter_Join args A Ko :=
  X_intro g_Pfilter_Filter_Join c_Pfilter_Filter_Join (by rw [Try.ntmps30]; exact hn) h
theorem v_Pfilter_Filter_Join {args : List AV} {v : AV} (hn : args.length ≤ 54) (h : X Try.prog (fin a_Pfilter_Filter_Join.res v) a_Pfilter_Filter_Join.body .done (env0 args) H0) : Gives Try.prog F_Pfilter_Filter_Join args v :=
  Gives_intro g_Pfilter_Filter_Join c_Pfilter_Filter_Join (by rw [Try.ntmps30]; exact hn) h
theorem e_Pfilter_Filter_Join {args : List AV} {Q : AOut → Prop} (hn : args.length ≤ 54) (h : X Try.prog (finE a_Pfilter_Filter_Join.res Q) a_Pfilter_Filter_Join.body .done (env0 args) H0) : Fins Try.prog F_Pfilter_Filter_Join args Q :=
  Fins_intro g_Pfilter_Filter_Join c_Pfilter_Filter_Join (by rw [Try.ntmps30]; exact hn) h
theorem j_Pfilter_Filter_Join {args : List AV} {A : Heap} {K Kp : AV → Heap → Prop} (hn : args.length ≤ 54) (h : X Try.prog (inl a_Pfilter_Filter_Join.res K Kp) a_Pfilter_Filter_Join.body .done (env0 args) A) : SimX Try.prog F_Pfilter_Filter_Join args A (outK K Kp) :=
  X_inl g_Pfilter_Filter_Join c_Pfilter_Filter_Join (by rw [Try.ntmps30]; exact hn) h
theorem d_Pfilter_Filter_Join {args : List AV} {A : Heap} {Ko : AOut → Heap → Prop} (hn : args.length ≤ 54)
    (h : ∀ R : APost, (∀ e env A, fpost a_Pfilter_Filter_Join.res Ko e env A → R e env A) → X Try.prog R a_Pfilter_Filter_Join.body .done (env0 args) A) : SimD Try.prog F_Pfilter_Filter_Join args A Ko :=
  X_introD g_Pfilter_Filter_Join c_Pfilter_Filter_Join (by rw [Try.ntmps30]; exact hn) h
@[simp] theorem k_Pfilter_Filter_Join : callable Try.prog F_Pfilter_Filter_Join = true := by kernel_rfl
theorem c_Pfilter_Filter_each : trF Try.prog Try.f70 = some a_Pfilter_Filter_each := by kernel_rfl
theorem g_Pfilter_Filter_each : Try.prog.funcs[70]? = some Try.f70 := by kernel_rfl
theorem i_Pfilter_Filter_each {args : List AV} {A : Heap} {Ko : AOut → Heap → Prop} (hn : args.length ≤ 26)
    (h : ∀ R : APost, (∀ e env A, fpost a_Pfilter_Filter_each.res Ko e env A → R e env A) → X Try.prog R a_Pfilter_Filter_each.body .done (env0 args) A) : SimX Try.prog F_Pfilter_Filter_each args A Ko :=
  X_intro g_Pfilter_Filter_each c_Pfilter_Filter_each (by rw [Try.ntmps70]; exact hn) h
theorem v_Pfilter_Filter_each {args : List AV} {v : AV} (hn : args.length ≤ 26) (h : X Try.prog (fin a_Pfilter_Filter_each.res v) a_Pfilter_Filter_each.body .done (env0 args) H0) : Gives Try.prog F_Pfilter_Filter_each args v :=
  Gives_intro g_Pfilter_Filter_each c_Pfilter_Filter_each (by rw [Try.ntmps70]; exact hn) h
theorem e_Pfilter_Filter_each {args : List AV} {Q : AOut → Prop} (hn : args.length ≤ 26) (h : X Try.prog (finE a_Pfilter_Filter_each.res Q) a_Pfilter_Filter_each.body .done (env0 args) H0) : Fins Try.prog F_Pfilter_Filter_each args Q :=
  Fins_intro g_Pfilter_Filter_each c_Pfilter_Filter_each (by rw [Try.ntmps70]; exact hn) h
theorem j_Pfilter_Filter_each {args : List AV} {A : Heap} {K Kp : AV → Heap → Prop} (hn : args.length ≤ 26) (h : X Try.prog (inl a_Pfilter_Filter_each.res K Kp) a_Pfilter_Filter_each.body .done (env0 args) A) : SimX Try.prog F_Pfilter_Filter_each args A (outK K Kp) :=
  X_inl g_Pfilter_Filter_each c_Pfilter_Filter_each (by rw [Try.ntmps70]; exact hn) h
theorem d_Pfilter_Filter_each {args : List AV} {A : Heap} {Ko : AOut → Heap → Prop} (hn : args.length ≤ 26)
    (h : ∀ R : APost, (∀ e env A, fpost a_Pfilter_Filter_each.res Ko e env A → R e env A) → X Try.prog R a_Pfilter_Filter_each.body .done (env0 args) A) : SimD Try.prog F_Pfilter_Filter_each args A Ko :=
  X_introD g_Pfilter_Filter_each c_Pfilter_Filter_each (by rw [Try.ntmps70]; exact hn) h
@[simp] theorem k_Pfilter_Filter_each : callable Try.prog F_Pfilter_Filter_each = true := by kernel_rfl
theorem c_Pfilter_Filter_has : trF Try.prog Try.f71 = some a_Pfilter_Filter_has := by kernel_rfl
theorem g_Pfilter_Filter_has : Try.prog.funcs[71]? = some Try.f71 := by kernel_rfl
theorem i_Pfilter_Filter_has {args : List AV} {A : Heap} {Ko : AOut → Heap → Prop} (hn : args.length ≤ 18)
    (h : ∀ R : APost, (∀ e env A, fpost a_Pfilter_Filter_has.res Ko e env A → R e env A) → X Try.prog R a_Pfilter_Filter_has.body .done (env0 args) A) : SimX Try.prog F_Pfilter_Filter_has args A Ko :=
  X_intro g_Pfilter_Filter_has c_Pfilter_Filter_has (by rw [Try.ntmps71]; exact hn) h
theorem v_Pfilter_Filter_has {args : List AV} {v : AV} (hn : args.length ≤ 18) (h : X Try.prog (fin a_Pfilter_Filter_has.res v) a_Pfilter_Filter_has.body .done (env0 args) H0) : Gives Try.prog F_Pfilter_Filter_has args v :=
  Gives_intro g_Pfilter_Filter_has c_Pfilter_Filter_has (by rw [Try.ntmps71]; exact hn) h
theorem e_Pfilter_Filter_has {args : List AV} {Q : AOut → Prop} (hn : args.length ≤ 18) (h : X Try.prog (finE a_Pfilter_Filter_has.res Q) a_Pfilter_Filter_has.body .done (env0 args) H0) : Fins Try.prog F_Pfilter_Filter_has args Q :=
  Fins_intro g_Pfilter_Filter_has c_Pfilter_Filter_has (by rw [Try.ntmps71]; exact hn) h
theorem j_Pfilter_Filter_has {args : List AV} {A : Heap} {K Kp : AV → Heap → Prop} (hn : args.length ≤ 18) (h : X Try.prog (inl a_Pfilter_Filter_has.res K Kp) a_Pfilter_Filter_has.body .done (env0 args) A) : SimX Try.prog F_Pfilter_Filter_has args A (outK K Kp) :=
  X_inl g_Pfilter_Filter_has c_Pfilter_Filter_has (by rw [Try.ntmps71]; exact hn) h
theorem d_Pfilter_Filter_has {args : List AV} {A : Heap} {Ko : AOut → Heap → Prop} (hn : args.length ≤ 18)
    (h : ∀ R : APost, (∀ e env A, fpost a_Pfilter_Filter_has.res Ko e env A → R e env A) → X Try.prog R a_Pfilter_Filter_has.body .done (env0 args) A) : SimD Try.prog F_Pfilter_Filter_has args A Ko :=
  X_introD g_Pfilter_Filter_has c_Pfilter_Filter_has (by rw [Try.ntmps71]; exact hn) h
@[simp] theorem k_Pfilter_Filter_has : callable Try.prog F_Pfilter_Filter_has = true := by kernel_rfl
theorem c_Pfilter_Filter_set : trF Try.prog Try.f72 = some a_Pfilter_Filter_set := by kernel_rfl
theorem g_Pfilter_Filter_set : Try.prog.funcs[72]? = some Try.f72 := by kernel_rfl
theorem i_Pfilter_Filter_set {args : List AV} {A : Heap} {Ko : AOut → Heap → Prop} (hn : args.length ≤ 18)
    (h : ∀ R : APost, (∀ e env A, fpost a_Pfilter_Filter_set.res Ko e env A → R e env A) → X Try.prog R a_Pfilter_Filter_set.body .done (env0 args) A) : SimX Try.prog F_Pfilter_Filter_set args A Ko :=
  X_intro g_Pfilter_Filter_set c_Pfilter_Filter_set (by rw [Try.ntmps72]; exact hn) h
theorem v_Pfilter_Filter_set {args : List AV} {v : AV} (hn : args.length ≤ 18) (h : X Try.prog (fin a_Pfilter_Filter_set.res v) a_Pfilter_Filter_set.body .done (env0 args) H0) : Gives Try.prog F_Pfilter_Filter_set args v :=
  Gives_intro g_Pfilter_Filter_set c_Pfilter_Filter_set (by rw [Try.ntmps72]; exact hn) h
theorem e_Pfilter_Filter_set {args : List AV} {Q : AOut → Prop} (hn : args.length ≤ 18) (h : X Try.prog (finE a_Pfilter_Filter_set.res Q) a_Pfilter_Filter_set.body .done (env0 args) H0) : Fins Try.prog F_Pfilter_Filter_set args Q :=
  Fins_intro g_Pfilter_Filter_set c_Pfilter_Filter_set (by rw [Try.ntmps72]; exact hn) h
theorem j_Pfilter_Filter_set {args : List AV} {A : Heap} {K Kp : AV → Heap → Prop} (hn : args.length ≤ 18) (h : X Try.prog (inl a_Pfilter_Filter_set.res K Kp) a_Pfilter_Filter_set.body .done (env0 args) A) : SimX Try.prog F_Pfilter_Filter_set args A (outK K Kp) :=
  X_inl g_Pfilter_Filter_set c_Pfilter_Filter_set (by rw [Try.ntmps72]; exact hn) h
theorem d_Pfilter_Filter_set {args : List AV} {A : Heap} {Ko : AOut → Heap → Prop} (hn : args.length ≤ 18)
    (h : ∀ R : APost, (∀ e env A, fpost a_Pfilter_Filter_set.res Ko e env A → R e env A) → X Try.prog R a_Pfilter_Filter_set.body .done (env0 args) A) : SimD Try.prog F_Pfilter_Filter_set args A Ko :=
  X_introD g_Pfilter_Filter_set c_Pfilter_Filter_set (by rw [Try.ntmps72]; exact hn) h
@[simp] theorem k_Pfilter_Filter_set : callable Try.prog F_Pfilter_Filter_set = true := by kernel_rfl
theorem c_Pfilter_Filter_Put_1 : trF Try.prog Try.f73 = some a_Pfilter_Filter_Put_1 := by kernel_rfl
theorem g_Pfilter_Filter_Put_1 : Try.prog.funcs[73]? = some Try.f73 := by kernel_rfl
theorem i_Pfilter_Filter_Put_1 {args : List AV} {A : Heap} {Ko : AOut → Heap → Prop} (hn : args.length ≤ 9)
    (h : ∀ R : APost, (∀ e env A, fpost a_Pfilter_Filter_Put_1.res Ko e env A → R e env A) → X Try.prog R a_Pfilter_Filter_Put_1.body .done (env0 args) A) : SimX Try.prog F_Pfilter_Filter_Put_1 args A Ko :=
  X_intro g_Pfilter_Filter_Put_1 c_Pfilter_Filter_Put_1 (by rw [Try.ntmps73]; exact hn) h
theorem v_Pfilter_Filter_Put_1 {args : List AV} {v : AV} (hn : args.length ≤ 9) (h : X Try.prog (fin a_Pfilter_Filter_Put_1.res v) a_Pfilter_Filter_Put_1.body .done (env0 args) H0) : Gives Try.prog F_Pfilter_Filter_Put_1 args v :=
  Gives_intro g_Pfilter_Filter_Put_1 c_Pfilter_Filter_Put_1 (by rw [Try.ntmps73]; exact hn) h
theorem e_Pfilter_Filter_Put_1 {args : List AV} {Q : AOut → Prop} (hn : args.length ≤ 9) (h : X Try.prog (finE a_Pfilter_Filter_Put_1.res Q) a_Pfilter_Filter_Put_1.body .done (env0 args) H0) : Fins Try.prog F_Pfilter_Filter_Put_1 args Q :=
  Fins_intro g_Pfilter_Filter_Put_1 c_Pfilter_Filter_Put_1 (by rw [Try.ntmps73]; exact hn) h
theorem j_Pfilter_Filter_Put_1 {args : List AV} {A : Heap} {K Kp : AV → Heap → Prop} (hn : args.length ≤ 9) (h : X Try.prog (inl a_Pfilter_Filter_Put_1.res K Kp) a_Pfilter_Filter_Put_1.body .done (env0 args) A) : SimX Try.prog F_Pfilter_Filter_Put_1 args A (outK K Kp) :=
  X_inl g_Pfilter_Filter_Put_1 c_Pfilter_Filter_Put_1 (by rw [Try.ntmps73]; exact hn) h
theorem d_Pfilter_Filter_Put_1 {args : List AV} {A : Heap} {Ko : AOut → Heap → Prop} (hn : args.length ≤ 9)
    (h : ∀ R : APost, (∀ e env A, fpost a_Pfilter_Filter_Put_1.res Ko e env A → R e env A) → X Try.prog R a_Pfilter_Filter_Put_1.body .done (env0 args) A) : SimD Try.prog F_Pfilter_Filter_Put_1 args A Ko :=
  X_introD g_Pfilter_Filter_Put_1 c_Pfilter_Filter_Put_1 (by rw [Try.ntmps73]; exact hn) h
@[simp] theorem k_Pfilter_Filter_Put_1 : callable Try.prog F_Pfilter_Filter_Put_1 = true := by kernel_rfl
theorem c_law32_FilterBits : trF Try.prog Try.f3 = some a_law32_FilterBits := by kernel_rfl
theorem g_law32_FilterBits : Try.prog.funcs[3]? = some Try.f3 := by kernel_rfl
theorem i_law32_FilterBits {args : List AV} {A : Heap} {Ko : AOut → Heap → Prop} (hn : args.length ≤ 152)
    (h : ∀ R : APost, (∀ e env A, fpost a_law32_FilterBits.res Ko e env A → R e env A) → X Try.prog R a_law32_FilterBits.body .done (env0 args) A) : SimX Try.prog F_law32_FilterBits args A Ko :=
  X_intro g_law32_FilterBits c_law32_FilterBits (by rw [Try.ntmps3]; exact hn) h
theorem v_law32_FilterBits {args : List AV} {v : AV} (hn : args.length ≤ 152) (h : X Try.prog (fin a_law32_FilterBits.res v) a_law32_FilterBits.body .done (env0 args) H0) : Gives Try.prog F_law32_FilterBits args v :=
  Gives_intro g_law32_FilterBits c_law32_FilterBits (by rw [Try.ntmps3]; exact hn) h
theorem e_law32_FilterBits {args : List AV} {Q : AOut → Prop} (hn : args.length ≤ 152) (h : X Try.prog (finE a_law32_FilterBits.res Q) a_law32_FilterBits.body .done (env0 args) H0) : Fins Try.prog F_law32_FilterBits args Q :=
  Fins_intro g_law32_FilterBits c_law32_FilterBits (by rw [Try.ntmps3]; exact hn) h
theorem j_law32_FilterBits {args : List AV} {A : Heap} {K Kp : AV → Heap → Prop} (hn : args.length ≤ 152) (h : X Try.prog (inl a_law32_FilterBits.res K Kp) a_law32_FilterBits.body .done (env0 args) A) : SimX Try.prog F_law32_FilterBits args A (outK K Kp) :=
  X_inl g_law32_FilterBits c_law32_FilterBits (by rw [Try.ntmps3]; exact hn) h
theorem d_law32_FilterBits {args : List AV} {A : Heap} {Ko : AOut → Heap → Prop} (hn : args.length ≤ 152)
    (h : ∀ R : APost, (∀ e env A, fpost a_law32_FilterBits.res Ko e env A → R e env A) → X Try.prog R a_law32_FilterBits.body .done (env0 args) A) : SimD Try.prog F_law32_FilterBits args A Ko :=
  X_introD g_law32_FilterBits c_law32_FilterBits (by rw [Try.ntmps3]; exact hn) h
@[simp] theorem k_law32_FilterBits : callable Try.prog F_law32_FilterBits = true := by kernel_rfl
theorem c_law32_FilterKeeps : trF Try.prog Try.f4 = some a_law32_FilterKeeps := by kernel_rfl
theorem g_law32_FilterKeeps : Try.prog.funcs[4]? = some Try.f4 := by kernel_rfl
theorem i_law32_FilterKeeps {args : List AV} {A : Heap} {Ko : AOut → Heap → Prop} (hn : args.length ≤ 100)
    (h : ∀ R : APost, (∀ e env A, fpost a_law32_FilterKeeps.res Ko e env A → R e env A) → X Try.prog R a_law32_FilterKeeps.body .done (env0 args) A) : SimX Try.prog F_law32_FilterKeeps args A Ko :=
  X_intro g_law32_FilterKeeps c_law32_FilterKeeps (by rw [Try.ntmps4]; exact hn) h
theorem v_law32_FilterKeeps {args : List AV} {v : AV} (hn : args.length ≤ 100) (h : X Try.prog (fin a_law32_FilterKeeps.res v) a_law32_FilterKeeps.body .done (env0 args) H0) : Gives Try.prog F_law32_FilterKeeps args v :=
  Gives_intro g_law32_FilterKeeps c_law32_FilterKeeps (by rw [Try.ntmps4]; exact hn) h
theorem e_law32_FilterKeeps {args : List AV} {Q : AOut → Prop} (hn : args.length ≤ 100) (h : X Try.prog (finE a_law32_FilterKeeps.res Q) a_law32_FilterKeeps.body .done (env0 args) H0) : Fins Try.prog F_law32_FilterKeeps args Q :=
  Fins_intro g_law32_FilterKeeps c_law32_FilterKeeps (by rw [Try.ntmps4]; exact hn) h
theorem j_law32_FilterKeeps {args : List AV} {A : Heap} {K Kp : AV → Heap → Prop} (hn : args.length ≤ 100) (h : X Try.prog (inl a_law32_FilterKeeps.res K Kp) a_law32_FilterKeeps.body .done (env0 args) A) : SimX Try.prog F_law32_FilterKeeps args A (outK K Kp) :=
  X_inl g_law32_FilterKeeps c_law32_FilterKeeps (by rw [Try.ntmps4]; exact hn) h
theorem d_law32_FilterKeeps {args : List AV} {A : Heap} {Ko : AOut → Heap → Prop} (hn : args.length ≤ 100)
    (h : ∀ R : APost, (∀ e env A, fpost a_law32_FilterKeeps.res Ko e env A → R e env A) → X Try.prog R a_law32_FilterKeeps.body .done (env0 args) A) : SimD Try.prog F_law32_FilterKeeps args A Ko :=
  X_introD g_law32_FilterKeeps c_law32_FilterKeeps (by rw [Try.ntmps4]; exact hn) h
@[simp] theorem k_law32_FilterKeeps : callable Try.prog F_law32_FilterKeeps = true := by kernel_rfl
theorem c_law32_FilterJoins : trF Try.prog Try.f5 = some a_law32_FilterJoins := by kernel_rfl
theorem g_law32_FilterJoins : Try.prog.funcs[5]? = some Try.f5 := by kernel_rfl
theorem i_law32_FilterJoins {args : List AV} {A : Heap} {Ko : AOut → Heap → Prop} (hn : args.length ≤ 122)
    (h : ∀ R : APost, (∀ e env A, fpost a_law32_FilterJoins.res Ko e env A → R e env A) → X Try.prog R a_law32_FilterJoins.body .done (env0 args) A) : SimX Try.prog F_law32_FilterJoins args A Ko :=
  X_intro g_law32_FilterJoins c_law32_FilterJoins (by rw [Try.ntmps5]; exact hn) h
theorem v_law32_FilterJoins {args : List AV} {v : AV} (hn : args.length ≤ 122) (h : X Try.prog (fin a_law32_FilterJoins.res v) a_law32_FilterJoins.body .done (env0 args) H0) : Gives Try.prog F_law32_FilterJoins args v :=
  Gives_intro g_law32_FilterJoins c_law32_FilterJoins (by rw [Try.ntmps5]; exact hn) h
theorem e_law32_FilterJoins {args : List AV} {Q : AOut → Prop} (hn : args.length ≤ 122) (h : X Try.prog (finE a_law32_FilterJoins.res Q) a_law32_FilterJoins.body .done (env0 args) H0) : Fins Try.prog F_law32_FilterJoins args Q :=
  Fins_intro g_law32_FilterJoins c_law32_FilterJoins (by rw [Try.ntmps5]; exact hn) h
theorem j_law32_FilterJoins {args : List AV} {A : Heap} {K Kp : AV → Heap → Prop} (hn : args.length ≤ 122) (h : X Try.prog (inl a_law32_FilterJoins.res K Kp) a_law32_FilterJoins.body .done (env0 args) A) : SimX Try.prog F_law32_FilterJoins args A (outK K Kp) :=
  X_inl g_law32_FilterJoins c_law32_FilterJoins (by rw [Try.ntmps5]; exact hn) h
theorem d_law32_FilterJoins {args : List AV} {A : Heap} {Ko : AOut → Heap → Prop} (hn : args.length ≤ 122)
    (h : ∀ R : APost, (∀ e env A, fpost a_law32_FilterJoins.res Ko e env A → R e env A) → X Try.prog R a_law32_FilterJoins.body .done (env0 args) A) : SimD Try.prog F_law32_FilterJoins args A Ko :=
  X_introD g_law32_FilterJoins c_law32_FilterJoins (by rw [Try.ntmps5]; exact hn) h
@[simp] theorem k_law32_FilterJoins : callable Try.prog F_law32_FilterJoins = true := by kernel_rfl
theorem c_law32_works : trF Try.prog Try.f15 = some a_law32_works := by kernel_rfl
theorem g_law32_works : Try.prog.funcs[15]? = some Try.f15 := by kernel_rfl
theorem i_law32_works {args : List AV} {A : Heap} {Ko : AOut → Heap → Prop} (hn : args.length ≤ 107)
    (h : ∀ R : APost, (∀ e env A, fpost a_law32_works.res Ko e env A → R e env A) → X Try.prog R a_law32_works.body .done (env0 args) A) : SimX Try.prog F_law32_works args A Ko :=
  X_intro g_law32_works c_law32_works (by rw [Try.ntmps15]; exact hn) h
theorem v_law32_works {args : List AV} {v : AV} (hn : args.length ≤ 107) (h : X Try.prog (fin a_law32_works.res v) a_law32_works.body .done (env0 args) H0) : Gives Try.prog F_law32_works args v :=
  Gives_intro g_law32_works c_law32_works (by rw [Try.ntmps15]; exact hn) h
theorem e_law32_works {args : List AV} {Q : AOut → Prop} (hn : args.length ≤ 107) (h : X Try.prog (finE a_law32_works.res Q) a_law32_works.body .done (env0 args) H0) : Fins Try.prog F_law32_works args Q :=
  Fins_intro g_law32_works c_law32_works (by rw [Try.ntmps15]; exact hn) h
theorem j_law32_works {args : List AV} {A : Heap} {K Kp : AV → Heap → Prop} (hn : args.length ≤ 107) (h : X Try.prog (inl a_law32_works.res K Kp) a_law32_works.body .done (env0 args) A) : SimX Try.prog F_law32_works args A (outK K Kp) :=
  X_inl g_law32_works c_law32_works (by rw [Try.ntmps15]; exact hn) h
theorem d_law32_works {args : List AV} {A : Heap} {Ko : AOut → Heap → Prop} (hn : args.length ≤ 107)
    (h : ∀ R : APost, (∀ e env A, fpost a_law32_works.res Ko e env A → R e env A) → X Try.prog R a_law32_works.body .done (env0 args) A) : SimD Try.prog F_law32_works args A Ko :=
  X_introD g_law32_works c_law32_works (by rw [Try.ntmps15]; exact hn) h
@[simp] theorem k_law32_works : callable Try.prog F_law32_works = true := by kernel_rfl
theorem c_law32_size : trF Try.prog Try.f17 = some a_law32_size := by kernel_rfl
theorem g_law32_size : Try.prog.funcs[17]? = some Try.f17 := by kernel_rfl
theorem i_law32_size {args : List AV} {A : Heap} {Ko : AOut → Heap → Prop} (hn : args.length ≤ 8)
    (h : ∀ R : APost, (∀ e env A, fpost a_law32_size.res Ko e env A → R e env A) → X Try.prog R a_law32_size.body .done (env0 args) A) : SimX Try.prog F_law32_size args A Ko :=
  X_intro g_law32_size c_law32_size (by rw [Try.ntmps17]; exact hn) h
theorem v_law32_size {args : List AV} {v : AV} (hn : args.length ≤ 8) (h : X Try.prog (fin a_law32_size.res v) a_law32_size.body .done (env0 args) H0) : Gives Try.prog F_law32_size args v :=
  Gives_intro g_law32_size c_law32_size (by rw [Try.ntmps17]; exact hn) h
theorem e_law32_size {args : List AV} {Q : AOut → Prop} (hn : args.length ≤ 8) (h : X Try.prog (finE a_law32_size.res Q) a_law32_size.body .done (env0 args) H0) : Fins Try.prog F_law32_size args Q :=
  Fins_intro g_law32_size c_law32_size (by rw [Try.ntmps17]; exact hn) h
theorem j_law32_size {args : List AV} {A : Heap} {K Kp : AV → Heap → Prop} (hn : args.length ≤ 8) (h : X Try.prog (inl a_law32_size.res K Kp) a_law32_size.body .done (env0 args) A) : SimX Try.prog F_law32_size args A (outK K Kp) :=
  X_inl g_law32_size c_law32_size (by rw [Try.ntmps17]; exact hn) h
theorem d_law32_size {args : List AV} {A : Heap} {Ko : AOut → Heap → Prop} (hn : args.length ≤ 8)
    (h : ∀ R : APost, (∀ e env A, fpost a_law32_size.res Ko e env A → R e env A) → X Try.prog R a_law32_size.body .done (env0 args) A) : SimD Try.prog F_law32_size args A Ko :=
  X_introD g_law32_size c_law32_size (by rw [Try.ntmps17]; exact hn) h
@[simp] theorem k_law32_size : callable Try.prog F_law32_size = true := by kernel_rfl
theorem c_ref32_Set : trF Try.prog Try.f19 = some a_ref32_Set := by kernel_rfl
theorem g_ref32_Set : Try.prog.funcs[19]? = some Try.f19 := by kernel_rfl
theorem i_ref32_Set {args : List AV} {A : Heap} {Ko : AOut → Heap → Prop} (hn : args.length ≤ 40)
    (h : ∀ R : APost, (∀ e env A, fpost a_ref32_Set.res Ko e env A → R e env A) → X Try.prog R a_ref32_Set.body .done (env0 args) A) : SimX Try.prog F_ref32_Set args A Ko :=
  X_intro g_ref32_Set c_ref32_Set (by rw [Try.ntmps19]; exact hn) h
theorem v_ref32_Set {args : List AV} {v : AV} (hn : args.length ≤ 40) (h : X Try.prog (fin a_ref32_Set.res v) a_ref32_Set.body .done (env0 args) H0) : Gives Try.prog F_ref32_Set args v :=
  Gives_intro g_ref32_Set c_ref32_Set (by rw [Try.ntmps19]; exact hn) h
theorem e_ref32_Set {args : List AV} {Q : AOut → Prop} (hn : args.length ≤ 40) (h : X Try.prog (finE a_ref32_Set.res Q) a_ref32_Set.body .done (env0 args) H0) : Fins Try.prog F_ref32_Set args Q :=
  Fins_intro g_ref32_Set c_ref32_Set (by rw [Try.ntmps19]; exact hn) h
theorem j_ref32_Set {args : List AV} {A : Heap} {K Kp : AV → Heap → Prop} (hn : args.length ≤ 40) (h : X Try.prog (inl a_ref32_Set.res K Kp) a_ref32_Set.body .done (env0 args) A) : SimX Try.prog F_ref32_Set args A (outK K Kp) :=
  X_inl g_ref32_Set c_ref32_Set (by rw [Try.ntmps19]; exact hn) h
theorem d_ref32_Set {args : List AV} {A : Heap} {Ko : AOut → Heap → Prop} (hn : args.length ≤ 40)
    (h : ∀ R : APost, (∀ e env A, fpost a_ref32_Set.res Ko e env A → R e env A) → X Try.prog R a_ref32_Set.body .done (env0 args) A) : SimD Try.prog F_ref32_Set args A Ko :=
  X_introD g_ref32_Set c_ref32_Set (by rw [Try.ntmps19]; exact hn) h
@[simp] theorem k_ref32_Set : callable Try.prog F_ref32_Set = true := by kernel_rfl
theorem c_ref32_Bytes : trF Try.prog Try.f25 = some a_ref32_Bytes := by kernel_rfl
theorem g_ref32_Bytes : Try.prog.funcs[25]? = some Try.f25 := by kernel_rfl
theorem i_ref32_Bytes {args : List AV} {A : Heap} {Ko : AOut → Heap → Prop} (hn : args.length ≤ 47)
    (h : ∀ R : APost, (∀ e env A, fpost a_ref32_Bytes.res Ko e env A → R e env A) → X Try.prog R a_ref32_Bytes.body .done (env0 args) A) : SimX Try.prog F_ref32_Bytes args A Ko :=
  X_intro g_ref32_Bytes c_ref32_Bytes (by rw [Try.ntmps25]; exact hn) h
theorem v_ref32_Bytes {args : List AV} {v : AV} (hn : args.length ≤ 47) (h : X Try.prog (fin a_ref32_Bytes.res v) a_ref32_Bytes.body .done (env0 args) H0) : Gives Try.prog F_ref32_Bytes args v :=
  Gives_intro g_ref32_Bytes c_ref32_Bytes (by rw [Try.ntmps25]; exact hn) h
theorem e_ref32_Bytes {args : List AV} {Q : AOut → Prop} (hn : args.length ≤ 47) (h : X Try.prog (finE a_ref32_Bytes.res Q) a_ref32_Bytes.body .done (env0 args) H0) : Fins Try.prog F_ref32_Bytes args Q :=
  Fins_intro g_ref32_Bytes c_ref32_Bytes (by rw [Try.ntmps25]; exact hn) h
theorem j_ref32_Bytes {args : List AV} {A : Heap} {K Kp : AV → Heap → Prop} (hn : args.length ≤ 47) (h : X Try.prog (inl a_ref32_Bytes.res K Kp) a_ref32_Bytes.body .done (env0 args) A) : SimX Try.prog F_ref32_Bytes args A (outK K Kp) :=
  X_inl g_ref32_Bytes c_ref32_Bytes (by rw [Try.ntmps25]; exact hn) h
theorem d_ref32_Bytes {args : List AV} {A : Heap} {Ko : AOut → Heap → Prop} (hn : args.length ≤ 47)
    (h : ∀ R : APost, (∀ e env A, fpost a_ref32_Bytes.res Ko e env A → R e env A) → X Try.prog R a_ref32_Bytes.body .done (env0 args) A) : SimD Try.prog F_ref32_Bytes args A Ko :=
  X_introD g_ref32_Bytes c_ref32_Bytes (by rw [Try.ntmps25]; exact hn) h
@[simp] theorem k_ref32_Bytes : callable Try.prog F_ref32_Bytes = true := by kernel_rfl
theorem c_ref32_Has : trF Try.prog Try.f27 = some a_ref32_Has := by kernel_rfl
theorem g_ref32_Has : Try.prog.funcs[27]? = some Try.f27 := by kernel_rfl
theorem i_ref32_Has {args : List AV} {A : Heap} {Ko : AOut → Heap → Prop} (hn : args.length ≤ 37)
    (h : ∀ R : APost, (∀ e env A, fpost a_ref32_Has.res Ko e env A → R e env A) → X Try.prog R a_ref32_Has.body .done (env0 args) A) : SimX Try.prog F_ref32_Has args A Ko :=
  X_intro g_ref32_Has c_ref32_Has (by rw [Try.ntmps27]; exact hn) h
theorem v_ref32_Has {args : List AV} {v : AV} (hn : args.length ≤ 37) (h : X Try.prog (fin a_ref32_Has.res v) a_ref32_Has.body .done (env0 args) H0) : Gives Try.prog F_ref32_Has args v :=
  Gives_intro g_ref32_Has c_ref32_Has (by rw [Try.ntmps27]; exact hn) h
theorem e_ref32_Has {args : List AV} {Q : AOut → Prop} (hn : args.length ≤ 37) (h : X Try.prog (finE a_ref32_Has.res Q) a_ref32_Has.body .done (env0 args) H0) : Fins Try.prog F_ref32_Has args Q :=
  Fins_intro g_ref32_Has c_ref32_Has (by rw [Try.ntmps27]; exact hn) h
theorem j_ref32_Has {args : List AV} {A : Heap} {K Kp : AV → Heap → Prop} (hn : args.length ≤ 37) (h : X Try.prog (inl a_ref32_Has.res K Kp) a_ref32_Has.body .done (env0 args) A) : SimX Try.prog F_ref32_Has args A (outK K Kp) :=
  X_inl g_ref32_Has c_ref32_Has (by rw [Try.ntmps27]; exact hn) h
theorem d_ref32_Has {args : List AV} {A : Heap} {Ko : AOut → Heap → Prop} (hn : args.length ≤ 37)
    (h : ∀ R : APost, (∀ e env A, fpost a_ref32_Has.res Ko e env A → R e env A) → X Try.prog R a_ref32_Has.body .done (env0 args) A) : SimD Try.prog F_ref32_Has args A Ko :=
  X_introD g_ref32_Has c_ref32_Has (by rw [Try.ntmps27]; exact hn) h
@[simp] theorem k_ref32_Has : callable Try.prog F_ref32_Has = true := by kernel_rfl
theorem c_ref32_Bits : trF Try.prog Try.f67 = some a_ref32_Bits := by kernel_rfl
theorem g_ref32_Bits : Try.prog.funcs[67]? = some Try.f67 := by kernel_rfl
theorem i_ref32_Bits {args : List AV} {A : Heap} {Ko : AOut → Heap → Prop} (hn : args.length ≤ 36)
    (h : ∀ R : APost, (∀ e env A, fpost a_ref32_Bits.res Ko e env A → R e env A) → X Try.prog R a_ref32_Bits.body .done (env0 args) A) : SimX Try.prog F_ref32_Bits args A Ko :=
  X_intro g_ref32_Bits c_ref32_Bits (by rw [Try.ntmps67]; exact hn) h
theorem v_ref32_Bits {args : List AV} {v : AV} (hn : args.length ≤ 36) (h : X Try.prog (fin a_ref32_Bits.res v) a_ref32_Bits.body .done (env0 args) H0) : Gives Try.prog F_ref32_Bits args v :=
  Gives_intro g_ref32_Bits c_ref32_Bits (by rw [Try.ntmps67]; exact hn) h
theorem e_ref32_Bits {args : List AV} {Q : AOut → Prop} (hn : args.length ≤ 36) (h : X Try.prog (finE a_ref32_Bits.res Q) a_ref32_Bits.body .done (env0 args) H0) : Fins Try.prog F_ref32_Bits args Q :=
  Fins_intro g_ref32_Bits c_ref32_Bits (by rw [Try.ntmps67]; exact hn) h
theorem j_ref32_Bits {args : List AV} {A : Heap} {K Kp : AV → Heap → Prop} (hn : args.length ≤ 36) (h : X Try.prog (inl a_ref32_Bits.res K Kp) a_ref32_Bits.body .done (env0 args) A) : SimX Try.prog F_ref32_Bits args A (outK K Kp) :=
  X_inl g_ref32_Bits c_ref32_Bits (by rw [Try.ntmps67]; exact hn) h
theorem d_ref32_Bits {args : List AV} {A : Heap} {Ko : AOut → Heap → Prop} (hn : args.length ≤ 36)
    (h : ∀ R : APost, (∀ e env A, fpost a_ref32_Bits.res Ko e env A → R e env A) → X Try.prog R a_ref32_Bits.body .done (env0 args) A) : SimD Try.prog F_ref32_Bits args A Ko :=
  X_introD g_ref32_Bits c_ref32_Bits (by rw [Try.ntmps67]; exact hn) h
@[simp] theorem k_ref32_Bits : callable Try.prog F_ref32_Bits = true := by kernel_rfl
theorem c_ref32_has : trF Try.prog Try.f68 = some a_ref32_has := by kernel_rfl
theorem g_ref32_has : Try.prog.funcs[68]? = some Try.f68 := by kernel_rfl
theorem i_ref32_has {args : List AV} {A : Heap} {Ko : AOut → Heap → Prop} (hn : args.length ≤ 18)
    (h : ∀ R : APost, (∀ e env A, fpost a_ref32_has.res Ko e env A → R e env A) → X Try.prog R a_ref32_has.body .done (env0 args) A) : SimX Try.prog F_ref32_has args A Ko :=
  X_intro g_ref32_has c_ref32_has (by rw [Try.ntmps68]; exact hn) h
theorem v_ref32_has {args : List AV} {v : AV} (hn : args.length ≤ 18) (h : X Try.prog (fin a_ref32_has.res v) a_ref32_has.body .done (env0 args) H0) : Gives Try.prog F_ref32_has args v :=
  Gives_intro g_ref32_has c_ref32_has (by rw [Try.ntmps68]; exact hn) h
theorem e_ref32_has {args : List AV} {Q : AOut → Prop} (hn : args.length ≤ 18) (h : X Try.prog (finE a_ref32_has.res Q) a_ref32_has.body .done (env0 args) H0) : Fins Try.prog F_ref32_has args Q :=
  Fins_intro g_ref32_has c_ref32_has (by rw [Try.ntmps68]; exact hn) h
theorem j_ref32_has {args : List AV} {A : Heap} {K Kp : AV → Heap → Prop} (hn : args.length ≤ 18) (h : X Try.prog (inl a_ref32_has.res K Kp) a_ref32_has.body .done (env0 args) A) : SimX Try.prog F_ref32_has args A (outK K Kp) :=
  X_inl g_ref32_has c_ref32_has (by rw [Try.ntmps68]; exact hn) h
theorem d_ref32_has {args : List AV} {A : Heap} {Ko : AOut → Heap → Prop} (hn : args.length ≤ 18)
    (h : ∀ R : APost, (∀ e env A, fpost a_ref32_has.res Ko e env A → R e env A) → X Try.prog R a_ref32_has.body .done (env0 args) A) : SimD Try.prog F_ref32_has args A Ko :=
  X_introD g_ref32_has c_ref32_has (by rw [Try.ntmps68]; exact hn) h
@[simp] theorem k_ref32_has : callable Try.prog F_ref32_has = true := by kernel_rfl
theorem c_math_bits_OnesCount8 : trF Try.prog Try.f69 = some a_math_bits_OnesCount8 := by kernel_rfl
theorem g_math_bits_OnesCount8 : Try.prog.funcs[69]? = some Try.f69 := by kernel_rfl
theorem i_math_bits_OnesCount8 {args : List AV} {A : Heap} {Ko : AOut → Heap → Prop} (hn : args.length ≤ 6)
    (h : ∀ R : APost, (∀ e env A, fpost a_math_bits_OnesCount8.res Ko e env A → R e env A) → X Try.prog R a_math_bits_OnesCount8.body .done (env0 args) A) : SimX Try.prog F_math_bits_OnesCount8 args A Ko :=
  X_intro g_math_bits_OnesCount8 c_math_bits_OnesCount8 (by rw [Try.ntmps69]; exact hn) h
theorem v_math_bits_OnesCount8 {args : List AV} {v : AV} (hn : args.length ≤ 6) (h : X Try.prog (fin a_math_bits_OnesCount8.res v) a_math_bits_OnesCount8.body .done (env0 args) H0) : Gives Try.prog F_math_bits_OnesCount8 args v :=
  Gives_intro g_math_bits_OnesCount8 c_math_bits_OnesCount8 (by rw [Try.ntmps69]; exact hn) h
theorem e_math_bits_OnesCount8 {args : List AV} {Q : AOut → Prop} (hn : args.length ≤ 6) (h : X Try.prog (finE a_math_bits_OnesCount8.res Q) a_math_bits_OnesCount8.body .done (env0 args) H0) : Fins Try.prog F_math_bits_OnesCount8 args Q :=
  Fins_intro g_math_bits_OnesCount8 c_math_bits_OnesCount8 (by rw [Try.ntmps69]; exact hn) h
theorem j_math_bits_OnesCount8 {args : List AV} {A : Heap} {K Kp : AV → Heap → Prop} (hn : args.length ≤ 6) (h : X Try.prog (inl a_math_bits_OnesCount8.res K Kp) a_math_bits_OnesCount8.body .done (env0 args) A) : SimX Try.prog F_math_bits_OnesCount8 args A (outK K Kp) :=
  X_inl g_math_bits_OnesCount8 c_math_bits_OnesCount8 (by rw [Try.ntmps69]; exact hn) h
theorem d_math_bits_OnesCount8 {args : List AV} {A : Heap} {Ko : AOut → Heap → Prop} (hn : args.length ≤ 6)
    (h : ∀ R : APost, (∀ e env A, fpost a_math_bits_OnesCount8.res Ko e env A → R e env A) → X Try.prog R a_math_bits_OnesCount8.body .done (env0 args) A) : SimD Try.prog F_math_bits_OnesCount8 args A Ko :=
  X_introD g_math_bits_OnesCount8 c_math_bits_OnesCount8 (by rw [Try.ntmps69]; exact hn) h
@[simp] theorem k_math_bits_OnesCount8 : callable Try.prog F_math_bits_OnesCount8 = true := by kernel_rfl
end Go.Proofs.Ytjbiekcldkjgjaa
