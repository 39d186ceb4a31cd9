/- Abstract programs; that they are the program's. -/
import Derived.Test.YtjbiekcldkjgjaaFn
namespace Go.Proofs.Ytjbiekcldkjgjaa
open Go AVL
set_option linter.unusedVariables false
set_option maxRecDepth 20000

def q_disk_New_0 : List AOper := [
  ⟨(some 2), (.mv (.v .nilP)), none⟩,
  ⟨(some 3), (.mv (.v (.int .i64 0))), none⟩]
def q_disk_New_1 : List AOper := [
  ⟨(some 4), (.mv (.t 0)), none⟩,
  ⟨(some 5), (.bin .lss (.t 4) (.v (.int .i64 1))), none⟩,
  ⟨(some 6), (.mv (.t 5)), none⟩,
  ⟨(some 7), (.mv (.t 0)), (some (6, false))⟩,
  ⟨(some 8), (.bin .gtr (.t 7) (.v (.int .i64 4096))), (some (6, false))⟩,
  ⟨(some 9), (.pick (.t 6) (.v (.bool true)) (.t 8)), none⟩]
def q_disk_New_2 : List AOper := [
  ⟨(some 2), (.mv (.v .nilP)), none⟩,
  ⟨(some 3), (.mv (.v (.int .i64 2))), none⟩]
def q_disk_New_3 : List AOper := [
  ⟨(some 10), (.mv (.t 0)), none⟩,
  ⟨(some 11), (.mk 78 256 256 (.iarr .u8 256 (List.replicate 256 0)) (.t 10) (.t 10)), none⟩,
  ⟨(some 12), (.xx (.mkM .i64) []), none⟩,
  ⟨(some 13), (.build .ag [.nilS, .nilS, .nilM, (.int .i64 0), (.int .i64 0), (.bool false)] [(0, (1, (.t 11))), (2, (1, (.t 12))), (4, (1, (.v (.int .i64 (-1)))))]), none⟩,
  ⟨(some 14), (.box 121 .ag (.t 13)), none⟩,
  ⟨(some 2), (.mv (.t 14)), none⟩,
  ⟨(some 3), (.mv (.v (.int .i64 0))), none⟩]
def a_disk_New : AFunc := ⟨[(.tmp 2), (.tmp 3)], (.seq (.region q_disk_New_0) (.seq (.seq (.region q_disk_New_1) (.cond (.t 9) (.seq (.region q_disk_New_2) .ret) .skip)) (.seq (.region q_disk_New_3) .ret)))⟩

def q_Pdisk_Disk_Write_0 : List AOper := [
  ⟨(some 5), (.box 78 (.ia .u8 256) (.t 2)), none⟩,
  ⟨(some 6), (.mv (.v (.int .i64 0))), none⟩]
def q_Pdisk_Disk_Write_1 : List AOper := [
  ⟨(some 8), (.mv (.t 0)), none⟩,
  ⟨(some 9), (.mv (.t 1)), none⟩,
  ⟨(some 10), (.call F_Pdisk_Disk_inside [(.sc, (.t 8)), (.sc, (.t 9))]), none⟩,
  ⟨(some 11), (.un .not (.t 10)), none⟩]
def q_Pdisk_Disk_Write_2 : List AOper := [
  ⟨(some 6), (.mv (.v (.int .i64 2))), none⟩]
def q_Pdisk_Disk_Write_3 : List AOper := [
  ⟨(some 12), (.mv (.t 0)), none⟩,
  ⟨(some 13), (.call F_Pdisk_Disk_step [(.sc, (.t 12))]), none⟩,
  ⟨(some 7), (.mv (.t 13)), none⟩]
def q_Pdisk_Disk_Write_4 : List AOper := [
  ⟨(some 14), (.mv (.t 7)), none⟩,
  ⟨(some 15), (.eq .scI true (.t 14) (.v (.int .i64 0))), none⟩]
def q_Pdisk_Disk_Write_5 : List AOper := [
  ⟨(some 16), (.mv (.t 7)), none⟩,
  ⟨(some 6), (.mv (.t 16)), none⟩]
def q_Pdisk_Disk_Write_6 : List DOp := [
  ⟨⟨(some 17), (.mv (.t 0)), none⟩, true, false, none, []⟩,
  ⟨⟨(some 18), (.mv (.t 0)), none⟩, true, false, none, []⟩,
  ⟨⟨(some 19), (.xx (.p .nilCk) [(.t 18)]), none⟩, true, false, none, []⟩,
  ⟨⟨(some 20), (.fadr 1 1 .sc (.t 19)), none⟩, true, false, none, []⟩,
  ⟨⟨(some 21), (.load .sc 1 (.t 20)), none⟩, true, false, none, []⟩,
  ⟨⟨(some 22), (.mv (.t 1)), none⟩, true, false, none, []⟩,
  ⟨⟨(some 23), (.load (.ia .u8 256) 256 (.t 5)), none⟩, true, false, none, []⟩,
  ⟨⟨(some 24), (.build .ag [(.int .i64 0), (.iarr .u8 256 (List.replicate 256 0))] [(0, (1, (.t 22))), (1, (256, (.t 23)))]), none⟩, true, false, none, []⟩,
  ⟨⟨(some 25), (.bsl 132 .ag 257 [(.t 24)]), none⟩, false, false, none, []⟩,
  ⟨⟨(some 26), (.app 132 257 264 (.t 21) (.t 25)), none⟩, false, false, none, []⟩,
  ⟨⟨(some 27), (.xx (.p .nilCk) [(.t 17)]), none⟩, true, false, none, []⟩,
  ⟨⟨(some 28), (.fadr 1 1 .sc (.t 27)), none⟩, true, false, none, []⟩,
  ⟨⟨none, (.store .sc 1 (.t 28) (.t 26)), none⟩, false, false, none, []⟩]
def q_Pdisk_Disk_Write_7 : List DOp := [
  ⟨⟨(some 29), (.mv (.t 0)), none⟩, true, false, none, []⟩,
  ⟨⟨(some 30), (.xx (.p .nilCk) [(.t 29)]), none⟩, true, false, none, []⟩,
  ⟨⟨(some 31), (.fadr 2 1 .sc (.t 30)), none⟩, true, false, none, []⟩,
  ⟨⟨(some 32), (.load .sc 1 (.t 31)), none⟩, true, false, none, []⟩,
  ⟨⟨(some 33), (.mv (.t 1)), none⟩, true, false, none, []⟩,
  ⟨⟨(some 34), (.load (.ia .u8 256) 256 (.t 5)), none⟩, true, false, none, []⟩,
  ⟨⟨none, (.xx (.upM .i64) [(.t 32), (.t 33), (.t 34)]), none⟩, false, false, none, []⟩]
def q_Pdisk_Disk_Write_8 : List AOper := [
  ⟨(some 6), (.mv (.v (.int .i64 0))), none⟩]
def a_Pdisk_Disk_Write : AFunc := ⟨[(.tmp 6)], (.seq (.region q_Pdisk_Disk_Write_0) (.seq (.seq (.region q_Pdisk_Disk_Write_1) (.cond (.t 11) (.seq (.region q_Pdisk_Disk_Write_2) .ret) .skip)) (.seq (.seq (.region q_Pdisk_Disk_Write_3) (.seq (.region q_Pdisk_Disk_Write_4) (.cond (.t 15) (.seq (.region q_Pdisk_Disk_Write_5) .ret) .skip))) (.seq (.regionD q_Pdisk_Disk_Write_6) (.seq (.regionD q_Pdisk_Disk_Write_7) (.seq (.region q_Pdisk_Disk_Write_8) .ret))))))⟩

def q_Pdisk_Disk_Flush_0 : List AOper := [
  ⟨(some 2), (.mv (.v (.int .i64 0))), none⟩]
def q_Pdisk_Disk_Flush_1 : List AOper := [
  ⟨(some 4), (.mv (.t 0)), none⟩,
  ⟨(some 5), (.call F_Pdisk_Disk_step [(.sc, (.t 4))]), none⟩,
  ⟨(some 3), (.mv (.t 5)), none⟩]
def q_Pdisk_Disk_Flush_2 : List AOper := [
  ⟨(some 6), (.mv (.t 3)), none⟩,
  ⟨(some 7), (.eq .scI true (.t 6) (.v (.int .i64 0))), none⟩]
def q_Pdisk_Disk_Flush_3 : List AOper := [
  ⟨(some 8), (.mv (.t 3)), none⟩,
  ⟨(some 2), (.mv (.t 8)), none⟩]
def q_Pdisk_Disk_Flush_4 : List AOper := [
  ⟨(some 9), (.mv (.t 0)), none⟩,
  ⟨(some 10), (.call F_Pdisk_Disk_settle [(.sc, (.t 9)), (.sc, (.v (.func (.func F_Pdisk_Disk_Flush_1) [] [])))]), none⟩]
def q_Pdisk_Disk_Flush_5 : List AOper := [
  ⟨(some 2), (.mv (.v (.int .i64 0))), none⟩]
def a_Pdisk_Disk_Flush : AFunc := ⟨[(.tmp 2)], (.seq (.region q_Pdisk_Disk_Flush_0) (.seq (.seq (.region q_Pdisk_Disk_Flush_1) (.seq (.region q_Pdisk_Disk_Flush_2) (.cond (.t 7) (.seq (.region q_Pdisk_Disk_Flush_3) .ret) .skip))) (.seq (.region q_Pdisk_Disk_Flush_4) (.seq (.region q_Pdisk_Disk_Flush_5) .ret))))⟩

def q_Pdisk_Disk_Crash_0 : List AOper := [
  ⟨(some 3), (.box 72 .sc (.t 1)), none⟩,
  ⟨(some 4), (.mv (.v (.int .i64 0))), none⟩]
def q_Pdisk_Disk_Crash_1 : List AOper := [
  ⟨(some 5), (.mv (.t 0)), none⟩,
  ⟨(some 6), (.mv (.t 0)), none⟩,
  ⟨(some 7), (.xx (.p .nilCk) [(.t 5)]), none⟩,
  ⟨(some 8), (.fadr 5 1 .sc (.t 7)), none⟩,
  ⟨none, (.store .sc 1 (.t 8) (.v (.bool false))), none⟩,
  ⟨(some 9), (.xx (.p .nilCk) [(.t 6)]), none⟩,
  ⟨(some 10), (.fadr 4 1 .sc (.t 9)), none⟩,
  ⟨none, (.store .sc 1 (.t 10) (.v (.int .i64 (-1)))), none⟩]
def q_Pdisk_Disk_Crash_2 : List AOper := [
  ⟨(some 11), (.mv (.t 0)), none⟩,
  ⟨(some 12), (.xx (.p (.mkF (.func F_Pdisk_Disk_Crash_1) 0)) [(.t 3)]), none⟩,
  ⟨(some 13), (.call F_Pdisk_Disk_settle [(.sc, (.t 11)), (.sc, (.t 12))]), none⟩,
  ⟨(some 4), (.mv (.t 13)), none⟩]
def a_Pdisk_Disk_Crash : AFunc := ⟨[(.tmp 4)], (.seq (.region q_Pdisk_Disk_Crash_0) (.seq (.region q_Pdisk_Disk_Crash_1) (.seq (.region q_Pdisk_Disk_Crash_2) .ret)))⟩

def q_Pdisk_Disk_Read_0 : List AOper := [
  ⟨(some 4), (.alloc 78 [(.iarr .u8 256 (List.replicate 256 0))]), none⟩,
  ⟨(some 5), (.mv (.v (.int .i64 0))), none⟩]
def q_Pdisk_Disk_Read_1 : List AOper := [
  ⟨(some 9), (.mv (.t 0)), none⟩,
  ⟨(some 10), (.mv (.t 1)), none⟩,
  ⟨(some 11), (.call F_Pdisk_Disk_inside [(.sc, (.t 9)), (.sc, (.t 10))]), none⟩,
  ⟨(some 12), (.un .not (.t 11)), none⟩,
  ⟨(some 8), (.mv (.t 12)), none⟩]
def q_Pdisk_Disk_Read_2 : List AOper := [
  ⟨(some 13), (.build (.ia .u8 256) [(.iarr .u8 256 (List.replicate 256 0))] []), none⟩,
  ⟨none, (.store (.ia .u8 256) 256 (.t 4) (.t 13)), none⟩,
  ⟨(some 5), (.mv (.v (.int .i64 2))), none⟩]
def q_Pdisk_Disk_Read_3 : List AOper := [
  ⟨(some 15), (.mv (.t 0)), none⟩,
  ⟨(some 16), (.xx (.p .nilCk) [(.t 15)]), none⟩,
  ⟨(some 17), (.fadr 5 1 .sc (.t 16)), none⟩,
  ⟨(some 18), (.load .sc 1 (.t 17)), none⟩,
  ⟨(some 14), (.mv (.t 18)), none⟩]
def q_Pdisk_Disk_Read_4 : List AOper := [
  ⟨(some 19), (.build (.ia .u8 256) [(.iarr .u8 256 (List.replicate 256 0))] []), none⟩,
  ⟨none, (.store (.ia .u8 256) 256 (.t 4) (.t 19)), none⟩,
  ⟨(some 5), (.mv (.v (.int .i64 4))), none⟩]
def q_Pdisk_Disk_Read_5 : List AOper := [
  ⟨(some 21), (.mv (.t 0)), none⟩,
  ⟨(some 22), (.xx (.p .nilCk) [(.t 21)]), none⟩,
  ⟨(some 23), (.fadr 2 1 .sc (.t 22)), none⟩,
  ⟨(some 24), (.load .sc 1 (.t 23)), none⟩,
  ⟨(some 25), (.mv (.t 1)), none⟩,
  ⟨(some 26), (.xx (.lkM .i64 (.iarr .u8 256 (List.replicate 256 0)) true) [(.t 24), (.t 25)]), none⟩,
  ⟨(some 20), (.mv (.t 26)), none⟩,
  ⟨(some 27), (.ext 0 (.t 20)), none⟩,
  ⟨(some 28), (.ext 1 (.t 20)), none⟩,
  ⟨(some 6), (.alloc 78 [(.iarr .u8 256 (List.replicate 256 0))]), none⟩,
  ⟨none, (.store (.ia .u8 256) 256 (.t 6) (.t 27)), none⟩,
  ⟨(some 7), (.mv (.t 28)), none⟩]
def q_Pdisk_Disk_Read_6 : List AOper := [
  ⟨(some 29), (.mv (.t 7)), none⟩]
def q_Pdisk_Disk_Read_7 : List AOper := [
  ⟨(some 30), (.load (.ia .u8 256) 256 (.t 6)), none⟩,
  ⟨none, (.store (.ia .u8 256) 256 (.t 4) (.t 30)), none⟩,
  ⟨(some 5), (.mv (.v (.int .i64 0))), none⟩]
def q_Pdisk_Disk_Read_8 : List AOper := [
  ⟨(some 31), (.mv (.t 0)), none⟩,
  ⟨(some 32), (.xx (.p .nilCk) [(.t 31)]), none⟩,
  ⟨(some 33), (.fadr 0 1 .sc (.t 32)), none⟩,
  ⟨(some 34), (.load .sc 1 (.t 33)), none⟩,
  ⟨(some 35), (.mv (.t 1)), none⟩,
  ⟨(some 36), (.idx 256 (.t 34) (.t 35)), none⟩,
  ⟨(some 37), (.load (.ia .u8 256) 256 (.t 36)), none⟩,
  ⟨none, (.store (.ia .u8 256) 256 (.t 4) (.t 37)), none⟩,
  ⟨(some 5), (.mv (.v (.int .i64 0))), none⟩]
def a_Pdisk_Disk_Read : AFunc := ⟨[(.cell 4 (.ia .u8 256) 256), (.tmp 5)], (.seq (.region q_Pdisk_Disk_Read_0) (.seq (.block 0 (.seq (.region q_Pdisk_Disk_Read_1) (.cond (.t 8) (.seq (.region q_Pdisk_Disk_Read_2) .ret) (.seq (.region q_Pdisk_Disk_Read_3) (.cond (.t 14) (.seq (.region q_Pdisk_Disk_Read_4) .ret) .skip))))) (.seq (.seq (.region q_Pdisk_Disk_Read_5) (.seq (.region q_Pdisk_Disk_Read_6) (.cond (.t 29) (.seq (.region q_Pdisk_Disk_Read_7) .ret) .skip))) (.seq (.region q_Pdisk_Disk_Read_8) .ret))))⟩

def q_Pdisk_Disk_Image_0 : List AOper := [
  ⟨(some 2), (.mv (.v .nilS)), none⟩]
def q_Pdisk_Disk_Image_1 : List AOper := [
  ⟨(some 3), (.bsl 78 (.ia .u8 256) 256 []), none⟩,
  ⟨(some 4), (.mv (.t 0)), none⟩,
  ⟨(some 5), (.xx (.p .nilCk) [(.t 4)]), none⟩,
  ⟨(some 6), (.fadr 0 1 .sc (.t 5)), none⟩,
  ⟨(some 7), (.load .sc 1 (.t 6)), none⟩,
  ⟨(some 8), (.app 78 256 256 (.t 3) (.t 7)), none⟩,
  ⟨(some 2), (.mv (.t 8)), none⟩]
def a_Pdisk_Disk_Image : AFunc := ⟨[(.tmp 2)], (.seq (.region q_Pdisk_Disk_Image_0) (.seq (.region q_Pdisk_Disk_Image_1) .ret))⟩

def q_Pdisk_Disk_Waits_0 : List AOper := [
  ⟨(some 2), (.mv (.v (.int .i64 0))), none⟩]
def q_Pdisk_Disk_Waits_1 : List AOper := [
  ⟨(some 3), (.mv (.t 0)), none⟩,
  ⟨(some 4), (.xx (.p .nilCk) [(.t 3)]), none⟩,
  ⟨(some 5), (.fadr 1 1 .sc (.t 4)), none⟩,
  ⟨(some 6), (.load .sc 1 (.t 5)), none⟩,
  ⟨(some 7), (.len false (.t 6)), none⟩,
  ⟨(some 2), (.mv (.t 7)), none⟩]
def a_Pdisk_Disk_Waits : AFunc := ⟨[(.tmp 2)], (.seq (.region q_Pdisk_Disk_Waits_0) (.seq (.region q_Pdisk_Disk_Waits_1) .ret))⟩

def q_Pdisk_Disk_Twin_0 : List AOper := [
  ⟨(some 2), (.mv (.v .nilP)), none⟩]
def q_Pdisk_Disk_Twin_1 : List DOp := [
  ⟨⟨(some 6), (.mv (.t 0)), none⟩, true, false, none, []⟩,
  ⟨⟨(some 9), (.mv (.t 0)), none⟩, true, false, none, []⟩,
  ⟨⟨(some 10), (.xx (.p .nilCk) [(.t 9)]), none⟩, true, false, none, []⟩,
  ⟨⟨(some 11), (.fadr 1 1 .sc (.t 10)), none⟩, true, false, none, []⟩,
  ⟨⟨(some 12), (.load .sc 1 (.t 11)), none⟩, true, false, none, []⟩,
  ⟨⟨(some 15), (.mv (.t 0)), none⟩, true, false, none, []⟩,
  ⟨⟨(some 16), (.xx (.p .nilCk) [(.t 15)]), none⟩, true, false, none, []⟩,
  ⟨⟨(some 17), (.fadr 3 1 .sc (.t 16)), none⟩, true, false, none, []⟩,
  ⟨⟨(some 18), (.load .sc 1 (.t 17)), none⟩, true, false, none, []⟩,
  ⟨⟨(some 19), (.mv (.t 0)), none⟩, true, false, none, []⟩,
  ⟨⟨(some 20), (.xx (.p .nilCk) [(.t 19)]), none⟩, true, false, none, []⟩,
  ⟨⟨(some 21), (.fadr 4 1 .sc (.t 20)), none⟩, true, false, none, []⟩,
  ⟨⟨(some 22), (.load .sc 1 (.t 21)), none⟩, true, false, none, []⟩,
  ⟨⟨(some 23), (.mv (.t 0)), none⟩, true, false, none, []⟩,
  ⟨⟨(some 24), (.xx (.p .nilCk) [(.t 23)]), none⟩, true, false, none, []⟩,
  ⟨⟨(some 25), (.fadr 5 1 .sc (.t 24)), none⟩, true, false, none, []⟩,
  ⟨⟨(some 26), (.load .sc 1 (.t 25)), none⟩, true, false, none, []⟩,
  ⟨⟨(some 7), (.call F_Pdisk_Disk_Image [(.sc, (.t 6))]), none⟩, false, true, (some [25, 21, 17, 11]), [8, 14]⟩,
  ⟨⟨(some 8), (.bsl 132 .ag 257 []), none⟩, false, false, none, [14]⟩,
  ⟨⟨(some 13), (.app 132 257 264 (.t 8) (.t 12)), none⟩, false, true, (some [25, 21, 17]), [14]⟩,
  ⟨⟨(some 14), (.xx (.mkM .i64) []), none⟩, false, false, none, []⟩,
  ⟨⟨(some 27), (.build .ag [.nilS, .nilS, .nilM, (.int .i64 0), (.int .i64 0), (.bool false)] [(0, (1, (.t 7))), (1, (1, (.t 13))), (2, (1, (.t 14))), (3, (1, (.t 18))), (4, (1, (.t 22))), (5, (1, (.t 26)))]), none⟩, true, false, none, []⟩,
  ⟨⟨(some 28), (.box 121 .ag (.t 27)), none⟩, false, false, none, []⟩,
  ⟨⟨(some 3), (.mv (.t 28)), none⟩, true, false, none, []⟩]
def q_Pdisk_Disk_Twin_2 : List AOper := [
  ⟨(some 29), (.mv (.t 0)), none⟩,
  ⟨(some 30), (.xx (.p .nilCk) [(.t 29)]), none⟩,
  ⟨(some 31), (.fadr 1 1 .sc (.t 30)), none⟩,
  ⟨(some 32), (.load .sc 1 (.t 31)), none⟩,
  ⟨(some 33), (.len false (.t 32)), none⟩,
  ⟨(some 34), (.mv (.v (.int .i64 0))), none⟩]
def q_Pdisk_Disk_Twin_3 : List AOper := [
  ⟨(some 35), (.bin .lss (.t 34) (.t 33)), none⟩]
def q_Pdisk_Disk_Twin_4 : List AOper := [
  ⟨(some 36), (.idx 257 (.t 32) (.t 34)), none⟩,
  ⟨(some 37), (.load .ag 257 (.t 36)), none⟩,
  ⟨(some 5), (.alloc 132 [(.int .i64 0), (.iarr .u8 256 (List.replicate 256 0))]), none⟩,
  ⟨none, (.store .ag 257 (.t 5) (.t 37)), none⟩]
def q_Pdisk_Disk_Twin_5 : List DOp := [
  ⟨⟨(some 38), (.mv (.t 3)), none⟩, true, false, none, []⟩,
  ⟨⟨(some 39), (.xx (.p .nilCk) [(.t 38)]), none⟩, true, false, none, []⟩,
  ⟨⟨(some 40), (.fadr 2 1 .sc (.t 39)), none⟩, true, false, none, []⟩,
  ⟨⟨(some 41), (.load .sc 1 (.t 40)), none⟩, true, false, none, []⟩,
  ⟨⟨(some 42), (.fadr 0 1 .sc (.t 5)), none⟩, true, false, none, []⟩,
  ⟨⟨(some 43), (.load .sc 1 (.t 42)), none⟩, true, false, none, []⟩,
  ⟨⟨(some 44), (.fadr 1 256 (.ia .u8 256) (.t 5)), none⟩, true, false, none, []⟩,
  ⟨⟨(some 45), (.load (.ia .u8 256) 256 (.t 44)), none⟩, true, false, none, []⟩,
  ⟨⟨none, (.xx (.upM .i64) [(.t 41), (.t 43), (.t 45)]), none⟩, false, false, none, []⟩]
def q_Pdisk_Disk_Twin_6 : List AOper := [
  ⟨(some 46), (.bin .add (.t 34) (.v (.int .i64 1))), none⟩,
  ⟨(some 34), (.mv (.t 46)), none⟩]
def q_Pdisk_Disk_Twin_L7 : ACode := (.seq (.region q_Pdisk_Disk_Twin_3) (.seq (.cond (.t 35) .skip (.exit 0)) (.seq (.block 1 (.seq (.region q_Pdisk_Disk_Twin_4) (.regionD q_Pdisk_Disk_Twin_5))) (.region q_Pdisk_Disk_Twin_6))))
def q_Pdisk_Disk_Twin_7 : List AOper := [
  ⟨(some 47), (.mv (.t 3)), none⟩,
  ⟨(some 2), (.mv (.t 47)), none⟩]
def a_Pdisk_Disk_Twin : AFunc := ⟨[(.tmp 2)], (.seq (.region q_Pdisk_Disk_Twin_0) (.seq (.regionD q_Pdisk_Disk_Twin_1) (.seq (.seq (.region q_Pdisk_Disk_Twin_2) (.block 0 (.loop q_Pdisk_Disk_Twin_L7))) (.seq (.region q_Pdisk_Disk_Twin_7) .ret))))⟩

def q_Pdisk_Disk_Fuse_0 : List AOper := [
  ⟨(some 4), (.mv (.t 0)), none⟩,
  ⟨(some 5), (.mv (.t 1)), none⟩,
  ⟨(some 6), (.xx (.p (.mnI true)) [(.t 5), (.v (.int .i64 (-1)))]), none⟩,
  ⟨(some 7), (.xx (.p .nilCk) [(.t 4)]), none⟩,
  ⟨(some 8), (.fadr 4 1 .sc (.t 7)), none⟩,
  ⟨none, (.store .sc 1 (.t 8) (.t 6)), none⟩]
def a_Pdisk_Disk_Fuse : AFunc := ⟨[], (.region q_Pdisk_Disk_Fuse_0)⟩

def q_Pdisk_Disk_Down_0 : List AOper := [
  ⟨(some 2), (.mv (.v (.bool false))), none⟩]
def q_Pdisk_Disk_Down_1 : List AOper := [
  ⟨(some 3), (.mv (.t 0)), none⟩,
  ⟨(some 4), (.xx (.p .nilCk) [(.t 3)]), none⟩,
  ⟨(some 5), (.fadr 5 1 .sc (.t 4)), none⟩,
  ⟨(some 6), (.load .sc 1 (.t 5)), none⟩,
  ⟨(some 2), (.mv (.t 6)), none⟩]
def a_Pdisk_Disk_Down : AFunc := ⟨[(.tmp 2)], (.seq (.region q_Pdisk_Disk_Down_0) (.seq (.region q_Pdisk_Disk_Down_1) .ret))⟩

def q_Pdisk_Disk_Size_0 : List AOper := [
  ⟨(some 2), (.mv (.v (.int .i64 0))), none⟩]
def q_Pdisk_Disk_Size_1 : List AOper := [
  ⟨(some 3), (.mv (.t 0)), none⟩,
  ⟨(some 4), (.xx (.p .nilCk) [(.t 3)]), none⟩,
  ⟨(some 5), (.fadr 0 1 .sc (.t 4)), none⟩,
  ⟨(some 6), (.load .sc 1 (.t 5)), none⟩,
  ⟨(some 7), (.len false (.t 6)), none⟩,
  ⟨(some 2), (.mv (.t 7)), none⟩]
def a_Pdisk_Disk_Size : AFunc := ⟨[(.tmp 2)], (.seq (.region q_Pdisk_Disk_Size_0) (.seq (.region q_Pdisk_Disk_Size_1) .ret))⟩

def q_Pdisk_Disk_Steps_0 : List AOper := [
  ⟨(some 2), (.mv (.v (.int .i64 0))), none⟩]
def q_Pdisk_Disk_Steps_1 : List AOper := [
  ⟨(some 3), (.mv (.t 0)), none⟩,
  ⟨(some 4), (.xx (.p .nilCk) [(.t 3)]), none⟩,
  ⟨(some 5), (.fadr 3 1 .sc (.t 4)), none⟩,
  ⟨(some 6), (.load .sc 1 (.t 5)), none⟩,
  ⟨(some 2), (.mv (.t 6)), none⟩]
def a_Pdisk_Disk_Steps : AFunc := ⟨[(.tmp 2)], (.seq (.region q_Pdisk_Disk_Steps_0) (.seq (.region q_Pdisk_Disk_Steps_1) .ret))⟩

def q_Pdisk_Disk_Pending_0 : List AOper := [
  ⟨(some 2), (.mv (.v .nilS)), none⟩]
def q_Pdisk_Disk_Pending_1 : List AOper := [
  ⟨(some 3), (.mv (.v .nilS)), none⟩]
def q_Pdisk_Disk_Pending_2 : List AOper := [
  ⟨(some 6), (.mv (.t 0)), none⟩,
  ⟨(some 7), (.xx (.p .nilCk) [(.t 6)]), none⟩,
  ⟨(some 8), (.fadr 1 1 .sc (.t 7)), none⟩,
  ⟨(some 9), (.load .sc 1 (.t 8)), none⟩,
  ⟨(some 10), (.len false (.t 9)), none⟩,
  ⟨(some 11), (.mv (.v (.int .i64 0))), none⟩]
def q_Pdisk_Disk_Pending_3 : List AOper := [
  ⟨(some 12), (.bin .lss (.t 11) (.t 10)), none⟩]
def q_Pdisk_Disk_Pending_4 : List AOper := [
  ⟨(some 13), (.idx 257 (.t 9) (.t 11)), none⟩,
  ⟨(some 14), (.load .ag 257 (.t 13)), none⟩,
  ⟨(some 5), (.alloc 132 [(.int .i64 0), (.iarr .u8 256 (List.replicate 256 0))]), none⟩,
  ⟨none, (.store .ag 257 (.t 5) (.t 14)), none⟩]
def q_Pdisk_Disk_Pending_5 : List AOper := [
  ⟨(some 15), (.mv (.t 3)), none⟩,
  ⟨(some 16), (.fadr 0 1 .sc (.t 5)), none⟩,
  ⟨(some 17), (.load .sc 1 (.t 16)), none⟩,
  ⟨(some 18), (.bslI 3 .i64 [(.t 17)]), none⟩,
  ⟨(some 19), (.appI 3 .i64 8 (.t 15) (.t 18)), none⟩,
  ⟨(some 3), (.mv (.t 19)), none⟩]
def q_Pdisk_Disk_Pending_6 : List AOper := [
  ⟨(some 20), (.bin .add (.t 11) (.v (.int .i64 1))), none⟩,
  ⟨(some 11), (.mv (.t 20)), none⟩]
def q_Pdisk_Disk_Pending_L7 : ACode := (.seq (.region q_Pdisk_Disk_Pending_3) (.seq (.cond (.t 12) .skip (.exit 0)) (.seq (.block 1 (.seq (.region q_Pdisk_Disk_Pending_4) (.region q_Pdisk_Disk_Pending_5))) (.region q_Pdisk_Disk_Pending_6))))
def q_Pdisk_Disk_Pending_7 : List AOper := [
  ⟨(some 21), (.mv (.t 3)), none⟩,
  ⟨(some 2), (.mv (.t 21)), none⟩]
def a_Pdisk_Disk_Pending : AFunc := ⟨[(.tmp 2)], (.seq (.region q_Pdisk_Disk_Pending_0) (.seq (.region q_Pdisk_Disk_Pending_1) (.seq (.seq (.region q_Pdisk_Disk_Pending_2) (.block 0 (.loop q_Pdisk_Disk_Pending_L7))) (.seq (.region q_Pdisk_Disk_Pending_7) .ret))))⟩

def q_Pdisk_Disk_inside_0 : List AOper := [
  ⟨(some 4), (.mv (.v (.bool false))), none⟩]
def q_Pdisk_Disk_inside_1 : List AOper := [
  ⟨(some 5), (.mv (.t 1)), none⟩,
  ⟨(some 6), (.bin .geq (.t 5) (.v (.int .i64 0))), none⟩,
  ⟨(some 7), (.mv (.t 6)), none⟩,
  ⟨(some 8), (.mv (.t 1)), (some (7, true))⟩,
  ⟨(some 9), (.mv (.t 0)), (some (7, true))⟩,
  ⟨(some 10), (.xx (.p .nilCk) [(.t 9)]), (some (7, true))⟩,
  ⟨(some 11), (.fadr 0 1 .sc (.t 10)), (some (7, true))⟩,
  ⟨(some 12), (.load .sc 1 (.t 11)), (some (7, true))⟩,
  ⟨(some 13), (.len false (.t 12)), (some (7, true))⟩,
  ⟨(some 14), (.bin .lss (.t 8) (.t 13)), (some (7, true))⟩,
  ⟨(some 15), (.pick (.t 7) (.t 14) (.v (.bool false))), none⟩,
  ⟨(some 4), (.mv (.t 15)), none⟩]
def a_Pdisk_Disk_inside : AFunc := ⟨[(.tmp 4)], (.seq (.region q_Pdisk_Disk_inside_0) (.seq (.region q_Pdisk_Disk_inside_1) .ret))⟩

def q_Pdisk_Disk_step_0 : List AOper := [
  ⟨(some 2), (.mv (.v (.int .i64 0))), none⟩]
def q_Pdisk_Disk_step_1 : List AOper := [
  ⟨(some 3), (.mv (.t 0)), none⟩,
  ⟨(some 4), (.xx (.p .nilCk) [(.t 3)]), none⟩,
  ⟨(some 5), (.fadr 5 1 .sc (.t 4)), none⟩,
  ⟨(some 6), (.load .sc 1 (.t 5)), none⟩,
  ⟨(some 7), (.mv (.t 6)), none⟩,
  ⟨(some 8), (.mv (.t 0)), (some (7, false))⟩,
  ⟨(some 9), (.xx (.p .nilCk) [(.t 8)]), (some (7, false))⟩,
  ⟨(some 10), (.fadr 4 1 .sc (.t 9)), (some (7, false))⟩,
  ⟨(some 11), (.load .sc 1 (.t 10)), (some (7, false))⟩,
  ⟨(some 12), (.eq .scI false (.t 11) (.v (.int .i64 0))), (some (7, false))⟩,
  ⟨(some 13), (.pick (.t 7) (.v (.bool true)) (.t 12)), none⟩]
def q_Pdisk_Disk_step_2 : List AOper := [
  ⟨(some 14), (.mv (.t 0)), none⟩,
  ⟨(some 15), (.xx (.p .nilCk) [(.t 14)]), none⟩,
  ⟨(some 16), (.fadr 5 1 .sc (.t 15)), none⟩,
  ⟨none, (.store .sc 1 (.t 16) (.v (.bool true))), none⟩]
def q_Pdisk_Disk_step_3 : List AOper := [
  ⟨(some 2), (.mv (.v (.int .i64 4))), none⟩]
def q_Pdisk_Disk_step_4 : List AOper := [
  ⟨(some 17), (.mv (.t 0)), none⟩,
  ⟨(some 18), (.xx (.p .nilCk) [(.t 17)]), none⟩,
  ⟨(some 19), (.fadr 4 1 .sc (.t 18)), none⟩,
  ⟨(some 20), (.load .sc 1 (.t 19)), none⟩,
  ⟨(some 21), (.bin .gtr (.t 20) (.v (.int .i64 0))), none⟩]
def q_Pdisk_Disk_step_5 : List AOper := [
  ⟨(some 22), (.mv (.t 0)), none⟩,
  ⟨(some 23), (.xx (.p .nilCk) [(.t 22)]), none⟩,
  ⟨(some 24), (.fadr 4 1 .sc (.t 23)), none⟩,
  ⟨(some 25), (.load .sc 1 (.t 24)), none⟩,
  ⟨(some 26), (.bin .sub (.t 25) (.v (.int .i64 1))), none⟩,
  ⟨(some 27), (.xx (.p .nilCk) [(.t 22)]), none⟩,
  ⟨(some 28), (.fadr 4 1 .sc (.t 27)), none⟩,
  ⟨none, (.store .sc 1 (.t 28) (.t 26)), none⟩]
def q_Pdisk_Disk_step_6 : List AOper := [
  ⟨(some 29), (.mv (.t 0)), none⟩,
  ⟨(some 30), (.xx (.p .nilCk) [(.t 29)]), none⟩,
  ⟨(some 31), (.fadr 3 1 .sc (.t 30)), none⟩,
  ⟨(some 32), (.load .sc 1 (.t 31)), none⟩,
  ⟨(some 33), (.bin .add (.t 32) (.v (.int .i64 1))), none⟩,
  ⟨(some 34), (.xx (.p .nilCk) [(.t 29)]), none⟩,
  ⟨(some 35), (.fadr 3 1 .sc (.t 34)), none⟩,
  ⟨none, (.store .sc 1 (.t 35) (.t 33)), none⟩]
def q_Pdisk_Disk_step_7 : List AOper := [
  ⟨(some 2), (.mv (.v (.int .i64 0))), none⟩]
def a_Pdisk_Disk_step : AFunc := ⟨[(.tmp 2)], (.seq (.region q_Pdisk_Disk_step_0) (.seq (.seq (.region q_Pdisk_Disk_step_1) (.cond (.t 13) (.seq (.region q_Pdisk_Disk_step_2) (.seq (.region q_Pdisk_Disk_step_3) .ret)) .skip)) (.seq (.seq (.region q_Pdisk_Disk_step_4) (.cond (.t 21) (.region q_Pdisk_Disk_step_5) .skip)) (.seq (.region q_Pdisk_Disk_step_6) (.seq (.region q_Pdisk_Disk_step_7) .ret)))))⟩

def q_Pdisk_Disk_settle_0 : List AOper := [
  ⟨(some 4), (.mv (.v (.int .i64 0))), none⟩]
def q_Pdisk_Disk_settle_1 : List AOper := [
  ⟨(some 5), (.mv (.v (.int .i64 0))), none⟩]
def q_Pdisk_Disk_settle_2 : List AOper := [
  ⟨(some 8), (.mv (.t 0)), none⟩,
  ⟨(some 9), (.xx (.p .nilCk) [(.t 8)]), none⟩,
  ⟨(some 10), (.fadr 1 1 .sc (.t 9)), none⟩,
  ⟨(some 11), (.load .sc 1 (.t 10)), none⟩,
  ⟨(some 12), (.len false (.t 11)), none⟩,
  ⟨(some 13), (.mv (.v (.int .i64 0))), none⟩]
def q_Pdisk_Disk_settle_3 : List AOper := [
  ⟨(some 14), (.bin .lss (.t 13) (.t 12)), none⟩]
def q_Pdisk_Disk_settle_4 : List AOper := [
  ⟨(some 15), (.mv (.t 13)), none⟩,
  ⟨(some 16), (.idx 257 (.t 11) (.t 13)), none⟩,
  ⟨(some 17), (.load .ag 257 (.t 16)), none⟩,
  ⟨(some 7), (.alloc 132 [(.int .i64 0), (.iarr .u8 256 (List.replicate 256 0))]), none⟩,
  ⟨(some 6), (.mv (.t 15)), none⟩,
  ⟨none, (.store .ag 257 (.t 7) (.t 17)), none⟩]
def q_Pdisk_Disk_settle_5 : List AOper := [
  ⟨(some 18), (.mv (.t 1)), none⟩,
  ⟨(some 19), (.mv (.t 6)), none⟩,
  ⟨(some 20), (.callV (.t 18) [(.sc, (.t 19))]), none⟩]
def q_Pdisk_Disk_settle_6 : List DOp := [
  ⟨⟨(some 21), (.mv (.t 0)), none⟩, true, false, none, []⟩,
  ⟨⟨(some 22), (.xx (.p .nilCk) [(.t 21)]), none⟩, true, false, none, []⟩,
  ⟨⟨(some 23), (.fadr 0 1 .sc (.t 22)), none⟩, true, false, none, []⟩,
  ⟨⟨(some 24), (.load .sc 1 (.t 23)), none⟩, true, false, none, []⟩,
  ⟨⟨(some 25), (.fadr 0 1 .sc (.t 7)), none⟩, true, false, none, []⟩,
  ⟨⟨(some 26), (.load .sc 1 (.t 25)), none⟩, true, false, none, []⟩,
  ⟨⟨(some 27), (.fadr 1 256 (.ia .u8 256) (.t 7)), none⟩, true, false, none, []⟩,
  ⟨⟨(some 28), (.load (.ia .u8 256) 256 (.t 27)), none⟩, true, false, none, []⟩,
  ⟨⟨(some 29), (.idx 256 (.t 24) (.t 26)), none⟩, true, false, none, []⟩,
  ⟨⟨none, (.store (.ia .u8 256) 256 (.t 29) (.t 28)), none⟩, false, false, none, []⟩]
def q_Pdisk_Disk_settle_7 : List AOper := [
  ⟨(some 30), (.mv (.t 5)), none⟩,
  ⟨(some 31), (.bin .add (.t 30) (.v (.int .i64 1))), none⟩,
  ⟨(some 5), (.mv (.t 31)), none⟩]
def q_Pdisk_Disk_settle_8 : List AOper := [
  ⟨(some 32), (.bin .add (.t 13) (.v (.int .i64 1))), none⟩,
  ⟨(some 13), (.mv (.t 32)), none⟩]
def q_Pdisk_Disk_settle_L9 : ACode := (.seq (.region q_Pdisk_Disk_settle_3) (.seq (.cond (.t 14) .skip (.exit 0)) (.seq (.block 1 (.seq (.region q_Pdisk_Disk_settle_4) (.seq (.region q_Pdisk_Disk_settle_5) (.cond (.t 20) (.seq (.regionD q_Pdisk_Disk_settle_6) (.region q_Pdisk_Disk_settle_7)) .skip)))) (.region q_Pdisk_Disk_settle_8))))
def q_Pdisk_Disk_settle_9 : List AOper := [
  ⟨(some 33), (.mv (.t 0)), none⟩,
  ⟨(some 34), (.mv (.t 0)), none⟩,
  ⟨(some 35), (.xx (.mkM .i64) []), none⟩,
  ⟨(some 36), (.xx (.p .nilCk) [(.t 33)]), none⟩,
  ⟨(some 37), (.fadr 1 1 .sc (.t 36)), none⟩,
  ⟨none, (.store .sc 1 (.t 37) (.v .nilS)), none⟩,
  ⟨(some 38), (.xx (.p .nilCk) [(.t 34)]), none⟩,
  ⟨(some 39), (.fadr 2 1 .sc (.t 38)), none⟩,
  ⟨none, (.store .sc 1 (.t 39) (.t 35)), none⟩]
def q_Pdisk_Disk_settle_10 : List AOper := [
  ⟨(some 40), (.mv (.t 5)), none⟩,
  ⟨(some 4), (.mv (.t 40)), none⟩]
def a_Pdisk_Disk_settle : AFunc := ⟨[(.tmp 4)], (.seq (.region q_Pdisk_Disk_settle_0) (.seq (.region q_Pdisk_Disk_settle_1) (.seq (.seq (.region q_Pdisk_Disk_settle_2) (.block 0 (.loop q_Pdisk_Disk_settle_L9))) (.seq (.region q_Pdisk_Disk_settle_9) (.seq (.region q_Pdisk_Disk_settle_10) .ret)))))⟩

def q_Pdisk_Disk_Flush_1_0 : List AOper := [
  ⟨(some 2), (.mv (.v (.bool false))), none⟩]
def q_Pdisk_Disk_Flush_1_1 : List AOper := [
  ⟨(some 2), (.mv (.v (.bool true))), none⟩]
def a_Pdisk_Disk_Flush_1 : AFunc := ⟨[(.tmp 2)], (.seq (.region q_Pdisk_Disk_Flush_1_0) (.seq (.region q_Pdisk_Disk_Flush_1_1) .ret))⟩

def q_Pdisk_Disk_Crash_1_0 : List AOper := [
  ⟨(some 3), (.mv (.v (.bool false))), none⟩]
def q_Pdisk_Disk_Crash_1_1 : List AOper := [
  ⟨(some 4), (.mv (.t 0)), none⟩,
  ⟨(some 5), (.load .sc 1 (.t 1)), none⟩,
  ⟨(some 6), (.len false (.t 5)), none⟩,
  ⟨(some 7), (.bin .lss (.t 4) (.t 6)), none⟩,
  ⟨(some 8), (.mv (.t 7)), none⟩,
  ⟨(some 9), (.load .sc 1 (.t 1)), (some (8, true))⟩,
  ⟨(some 10), (.mv (.t 0)), (some (8, true))⟩,
  ⟨(some 11), (.idx 1 (.t 9) (.t 10)), (some (8, true))⟩,
  ⟨(some 12), (.load .sc 1 (.t 11)), (some (8, true))⟩,
  ⟨(some 13), (.pick (.t 8) (.t 12) (.v (.bool false))), none⟩,
  ⟨(some 3), (.mv (.t 13)), none⟩]
def a_Pdisk_Disk_Crash_1 : AFunc := ⟨[(.tmp 3)], (.seq (.region q_Pdisk_Disk_Crash_1_0) (.seq (.region q_Pdisk_Disk_Crash_1_1) .ret))⟩

def q_ref06_New_0 : List AOper := [
  ⟨(some 2), (.alloc 67 [.nilS, .nilS, (.int .i64 0), (.int .i64 0), (.bool false)]), none⟩,
  ⟨(some 3), (.mv (.v (.int .i64 0))), none⟩]
def q_ref06_New_1 : List AOper := [
  ⟨(some 4), (.mv (.t 0)), none⟩,
  ⟨(some 5), (.bin .lss (.t 4) (.v (.int .i64 1))), none⟩,
  ⟨(some 6), (.mv (.t 5)), none⟩,
  ⟨(some 7), (.mv (.t 0)), (some (6, false))⟩,
  ⟨(some 8), (.bin .gtr (.t 7) (.v (.int .i64 4096))), (some (6, false))⟩,
  ⟨(some 9), (.pick (.t 6) (.v (.bool true)) (.t 8)), none⟩]
def q_ref06_New_2 : List AOper := [
  ⟨(some 10), (.build .ag [.nilS, .nilS, (.int .i64 0), (.int .i64 0), (.bool false)] []), none⟩,
  ⟨none, (.store .ag 5 (.t 2) (.t 10)), none⟩,
  ⟨(some 3), (.mv (.v (.int .i64 2))), none⟩]
def q_ref06_New_3 : List AOper := [
  ⟨(some 11), (.mv (.t 0)), none⟩,
  ⟨(some 12), (.mk 78 256 256 (.iarr .u8 256 (List.replicate 256 0)) (.t 11) (.t 11)), none⟩,
  ⟨(some 13), (.build .ag [.nilS, .nilS, (.int .i64 0), (.int .i64 0), (.bool false)] [(0, (1, (.t 12))), (3, (1, (.v (.int .i64 (-1)))))]), none⟩,
  ⟨none, (.store .ag 5 (.t 2) (.t 13)), none⟩,
  ⟨(some 3), (.mv (.v (.int .i64 0))), none⟩]
def a_ref06_New : AFunc := ⟨[(.cell 2 .ag 5), (.tmp 3)], (.seq (.region q_ref06_New_0) (.seq (.seq (.region q_ref06_New_1) (.cond (.t 9) (.seq (.region q_ref06_New_2) .ret) .skip)) (.seq (.region q_ref06_New_3) .ret)))⟩

def q_ref06_Put_0 : List AOper := [
  ⟨(some 3), (.box 67 .ag (.t 0)), none⟩,
  ⟨(some 5), (.box 78 (.ia .u8 256) (.t 2)), none⟩,
  ⟨(some 6), (.alloc 67 [.nilS, .nilS, (.int .i64 0), (.int .i64 0), (.bool false)]), none⟩,
  ⟨(some 7), (.mv (.v (.int .i64 0))), none⟩]
def q_ref06_Put_1 : List AOper := [
  ⟨(some 10), (.mv (.t 1)), none⟩,
  ⟨(some 11), (.bin .lss (.t 10) (.v (.int .i64 0))), none⟩,
  ⟨(some 12), (.mv (.t 11)), none⟩,
  ⟨(some 13), (.mv (.t 1)), (some (12, false))⟩,
  ⟨(some 14), (.fadr 0 1 .sc (.t 3)), (some (12, false))⟩,
  ⟨(some 15), (.load .sc 1 (.t 14)), (some (12, false))⟩,
  ⟨(some 16), (.len false (.t 15)), (some (12, false))⟩,
  ⟨(some 17), (.bin .geq (.t 13) (.t 16)), (some (12, false))⟩,
  ⟨(some 18), (.pick (.t 12) (.v (.bool true)) (.t 17)), none⟩]
def q_ref06_Put_2 : List AOper := [
  ⟨(some 19), (.load .ag 5 (.t 3)), none⟩,
  ⟨none, (.store .ag 5 (.t 6) (.t 19)), none⟩,
  ⟨(some 7), (.mv (.v (.int .i64 2))), none⟩]
def q_ref06_Put_3 : List AOper := [
  ⟨(some 21), (.load .ag 5 (.t 3)), none⟩,
  ⟨(some 22), (.call F_ref06_step [(.ag, (.t 21))]), none⟩,
  ⟨(some 20), (.mv (.t 22)), none⟩,
  ⟨(some 23), (.ext 0 (.t 20)), none⟩,
  ⟨(some 24), (.ext 1 (.t 20)), none⟩,
  ⟨(some 8), (.alloc 67 [.nilS, .nilS, (.int .i64 0), (.int .i64 0), (.bool false)]), none⟩,
  ⟨none, (.store .ag 5 (.t 8) (.t 23)), none⟩,
  ⟨(some 9), (.mv (.t 24)), none⟩]
def q_ref06_Put_4 : List AOper := [
  ⟨(some 25), (.mv (.t 9)), none⟩,
  ⟨(some 26), (.un .not (.t 25)), none⟩]
def q_ref06_Put_5 : List AOper := [
  ⟨(some 27), (.load .ag 5 (.t 8)), none⟩,
  ⟨none, (.store .ag 5 (.t 6) (.t 27)), none⟩,
  ⟨(some 7), (.mv (.v (.int .i64 4))), none⟩]
def q_ref06_Put_6 : List AOper := [
  ⟨(some 28), (.fadr 1 1 .sc (.t 8)), none⟩,
  ⟨none, (.store .sc 1 (.t 28) (.v .nilS)), none⟩]
def q_ref06_Put_7 : List AOper := [
  ⟨(some 29), (.fadr 1 1 .sc (.t 8)), none⟩,
  ⟨(some 30), (.load .sc 1 (.t 29)), none⟩,
  ⟨(some 31), (.fadr 1 1 .sc (.t 3)), none⟩,
  ⟨(some 32), (.load .sc 1 (.t 31)), none⟩,
  ⟨(some 33), (.app 130 257 264 (.t 30) (.t 32)), none⟩,
  ⟨(some 34), (.fadr 1 1 .sc (.t 8)), none⟩,
  ⟨none, (.store .sc 1 (.t 34) (.t 33)), none⟩]
def q_ref06_Put_8 : List AOper := [
  ⟨(some 35), (.fadr 1 1 .sc (.t 8)), none⟩,
  ⟨(some 36), (.load .sc 1 (.t 35)), none⟩,
  ⟨(some 37), (.mv (.t 1)), none⟩,
  ⟨(some 38), (.load (.ia .u8 256) 256 (.t 5)), none⟩,
  ⟨(some 39), (.build .ag [(.int .i64 0), (.iarr .u8 256 (List.replicate 256 0))] [(0, (1, (.t 37))), (1, (256, (.t 38)))]), none⟩,
  ⟨(some 40), (.bsl 130 .ag 257 [(.t 39)]), none⟩,
  ⟨(some 41), (.app 130 257 264 (.t 36) (.t 40)), none⟩,
  ⟨(some 42), (.fadr 1 1 .sc (.t 8)), none⟩,
  ⟨none, (.store .sc 1 (.t 42) (.t 41)), none⟩]
def q_ref06_Put_9 : List AOper := [
  ⟨(some 43), (.load .ag 5 (.t 8)), none⟩,
  ⟨none, (.store .ag 5 (.t 6) (.t 43)), none⟩,
  ⟨(some 7), (.mv (.v (.int .i64 0))), none⟩]
def a_ref06_Put : AFunc := ⟨[(.cell 6 .ag 5), (.tmp 7)], (.seq (.region q_ref06_Put_0) (.seq (.seq (.region q_ref06_Put_1) (.cond (.t 18) (.seq (.region q_ref06_Put_2) .ret) .skip)) (.seq (.region q_ref06_Put_3) (.seq (.seq (.region q_ref06_Put_4) (.cond (.t 26) (.seq (.region q_ref06_Put_5) .ret) .skip)) (.seq (.region q_ref06_Put_6) (.seq (.region q_ref06_Put_7) (.seq (.region q_ref06_Put_8) (.seq (.region q_ref06_Put_9) .ret))))))))⟩

def q_ref06_Read_0 : List AOper := [
  ⟨(some 2), (.box 67 .ag (.t 0)), none⟩,
  ⟨(some 4), (.alloc 78 [(.iarr .u8 256 (List.replicate 256 0))]), none⟩,
  ⟨(some 5), (.mv (.v (.int .i64 0))), none⟩]
def q_ref06_Read_1 : List AOper := [
  ⟨(some 8), (.mv (.t 1)), none⟩,
  ⟨(some 9), (.bin .lss (.t 8) (.v (.int .i64 0))), none⟩,
  ⟨(some 10), (.mv (.t 9)), none⟩,
  ⟨(some 11), (.mv (.t 1)), (some (10, false))⟩,
  ⟨(some 12), (.fadr 0 1 .sc (.t 2)), (some (10, false))⟩,
  ⟨(some 13), (.load .sc 1 (.t 12)), (some (10, false))⟩,
  ⟨(some 14), (.len false (.t 13)), (some (10, false))⟩,
  ⟨(some 15), (.bin .geq (.t 11) (.t 14)), (some (10, false))⟩,
  ⟨(some 16), (.pick (.t 10) (.v (.bool true)) (.t 15)), none⟩]
def q_ref06_Read_2 : List AOper := [
  ⟨(some 17), (.build (.ia .u8 256) [(.iarr .u8 256 (List.replicate 256 0))] []), none⟩,
  ⟨none, (.store (.ia .u8 256) 256 (.t 4) (.t 17)), none⟩,
  ⟨(some 5), (.mv (.v (.int .i64 2))), none⟩]
def q_ref06_Read_3 : List AOper := [
  ⟨(some 18), (.fadr 4 1 .sc (.t 2)), none⟩,
  ⟨(some 19), (.load .sc 1 (.t 18)), none⟩]
def q_ref06_Read_4 : List AOper := [
  ⟨(some 20), (.build (.ia .u8 256) [(.iarr .u8 256 (List.replicate 256 0))] []), none⟩,
  ⟨none, (.store (.ia .u8 256) 256 (.t 4) (.t 20)), none⟩,
  ⟨(some 5), (.mv (.v (.int .i64 4))), none⟩]
def q_ref06_Read_5 : List AOper := [
  ⟨(some 21), (.fadr 0 1 .sc (.t 2)), none⟩,
  ⟨(some 22), (.load .sc 1 (.t 21)), none⟩,
  ⟨(some 23), (.mv (.t 1)), none⟩,
  ⟨(some 24), (.idx 256 (.t 22) (.t 23)), none⟩,
  ⟨(some 25), (.load (.ia .u8 256) 256 (.t 24)), none⟩,
  ⟨(some 6), (.alloc 78 [(.iarr .u8 256 (List.replicate 256 0))]), none⟩,
  ⟨none, (.store (.ia .u8 256) 256 (.t 6) (.t 25)), none⟩]
def q_ref06_Read_6 : List AOper := [
  ⟨(some 7), (.mv (.v (.int .i64 0))), none⟩]
def q_ref06_Read_7 : List AOper := [
  ⟨(some 26), (.mv (.t 7)), none⟩,
  ⟨(some 27), (.fadr 1 1 .sc (.t 2)), none⟩,
  ⟨(some 28), (.load .sc 1 (.t 27)), none⟩,
  ⟨(some 29), (.len false (.t 28)), none⟩,
  ⟨(some 30), (.bin .lss (.t 26) (.t 29)), none⟩]
def q_ref06_Read_8 : List AOper := [
  ⟨(some 33), (.fadr 1 1 .sc (.t 2)), none⟩,
  ⟨(some 34), (.load .sc 1 (.t 33)), none⟩,
  ⟨(some 35), (.mv (.t 7)), none⟩,
  ⟨(some 36), (.idx 257 (.t 34) (.t 35)), none⟩,
  ⟨(some 37), (.fadr 0 1 .sc (.t 36)), none⟩,
  ⟨(some 38), (.load .sc 1 (.t 37)), none⟩,
  ⟨(some 39), (.mv (.t 1)), none⟩,
  ⟨(some 40), (.eq .scI false (.t 38) (.t 39)), none⟩]
def q_ref06_Read_9 : List AOper := [
  ⟨(some 41), (.fadr 1 1 .sc (.t 2)), none⟩,
  ⟨(some 42), (.load .sc 1 (.t 41)), none⟩,
  ⟨(some 43), (.mv (.t 7)), none⟩,
  ⟨(some 44), (.idx 257 (.t 42) (.t 43)), none⟩,
  ⟨(some 45), (.fadr 1 256 (.ia .u8 256) (.t 44)), none⟩,
  ⟨(some 46), (.load (.ia .u8 256) 256 (.t 45)), none⟩,
  ⟨none, (.store (.ia .u8 256) 256 (.t 6) (.t 46)), none⟩]
def q_ref06_Read_10 : List AOper := [
  ⟨(some 31), (.mv (.t 7)), none⟩,
  ⟨(some 32), (.bin .add (.t 31) (.v (.int .i64 1))), none⟩,
  ⟨(some 7), (.mv (.t 32)), none⟩]
def q_ref06_Read_L11 : ACode := (.seq (.seq (.region q_ref06_Read_7) (.cond (.t 30) .skip (.exit 0))) (.seq (.block 1 (.seq (.region q_ref06_Read_8) (.cond (.t 40) (.region q_ref06_Read_9) .skip))) (.region q_ref06_Read_10)))
def q_ref06_Read_11 : List AOper := [
  ⟨(some 47), (.load (.ia .u8 256) 256 (.t 6)), none⟩,
  ⟨none, (.store (.ia .u8 256) 256 (.t 4) (.t 47)), none⟩,
  ⟨(some 5), (.mv (.v (.int .i64 0))), none⟩]
def a_ref06_Read : AFunc := ⟨[(.cell 4 (.ia .u8 256) 256), (.tmp 5)], (.seq (.region q_ref06_Read_0) (.seq (.seq (.region q_ref06_Read_1) (.cond (.t 16) (.seq (.region q_ref06_Read_2) .ret) .skip)) (.seq (.seq (.region q_ref06_Read_3) (.cond (.t 19) (.seq (.region q_ref06_Read_4) .ret) .skip)) (.seq (.region q_ref06_Read_5) (.seq (.seq (.region q_ref06_Read_6) (.block 0 (.loop q_ref06_Read_L11))) (.seq (.region q_ref06_Read_11) .ret))))))⟩

def q_ref06_Flush_0 : List AOper := [
  ⟨(some 1), (.box 67 .ag (.t 0)), none⟩,
  ⟨(some 2), (.alloc 67 [.nilS, .nilS, (.int .i64 0), (.int .i64 0), (.bool false)]), none⟩,
  ⟨(some 3), (.mv (.v (.int .i64 0))), none⟩]
def q_ref06_Flush_1 : List AOper := [
  ⟨(some 9), (.load .ag 5 (.t 1)), none⟩,
  ⟨(some 10), (.call F_ref06_step [(.ag, (.t 9))]), none⟩,
  ⟨(some 8), (.mv (.t 10)), none⟩,
  ⟨(some 11), (.ext 0 (.t 8)), none⟩,
  ⟨(some 12), (.ext 1 (.t 8)), none⟩,
  ⟨(some 4), (.alloc 67 [.nilS, .nilS, (.int .i64 0), (.int .i64 0), (.bool false)]), none⟩,
  ⟨none, (.store .ag 5 (.t 4) (.t 11)), none⟩,
  ⟨(some 5), (.mv (.t 12)), none⟩]
def q_ref06_Flush_2 : List AOper := [
  ⟨(some 13), (.mv (.t 5)), none⟩,
  ⟨(some 14), (.un .not (.t 13)), none⟩]
def q_ref06_Flush_3 : List AOper := [
  ⟨(some 15), (.load .ag 5 (.t 4)), none⟩,
  ⟨none, (.store .ag 5 (.t 2) (.t 15)), none⟩,
  ⟨(some 3), (.mv (.v (.int .i64 4))), none⟩]
def q_ref06_Flush_4 : List AOper := [
  ⟨(some 17), (.load .ag 5 (.t 4)), none⟩,
  ⟨(some 18), (.call F_ref06_settle [(.ag, (.t 17)), (.sc, (.v .nilS)), (.sc, (.v (.bool true)))]), none⟩,
  ⟨(some 16), (.mv (.t 18)), none⟩,
  ⟨(some 19), (.ext 0 (.t 16)), none⟩,
  ⟨(some 20), (.ext 1 (.t 16)), none⟩,
  ⟨(some 6), (.alloc 67 [.nilS, .nilS, (.int .i64 0), (.int .i64 0), (.bool false)]), none⟩,
  ⟨none, (.store .ag 5 (.t 6) (.t 19)), none⟩,
  ⟨(some 7), (.mv (.t 20)), none⟩]
def q_ref06_Flush_5 : List AOper := [
  ⟨(some 21), (.load .ag 5 (.t 6)), none⟩,
  ⟨none, (.store .ag 5 (.t 2) (.t 21)), none⟩,
  ⟨(some 3), (.mv (.v (.int .i64 0))), none⟩]
def a_ref06_Flush : AFunc := ⟨[(.cell 2 .ag 5), (.tmp 3)], (.seq (.region q_ref06_Flush_0) (.seq (.region q_ref06_Flush_1) (.seq (.seq (.region q_ref06_Flush_2) (.cond (.t 14) (.seq (.region q_ref06_Flush_3) .ret) .skip)) (.seq (.region q_ref06_Flush_4) (.seq (.region q_ref06_Flush_5) .ret)))))⟩

def q_ref06_Crash_0 : List AOper := [
  ⟨(some 2), (.box 67 .ag (.t 0)), none⟩,
  ⟨(some 4), (.alloc 67 [.nilS, .nilS, (.int .i64 0), (.int .i64 0), (.bool false)]), none⟩,
  ⟨(some 5), (.mv (.v (.int .i64 0))), none⟩]
def q_ref06_Crash_1 : List AOper := [
  ⟨(some 9), (.load .ag 5 (.t 2)), none⟩,
  ⟨(some 10), (.mv (.t 1)), none⟩,
  ⟨(some 11), (.call F_ref06_settle [(.ag, (.t 9)), (.sc, (.t 10)), (.sc, (.v (.bool false)))]), none⟩,
  ⟨(some 8), (.mv (.t 11)), none⟩,
  ⟨(some 12), (.ext 0 (.t 8)), none⟩,
  ⟨(some 13), (.ext 1 (.t 8)), none⟩,
  ⟨(some 6), (.alloc 67 [.nilS, .nilS, (.int .i64 0), (.int .i64 0), (.bool false)]), none⟩,
  ⟨none, (.store .ag 5 (.t 6) (.t 12)), none⟩,
  ⟨(some 7), (.mv (.t 13)), none⟩]
def q_ref06_Crash_2 : List AOper := [
  ⟨(some 14), (.fadr 4 1 .sc (.t 6)), none⟩,
  ⟨none, (.store .sc 1 (.t 14) (.v (.bool false))), none⟩]
def q_ref06_Crash_3 : List AOper := [
  ⟨(some 15), (.fadr 3 1 .sc (.t 6)), none⟩,
  ⟨none, (.store .sc 1 (.t 15) (.v (.int .i64 (-1)))), none⟩]
def q_ref06_Crash_4 : List AOper := [
  ⟨(some 16), (.load .ag 5 (.t 6)), none⟩,
  ⟨(some 17), (.mv (.t 7)), none⟩,
  ⟨none, (.store .ag 5 (.t 4) (.t 16)), none⟩,
  ⟨(some 5), (.mv (.t 17)), none⟩]
def a_ref06_Crash : AFunc := ⟨[(.cell 4 .ag 5), (.tmp 5)], (.seq (.region q_ref06_Crash_0) (.seq (.region q_ref06_Crash_1) (.seq (.region q_ref06_Crash_2) (.seq (.region q_ref06_Crash_3) (.seq (.region q_ref06_Crash_4) .ret)))))⟩

def q_ref06_Fuse_0 : List AOper := [
  ⟨(some 2), (.box 67 .ag (.t 0)), none⟩,
  ⟨(some 4), (.alloc 67 [.nilS, .nilS, (.int .i64 0), (.int .i64 0), (.bool false)]), none⟩]
def q_ref06_Fuse_1 : List AOper := [
  ⟨(some 6), (.load .ag 5 (.t 2)), none⟩,
  ⟨(some 5), (.alloc 67 [.nilS, .nilS, (.int .i64 0), (.int .i64 0), (.bool false)]), none⟩,
  ⟨none, (.store .ag 5 (.t 5) (.t 6)), none⟩]
def q_ref06_Fuse_2 : List AOper := [
  ⟨(some 7), (.mv (.t 1)), none⟩,
  ⟨(some 8), (.fadr 3 1 .sc (.t 5)), none⟩,
  ⟨none, (.store .sc 1 (.t 8) (.t 7)), none⟩]
def q_ref06_Fuse_3 : List AOper := [
  ⟨(some 9), (.mv (.t 1)), none⟩,
  ⟨(some 10), (.bin .lss (.t 9) (.v (.int .i64 0))), none⟩]
def q_ref06_Fuse_4 : List AOper := [
  ⟨(some 11), (.fadr 3 1 .sc (.t 5)), none⟩,
  ⟨none, (.store .sc 1 (.t 11) (.v (.int .i64 (-1)))), none⟩]
def q_ref06_Fuse_5 : List AOper := [
  ⟨(some 12), (.load .ag 5 (.t 5)), none⟩,
  ⟨none, (.store .ag 5 (.t 4) (.t 12)), none⟩]
def a_ref06_Fuse : AFunc := ⟨[(.cell 4 .ag 5)], (.seq (.region q_ref06_Fuse_0) (.seq (.region q_ref06_Fuse_1) (.seq (.region q_ref06_Fuse_2) (.seq (.seq (.region q_ref06_Fuse_3) (.cond (.t 10) (.region q_ref06_Fuse_4) .skip)) (.seq (.region q_ref06_Fuse_5) .ret)))))⟩

def q_ref06_SameImage_0 : List AOper := [
  ⟨(some 4), (.mv (.v (.bool false))), none⟩]
def q_ref06_SameImage_1 : List AOper := [
  ⟨(some 6), (.mv (.t 0)), none⟩,
  ⟨(some 7), (.len false (.t 6)), none⟩,
  ⟨(some 8), (.mv (.t 1)), none⟩,
  ⟨(some 9), (.len false (.t 8)), none⟩,
  ⟨(some 10), (.eq .scI true (.t 7) (.t 9)), none⟩]
def q_ref06_SameImage_2 : List AOper := [
  ⟨(some 4), (.mv (.v (.bool false))), none⟩]
def q_ref06_SameImage_3 : List AOper := [
  ⟨(some 5), (.mv (.v (.int .i64 0))), none⟩]
def q_ref06_SameImage_4 : List AOper := [
  ⟨(some 11), (.mv (.t 5)), none⟩,
  ⟨(some 12), (.mv (.t 0)), none⟩,
  ⟨(some 13), (.len false (.t 12)), none⟩,
  ⟨(some 14), (.bin .lss (.t 11) (.t 13)), none⟩]
def q_ref06_SameImage_5 : List DOp := [
  ⟨⟨(some 17), (.mv (.t 0)), none⟩, true, false, none, []⟩,
  ⟨⟨(some 18), (.mv (.t 5)), none⟩, true, false, none, []⟩,
  ⟨⟨(some 19), (.idx 256 (.t 17) (.t 18)), none⟩, true, false, none, []⟩,
  ⟨⟨(some 20), (.load (.ia .u8 256) 256 (.t 19)), none⟩, true, false, none, []⟩,
  ⟨⟨(some 21), (.mv (.t 1)), none⟩, true, false, none, []⟩,
  ⟨⟨(some 22), (.mv (.t 5)), none⟩, true, false, none, []⟩,
  ⟨⟨(some 23), (.idx 256 (.t 21) (.t 22)), none⟩, true, false, none, []⟩,
  ⟨⟨(some 24), (.load (.ia .u8 256) 256 (.t 23)), none⟩, true, false, none, []⟩,
  ⟨⟨(some 25), (.eq (.ia 256) true (.t 20) (.t 24)), none⟩, true, false, none, []⟩]
def q_ref06_SameImage_6 : List AOper := [
  ⟨(some 4), (.mv (.v (.bool false))), none⟩]
def q_ref06_SameImage_7 : List AOper := [
  ⟨(some 15), (.mv (.t 5)), none⟩,
  ⟨(some 16), (.bin .add (.t 15) (.v (.int .i64 1))), none⟩,
  ⟨(some 5), (.mv (.t 16)), none⟩]
def q_ref06_SameImage_L8 : ACode := (.seq (.seq (.region q_ref06_SameImage_4) (.cond (.t 14) .skip (.exit 0))) (.seq (.block 1 (.seq (.regionD q_ref06_SameImage_5) (.cond (.t 25) (.seq (.region q_ref06_SameImage_6) .ret) .skip))) (.region q_ref06_SameImage_7)))
def q_ref06_SameImage_8 : List AOper := [
  ⟨(some 4), (.mv (.v (.bool true))), none⟩]
def a_ref06_SameImage : AFunc := ⟨[(.tmp 4)], (.seq (.region q_ref06_SameImage_0) (.seq (.seq (.region q_ref06_SameImage_1) (.cond (.t 10) (.seq (.region q_ref06_SameImage_2) .ret) .skip)) (.seq (.seq (.region q_ref06_SameImage_3) (.block 0 (.loop q_ref06_SameImage_L8))) (.seq (.region q_ref06_SameImage_8) .ret))))⟩

def q_ref06_step_0 : List AOper := [
  ⟨(some 1), (.box 67 .ag (.t 0)), none⟩,
  ⟨(some 2), (.alloc 67 [.nilS, .nilS, (.int .i64 0), (.int .i64 0), (.bool false)]), none⟩,
  ⟨(some 3), (.mv (.v (.bool false))), none⟩]
def q_ref06_step_1 : List AOper := [
  ⟨(some 5), (.load .ag 5 (.t 1)), none⟩,
  ⟨(some 4), (.alloc 67 [.nilS, .nilS, (.int .i64 0), (.int .i64 0), (.bool false)]), none⟩,
  ⟨none, (.store .ag 5 (.t 4) (.t 5)), none⟩]
def q_ref06_step_2 : List AOper := [
  ⟨(some 6), (.fadr 4 1 .sc (.t 1)), none⟩,
  ⟨(some 7), (.load .sc 1 (.t 6)), none⟩,
  ⟨(some 8), (.mv (.t 7)), none⟩,
  ⟨(some 9), (.fadr 3 1 .sc (.t 1)), (some (8, false))⟩,
  ⟨(some 10), (.load .sc 1 (.t 9)), (some (8, false))⟩,
  ⟨(some 11), (.eq .scI false (.t 10) (.v (.int .i64 0))), (some (8, false))⟩,
  ⟨(some 12), (.pick (.t 8) (.v (.bool true)) (.t 11)), none⟩]
def q_ref06_step_3 : List AOper := [
  ⟨(some 13), (.fadr 4 1 .sc (.t 4)), none⟩,
  ⟨none, (.store .sc 1 (.t 13) (.v (.bool true))), none⟩]
def q_ref06_step_4 : List AOper := [
  ⟨(some 14), (.load .ag 5 (.t 4)), none⟩,
  ⟨none, (.store .ag 5 (.t 2) (.t 14)), none⟩,
  ⟨(some 3), (.mv (.v (.bool false))), none⟩]
def q_ref06_step_5 : List AOper := [
  ⟨(some 15), (.fadr 3 1 .sc (.t 1)), none⟩,
  ⟨(some 16), (.load .sc 1 (.t 15)), none⟩,
  ⟨(some 17), (.bin .gtr (.t 16) (.v (.int .i64 0))), none⟩]
def q_ref06_step_6 : List AOper := [
  ⟨(some 18), (.fadr 3 1 .sc (.t 1)), none⟩,
  ⟨(some 19), (.load .sc 1 (.t 18)), none⟩,
  ⟨(some 20), (.bin .sub (.t 19) (.v (.int .i64 1))), none⟩,
  ⟨(some 21), (.fadr 3 1 .sc (.t 4)), none⟩,
  ⟨none, (.store .sc 1 (.t 21) (.t 20)), none⟩]
def q_ref06_step_7 : List AOper := [
  ⟨(some 22), (.fadr 2 1 .sc (.t 1)), none⟩,
  ⟨(some 23), (.load .sc 1 (.t 22)), none⟩,
  ⟨(some 24), (.bin .add (.t 23) (.v (.int .i64 1))), none⟩,
  ⟨(some 25), (.fadr 2 1 .sc (.t 4)), none⟩,
  ⟨none, (.store .sc 1 (.t 25) (.t 24)), none⟩]
def q_ref06_step_8 : List AOper := [
  ⟨(some 26), (.load .ag 5 (.t 4)), none⟩,
  ⟨none, (.store .ag 5 (.t 2) (.t 26)), none⟩,
  ⟨(some 3), (.mv (.v (.bool true))), none⟩]
def a_ref06_step : AFunc := ⟨[(.cell 2 .ag 5), (.tmp 3)], (.seq (.region q_ref06_step_0) (.seq (.region q_ref06_step_1) (.seq (.seq (.region q_ref06_step_2) (.cond (.t 12) (.seq (.region q_ref06_step_3) (.seq (.region q_ref06_step_4) .ret)) .skip)) (.seq (.seq (.region q_ref06_step_5) (.cond (.t 17) (.region q_ref06_step_6) .skip)) (.seq (.region q_ref06_step_7) (.seq (.region q_ref06_step_8) .ret))))))⟩

def q_ref06_settle_0 : List AOper := [
  ⟨(some 3), (.box 67 .ag (.t 0)), none⟩,
  ⟨(some 6), (.alloc 67 [.nilS, .nilS, (.int .i64 0), (.int .i64 0), (.bool false)]), none⟩,
  ⟨(some 7), (.mv (.v (.int .i64 0))), none⟩]
def q_ref06_settle_1 : List AOper := [
  ⟨(some 11), (.load .ag 5 (.t 3)), none⟩,
  ⟨(some 8), (.alloc 67 [.nilS, .nilS, (.int .i64 0), (.int .i64 0), (.bool false)]), none⟩,
  ⟨none, (.store .ag 5 (.t 8) (.t 11)), none⟩]
def q_ref06_settle_2 : List AOper := [
  ⟨(some 12), (.fadr 0 1 .sc (.t 8)), none⟩,
  ⟨none, (.store .sc 1 (.t 12) (.v .nilS)), none⟩]
def q_ref06_settle_3 : List AOper := [
  ⟨(some 13), (.fadr 0 1 .sc (.t 8)), none⟩,
  ⟨(some 14), (.load .sc 1 (.t 13)), none⟩,
  ⟨(some 15), (.fadr 0 1 .sc (.t 3)), none⟩,
  ⟨(some 16), (.load .sc 1 (.t 15)), none⟩,
  ⟨(some 17), (.app 78 256 256 (.t 14) (.t 16)), none⟩,
  ⟨(some 18), (.fadr 0 1 .sc (.t 8)), none⟩,
  ⟨none, (.store .sc 1 (.t 18) (.t 17)), none⟩]
def q_ref06_settle_4 : List AOper := [
  ⟨(some 19), (.fadr 1 1 .sc (.t 8)), none⟩,
  ⟨none, (.store .sc 1 (.t 19) (.v .nilS)), none⟩]
def q_ref06_settle_5 : List AOper := [
  ⟨(some 9), (.mv (.v (.int .i64 0))), none⟩]
def q_ref06_settle_6 : List AOper := [
  ⟨(some 10), (.mv (.v (.int .i64 0))), none⟩]
def q_ref06_settle_7 : List AOper := [
  ⟨(some 20), (.mv (.t 10)), none⟩,
  ⟨(some 21), (.fadr 1 1 .sc (.t 3)), none⟩,
  ⟨(some 22), (.load .sc 1 (.t 21)), none⟩,
  ⟨(some 23), (.len false (.t 22)), none⟩,
  ⟨(some 24), (.bin .lss (.t 20) (.t 23)), none⟩]
def q_ref06_settle_8 : List AOper := [
  ⟨(some 27), (.mv (.t 1)), none⟩,
  ⟨(some 28), (.mv (.t 2)), none⟩,
  ⟨(some 29), (.mv (.t 10)), none⟩,
  ⟨(some 30), (.call F_ref06_keeps [(.sc, (.t 27)), (.sc, (.t 28)), (.sc, (.t 29))]), none⟩]
def q_ref06_settle_9 : List DOp := [
  ⟨⟨(some 31), (.fadr 0 1 .sc (.t 8)), none⟩, true, false, none, []⟩,
  ⟨⟨(some 32), (.load .sc 1 (.t 31)), none⟩, true, false, none, []⟩,
  ⟨⟨(some 33), (.fadr 1 1 .sc (.t 3)), none⟩, true, false, none, []⟩,
  ⟨⟨(some 34), (.load .sc 1 (.t 33)), none⟩, true, false, none, []⟩,
  ⟨⟨(some 35), (.mv (.t 10)), none⟩, true, false, none, []⟩,
  ⟨⟨(some 36), (.idx 257 (.t 34) (.t 35)), none⟩, true, false, none, []⟩,
  ⟨⟨(some 37), (.fadr 0 1 .sc (.t 36)), none⟩, true, false, none, []⟩,
  ⟨⟨(some 38), (.load .sc 1 (.t 37)), none⟩, true, false, none, []⟩,
  ⟨⟨(some 39), (.fadr 1 1 .sc (.t 3)), none⟩, true, false, none, []⟩,
  ⟨⟨(some 40), (.load .sc 1 (.t 39)), none⟩, true, false, none, []⟩,
  ⟨⟨(some 41), (.mv (.t 10)), none⟩, true, false, none, []⟩,
  ⟨⟨(some 42), (.idx 257 (.t 40) (.t 41)), none⟩, true, false, none, []⟩,
  ⟨⟨(some 43), (.fadr 1 256 (.ia .u8 256) (.t 42)), none⟩, true, false, none, []⟩,
  ⟨⟨(some 44), (.load (.ia .u8 256) 256 (.t 43)), none⟩, true, false, none, []⟩,
  ⟨⟨(some 45), (.idx 256 (.t 32) (.t 38)), none⟩, true, false, none, []⟩,
  ⟨⟨none, (.store (.ia .u8 256) 256 (.t 45) (.t 44)), none⟩, false, false, none, []⟩]
def q_ref06_settle_10 : List AOper := [
  ⟨(some 46), (.mv (.t 9)), none⟩,
  ⟨(some 47), (.bin .add (.t 46) (.v (.int .i64 1))), none⟩,
  ⟨(some 9), (.mv (.t 47)), none⟩]
def q_ref06_settle_11 : List AOper := [
  ⟨(some 25), (.mv (.t 10)), none⟩,
  ⟨(some 26), (.bin .add (.t 25) (.v (.int .i64 1))), none⟩,
  ⟨(some 10), (.mv (.t 26)), none⟩]
def q_ref06_settle_L12 : ACode := (.seq (.seq (.region q_ref06_settle_7) (.cond (.t 24) .skip (.exit 0))) (.seq (.block 1 (.seq (.region q_ref06_settle_8) (.cond (.t 30) (.seq (.regionD q_ref06_settle_9) (.region q_ref06_settle_10)) .skip))) (.region q_ref06_settle_11)))
def q_ref06_settle_12 : List AOper := [
  ⟨(some 48), (.load .ag 5 (.t 8)), none⟩,
  ⟨(some 49), (.mv (.t 9)), none⟩,
  ⟨none, (.store .ag 5 (.t 6) (.t 48)), none⟩,
  ⟨(some 7), (.mv (.t 49)), none⟩]
def a_ref06_settle : AFunc := ⟨[(.cell 6 .ag 5), (.tmp 7)], (.seq (.region q_ref06_settle_0) (.seq (.region q_ref06_settle_1) (.seq (.region q_ref06_settle_2) (.seq (.region q_ref06_settle_3) (.seq (.region q_ref06_settle_4) (.seq (.region q_ref06_settle_5) (.seq (.seq (.region q_ref06_settle_6) (.block 0 (.loop q_ref06_settle_L12))) (.seq (.region q_ref06_settle_12) .ret))))))))⟩

def q_ref06_keeps_0 : List AOper := [
  ⟨(some 6), (.mv (.v (.bool false))), none⟩]
def q_ref06_keeps_1 : List AOper := [
  ⟨(some 7), (.mv (.t 1)), none⟩,
  ⟨(some 8), (.mv (.t 7)), none⟩,
  ⟨(some 9), (.mv (.t 2)), (some (8, false))⟩,
  ⟨(some 10), (.mv (.t 0)), (some (8, false))⟩,
  ⟨(some 11), (.len false (.t 10)), (some (8, false))⟩,
  ⟨(some 12), (.bin .lss (.t 9) (.t 11)), (some (8, false))⟩,
  ⟨(some 13), (.mv (.t 12)), (some (8, false))⟩,
  ⟨(some 14), (.mv (.t 0)), (some (13, true))⟩,
  ⟨(some 15), (.mv (.t 2)), (some (13, true))⟩,
  ⟨(some 16), (.idx 1 (.t 14) (.t 15)), (some (13, true))⟩,
  ⟨(some 17), (.load .sc 1 (.t 16)), (some (13, true))⟩,
  ⟨(some 18), (.pick (.t 13) (.t 17) (.v (.bool false))), (some (8, false))⟩,
  ⟨(some 19), (.pick (.t 8) (.v (.bool true)) (.t 18)), none⟩,
  ⟨(some 6), (.mv (.t 19)), none⟩]
def a_ref06_keeps : AFunc := ⟨[(.tmp 6)], (.seq (.region q_ref06_keeps_0) (.seq (.region q_ref06_keeps_1) .ret))⟩

def q_law06_DiskDoes_0 : List AOper := [
  ⟨(some 4), (.mv (.v (.bool false))), none⟩]
def q_law06_DiskDoes_1 : List AOper := [
  ⟨(some 11), (.mv (.t 1)), none⟩,
  ⟨(some 12), (.call F_law06_light [(.sc, (.t 11))]), none⟩,
  ⟨(some 13), (.un .not (.t 12)), none⟩,
  ⟨(some 14), (.mv (.t 13)), none⟩,
  ⟨(some 15), (.mv (.t 0)), (some (14, false))⟩,
  ⟨(some 16), (.bin .gtr (.t 15) (.v (.int .i64 40))), (some (14, false))⟩,
  ⟨(some 17), (.pick (.t 14) (.v (.bool true)) (.t 16)), none⟩]
def q_law06_DiskDoes_2 : List AOper := [
  ⟨(some 18), (.call F_law06_works []), none⟩,
  ⟨(some 4), (.mv (.t 18)), none⟩]
def q_law06_DiskDoes_3 : List AOper := [
  ⟨(some 20), (.mv (.t 0)), none⟩,
  ⟨(some 21), (.call F_disk_New [(.sc, (.t 20))]), none⟩,
  ⟨(some 19), (.mv (.t 21)), none⟩,
  ⟨(some 22), (.ext 0 (.t 19)), none⟩,
  ⟨(some 23), (.ext 1 (.t 19)), none⟩,
  ⟨(some 5), (.mv (.t 22)), none⟩,
  ⟨(some 6), (.mv (.t 23)), none⟩]
def q_law06_DiskDoes_4 : List AOper := [
  ⟨(some 25), (.mv (.t 0)), none⟩,
  ⟨(some 26), (.call F_ref06_New [(.sc, (.t 25))]), none⟩,
  ⟨(some 24), (.mv (.t 26)), none⟩,
  ⟨(some 27), (.ext 0 (.t 24)), none⟩,
  ⟨(some 28), (.ext 1 (.t 24)), none⟩,
  ⟨(some 7), (.alloc 67 [.nilS, .nilS, (.int .i64 0), (.int .i64 0), (.bool false)]), none⟩,
  ⟨none, (.store .ag 5 (.t 7) (.t 27)), none⟩,
  ⟨(some 8), (.mv (.t 28)), none⟩]
def q_law06_DiskDoes_5 : List AOper := [
  ⟨(some 29), (.mv (.t 6)), none⟩,
  ⟨(some 30), (.mv (.t 8)), none⟩,
  ⟨(some 31), (.eq .scI true (.t 29) (.t 30)), none⟩,
  ⟨(some 32), (.mv (.t 31)), none⟩,
  ⟨(some 33), (.mv (.t 5)), (some (32, false))⟩,
  ⟨(some 34), (.xx (.p (.isNil .ptr false)) [(.t 33)]), (some (32, false))⟩,
  ⟨(some 35), (.mv (.t 8)), (some (32, false))⟩,
  ⟨(some 36), (.eq .scI true (.t 35) (.v (.int .i64 0))), (some (32, false))⟩,
  ⟨(some 37), (.eq .scB true (.t 34) (.t 36)), (some (32, false))⟩,
  ⟨(some 38), (.pick (.t 32) (.v (.bool true)) (.t 37)), none⟩]
def q_law06_DiskDoes_6 : List AOper := [
  ⟨(some 4), (.mv (.v (.bool false))), none⟩]
def q_law06_DiskDoes_7 : List AOper := [
  ⟨(some 9), (.mv (.v (.int .i64 0))), none⟩]
def q_law06_DiskDoes_8 : List AOper := [
  ⟨(some 39), (.mv (.t 9)), none⟩,
  ⟨(some 40), (.mv (.t 1)), none⟩,
  ⟨(some 41), (.len false (.t 40)), none⟩,
  ⟨(some 42), (.bin .lss (.t 39) (.t 41)), none⟩,
  ⟨(some 43), (.mv (.t 42)), none⟩,
  ⟨(some 44), (.mv (.t 8)), (some (43, true))⟩,
  ⟨(some 45), (.eq .scI false (.t 44) (.v (.int .i64 0))), (some (43, true))⟩,
  ⟨(some 46), (.pick (.t 43) (.t 45) (.v (.bool false))), none⟩]
def q_law06_DiskDoes_9 : List AOper := [
  ⟨(some 10), (.mv (.v (.bool true))), none⟩]
def q_law06_DiskDoes_10 : List DOp := [
  ⟨⟨(some 50), (.mv (.t 5)), none⟩, true, false, none, []⟩,
  ⟨⟨(some 51), (.load .ag 5 (.t 7)), none⟩, true, false, none, []⟩,
  ⟨⟨(some 52), (.mv (.t 1)), none⟩, true, false, none, []⟩,
  ⟨⟨(some 53), (.mv (.t 9)), none⟩, true, false, none, []⟩,
  ⟨⟨(some 54), (.idx 4 (.t 52) (.t 53)), none⟩, true, false, none, []⟩,
  ⟨⟨(some 55), (.load .ag 4 (.t 54)), none⟩, true, false, none, []⟩,
  ⟨⟨(some 56), (.call F_law06_do [(.sc, (.t 50)), (.ag, (.t 51)), (.ag, (.t 55))]), none⟩, false, false, none, []⟩,
  ⟨⟨(some 49), (.mv (.t 56)), none⟩, true, false, none, []⟩,
  ⟨⟨(some 57), (.ext 0 (.t 49)), none⟩, true, false, none, []⟩,
  ⟨⟨(some 58), (.ext 1 (.t 49)), none⟩, true, false, none, []⟩,
  ⟨⟨none, (.store .ag 5 (.t 7) (.t 57)), none⟩, false, false, none, []⟩,
  ⟨⟨(some 10), (.mv (.t 58)), none⟩, true, false, none, []⟩]
def q_law06_DiskDoes_11 : List AOper := [
  ⟨(some 59), (.mv (.t 10)), none⟩,
  ⟨(some 60), (.un .not (.t 59)), none⟩,
  ⟨(some 61), (.mv (.t 60)), none⟩,
  ⟨(some 62), (.mv (.t 5)), (some (61, false))⟩,
  ⟨(some 63), (.load .ag 5 (.t 7)), (some (61, false))⟩,
  ⟨(some 64), (.call F_law06_same [(.sc, (.t 62)), (.ag, (.t 63))]), (some (61, false))⟩,
  ⟨(some 65), (.un .not (.t 64)), (some (61, false))⟩,
  ⟨(some 66), (.pick (.t 61) (.v (.bool true)) (.t 65)), none⟩]
def q_law06_DiskDoes_12 : List AOper := [
  ⟨(some 4), (.mv (.v (.bool false))), none⟩]
def q_law06_DiskDoes_13 : List AOper := [
  ⟨(some 47), (.mv (.t 9)), none⟩,
  ⟨(some 48), (.bin .add (.t 47) (.v (.int .i64 1))), none⟩,
  ⟨(some 9), (.mv (.t 48)), none⟩]
def q_law06_DiskDoes_L14 : ACode := (.seq (.seq (.region q_law06_DiskDoes_8) (.cond (.t 46) .skip (.exit 0))) (.seq (.block 1 (.seq (.region q_law06_DiskDoes_9) (.seq (.regionD q_law06_DiskDoes_10) (.seq (.region q_law06_DiskDoes_11) (.cond (.t 66) (.seq (.region q_law06_DiskDoes_12) .ret) .skip))))) (.region q_law06_DiskDoes_13)))
def q_law06_DiskDoes_14 : List AOper := [
  ⟨(some 67), (.call F_law06_works []), none⟩,
  ⟨(some 4), (.mv (.t 67)), none⟩]
def a_law06_DiskDoes : AFunc := ⟨[(.tmp 4)], (.seq (.region q_law06_DiskDoes_0) (.seq (.seq (.region q_law06_DiskDoes_1) (.cond (.t 17) (.seq (.region q_law06_DiskDoes_2) .ret) .skip)) (.seq (.region q_law06_DiskDoes_3) (.seq (.region q_law06_DiskDoes_4) (.seq (.seq (.region q_law06_DiskDoes_5) (.cond (.t 38) (.seq (.region q_law06_DiskDoes_6) .ret) .skip)) (.seq (.seq (.region q_law06_DiskDoes_7) (.block 0 (.loop q_law06_DiskDoes_L14))) (.seq (.region q_law06_DiskDoes_14) .ret)))))))⟩

def q_law06_DiskLasts_0 : List AOper := [
  ⟨(some 4), (.mv (.v (.bool false))), none⟩]
def q_law06_DiskLasts_1 : List AOper := [
  ⟨(some 16), (.mv (.t 0)), none⟩,
  ⟨(some 17), (.call F_law06_light [(.sc, (.t 16))]), none⟩,
  ⟨(some 18), (.un .not (.t 17)), none⟩,
  ⟨(some 19), (.mv (.t 18)), none⟩,
  ⟨(some 20), (.mv (.t 1)), (some (19, false))⟩,
  ⟨(some 21), (.len false (.t 20)), (some (19, false))⟩,
  ⟨(some 22), (.bin .gtr (.t 21) (.v (.int .i64 100))), (some (19, false))⟩,
  ⟨(some 23), (.pick (.t 19) (.v (.bool true)) (.t 22)), none⟩]
def q_law06_DiskLasts_2 : List AOper := [
  ⟨(some 24), (.call F_law06_works []), none⟩,
  ⟨(some 4), (.mv (.t 24)), none⟩]
def q_law06_DiskLasts_3 : List AOper := [
  ⟨(some 26), (.call F_disk_New [(.sc, (.v (.int .i64 6)))]), none⟩,
  ⟨(some 25), (.mv (.t 26)), none⟩,
  ⟨(some 27), (.ext 0 (.t 25)), none⟩,
  ⟨(some 28), (.ext 1 (.t 25)), none⟩,
  ⟨(some 5), (.mv (.t 27)), none⟩,
  ⟨(some 6), (.mv (.t 28)), none⟩]
def q_law06_DiskLasts_4 : List AOper := [
  ⟨(some 29), (.mv (.t 5)), none⟩,
  ⟨(some 30), (.xx (.p (.isNil .ptr false)) [(.t 29)]), none⟩,
  ⟨(some 31), (.mv (.t 30)), none⟩,
  ⟨(some 32), (.mv (.t 6)), (some (31, false))⟩,
  ⟨(some 33), (.eq .scI true (.t 32) (.v (.int .i64 0))), (some (31, false))⟩,
  ⟨(some 34), (.pick (.t 31) (.v (.bool true)) (.t 33)), none⟩]
def q_law06_DiskLasts_5 : List AOper := [
  ⟨(some 4), (.mv (.v (.bool false))), none⟩]
def q_law06_DiskLasts_6 : List AOper := [
  ⟨(some 7), (.alloc 77 [.nilS, .nilS, .nilS, .nilS, .nilS, .nilS]), none⟩]
def q_law06_DiskLasts_7 : List AOper := [
  ⟨(some 8), (.mv (.v (.int .i64 0))), none⟩]
def q_law06_DiskLasts_8 : List AOper := [
  ⟨(some 35), (.mv (.t 8)), none⟩,
  ⟨(some 36), (.bin .lss (.t 35) (.v (.int .i64 6))), none⟩]
def q_law06_DiskLasts_9 : List AOper := [
  ⟨(some 39), (.mv (.t 8)), none⟩,
  ⟨(some 40), (.call F_law06_Filled [(.sc, (.v (.int .u8 0)))]), none⟩,
  ⟨(some 41), (.bsl 78 (.ia .u8 256) 256 [(.t 40)]), none⟩,
  ⟨(some 42), (.idxA 6 1 false (.t 7) (.t 39)), none⟩,
  ⟨none, (.store .sc 1 (.t 42) (.t 41)), none⟩]
def q_law06_DiskLasts_10 : List AOper := [
  ⟨(some 37), (.mv (.t 8)), none⟩,
  ⟨(some 38), (.bin .add (.t 37) (.v (.int .i64 1))), none⟩,
  ⟨(some 8), (.mv (.t 38)), none⟩]
def q_law06_DiskLasts_L11 : ACode := (.seq (.seq (.region q_law06_DiskLasts_8) (.cond (.t 36) .skip (.exit 0))) (.seq (.block 1 (.region q_law06_DiskLasts_9)) (.region q_law06_DiskLasts_10)))
def q_law06_DiskLasts_11 : List AOper := [
  ⟨(some 9), (.mv (.v (.int .i64 0))), none⟩]
def q_law06_DiskLasts_12 : List AOper := [
  ⟨(some 43), (.mv (.t 9)), none⟩,
  ⟨(some 44), (.mv (.t 0)), none⟩,
  ⟨(some 45), (.len false (.t 44)), none⟩,
  ⟨(some 46), (.bin .lss (.t 43) (.t 45)), none⟩]
def q_law06_DiskLasts_13 : List AOper := [
  ⟨(some 49), (.mv (.t 0)), none⟩,
  ⟨(some 50), (.mv (.t 9)), none⟩,
  ⟨(some 51), (.idx 4 (.t 49) (.t 50)), none⟩,
  ⟨(some 52), (.fadr 0 1 .sc (.t 51)), none⟩,
  ⟨(some 53), (.load .sc 1 (.t 52)), none⟩]
def q_law06_DiskLasts_14 : List AOper := [
  ⟨(some 55), (.eq .scI false (.t 53) (.v (.int .i64 0))), none⟩,
  ⟨(some 54), (.mv (.t 55)), none⟩]
def q_law06_DiskLasts_15 : List AOper := [
  ⟨(some 56), (.eq .scI false (.t 53) (.v (.int .i64 1))), none⟩,
  ⟨(some 54), (.mv (.t 56)), none⟩]
def q_law06_DiskLasts_16 : List DOp := [
  ⟨⟨(some 57), (.mv (.t 5)), none⟩, true, false, none, []⟩,
  ⟨⟨(some 58), (.mv (.t 0)), none⟩, true, false, none, []⟩,
  ⟨⟨(some 59), (.mv (.t 9)), none⟩, true, false, none, []⟩,
  ⟨⟨(some 60), (.idx 4 (.t 58) (.t 59)), none⟩, true, false, none, []⟩,
  ⟨⟨(some 61), (.fadr 1 1 .sc (.t 60)), none⟩, true, false, none, []⟩,
  ⟨⟨(some 62), (.load .sc 1 (.t 61)), none⟩, true, false, none, []⟩,
  ⟨⟨(some 63), (.mv (.t 0)), none⟩, true, false, none, []⟩,
  ⟨⟨(some 64), (.mv (.t 9)), none⟩, true, false, none, []⟩,
  ⟨⟨(some 65), (.idx 4 (.t 63) (.t 64)), none⟩, true, false, none, []⟩,
  ⟨⟨(some 66), (.fadr 2 1 .sc (.t 65)), none⟩, true, false, none, []⟩,
  ⟨⟨(some 67), (.load .sc 1 (.t 66)), none⟩, true, false, none, []⟩,
  ⟨⟨(some 68), (.call F_law06_Filled [(.sc, (.t 67))]), none⟩, false, true, (some [61, 58]), []⟩,
  ⟨⟨(some 69), (.call F_Pdisk_Disk_Write [(.sc, (.t 57)), (.sc, (.t 62)), ((.ia .u8 256), (.t 68))]), none⟩, false, false, none, []⟩,
  ⟨⟨(some 70), (.eq .scI false (.t 69) (.v (.int .i64 0))), none⟩, true, false, none, []⟩]
def q_law06_DiskLasts_17 : List DOp := [
  ⟨⟨(some 71), (.mv (.t 0)), none⟩, true, false, none, []⟩,
  ⟨⟨(some 72), (.mv (.t 9)), none⟩, true, false, none, []⟩,
  ⟨⟨(some 73), (.idx 4 (.t 71) (.t 72)), none⟩, true, false, none, []⟩,
  ⟨⟨(some 74), (.fadr 1 1 .sc (.t 73)), none⟩, true, false, none, []⟩,
  ⟨⟨(some 75), (.load .sc 1 (.t 74)), none⟩, true, false, none, []⟩,
  ⟨⟨(some 76), (.mv (.t 0)), none⟩, true, false, none, []⟩,
  ⟨⟨(some 77), (.mv (.t 9)), none⟩, true, false, none, []⟩,
  ⟨⟨(some 78), (.idx 4 (.t 76) (.t 77)), none⟩, true, false, none, []⟩,
  ⟨⟨(some 79), (.fadr 1 1 .sc (.t 78)), none⟩, true, false, none, []⟩,
  ⟨⟨(some 80), (.load .sc 1 (.t 79)), none⟩, true, false, none, []⟩,
  ⟨⟨(some 81), (.idxA 6 1 false (.t 7) (.t 80)), none⟩, true, false, none, []⟩,
  ⟨⟨(some 82), (.load .sc 1 (.t 81)), none⟩, true, false, none, []⟩,
  ⟨⟨(some 83), (.mv (.t 0)), none⟩, true, false, none, []⟩,
  ⟨⟨(some 84), (.mv (.t 9)), none⟩, true, false, none, []⟩,
  ⟨⟨(some 85), (.idx 4 (.t 83) (.t 84)), none⟩, true, false, none, []⟩,
  ⟨⟨(some 86), (.fadr 2 1 .sc (.t 85)), none⟩, true, false, none, []⟩,
  ⟨⟨(some 87), (.load .sc 1 (.t 86)), none⟩, true, false, none, []⟩,
  ⟨⟨(some 88), (.call F_law06_Filled [(.sc, (.t 87))]), none⟩, false, true, (some [81, 79, 76, 74, 71]), []⟩,
  ⟨⟨(some 89), (.bsl 78 (.ia .u8 256) 256 [(.t 88)]), none⟩, false, false, none, []⟩,
  ⟨⟨(some 90), (.app 78 256 256 (.t 82) (.t 89)), none⟩, false, true, (some [74, 71]), []⟩,
  ⟨⟨(some 91), (.idxA 6 1 false (.t 7) (.t 75)), none⟩, true, false, none, []⟩,
  ⟨⟨none, (.store .sc 1 (.t 91) (.t 90)), none⟩, false, false, none, []⟩]
def q_law06_DiskLasts_18 : List AOper := [
  ⟨(some 93), (.eq .scI false (.t 53) (.v (.int .i64 3))), none⟩,
  ⟨(some 92), (.mv (.t 93)), none⟩]
def q_law06_DiskLasts_19 : List AOper := [
  ⟨(some 94), (.mv (.t 5)), none⟩,
  ⟨(some 95), (.call F_Pdisk_Disk_Flush [(.sc, (.t 94))]), none⟩,
  ⟨(some 96), (.eq .scI true (.t 95) (.v (.int .i64 0))), none⟩]
def q_law06_DiskLasts_20 : List AOper := [
  ⟨(some 4), (.mv (.v (.bool false))), none⟩]
def q_law06_DiskLasts_21 : List AOper := [
  ⟨(some 10), (.mv (.v (.int .i64 0))), none⟩]
def q_law06_DiskLasts_22 : List AOper := [
  ⟨(some 97), (.mv (.t 10)), none⟩,
  ⟨(some 98), (.bin .lss (.t 97) (.v (.int .i64 6))), none⟩]
def q_law06_DiskLasts_23 : List DOp := [
  ⟨⟨(some 101), (.mv (.t 10)), none⟩, true, false, none, []⟩,
  ⟨⟨(some 102), (.mv (.t 10)), none⟩, true, false, none, []⟩,
  ⟨⟨(some 103), (.idxA 6 1 false (.t 7) (.t 102)), none⟩, true, false, none, []⟩,
  ⟨⟨(some 104), (.load .sc 1 (.t 103)), none⟩, true, false, none, []⟩,
  ⟨⟨(some 105), (.mv (.t 10)), none⟩, true, false, none, []⟩,
  ⟨⟨(some 106), (.idxA 6 1 false (.t 7) (.t 105)), none⟩, true, false, none, []⟩,
  ⟨⟨(some 107), (.load .sc 1 (.t 106)), none⟩, true, false, none, []⟩,
  ⟨⟨(some 108), (.len false (.t 107)), none⟩, true, false, none, []⟩,
  ⟨⟨(some 109), (.bin .sub (.t 108) (.v (.int .i64 1))), none⟩, true, false, none, []⟩,
  ⟨⟨(some 110), (.slc 256 (.t 104) (some (.t 109)) none), none⟩, true, false, none, []⟩,
  ⟨⟨(some 111), (.idxA 6 1 false (.t 7) (.t 101)), none⟩, true, false, none, []⟩,
  ⟨⟨none, (.store .sc 1 (.t 111) (.t 110)), none⟩, false, false, none, []⟩]
def q_law06_DiskLasts_24 : List AOper := [
  ⟨(some 99), (.mv (.t 10)), none⟩,
  ⟨(some 100), (.bin .add (.t 99) (.v (.int .i64 1))), none⟩,
  ⟨(some 10), (.mv (.t 100)), none⟩]
def q_law06_DiskLasts_L25 : ACode := (.seq (.seq (.region q_law06_DiskLasts_22) (.cond (.t 98) .skip (.exit 5))) (.seq (.block 6 (.regionD q_law06_DiskLasts_23)) (.region q_law06_DiskLasts_24)))
def q_law06_DiskLasts_25 : List AOper := [
  ⟨(some 47), (.mv (.t 9)), none⟩,
  ⟨(some 48), (.bin .add (.t 47) (.v (.int .i64 1))), none⟩,
  ⟨(some 9), (.mv (.t 48)), none⟩]
def q_law06_DiskLasts_L26 : ACode := (.seq (.seq (.region q_law06_DiskLasts_12) (.cond (.t 46) .skip (.exit 2))) (.seq (.block 3 (.seq (.region q_law06_DiskLasts_13) (.block 4 (.seq (.seq (.region q_law06_DiskLasts_14) (.cond (.t 54) .skip (.region q_law06_DiskLasts_15))) (.cond (.t 54) (.seq (.regionD q_law06_DiskLasts_16) (.cond (.t 70) (.regionD q_law06_DiskLasts_17) .skip)) (.seq (.region q_law06_DiskLasts_18) (.cond (.t 92) (.seq (.seq (.region q_law06_DiskLasts_19) (.cond (.t 96) (.seq (.region q_law06_DiskLasts_20) .ret) .skip)) (.seq (.region q_law06_DiskLasts_21) (.block 5 (.loop q_law06_DiskLasts_L25)))) .skip))))))) (.region q_law06_DiskLasts_25)))
def q_law06_DiskLasts_26 : List AOper := [
  ⟨(some 112), (.mv (.t 5)), none⟩,
  ⟨(some 113), (.mv (.t 1)), none⟩,
  ⟨(some 114), (.call F_Pdisk_Disk_Crash [(.sc, (.t 112)), (.sc, (.t 113))]), none⟩]
def q_law06_DiskLasts_27 : List AOper := [
  ⟨(some 11), (.mv (.v (.int .i64 0))), none⟩]
def q_law06_DiskLasts_28 : List AOper := [
  ⟨(some 115), (.mv (.t 11)), none⟩,
  ⟨(some 116), (.bin .lss (.t 115) (.v (.int .i64 6))), none⟩]
def q_law06_DiskLasts_29 : List AOper := [
  ⟨(some 120), (.mv (.t 5)), none⟩,
  ⟨(some 121), (.mv (.t 11)), none⟩,
  ⟨(some 122), (.call F_Pdisk_Disk_Read [(.sc, (.t 120)), (.sc, (.t 121))]), none⟩,
  ⟨(some 119), (.mv (.t 122)), none⟩,
  ⟨(some 123), (.ext 0 (.t 119)), none⟩,
  ⟨(some 124), (.ext 1 (.t 119)), none⟩,
  ⟨(some 12), (.alloc 78 [(.iarr .u8 256 (List.replicate 256 0))]), none⟩,
  ⟨none, (.store (.ia .u8 256) 256 (.t 12) (.t 123)), none⟩,
  ⟨(some 13), (.mv (.t 124)), none⟩]
def q_law06_DiskLasts_30 : List AOper := [
  ⟨(some 14), (.mv (.v (.bool false))), none⟩]
def q_law06_DiskLasts_31 : List AOper := [
  ⟨(some 15), (.mv (.v (.int .i64 0))), none⟩]
def q_law06_DiskLasts_32 : List AOper := [
  ⟨(some 125), (.mv (.t 15)), none⟩,
  ⟨(some 126), (.mv (.t 11)), none⟩,
  ⟨(some 127), (.idxA 6 1 false (.t 7) (.t 126)), none⟩,
  ⟨(some 128), (.load .sc 1 (.t 127)), none⟩,
  ⟨(some 129), (.len false (.t 128)), none⟩,
  ⟨(some 130), (.bin .lss (.t 125) (.t 129)), none⟩]
def q_law06_DiskLasts_33 : List DOp := [
  ⟨⟨(some 133), (.mv (.t 14)), none⟩, true, false, none, []⟩,
  ⟨⟨(some 134), (.mv (.t 133)), none⟩, true, false, none, []⟩,
  ⟨⟨(some 135), (.mv (.t 11)), (some (134, false))⟩, true, false, none, []⟩,
  ⟨⟨(some 136), (.idxA 6 1 false (.t 7) (.t 135)), (some (134, false))⟩, true, false, none, []⟩,
  ⟨⟨(some 137), (.load .sc 1 (.t 136)), (some (134, false))⟩, true, false, none, []⟩,
  ⟨⟨(some 138), (.mv (.t 15)), (some (134, false))⟩, true, false, none, []⟩,
  ⟨⟨(some 139), (.idx 256 (.t 137) (.t 138)), (some (134, false))⟩, true, false, none, []⟩,
  ⟨⟨(some 140), (.load (.ia .u8 256) 256 (.t 139)), (some (134, false))⟩, true, false, none, []⟩,
  ⟨⟨(some 141), (.load (.ia .u8 256) 256 (.t 12)), (some (134, false))⟩, true, false, none, []⟩,
  ⟨⟨(some 142), (.eq (.ia 256) false (.t 140) (.t 141)), (some (134, false))⟩, true, false, none, []⟩,
  ⟨⟨(some 143), (.pick (.t 134) (.v (.bool true)) (.t 142)), none⟩, true, false, none, []⟩,
  ⟨⟨(some 14), (.mv (.t 143)), none⟩, true, false, none, []⟩]
def q_law06_DiskLasts_34 : List AOper := [
  ⟨(some 131), (.mv (.t 15)), none⟩,
  ⟨(some 132), (.bin .add (.t 131) (.v (.int .i64 1))), none⟩,
  ⟨(some 15), (.mv (.t 132)), none⟩]
def q_law06_DiskLasts_L35 : ACode := (.seq (.seq (.region q_law06_DiskLasts_32) (.cond (.t 130) .skip (.exit 9))) (.seq (.block 10 (.regionD q_law06_DiskLasts_33)) (.region q_law06_DiskLasts_34)))
def q_law06_DiskLasts_35 : List DOp := [
  ⟨⟨(some 144), (.mv (.t 13)), none⟩, true, false, none, []⟩,
  ⟨⟨(some 145), (.eq .scI true (.t 144) (.v (.int .i64 0))), none⟩, true, false, none, []⟩,
  ⟨⟨(some 146), (.mv (.t 145)), none⟩, true, false, none, []⟩,
  ⟨⟨(some 147), (.mv (.t 14)), (some (146, false))⟩, true, false, none, []⟩,
  ⟨⟨(some 148), (.un .not (.t 147)), (some (146, false))⟩, true, false, none, []⟩,
  ⟨⟨(some 149), (.pick (.t 146) (.v (.bool true)) (.t 148)), none⟩, true, false, none, []⟩,
  ⟨⟨(some 150), (.mv (.t 149)), none⟩, true, false, none, []⟩,
  ⟨⟨(some 151), (.mv (.t 5)), (some (150, false))⟩, true, false, none, []⟩,
  ⟨⟨(some 153), (.mv (.t 11)), (some (150, false))⟩, true, false, none, []⟩,
  ⟨⟨(some 156), (.load (.ia .u8 256) 256 (.t 12)), (some (150, false))⟩, true, false, none, []⟩,
  ⟨⟨(some 152), (.call F_Pdisk_Disk_Image [(.sc, (.t 151))]), (some (150, false))⟩, false, true, (some [12]), []⟩,
  ⟨⟨(some 154), (.idx 256 (.t 152) (.t 153)), (some (150, false))⟩, true, false, none, []⟩,
  ⟨⟨(some 155), (.load (.ia .u8 256) 256 (.t 154)), (some (150, false))⟩, true, false, none, []⟩,
  ⟨⟨(some 157), (.eq (.ia 256) true (.t 155) (.t 156)), (some (150, false))⟩, true, false, none, []⟩,
  ⟨⟨(some 158), (.pick (.t 150) (.v (.bool true)) (.t 157)), none⟩, true, false, none, []⟩]
def q_law06_DiskLasts_36 : List AOper := [
  ⟨(some 4), (.mv (.v (.bool false))), none⟩]
def q_law06_DiskLasts_37 : List AOper := [
  ⟨(some 117), (.mv (.t 11)), none⟩,
  ⟨(some 118), (.bin .add (.t 117) (.v (.int .i64 1))), none⟩,
  ⟨(some 11), (.mv (.t 118)), none⟩]
def q_law06_DiskLasts_L38 : ACode := (.seq (.seq (.region q_law06_DiskLasts_28) (.cond (.t 116) .skip (.exit 7))) (.seq (.block 8 (.seq (.region q_law06_DiskLasts_29) (.seq (.region q_law06_DiskLasts_30) (.seq (.seq (.region q_law06_DiskLasts_31) (.block 9 (.loop q_law06_DiskLasts_L35))) (.seq (.regionD q_law06_DiskLasts_35) (.cond (.t 158) (.seq (.region q_law06_DiskLasts_36) .ret) .skip)))))) (.region q_law06_DiskLasts_37)))
def q_law06_DiskLasts_38 : List AOper := [
  ⟨(some 159), (.mv (.t 5)), none⟩,
  ⟨(some 160), (.call F_Pdisk_Disk_Waits [(.sc, (.t 159))]), none⟩,
  ⟨(some 161), (.eq .scI false (.t 160) (.v (.int .i64 0))), none⟩,
  ⟨(some 162), (.mv (.t 161)), none⟩,
  ⟨(some 163), (.call F_law06_works []), (some (162, true))⟩,
  ⟨(some 164), (.pick (.t 162) (.t 163) (.v (.bool false))), none⟩,
  ⟨(some 4), (.mv (.t 164)), none⟩]
def a_law06_DiskLasts : AFunc := ⟨[(.tmp 4)], (.seq (.region q_law06_DiskLasts_0) (.seq (.seq (.region q_law06_DiskLasts_1) (.cond (.t 23) (.seq (.region q_law06_DiskLasts_2) .ret) .skip)) (.seq (.region q_law06_DiskLasts_3) (.seq (.seq (.region q_law06_DiskLasts_4) (.cond (.t 34) (.seq (.region q_law06_DiskLasts_5) .ret) .skip)) (.seq (.region q_law06_DiskLasts_6) (.seq (.seq (.region q_law06_DiskLasts_7) (.block 0 (.loop q_law06_DiskLasts_L11))) (.seq (.seq (.region q_law06_DiskLasts_11) (.block 2 (.loop q_law06_DiskLasts_L26))) (.seq (.region q_law06_DiskLasts_26) (.seq (.seq (.region q_law06_DiskLasts_27) (.block 7 (.loop q_law06_DiskLasts_L38))) (.seq (.region q_law06_DiskLasts_38) .ret))))))))))⟩

def q_law06_DiskTwins_0 : List AOper := [
  ⟨(some 4), (.mv (.v (.bool false))), none⟩]
def q_law06_DiskTwins_1 : List AOper := [
  ⟨(some 14), (.mv (.t 0)), none⟩,
  ⟨(some 15), (.call F_law06_light [(.sc, (.t 14))]), none⟩,
  ⟨(some 16), (.un .not (.t 15)), none⟩,
  ⟨(some 17), (.mv (.t 16)), none⟩,
  ⟨(some 18), (.mv (.t 1)), (some (17, false))⟩,
  ⟨(some 19), (.call F_law06_light [(.sc, (.t 18))]), (some (17, false))⟩,
  ⟨(some 20), (.un .not (.t 19)), (some (17, false))⟩,
  ⟨(some 21), (.pick (.t 17) (.v (.bool true)) (.t 20)), none⟩]
def q_law06_DiskTwins_2 : List AOper := [
  ⟨(some 22), (.call F_law06_works []), none⟩,
  ⟨(some 4), (.mv (.t 22)), none⟩]
def q_law06_DiskTwins_3 : List AOper := [
  ⟨(some 24), (.call F_disk_New [(.sc, (.v (.int .i64 8)))]), none⟩,
  ⟨(some 23), (.mv (.t 24)), none⟩,
  ⟨(some 25), (.ext 0 (.t 23)), none⟩,
  ⟨(some 26), (.ext 1 (.t 23)), none⟩,
  ⟨(some 5), (.mv (.t 25)), none⟩,
  ⟨(some 6), (.mv (.t 26)), none⟩]
def q_law06_DiskTwins_4 : List AOper := [
  ⟨(some 28), (.call F_ref06_New [(.sc, (.v (.int .i64 8)))]), none⟩,
  ⟨(some 27), (.mv (.t 28)), none⟩,
  ⟨(some 29), (.ext 0 (.t 27)), none⟩,
  ⟨(some 30), (.ext 1 (.t 27)), none⟩,
  ⟨(some 7), (.alloc 67 [.nilS, .nilS, (.int .i64 0), (.int .i64 0), (.bool false)]), none⟩,
  ⟨none, (.store .ag 5 (.t 7) (.t 29)), none⟩,
  ⟨(some 8), (.mv (.t 30)), none⟩]
def q_law06_DiskTwins_5 : List AOper := [
  ⟨(some 31), (.mv (.t 5)), none⟩,
  ⟨(some 32), (.xx (.p (.isNil .ptr false)) [(.t 31)]), none⟩,
  ⟨(some 33), (.mv (.t 32)), none⟩,
  ⟨(some 34), (.mv (.t 6)), (some (33, false))⟩,
  ⟨(some 35), (.eq .scI true (.t 34) (.v (.int .i64 0))), (some (33, false))⟩,
  ⟨(some 36), (.pick (.t 33) (.v (.bool true)) (.t 35)), none⟩]
def q_law06_DiskTwins_6 : List AOper := [
  ⟨(some 4), (.mv (.v (.bool false))), none⟩]
def q_law06_DiskTwins_7 : List AOper := [
  ⟨(some 9), (.mv (.v (.bool true))), none⟩]
def q_law06_DiskTwins_8 : List AOper := [
  ⟨(some 10), (.mv (.v (.int .i64 0))), none⟩]
def q_law06_DiskTwins_9 : List AOper := [
  ⟨(some 37), (.mv (.t 10)), none⟩,
  ⟨(some 38), (.mv (.t 0)), none⟩,
  ⟨(some 39), (.len false (.t 38)), none⟩,
  ⟨(some 40), (.bin .lss (.t 37) (.t 39)), none⟩,
  ⟨(some 41), (.mv (.t 40)), none⟩,
  ⟨(some 42), (.mv (.t 9)), (some (41, true))⟩,
  ⟨(some 43), (.pick (.t 41) (.t 42) (.v (.bool false))), none⟩]
def q_law06_DiskTwins_10 : List DOp := [
  ⟨⟨(some 47), (.mv (.t 5)), none⟩, true, false, none, []⟩,
  ⟨⟨(some 48), (.load .ag 5 (.t 7)), none⟩, true, false, none, []⟩,
  ⟨⟨(some 49), (.mv (.t 0)), none⟩, true, false, none, []⟩,
  ⟨⟨(some 50), (.mv (.t 10)), none⟩, true, false, none, []⟩,
  ⟨⟨(some 51), (.idx 4 (.t 49) (.t 50)), none⟩, true, false, none, []⟩,
  ⟨⟨(some 52), (.load .ag 4 (.t 51)), none⟩, true, false, none, []⟩,
  ⟨⟨(some 53), (.call F_law06_do [(.sc, (.t 47)), (.ag, (.t 48)), (.ag, (.t 52))]), none⟩, false, false, none, []⟩,
  ⟨⟨(some 46), (.mv (.t 53)), none⟩, true, false, none, []⟩,
  ⟨⟨(some 54), (.ext 0 (.t 46)), none⟩, true, false, none, []⟩,
  ⟨⟨(some 55), (.ext 1 (.t 46)), none⟩, true, false, none, []⟩,
  ⟨⟨none, (.store .ag 5 (.t 7) (.t 54)), none⟩, false, false, none, []⟩,
  ⟨⟨(some 9), (.mv (.t 55)), none⟩, true, false, none, []⟩]
def q_law06_DiskTwins_11 : List AOper := [
  ⟨(some 44), (.mv (.t 10)), none⟩,
  ⟨(some 45), (.bin .add (.t 44) (.v (.int .i64 1))), none⟩,
  ⟨(some 10), (.mv (.t 45)), none⟩]
def q_law06_DiskTwins_L12 : ACode := (.seq (.seq (.region q_law06_DiskTwins_9) (.cond (.t 43) .skip (.exit 0))) (.seq (.block 1 (.regionD q_law06_DiskTwins_10)) (.region q_law06_DiskTwins_11)))
def q_law06_DiskTwins_12 : List AOper := [
  ⟨(some 56), (.mv (.t 5)), none⟩,
  ⟨(some 57), (.call F_Pdisk_Disk_Twin [(.sc, (.t 56))]), none⟩,
  ⟨(some 11), (.mv (.t 57)), none⟩]
def q_law06_DiskTwins_13 : List AOper := [
  ⟨(some 58), (.mv (.t 9)), none⟩,
  ⟨(some 59), (.un .not (.t 58)), none⟩,
  ⟨(some 60), (.mv (.t 59)), none⟩,
  ⟨(some 61), (.mv (.t 11)), (some (60, false))⟩,
  ⟨(some 62), (.xx (.p (.isNil .ptr false)) [(.t 61)]), (some (60, false))⟩,
  ⟨(some 63), (.pick (.t 60) (.v (.bool true)) (.t 62)), none⟩,
  ⟨(some 64), (.mv (.t 63)), none⟩,
  ⟨(some 65), (.mv (.t 11)), (some (64, false))⟩,
  ⟨(some 66), (.load .ag 5 (.t 7)), (some (64, false))⟩,
  ⟨(some 67), (.call F_law06_same [(.sc, (.t 65)), (.ag, (.t 66))]), (some (64, false))⟩,
  ⟨(some 68), (.un .not (.t 67)), (some (64, false))⟩,
  ⟨(some 69), (.pick (.t 64) (.v (.bool true)) (.t 68)), none⟩]
def q_law06_DiskTwins_14 : List AOper := [
  ⟨(some 4), (.mv (.v (.bool false))), none⟩]
def q_law06_DiskTwins_15 : List AOper := [
  ⟨(some 70), (.load .ag 5 (.t 7)), none⟩,
  ⟨(some 12), (.alloc 67 [.nilS, .nilS, (.int .i64 0), (.int .i64 0), (.bool false)]), none⟩,
  ⟨none, (.store .ag 5 (.t 12) (.t 70)), none⟩]
def q_law06_DiskTwins_16 : List AOper := [
  ⟨(some 13), (.mv (.v (.int .i64 0))), none⟩]
def q_law06_DiskTwins_17 : List AOper := [
  ⟨(some 71), (.mv (.t 13)), none⟩,
  ⟨(some 72), (.mv (.t 1)), none⟩,
  ⟨(some 73), (.len false (.t 72)), none⟩,
  ⟨(some 74), (.bin .lss (.t 71) (.t 73)), none⟩,
  ⟨(some 75), (.mv (.t 74)), none⟩,
  ⟨(some 76), (.mv (.t 9)), (some (75, true))⟩,
  ⟨(some 77), (.pick (.t 75) (.t 76) (.v (.bool false))), none⟩]
def q_law06_DiskTwins_18 : List DOp := [
  ⟨⟨(some 81), (.mv (.t 11)), none⟩, true, false, none, []⟩,
  ⟨⟨(some 82), (.load .ag 5 (.t 12)), none⟩, true, false, none, []⟩,
  ⟨⟨(some 83), (.mv (.t 1)), none⟩, true, false, none, []⟩,
  ⟨⟨(some 84), (.mv (.t 13)), none⟩, true, false, none, []⟩,
  ⟨⟨(some 85), (.idx 4 (.t 83) (.t 84)), none⟩, true, false, none, []⟩,
  ⟨⟨(some 86), (.load .ag 4 (.t 85)), none⟩, true, false, none, []⟩,
  ⟨⟨(some 87), (.call F_law06_do [(.sc, (.t 81)), (.ag, (.t 82)), (.ag, (.t 86))]), none⟩, false, false, none, []⟩,
  ⟨⟨(some 80), (.mv (.t 87)), none⟩, true, false, none, []⟩,
  ⟨⟨(some 88), (.ext 0 (.t 80)), none⟩, true, false, none, []⟩,
  ⟨⟨(some 89), (.ext 1 (.t 80)), none⟩, true, false, none, []⟩,
  ⟨⟨none, (.store .ag 5 (.t 12) (.t 88)), none⟩, false, false, none, []⟩,
  ⟨⟨(some 9), (.mv (.t 89)), none⟩, true, false, none, []⟩]
def q_law06_DiskTwins_19 : List AOper := [
  ⟨(some 78), (.mv (.t 13)), none⟩,
  ⟨(some 79), (.bin .add (.t 78) (.v (.int .i64 1))), none⟩,
  ⟨(some 13), (.mv (.t 79)), none⟩]
def q_law06_DiskTwins_L20 : ACode := (.seq (.seq (.region q_law06_DiskTwins_17) (.cond (.t 77) .skip (.exit 2))) (.seq (.block 3 (.regionD q_law06_DiskTwins_18)) (.region q_law06_DiskTwins_19)))
def q_law06_DiskTwins_20 : List AOper := [
  ⟨(some 90), (.mv (.t 9)), none⟩,
  ⟨(some 91), (.mv (.t 90)), none⟩,
  ⟨(some 92), (.mv (.t 5)), (some (91, true))⟩,
  ⟨(some 93), (.load .ag 5 (.t 7)), (some (91, true))⟩,
  ⟨(some 94), (.call F_law06_same [(.sc, (.t 92)), (.ag, (.t 93))]), (some (91, true))⟩,
  ⟨(some 95), (.pick (.t 91) (.t 94) (.v (.bool false))), none⟩,
  ⟨(some 96), (.mv (.t 95)), none⟩,
  ⟨(some 97), (.mv (.t 11)), (some (96, true))⟩,
  ⟨(some 98), (.load .ag 5 (.t 12)), (some (96, true))⟩,
  ⟨(some 99), (.call F_law06_same [(.sc, (.t 97)), (.ag, (.t 98))]), (some (96, true))⟩,
  ⟨(some 100), (.pick (.t 96) (.t 99) (.v (.bool false))), none⟩,
  ⟨(some 101), (.mv (.t 100)), none⟩,
  ⟨(some 102), (.call F_law06_works []), (some (101, true))⟩,
  ⟨(some 103), (.pick (.t 101) (.t 102) (.v (.bool false))), none⟩,
  ⟨(some 4), (.mv (.t 103)), none⟩]
def a_law06_DiskTwins : AFunc := ⟨[(.tmp 4)], (.seq (.region q_law06_DiskTwins_0) (.seq (.seq (.region q_law06_DiskTwins_1) (.cond (.t 21) (.seq (.region q_law06_DiskTwins_2) .ret) .skip)) (.seq (.region q_law06_DiskTwins_3) (.seq (.region q_law06_DiskTwins_4) (.seq (.seq (.region q_law06_DiskTwins_5) (.cond (.t 36) (.seq (.region q_law06_DiskTwins_6) .ret) .skip)) (.seq (.region q_law06_DiskTwins_7) (.seq (.seq (.region q_law06_DiskTwins_8) (.block 0 (.loop q_law06_DiskTwins_L12))) (.seq (.region q_law06_DiskTwins_12) (.seq (.seq (.region q_law06_DiskTwins_13) (.cond (.t 69) (.seq (.region q_law06_DiskTwins_14) .ret) .skip)) (.seq (.region q_law06_DiskTwins_15) (.seq (.seq (.region q_law06_DiskTwins_16) (.block 2 (.loop q_law06_DiskTwins_L20))) (.seq (.region q_law06_DiskTwins_20) .ret))))))))))))⟩

def q_law06_light_0 : List AOper := [
  ⟨(some 2), (.mv (.v (.bool false))), none⟩]
def q_law06_light_1 : List AOper := [
  ⟨(some 4), (.mv (.t 0)), none⟩,
  ⟨(some 5), (.len false (.t 4)), none⟩,
  ⟨(some 6), (.bin .gtr (.t 5) (.v (.int .i64 80))), none⟩]
def q_law06_light_2 : List AOper := [
  ⟨(some 2), (.mv (.v (.bool false))), none⟩]
def q_law06_light_3 : List AOper := [
  ⟨(some 3), (.mv (.v (.int .i64 0))), none⟩]
def q_law06_light_4 : List AOper := [
  ⟨(some 7), (.mv (.t 3)), none⟩,
  ⟨(some 8), (.mv (.t 0)), none⟩,
  ⟨(some 9), (.len false (.t 8)), none⟩,
  ⟨(some 10), (.bin .lss (.t 7) (.t 9)), none⟩]
def q_law06_light_5 : List AOper := [
  ⟨(some 13), (.mv (.t 0)), none⟩,
  ⟨(some 14), (.mv (.t 3)), none⟩,
  ⟨(some 15), (.idx 4 (.t 13) (.t 14)), none⟩,
  ⟨(some 16), (.fadr 3 1 .sc (.t 15)), none⟩,
  ⟨(some 17), (.load .sc 1 (.t 16)), none⟩,
  ⟨(some 18), (.len false (.t 17)), none⟩,
  ⟨(some 19), (.bin .gtr (.t 18) (.v (.int .i64 100))), none⟩]
def q_law06_light_6 : List AOper := [
  ⟨(some 2), (.mv (.v (.bool false))), none⟩]
def q_law06_light_7 : List AOper := [
  ⟨(some 11), (.mv (.t 3)), none⟩,
  ⟨(some 12), (.bin .add (.t 11) (.v (.int .i64 1))), none⟩,
  ⟨(some 3), (.mv (.t 12)), none⟩]
def q_law06_light_L8 : ACode := (.seq (.seq (.region q_law06_light_4) (.cond (.t 10) .skip (.exit 0))) (.seq (.block 1 (.seq (.region q_law06_light_5) (.cond (.t 19) (.seq (.region q_law06_light_6) .ret) .skip))) (.region q_law06_light_7)))
def q_law06_light_8 : List AOper := [
  ⟨(some 2), (.mv (.v (.bool true))), none⟩]
def a_law06_light : AFunc := ⟨[(.tmp 2)], (.seq (.region q_law06_light_0) (.seq (.seq (.region q_law06_light_1) (.cond (.t 6) (.seq (.region q_law06_light_2) .ret) .skip)) (.seq (.seq (.region q_law06_light_3) (.block 0 (.loop q_law06_light_L8))) (.seq (.region q_law06_light_8) .ret))))⟩

def q_law06_works_0 : List AOper := [
  ⟨(some 0), (.mv (.v (.bool false))), none⟩]
def q_law06_works_1 : List AOper := [
  ⟨(some 17), (.call F_disk_New [(.sc, (.v (.int .i64 3)))]), none⟩,
  ⟨(some 16), (.mv (.t 17)), none⟩,
  ⟨(some 18), (.ext 0 (.t 16)), none⟩,
  ⟨(some 19), (.ext 1 (.t 16)), none⟩,
  ⟨(some 1), (.mv (.t 18)), none⟩,
  ⟨(some 2), (.mv (.t 19)), none⟩]
def q_law06_works_2 : List AOper := [
  ⟨(some 21), (.call F_disk_New [(.sc, (.v (.int .i64 0)))]), none⟩,
  ⟨(some 20), (.mv (.t 21)), none⟩,
  ⟨(some 22), (.ext 0 (.t 20)), none⟩,
  ⟨(some 23), (.ext 1 (.t 20)), none⟩,
  ⟨(some 3), (.mv (.t 22)), none⟩,
  ⟨(some 4), (.mv (.t 23)), none⟩]
def q_law06_works_3 : List AOper := [
  ⟨(some 24), (.mv (.t 1)), none⟩,
  ⟨(some 25), (.xx (.p (.isNil .ptr false)) [(.t 24)]), none⟩]
def q_law06_works_4 : List AOper := [
  ⟨(some 0), (.mv (.v (.bool false))), none⟩]
def q_law06_works_5 : List AOper := [
  ⟨(some 26), (.mv (.t 1)), none⟩,
  ⟨(some 27), (.call F_law06_Filled [(.sc, (.v (.int .u8 5)))]), none⟩,
  ⟨(some 28), (.call F_Pdisk_Disk_Write [(.sc, (.t 26)), (.sc, (.v (.int .i64 1))), ((.ia .u8 256), (.t 27))]), none⟩,
  ⟨(some 5), (.mv (.t 28)), none⟩]
def q_law06_works_6 : List AOper := [
  ⟨(some 30), (.mv (.t 1)), none⟩,
  ⟨(some 31), (.call F_Pdisk_Disk_Read [(.sc, (.t 30)), (.sc, (.v (.int .i64 1)))]), none⟩,
  ⟨(some 29), (.mv (.t 31)), none⟩,
  ⟨(some 32), (.ext 0 (.t 29)), none⟩,
  ⟨(some 33), (.ext 1 (.t 29)), none⟩,
  ⟨(some 6), (.alloc 78 [(.iarr .u8 256 (List.replicate 256 0))]), none⟩,
  ⟨none, (.store (.ia .u8 256) 256 (.t 6) (.t 32)), none⟩,
  ⟨(some 7), (.mv (.t 33)), none⟩]
def q_law06_works_7 : List AOper := [
  ⟨(some 34), (.mv (.t 1)), none⟩,
  ⟨(some 35), (.call F_Pdisk_Disk_Twin [(.sc, (.t 34))]), none⟩,
  ⟨(some 8), (.mv (.t 35)), none⟩]
def q_law06_works_8 : List AOper := [
  ⟨(some 36), (.mv (.t 1)), none⟩,
  ⟨(some 37), (.call F_law06_Filled [(.sc, (.v (.int .u8 1)))]), none⟩,
  ⟨(some 38), (.call F_Pdisk_Disk_Write [(.sc, (.t 36)), (.sc, (.v (.int .i64 3))), ((.ia .u8 256), (.t 37))]), none⟩,
  ⟨(some 9), (.mv (.t 38)), none⟩]
def q_law06_works_9 : List AOper := [
  ⟨(some 39), (.mv (.t 1)), none⟩,
  ⟨(some 40), (.bsl 4 .sc 1 [(.v (.bool false))]), none⟩,
  ⟨(some 41), (.call F_Pdisk_Disk_Crash [(.sc, (.t 39)), (.sc, (.t 40))]), none⟩,
  ⟨(some 10), (.mv (.t 41)), none⟩]
def q_law06_works_10 : List AOper := [
  ⟨(some 43), (.mv (.t 1)), none⟩,
  ⟨(some 44), (.call F_Pdisk_Disk_Read [(.sc, (.t 43)), (.sc, (.v (.int .i64 1)))]), none⟩,
  ⟨(some 42), (.mv (.t 44)), none⟩,
  ⟨(some 45), (.ext 0 (.t 42)), none⟩,
  ⟨(some 46), (.ext 1 (.t 42)), none⟩,
  ⟨(some 11), (.alloc 78 [(.iarr .u8 256 (List.replicate 256 0))]), none⟩,
  ⟨none, (.store (.ia .u8 256) 256 (.t 11) (.t 45)), none⟩,
  ⟨(some 12), (.mv (.t 46)), none⟩]
def q_law06_works_11 : List AOper := [
  ⟨(some 47), (.mv (.t 1)), none⟩,
  ⟨(some 48), (.call F_Pdisk_Disk_Fuse [(.sc, (.t 47)), (.sc, (.v (.int .i64 0)))]), none⟩]
def q_law06_works_12 : List AOper := [
  ⟨(some 49), (.mv (.t 1)), none⟩,
  ⟨(some 50), (.call F_Pdisk_Disk_Flush [(.sc, (.t 49))]), none⟩,
  ⟨(some 13), (.mv (.t 50)), none⟩]
def q_law06_works_13 : List AOper := [
  ⟨(some 51), (.mv (.t 8)), none⟩,
  ⟨(some 52), (.xx (.p (.isNil .ptr false)) [(.t 51)]), none⟩]
def q_law06_works_14 : List AOper := [
  ⟨(some 0), (.mv (.v (.bool false))), none⟩]
def q_law06_works_15 : List AOper := [
  ⟨(some 53), (.mv (.t 8)), none⟩,
  ⟨(some 54), (.bsl 4 .sc 1 [(.v (.bool true))]), none⟩,
  ⟨(some 55), (.call F_Pdisk_Disk_Crash [(.sc, (.t 53)), (.sc, (.t 54))]), none⟩,
  ⟨(some 14), (.mv (.t 55)), none⟩]
def q_law06_works_16 : List AOper := [
  ⟨(some 56), (.mv (.t 8)), none⟩,
  ⟨(some 57), (.call F_Pdisk_Disk_Image [(.sc, (.t 56))]), none⟩,
  ⟨(some 15), (.mv (.t 57)), none⟩]
def q_law06_works_17 : List DOp := [
  ⟨⟨(some 58), (.mv (.t 2)), none⟩, true, false, none, []⟩,
  ⟨⟨(some 59), (.eq .scI false (.t 58) (.v (.int .i64 0))), none⟩, true, false, none, []⟩,
  ⟨⟨(some 60), (.mv (.t 59)), none⟩, true, false, none, []⟩,
  ⟨⟨(some 61), (.mv (.t 4)), (some (60, true))⟩, true, false, none, []⟩,
  ⟨⟨(some 62), (.eq .scI false (.t 61) (.v (.int .i64 2))), (some (60, true))⟩, true, false, none, []⟩,
  ⟨⟨(some 63), (.pick (.t 60) (.t 62) (.v (.bool false))), none⟩, true, false, none, []⟩,
  ⟨⟨(some 64), (.mv (.t 63)), none⟩, true, false, none, []⟩,
  ⟨⟨(some 65), (.mv (.t 5)), (some (64, true))⟩, true, false, none, []⟩,
  ⟨⟨(some 66), (.eq .scI false (.t 65) (.v (.int .i64 0))), (some (64, true))⟩, true, false, none, []⟩,
  ⟨⟨(some 67), (.pick (.t 64) (.t 66) (.v (.bool false))), none⟩, true, false, none, []⟩,
  ⟨⟨(some 68), (.mv (.t 67)), none⟩, true, false, none, []⟩,
  ⟨⟨(some 69), (.mv (.t 7)), (some (68, true))⟩, true, false, none, []⟩,
  ⟨⟨(some 70), (.eq .scI false (.t 69) (.v (.int .i64 0))), (some (68, true))⟩, true, false, none, []⟩,
  ⟨⟨(some 71), (.pick (.t 68) (.t 70) (.v (.bool false))), none⟩, true, false, none, []⟩,
  ⟨⟨(some 72), (.mv (.t 71)), none⟩, true, false, none, []⟩,
  ⟨⟨(some 73), (.load (.ia .u8 256) 256 (.t 6)), (some (72, true))⟩, true, false, none, []⟩,
  ⟨⟨(some 74), (.call F_law06_Filled [(.sc, (.v (.int .u8 5)))]), (some (72, true))⟩, false, true, (some [6]), []⟩,
  ⟨⟨(some 75), (.eq (.ia 256) false (.t 73) (.t 74)), (some (72, true))⟩, true, false, none, []⟩,
  ⟨⟨(some 76), (.pick (.t 72) (.t 75) (.v (.bool false))), none⟩, true, false, none, []⟩,
  ⟨⟨(some 77), (.mv (.t 76)), none⟩, true, false, none, []⟩,
  ⟨⟨(some 78), (.mv (.t 9)), (some (77, true))⟩, true, false, none, []⟩,
  ⟨⟨(some 79), (.eq .scI false (.t 78) (.v (.int .i64 2))), (some (77, true))⟩, true, false, none, []⟩,
  ⟨⟨(some 80), (.pick (.t 77) (.t 79) (.v (.bool false))), none⟩, true, false, none, []⟩,
  ⟨⟨(some 81), (.mv (.t 80)), none⟩, true, false, none, []⟩,
  ⟨⟨(some 82), (.mv (.t 10)), (some (81, true))⟩, true, false, none, []⟩,
  ⟨⟨(some 83), (.eq .scI false (.t 82) (.v (.int .i64 0))), (some (81, true))⟩, true, false, none, []⟩,
  ⟨⟨(some 84), (.pick (.t 81) (.t 83) (.v (.bool false))), none⟩, true, false, none, []⟩,
  ⟨⟨(some 85), (.mv (.t 84)), none⟩, true, false, none, []⟩,
  ⟨⟨(some 86), (.load (.ia .u8 256) 256 (.t 11)), (some (85, true))⟩, true, false, none, []⟩,
  ⟨⟨(some 87), (.call F_law06_Filled [(.sc, (.v (.int .u8 0)))]), (some (85, true))⟩, false, true, (some [11]), []⟩,
  ⟨⟨(some 88), (.eq (.ia 256) false (.t 86) (.t 87)), (some (85, true))⟩, true, false, none, []⟩,
  ⟨⟨(some 89), (.pick (.t 85) (.t 88) (.v (.bool false))), none⟩, true, false, none, []⟩,
  ⟨⟨(some 90), (.mv (.t 89)), none⟩, true, false, none, []⟩,
  ⟨⟨(some 91), (.mv (.t 13)), (some (90, true))⟩, true, false, none, []⟩,
  ⟨⟨(some 92), (.eq .scI false (.t 91) (.v (.int .i64 4))), (some (90, true))⟩, true, false, none, []⟩,
  ⟨⟨(some 93), (.pick (.t 90) (.t 92) (.v (.bool false))), none⟩, true, false, none, []⟩,
  ⟨⟨(some 94), (.mv (.t 93)), none⟩, true, false, none, []⟩,
  ⟨⟨(some 95), (.mv (.t 1)), (some (94, true))⟩, true, false, none, []⟩,
  ⟨⟨(some 96), (.call F_Pdisk_Disk_Down [(.sc, (.t 95))]), (some (94, true))⟩, false, false, none, []⟩,
  ⟨⟨(some 97), (.pick (.t 94) (.t 96) (.v (.bool false))), none⟩, true, false, none, []⟩,
  ⟨⟨(some 98), (.mv (.t 97)), none⟩, true, false, none, []⟩,
  ⟨⟨(some 99), (.mv (.t 14)), (some (98, true))⟩, true, false, none, []⟩,
  ⟨⟨(some 100), (.eq .scI false (.t 99) (.v (.int .i64 1))), (some (98, true))⟩, true, false, none, []⟩,
  ⟨⟨(some 101), (.pick (.t 98) (.t 100) (.v (.bool false))), none⟩, true, false, none, []⟩,
  ⟨⟨(some 102), (.mv (.t 101)), none⟩, true, false, none, []⟩,
  ⟨⟨(some 103), (.mv (.t 15)), (some (102, true))⟩, true, false, none, []⟩,
  ⟨⟨(some 104), (.len false (.t 103)), (some (102, true))⟩, true, false, none, []⟩,
  ⟨⟨(some 105), (.eq .scI false (.t 104) (.v (.int .i64 3))), (some (102, true))⟩, true, false, none, []⟩,
  ⟨⟨(some 106), (.pick (.t 102) (.t 105) (.v (.bool false))), none⟩, true, false, none, []⟩,
  ⟨⟨(some 107), (.mv (.t 106)), none⟩, true, false, none, []⟩,
  ⟨⟨(some 108), (.mv (.t 15)), (some (107, true))⟩, true, false, none, []⟩,
  ⟨⟨(some 109), (.idx 256 (.t 108) (.v (.int .i64 1))), (some (107, true))⟩, true, false, none, []⟩,
  ⟨⟨(some 110), (.load (.ia .u8 256) 256 (.t 109)), (some (107, true))⟩, true, false, none, []⟩,
  ⟨⟨(some 111), (.call F_law06_Filled [(.sc, (.v (.int .u8 5)))]), (some (107, true))⟩, false, true, (some [109, 108]), []⟩,
  ⟨⟨(some 112), (.eq (.ia 256) false (.t 110) (.t 111)), (some (107, true))⟩, true, false, none, []⟩,
  ⟨⟨(some 113), (.pick (.t 107) (.t 112) (.v (.bool false))), none⟩, true, false, none, []⟩,
  ⟨⟨(some 114), (.mv (.t 113)), none⟩, true, false, none, []⟩,
  ⟨⟨(some 115), (.mv (.t 1)), (some (114, true))⟩, true, false, none, []⟩,
  ⟨⟨(some 116), (.call F_Pdisk_Disk_Size [(.sc, (.t 115))]), (some (114, true))⟩, false, false, none, []⟩,
  ⟨⟨(some 117), (.eq .scI false (.t 116) (.v (.int .i64 3))), (some (114, true))⟩, true, false, none, []⟩,
  ⟨⟨(some 118), (.pick (.t 114) (.t 117) (.v (.bool false))), none⟩, true, false, none, []⟩,
  ⟨⟨(some 119), (.mv (.t 118)), none⟩, true, false, none, []⟩,
  ⟨⟨(some 120), (.mv (.t 1)), (some (119, true))⟩, true, false, none, []⟩,
  ⟨⟨(some 121), (.call F_Pdisk_Disk_Steps [(.sc, (.t 120))]), (some (119, true))⟩, false, false, none, []⟩,
  ⟨⟨(some 122), (.eq .scI false (.t 121) (.v (.int .i64 1))), (some (119, true))⟩, true, false, none, []⟩,
  ⟨⟨(some 123), (.pick (.t 119) (.t 122) (.v (.bool false))), none⟩, true, false, none, []⟩,
  ⟨⟨(some 124), (.mv (.t 123)), none⟩, true, false, none, []⟩,
  ⟨⟨(some 125), (.mv (.t 1)), (some (124, true))⟩, true, false, none, []⟩,
  ⟨⟨(some 126), (.call F_Pdisk_Disk_Waits [(.sc, (.t 125))]), (some (124, true))⟩, false, false, none, []⟩,
  ⟨⟨(some 127), (.eq .scI false (.t 126) (.v (.int .i64 0))), (some (124, true))⟩, true, false, none, []⟩,
  ⟨⟨(some 128), (.pick (.t 124) (.t 127) (.v (.bool false))), none⟩, true, false, none, []⟩,
  ⟨⟨(some 129), (.mv (.t 128)), none⟩, true, false, none, []⟩,
  ⟨⟨(some 130), (.mv (.t 1)), (some (129, true))⟩, true, false, none, []⟩,
  ⟨⟨(some 131), (.call F_Pdisk_Disk_Pending [(.sc, (.t 130))]), (some (129, true))⟩, false, false, none, []⟩,
  ⟨⟨(some 132), (.len false (.t 131)), (some (129, true))⟩, true, false, none, []⟩,
  ⟨⟨(some 133), (.eq .scI false (.t 132) (.v (.int .i64 0))), (some (129, true))⟩, true, false, none, []⟩,
  ⟨⟨(some 134), (.pick (.t 129) (.t 133) (.v (.bool false))), none⟩, true, false, none, []⟩,
  ⟨⟨(some 0), (.mv (.t 134)), none⟩, true, false, none, []⟩]
def a_law06_works : AFunc := ⟨[(.tmp 0)], (.seq (.region q_law06_works_0) (.seq (.region q_law06_works_1) (.seq (.region q_law06_works_2) (.seq (.seq (.region q_law06_works_3) (.cond (.t 25) (.seq (.region q_law06_works_4) .ret) .skip)) (.seq (.region q_law06_works_5) (.seq (.region q_law06_works_6) (.seq (.region q_law06_works_7) (.seq (.region q_law06_works_8) (.seq (.region q_law06_works_9) (.seq (.region q_law06_works_10) (.seq (.region q_law06_works_11) (.seq (.region q_law06_works_12) (.seq (.seq (.region q_law06_works_13) (.cond (.t 52) (.seq (.region q_law06_works_14) .ret) .skip)) (.seq (.region q_law06_works_15) (.seq (.region q_law06_works_16) (.seq (.regionD q_law06_works_17) .ret))))))))))))))))⟩

def q_law06_do_0 : List AOper := [
  ⟨(some 4), (.box 67 .ag (.t 1)), none⟩,
  ⟨(some 5), (.box 74 .ag (.t 2)), none⟩,
  ⟨(some 6), (.alloc 67 [.nilS, .nilS, (.int .i64 0), (.int .i64 0), (.bool false)]), none⟩,
  ⟨(some 7), (.mv (.v (.bool false))), none⟩]
def q_law06_do_1 : List AOper := [
  ⟨(some 18), (.fadr 0 1 .sc (.t 5)), none⟩,
  ⟨(some 19), (.load .sc 1 (.t 18)), none⟩]
def q_law06_do_2 : List AOper := [
  ⟨(some 21), (.eq .scI false (.t 19) (.v (.int .i64 0))), none⟩,
  ⟨(some 20), (.mv (.t 21)), none⟩]
def q_law06_do_3 : List AOper := [
  ⟨(some 22), (.eq .scI false (.t 19) (.v (.int .i64 1))), none⟩,
  ⟨(some 20), (.mv (.t 22)), none⟩]
def q_law06_do_4 : List DOp := [
  ⟨⟨(some 24), (.load .ag 5 (.t 4)), none⟩, true, false, none, []⟩,
  ⟨⟨(some 25), (.fadr 1 1 .sc (.t 5)), none⟩, true, false, none, []⟩,
  ⟨⟨(some 26), (.load .sc 1 (.t 25)), none⟩, true, false, none, []⟩,
  ⟨⟨(some 27), (.fadr 2 1 .sc (.t 5)), none⟩, true, false, none, []⟩,
  ⟨⟨(some 28), (.load .sc 1 (.t 27)), none⟩, true, false, none, []⟩,
  ⟨⟨(some 29), (.call F_law06_Filled [(.sc, (.t 28))]), none⟩, false, true, (some [25, 4]), []⟩,
  ⟨⟨(some 30), (.call F_ref06_Put [(.ag, (.t 24)), (.sc, (.t 26)), ((.ia .u8 256), (.t 29))]), none⟩, false, false, none, []⟩,
  ⟨⟨(some 23), (.mv (.t 30)), none⟩, true, false, none, []⟩,
  ⟨⟨(some 31), (.ext 0 (.t 23)), none⟩, true, false, none, []⟩,
  ⟨⟨(some 32), (.ext 1 (.t 23)), none⟩, true, false, none, []⟩,
  ⟨⟨(some 8), (.alloc 67 [.nilS, .nilS, (.int .i64 0), (.int .i64 0), (.bool false)]), none⟩, false, false, none, []⟩,
  ⟨⟨none, (.store .ag 5 (.t 8) (.t 31)), none⟩, false, false, none, []⟩,
  ⟨⟨(some 9), (.mv (.t 32)), none⟩, true, false, none, []⟩]
def q_law06_do_5 : List DOp := [
  ⟨⟨(some 33), (.load .ag 5 (.t 8)), none⟩, true, false, none, []⟩,
  ⟨⟨(some 34), (.mv (.t 0)), none⟩, true, false, none, []⟩,
  ⟨⟨(some 35), (.fadr 1 1 .sc (.t 5)), none⟩, true, false, none, []⟩,
  ⟨⟨(some 36), (.load .sc 1 (.t 35)), none⟩, true, false, none, []⟩,
  ⟨⟨(some 37), (.fadr 2 1 .sc (.t 5)), none⟩, true, false, none, []⟩,
  ⟨⟨(some 38), (.load .sc 1 (.t 37)), none⟩, true, false, none, []⟩,
  ⟨⟨(some 41), (.mv (.t 9)), none⟩, true, false, none, []⟩,
  ⟨⟨(some 39), (.call F_law06_Filled [(.sc, (.t 38))]), none⟩, false, true, (some [35, 8]), []⟩,
  ⟨⟨(some 40), (.call F_Pdisk_Disk_Write [(.sc, (.t 34)), (.sc, (.t 36)), ((.ia .u8 256), (.t 39))]), none⟩, false, true, (some [8]), []⟩,
  ⟨⟨(some 42), (.eq .scI false (.t 40) (.t 41)), none⟩, true, false, none, []⟩,
  ⟨⟨none, (.store .ag 5 (.t 6) (.t 33)), none⟩, false, false, none, []⟩,
  ⟨⟨(some 7), (.mv (.t 42)), none⟩, true, false, none, []⟩]
def q_law06_do_6 : List AOper := [
  ⟨(some 44), (.eq .scI false (.t 19) (.v (.int .i64 2))), none⟩,
  ⟨(some 43), (.mv (.t 44)), none⟩]
def q_law06_do_7 : List AOper := [
  ⟨(some 46), (.load .ag 5 (.t 4)), none⟩,
  ⟨(some 47), (.fadr 1 1 .sc (.t 5)), none⟩,
  ⟨(some 48), (.load .sc 1 (.t 47)), none⟩,
  ⟨(some 49), (.call F_ref06_Read [(.ag, (.t 46)), (.sc, (.t 48))]), none⟩,
  ⟨(some 45), (.mv (.t 49)), none⟩,
  ⟨(some 50), (.ext 0 (.t 45)), none⟩,
  ⟨(some 51), (.ext 1 (.t 45)), none⟩,
  ⟨(some 10), (.alloc 78 [(.iarr .u8 256 (List.replicate 256 0))]), none⟩,
  ⟨none, (.store (.ia .u8 256) 256 (.t 10) (.t 50)), none⟩,
  ⟨(some 11), (.mv (.t 51)), none⟩]
def q_law06_do_8 : List AOper := [
  ⟨(some 53), (.mv (.t 0)), none⟩,
  ⟨(some 54), (.fadr 1 1 .sc (.t 5)), none⟩,
  ⟨(some 55), (.load .sc 1 (.t 54)), none⟩,
  ⟨(some 56), (.call F_Pdisk_Disk_Read [(.sc, (.t 53)), (.sc, (.t 55))]), none⟩,
  ⟨(some 52), (.mv (.t 56)), none⟩,
  ⟨(some 57), (.ext 0 (.t 52)), none⟩,
  ⟨(some 58), (.ext 1 (.t 52)), none⟩,
  ⟨(some 12), (.alloc 78 [(.iarr .u8 256 (List.replicate 256 0))]), none⟩,
  ⟨none, (.store (.ia .u8 256) 256 (.t 12) (.t 57)), none⟩,
  ⟨(some 13), (.mv (.t 58)), none⟩]
def q_law06_do_9 : List DOp := [
  ⟨⟨(some 59), (.load .ag 5 (.t 4)), none⟩, true, false, none, []⟩,
  ⟨⟨(some 60), (.load (.ia .u8 256) 256 (.t 10)), none⟩, true, false, none, []⟩,
  ⟨⟨(some 61), (.load (.ia .u8 256) 256 (.t 12)), none⟩, true, false, none, []⟩,
  ⟨⟨(some 62), (.eq (.ia 256) false (.t 60) (.t 61)), none⟩, true, false, none, []⟩,
  ⟨⟨(some 63), (.mv (.t 62)), none⟩, true, false, none, []⟩,
  ⟨⟨(some 64), (.mv (.t 13)), (some (63, true))⟩, true, false, none, []⟩,
  ⟨⟨(some 65), (.mv (.t 11)), (some (63, true))⟩, true, false, none, []⟩,
  ⟨⟨(some 66), (.eq .scI false (.t 64) (.t 65)), (some (63, true))⟩, true, false, none, []⟩,
  ⟨⟨(some 67), (.pick (.t 63) (.t 66) (.v (.bool false))), none⟩, true, false, none, []⟩,
  ⟨⟨none, (.store .ag 5 (.t 6) (.t 59)), none⟩, false, false, none, []⟩,
  ⟨⟨(some 7), (.mv (.t 67)), none⟩, true, false, none, []⟩]
def q_law06_do_10 : List AOper := [
  ⟨(some 69), (.eq .scI false (.t 19) (.v (.int .i64 3))), none⟩,
  ⟨(some 68), (.mv (.t 69)), none⟩]
def q_law06_do_11 : List AOper := [
  ⟨(some 71), (.load .ag 5 (.t 4)), none⟩,
  ⟨(some 72), (.call F_ref06_Flush [(.ag, (.t 71))]), none⟩,
  ⟨(some 70), (.mv (.t 72)), none⟩,
  ⟨(some 73), (.ext 0 (.t 70)), none⟩,
  ⟨(some 74), (.ext 1 (.t 70)), none⟩,
  ⟨(some 14), (.alloc 67 [.nilS, .nilS, (.int .i64 0), (.int .i64 0), (.bool false)]), none⟩,
  ⟨none, (.store .ag 5 (.t 14) (.t 73)), none⟩,
  ⟨(some 15), (.mv (.t 74)), none⟩]
def q_law06_do_12 : List DOp := [
  ⟨⟨(some 75), (.load .ag 5 (.t 14)), none⟩, true, false, none, []⟩,
  ⟨⟨(some 76), (.mv (.t 0)), none⟩, true, false, none, []⟩,
  ⟨⟨(some 78), (.mv (.t 15)), none⟩, true, false, none, []⟩,
  ⟨⟨(some 77), (.call F_Pdisk_Disk_Flush [(.sc, (.t 76))]), none⟩, false, true, (some [14]), []⟩,
  ⟨⟨(some 79), (.eq .scI false (.t 77) (.t 78)), none⟩, true, false, none, []⟩,
  ⟨⟨none, (.store .ag 5 (.t 6) (.t 75)), none⟩, false, false, none, []⟩,
  ⟨⟨(some 7), (.mv (.t 79)), none⟩, true, false, none, []⟩]
def q_law06_do_13 : List AOper := [
  ⟨(some 81), (.eq .scI false (.t 19) (.v (.int .i64 4))), none⟩,
  ⟨(some 80), (.mv (.t 81)), none⟩]
def q_law06_do_14 : List AOper := [
  ⟨(some 83), (.load .ag 5 (.t 4)), none⟩,
  ⟨(some 84), (.fadr 3 1 .sc (.t 5)), none⟩,
  ⟨(some 85), (.load .sc 1 (.t 84)), none⟩,
  ⟨(some 86), (.call F_ref06_Crash [(.ag, (.t 83)), (.sc, (.t 85))]), none⟩,
  ⟨(some 82), (.mv (.t 86)), none⟩,
  ⟨(some 87), (.ext 0 (.t 82)), none⟩,
  ⟨(some 88), (.ext 1 (.t 82)), none⟩,
  ⟨(some 16), (.alloc 67 [.nilS, .nilS, (.int .i64 0), (.int .i64 0), (.bool false)]), none⟩,
  ⟨none, (.store .ag 5 (.t 16) (.t 87)), none⟩,
  ⟨(some 17), (.mv (.t 88)), none⟩]
def q_law06_do_15 : List DOp := [
  ⟨⟨(some 89), (.load .ag 5 (.t 16)), none⟩, true, false, none, []⟩,
  ⟨⟨(some 90), (.mv (.t 0)), none⟩, true, false, none, []⟩,
  ⟨⟨(some 91), (.fadr 3 1 .sc (.t 5)), none⟩, true, false, none, []⟩,
  ⟨⟨(some 92), (.load .sc 1 (.t 91)), none⟩, true, false, none, []⟩,
  ⟨⟨(some 94), (.mv (.t 17)), none⟩, true, false, none, []⟩,
  ⟨⟨(some 93), (.call F_Pdisk_Disk_Crash [(.sc, (.t 90)), (.sc, (.t 92))]), none⟩, false, true, (some [16]), []⟩,
  ⟨⟨(some 95), (.eq .scI false (.t 93) (.t 94)), none⟩, true, false, none, []⟩,
  ⟨⟨none, (.store .ag 5 (.t 6) (.t 89)), none⟩, false, false, none, []⟩,
  ⟨⟨(some 7), (.mv (.t 95)), none⟩, true, false, none, []⟩]
def q_law06_do_16 : List AOper := [
  ⟨(some 97), (.eq .scI false (.t 19) (.v (.int .i64 5))), none⟩,
  ⟨(some 96), (.mv (.t 97)), none⟩]
def q_law06_do_17 : List AOper := [
  ⟨(some 98), (.mv (.t 0)), none⟩,
  ⟨(some 99), (.fadr 1 1 .sc (.t 5)), none⟩,
  ⟨(some 100), (.load .sc 1 (.t 99)), none⟩,
  ⟨(some 101), (.call F_Pdisk_Disk_Fuse [(.sc, (.t 98)), (.sc, (.t 100))]), none⟩]
def q_law06_do_18 : List AOper := [
  ⟨(some 102), (.load .ag 5 (.t 4)), none⟩,
  ⟨(some 103), (.fadr 1 1 .sc (.t 5)), none⟩,
  ⟨(some 104), (.load .sc 1 (.t 103)), none⟩,
  ⟨(some 105), (.call F_ref06_Fuse [(.ag, (.t 102)), (.sc, (.t 104))]), none⟩,
  ⟨none, (.store .ag 5 (.t 6) (.t 105)), none⟩,
  ⟨(some 7), (.mv (.v (.bool true))), none⟩]
def q_law06_do_19 : List AOper := [
  ⟨(some 106), (.load .ag 5 (.t 4)), none⟩,
  ⟨none, (.store .ag 5 (.t 6) (.t 106)), none⟩,
  ⟨(some 7), (.mv (.v (.bool true))), none⟩]
def a_law06_do : AFunc := ⟨[(.cell 6 .ag 5), (.tmp 7)], (.seq (.region q_law06_do_0) (.seq (.seq (.region q_law06_do_1) (.block 0 (.seq (.seq (.region q_law06_do_2) (.cond (.t 20) .skip (.region q_law06_do_3))) (.cond (.t 20) (.seq (.regionD q_law06_do_4) (.seq (.regionD q_law06_do_5) .ret)) (.seq (.region q_law06_do_6) (.cond (.t 43) (.seq (.region q_law06_do_7) (.seq (.region q_law06_do_8) (.seq (.regionD q_law06_do_9) .ret))) (.seq (.region q_law06_do_10) (.cond (.t 68) (.seq (.region q_law06_do_11) (.seq (.regionD q_law06_do_12) .ret)) (.seq (.region q_law06_do_13) (.cond (.t 80) (.seq (.region q_law06_do_14) (.seq (.regionD q_law06_do_15) .ret)) (.seq (.region q_law06_do_16) (.cond (.t 96) (.seq (.region q_law06_do_17) (.seq (.region q_law06_do_18) .ret)) .skip)))))))))))) (.seq (.region q_law06_do_19) .ret)))⟩

def q_law06_same_0 : List AOper := [
  ⟨(some 3), (.box 67 .ag (.t 1)), none⟩,
  ⟨(some 4), (.mv (.v (.bool false))), none⟩]
def q_law06_same_1 : List AOper := [
  ⟨(some 7), (.mv (.t 0)), none⟩,
  ⟨(some 8), (.call F_Pdisk_Disk_Pending [(.sc, (.t 7))]), none⟩,
  ⟨(some 5), (.mv (.t 8)), none⟩]
def q_law06_same_2 : List DOp := [
  ⟨⟨(some 9), (.mv (.t 5)), none⟩, true, false, none, []⟩,
  ⟨⟨(some 10), (.len false (.t 9)), none⟩, true, false, none, []⟩,
  ⟨⟨(some 11), (.fadr 1 1 .sc (.t 3)), none⟩, true, false, none, []⟩,
  ⟨⟨(some 12), (.load .sc 1 (.t 11)), none⟩, true, false, none, []⟩,
  ⟨⟨(some 13), (.len false (.t 12)), none⟩, true, false, none, []⟩,
  ⟨⟨(some 14), (.eq .scI true (.t 10) (.t 13)), none⟩, true, false, none, []⟩,
  ⟨⟨(some 15), (.mv (.t 14)), none⟩, true, false, none, []⟩,
  ⟨⟨(some 16), (.mv (.t 0)), (some (15, false))⟩, true, false, none, []⟩,
  ⟨⟨(some 18), (.mv (.t 5)), (some (15, false))⟩, true, false, none, []⟩,
  ⟨⟨(some 19), (.len false (.t 18)), (some (15, false))⟩, true, false, none, []⟩,
  ⟨⟨(some 17), (.call F_Pdisk_Disk_Waits [(.sc, (.t 16))]), (some (15, false))⟩, false, false, none, []⟩,
  ⟨⟨(some 20), (.eq .scI true (.t 17) (.t 19)), (some (15, false))⟩, true, false, none, []⟩,
  ⟨⟨(some 21), (.pick (.t 15) (.v (.bool true)) (.t 20)), none⟩, true, false, none, []⟩,
  ⟨⟨(some 22), (.mv (.t 21)), none⟩, true, false, none, []⟩,
  ⟨⟨(some 23), (.mv (.t 0)), (some (22, false))⟩, true, false, none, []⟩,
  ⟨⟨(some 25), (.fadr 0 1 .sc (.t 3)), (some (22, false))⟩, true, false, none, []⟩,
  ⟨⟨(some 26), (.load .sc 1 (.t 25)), (some (22, false))⟩, true, false, none, []⟩,
  ⟨⟨(some 27), (.len false (.t 26)), (some (22, false))⟩, true, false, none, []⟩,
  ⟨⟨(some 24), (.call F_Pdisk_Disk_Size [(.sc, (.t 23))]), (some (22, false))⟩, false, true, (some [25]), []⟩,
  ⟨⟨(some 28), (.eq .scI true (.t 24) (.t 27)), (some (22, false))⟩, true, false, none, []⟩,
  ⟨⟨(some 29), (.pick (.t 22) (.v (.bool true)) (.t 28)), none⟩, true, false, none, []⟩,
  ⟨⟨(some 30), (.mv (.t 29)), none⟩, true, false, none, []⟩,
  ⟨⟨(some 31), (.mv (.t 0)), (some (30, false))⟩, true, false, none, []⟩,
  ⟨⟨(some 33), (.fadr 2 1 .sc (.t 3)), (some (30, false))⟩, true, false, none, []⟩,
  ⟨⟨(some 34), (.load .sc 1 (.t 33)), (some (30, false))⟩, true, false, none, []⟩,
  ⟨⟨(some 32), (.call F_Pdisk_Disk_Steps [(.sc, (.t 31))]), (some (30, false))⟩, false, true, (some [33]), []⟩,
  ⟨⟨(some 35), (.eq .scI true (.t 32) (.t 34)), (some (30, false))⟩, true, false, none, []⟩,
  ⟨⟨(some 36), (.pick (.t 30) (.v (.bool true)) (.t 35)), none⟩, true, false, none, []⟩,
  ⟨⟨(some 37), (.mv (.t 36)), none⟩, true, false, none, []⟩,
  ⟨⟨(some 38), (.mv (.t 0)), (some (37, false))⟩, true, false, none, []⟩,
  ⟨⟨(some 40), (.fadr 4 1 .sc (.t 3)), (some (37, false))⟩, true, false, none, []⟩,
  ⟨⟨(some 41), (.load .sc 1 (.t 40)), (some (37, false))⟩, true, false, none, []⟩,
  ⟨⟨(some 39), (.call F_Pdisk_Disk_Down [(.sc, (.t 38))]), (some (37, false))⟩, false, true, (some [40]), []⟩,
  ⟨⟨(some 42), (.eq .scB true (.t 39) (.t 41)), (some (37, false))⟩, true, false, none, []⟩,
  ⟨⟨(some 43), (.pick (.t 37) (.v (.bool true)) (.t 42)), none⟩, true, false, none, []⟩,
  ⟨⟨(some 44), (.mv (.t 43)), none⟩, true, false, none, []⟩,
  ⟨⟨(some 45), (.mv (.t 0)), (some (44, false))⟩, true, false, none, []⟩,
  ⟨⟨(some 47), (.fadr 0 1 .sc (.t 3)), (some (44, false))⟩, true, false, none, []⟩,
  ⟨⟨(some 48), (.load .sc 1 (.t 47)), (some (44, false))⟩, true, false, none, []⟩,
  ⟨⟨(some 46), (.call F_Pdisk_Disk_Image [(.sc, (.t 45))]), (some (44, false))⟩, false, true, (some [47]), []⟩,
  ⟨⟨(some 49), (.call F_ref06_SameImage [(.sc, (.t 46)), (.sc, (.t 48))]), (some (44, false))⟩, false, false, none, []⟩,
  ⟨⟨(some 50), (.un .not (.t 49)), (some (44, false))⟩, true, false, none, []⟩,
  ⟨⟨(some 51), (.pick (.t 44) (.v (.bool true)) (.t 50)), none⟩, true, false, none, []⟩]
def q_law06_same_3 : List AOper := [
  ⟨(some 4), (.mv (.v (.bool false))), none⟩]
def q_law06_same_4 : List AOper := [
  ⟨(some 6), (.mv (.v (.int .i64 0))), none⟩]
def q_law06_same_5 : List AOper := [
  ⟨(some 52), (.mv (.t 6)), none⟩,
  ⟨(some 53), (.mv (.t 5)), none⟩,
  ⟨(some 54), (.len false (.t 53)), none⟩,
  ⟨(some 55), (.bin .lss (.t 52) (.t 54)), none⟩]
def q_law06_same_6 : List DOp := [
  ⟨⟨(some 58), (.mv (.t 5)), none⟩, true, false, none, []⟩,
  ⟨⟨(some 59), (.mv (.t 6)), none⟩, true, false, none, []⟩,
  ⟨⟨(some 60), (.idx 1 (.t 58) (.t 59)), none⟩, true, false, none, []⟩,
  ⟨⟨(some 61), (.load .sc 1 (.t 60)), none⟩, true, false, none, []⟩,
  ⟨⟨(some 62), (.fadr 1 1 .sc (.t 3)), none⟩, true, false, none, []⟩,
  ⟨⟨(some 63), (.load .sc 1 (.t 62)), none⟩, true, false, none, []⟩,
  ⟨⟨(some 64), (.mv (.t 6)), none⟩, true, false, none, []⟩,
  ⟨⟨(some 65), (.idx 257 (.t 63) (.t 64)), none⟩, true, false, none, []⟩,
  ⟨⟨(some 66), (.fadr 0 1 .sc (.t 65)), none⟩, true, false, none, []⟩,
  ⟨⟨(some 67), (.load .sc 1 (.t 66)), none⟩, true, false, none, []⟩,
  ⟨⟨(some 68), (.eq .scI true (.t 61) (.t 67)), none⟩, true, false, none, []⟩]
def q_law06_same_7 : List AOper := [
  ⟨(some 4), (.mv (.v (.bool false))), none⟩]
def q_law06_same_8 : List AOper := [
  ⟨(some 56), (.mv (.t 6)), none⟩,
  ⟨(some 57), (.bin .add (.t 56) (.v (.int .i64 1))), none⟩,
  ⟨(some 6), (.mv (.t 57)), none⟩]
def q_law06_same_L9 : ACode := (.seq (.seq (.region q_law06_same_5) (.cond (.t 55) .skip (.exit 0))) (.seq (.block 1 (.seq (.regionD q_law06_same_6) (.cond (.t 68) (.seq (.region q_law06_same_7) .ret) .skip))) (.region q_law06_same_8)))
def q_law06_same_9 : List AOper := [
  ⟨(some 4), (.mv (.v (.bool true))), none⟩]
def a_law06_same : AFunc := ⟨[(.tmp 4)], (.seq (.region q_law06_same_0) (.seq (.region q_law06_same_1) (.seq (.seq (.regionD q_law06_same_2) (.cond (.t 51) (.seq (.region q_law06_same_3) .ret) .skip)) (.seq (.seq (.region q_law06_same_4) (.block 0 (.loop q_law06_same_L9))) (.seq (.region q_law06_same_9) .ret)))))⟩

def q_law06_Filled_0 : List AOper := [
  ⟨(some 2), (.alloc 78 [(.iarr .u8 256 (List.replicate 256 0))]), none⟩]
def q_law06_Filled_1 : List AOper := [
  ⟨(some 3), (.alloc 78 [(.iarr .u8 256 (List.replicate 256 0))]), none⟩]
def q_law06_Filled_2 : List AOper := [
  ⟨(some 4), (.mv (.v (.int .i64 0))), none⟩]
def q_law06_Filled_3 : List AOper := [
  ⟨(some 5), (.mv (.t 4)), none⟩,
  ⟨(some 6), (.bin .lss (.t 5) (.v (.int .i64 256))), none⟩]
def q_law06_Filled_4 : List AOper := [
  ⟨(some 9), (.mv (.t 4)), none⟩,
  ⟨(some 10), (.mv (.t 0)), none⟩,
  ⟨(some 11), (.idxA 256 1 true (.t 3) (.t 9)), none⟩,
  ⟨none, (.store .sc 1 (.t 11) (.t 10)), none⟩]
def q_law06_Filled_5 : List AOper := [
  ⟨(some 7), (.mv (.t 4)), none⟩,
  ⟨(some 8), (.bin .add (.t 7) (.v (.int .i64 1))), none⟩,
  ⟨(some 4), (.mv (.t 8)), none⟩]
def q_law06_Filled_L6 : ACode := (.seq (.seq (.region q_law06_Filled_3) (.cond (.t 6) .skip (.exit 0))) (.seq (.block 1 (.region q_law06_Filled_4)) (.region q_law06_Filled_5)))
def q_law06_Filled_6 : List AOper := [
  ⟨(some 12), (.load (.ia .u8 256) 256 (.t 3)), none⟩,
  ⟨none, (.store (.ia .u8 256) 256 (.t 2) (.t 12)), none⟩]
def a_law06_Filled : AFunc := ⟨[(.cell 2 (.ia .u8 256) 256)], (.seq (.region q_law06_Filled_0) (.seq (.region q_law06_Filled_1) (.seq (.seq (.region q_law06_Filled_2) (.block 0 (.loop q_law06_Filled_L6))) (.seq (.region q_law06_Filled_6) .ret))))⟩


theorem c_disk_New : trF Try.prog Try.f43 = some a_disk_New := by kernel_rfl
theorem g_disk_New : Try.prog.funcs[43]? = some Try.f43 := by kernel_rfl
theorem i_disk_New {args : List AV} {A : Heap} {Ko : AOut → Heap → Prop} (hn : args.length ≤ 15)
    (h : ∀ R : APost, (∀ e env A, fpost a_disk_New.res Ko e env A → R e env A) → X Try.prog R a_disk_New.body .done (env0 args) A) : SimX Try.prog F_disk_New args A Ko :=
  X_intro g_disk_New c_disk_New (by rw [Try.ntmps43]; exact hn) h
theorem v_disk_New {args : List AV} {v : AV} (hn : args.length ≤ 15) (h : X Try.prog (fin a_disk_New.res v) a_disk_New.body .done (env0 args) H0) : Gives Try.prog F_disk_New args v :=
  Gives_intro g_disk_New c_disk_New (by rw [Try.ntmps43]; exact hn) h
theorem e_disk_New {args : List AV} {Q : AOut → Prop} (hn : args.length ≤ 15) (h : X Try.prog (finE a_disk_New.res Q) a_disk_New.body .done (env0 args) H0) : Fins Try.prog F_disk_New args Q :=
  Fins_intro g_disk_New c_disk_New (by rw [Try.ntmps43]; exact hn) h
theorem j_disk_New {args : List AV} {A : Heap} {K Kp : AV → Heap → Prop} (hn : args.length ≤ 15) (h : X Try.prog (inl a_disk_New.res K Kp) a_disk_New.body .done (env0 args) A) : SimX Try.prog F_disk_New args A (outK K Kp) :=
  X_inl g_disk_New c_disk_New (by rw [Try.ntmps43]; exact hn) h
theorem d_disk_New {args : List AV} {A : Heap} {Ko : AOut → Heap → Prop} (hn : args.length ≤ 15)
    (h : ∀ R : APost, (∀ e env A, fpost a_disk_New.res Ko e env A → R e env A) → X Try.prog R a_disk_New.body .done (env0 args) A) : SimD Try.prog F_disk_New args A Ko :=
  X_introD g_disk_New c_disk_New (by rw [Try.ntmps43]; exact hn) h
@[simp] theorem k_disk_New : callable Try.prog F_disk_New = true := by kernel_rfl
theorem c_Pdisk_Disk_Write : trF Try.prog Try.f48 = some a_Pdisk_Disk_Write := by kernel_rfl
theorem g_Pdisk_Disk_Write : Try.prog.funcs[48]? = some Try.f48 := by kernel_rfl
theorem i_Pdisk_Disk_Write {args : List AV} {A : Heap} {Ko : AOut → Heap → Prop} (hn : args.length ≤ 35)
    (h : ∀ R : APost, (∀ e env A, fpost a_Pdisk_Disk_Write.res Ko e env A → R e env A) → X Try.prog R a_Pdisk_Disk_Write.body .done (env0 args) A) : SimX Try.prog F_Pdisk_Disk_Write args A Ko :=
  X_intro g_Pdisk_Disk_Write c_Pdisk_Disk_Write (by rw [Try.ntmps48]; exact hn) h
theorem v_Pdisk_Disk_Write {args : List AV} {v : AV} (hn : args.length ≤ 35) (h : X Try.prog (fin a_Pdisk_Disk_Write.res v) a_Pdisk_Disk_Write.body .done (env0 args) H0) : Gives Try.prog F_Pdisk_Disk_Write args v :=
  Gives_intro g_Pdisk_Disk_Write c_Pdisk_Disk_Write (by rw [Try.ntmps48]; exact hn) h
theorem e_Pdisk_Disk_Write {args : List AV} {Q : AOut → Prop} (hn : args.length ≤ 35) (h : X Try.prog (finE a_Pdisk_Disk_Write.res Q) a_Pdisk_Disk_Write.body .done (env0 args) H0) : Fins Try.prog F_Pdisk_Disk_Write args Q :=
  Fins_intro g_Pdisk_Disk_Write c_Pdisk_Disk_Write (by rw [Try.ntmps48]; exact hn) h
theorem j_Pdisk_Disk_Write {args : List AV} {A : Heap} {K Kp : AV → Heap → Prop} (hn : args.length ≤ 35) (h : X Try.prog (inl a_Pdisk_Disk_Write.res K Kp) a_Pdisk_Disk_Write.body .done (env0 args) A) : SimX Try.prog F_Pdisk_Disk_Write args A (outK K Kp) :=
  X_inl g_Pdisk_Disk_Write c_Pdisk_Disk_Write (by rw [Try.ntmps48]; exact hn) h
theorem d_Pdisk_Disk_Write {args : List AV} {A : Heap} {Ko : AOut → Heap → Prop} (hn : args.length ≤ 35)
    (h : ∀ R : APost, (∀ e env A, fpost a_Pdisk_Disk_Write.res Ko e env A → R e env A) → X Try.prog R a_Pdisk_Disk_Write.body .done (env0 args) A) : SimD Try.prog F_Pdisk_Disk_Write args A Ko :=
  X_introD g_Pdisk_Disk_Write c_Pdisk_Disk_Write (by rw [Try.ntmps48]; exact hn) h
@[simp] theorem k_Pdisk_Disk_Write : callable Try.prog F_Pdisk_Disk_Write = true := by kernel_rfl
theorem c_Pdisk_Disk_Flush : trF Try.prog Try.f49 = some a_Pdisk_Disk_Flush := by kernel_rfl
theorem g_Pdisk_Disk_Flush : Try.prog.funcs[49]? = some Try.f49 := by kernel_rfl
theorem i_Pdisk_Disk_Flush {args : List AV} {A : Heap} {Ko : AOut → Heap → Prop} (hn : args.length ≤ 11)
    (h : ∀ R : APost, (∀ e env A, fpost a_Pdisk_Disk_Flush.res Ko e env A → R e env A) → X Try.prog R a_Pdisk_Disk_Flush.body .done (env0 args) A) : SimX Try.prog F_Pdisk_Disk_Flush args A Ko :=
  X_intro g_Pdisk_Disk_Flush c_Pdisk_Disk_Flush (by rw [Try.ntmps49]; exact hn) h
theorem v_Pdisk_Disk_Flush {args : List AV} {v : AV} (hn : args.length ≤ 11) (h : X Try.prog (fin a_Pdisk_Disk_Flush.res v) a_Pdisk_Disk_Flush.body .done (env0 args) H0) : Gives Try.prog F_Pdisk_Disk_Flush args v :=
  Gives_intro g_Pdisk_Disk_Flush c_Pdisk_Disk_Flush (by rw [Try.ntmps49]; exact hn) h
theorem e_Pdisk_Disk_Flush {args : List AV} {Q : AOut → Prop} (hn : args.length ≤ 11) (h : X Try.prog (finE a_Pdisk_Disk_Flush.res Q) a_Pdisk_Disk_Flush.body .done (env0 args) H0) : Fins Try.prog F_Pdisk_Disk_Flush args Q :=
  Fins_intro g_Pdisk_Disk_Flush c_Pdisk_Disk_Flush (by rw [Try.ntmps49]; exact hn) h
theorem j_Pdisk_Disk_Flush {args : List AV} {A : Heap} {K Kp : AV → Heap → Prop} (hn : args.length ≤ 11) (h : X Try.prog (inl a_Pdisk_Disk_Flush.res K Kp) a_Pdisk_Disk_Flush.body .done (env0 args) A) : SimX Try.prog F_Pdisk_Disk_Flush args A (outK K Kp) :=
  X_inl g_Pdisk_Disk_Flush c_Pdisk_Disk_Flush (by rw [Try.ntmps49]; exact hn) h
theorem d_Pdisk_Disk_Flush {args : List AV} {A : Heap} {Ko : AOut → Heap → Prop} (hn : args.length ≤ 11)
    (h : ∀ R : APost, (∀ e env A, fpost a_Pdisk_Disk_Flush.res Ko e env A → R e env A) → X Try.prog R a_Pdisk_Disk_Flush.body .done (env0 args) A) : SimD Try.prog F_Pdisk_Disk_Flush args A Ko :=
  X_introD g_Pdisk_Disk_Flush c_Pdisk_Disk_Flush (by rw [Try.ntmps49]; exact hn) h
@[simp] theorem k_Pdisk_Disk_Flush : callable Try.prog F_Pdisk_Disk_Flush = true := by kernel_rfl
theorem c_Pdisk_Disk_Crash : trF Try.prog Try.f50 = some a_Pdisk_Disk_Crash := by kernel_rfl
theorem g_Pdisk_Disk_Crash : Try.prog.funcs[50]? = some Try.f50 := by kernel_rfl
theorem i_Pdisk_Disk_Crash {args : List AV} {A : Heap} {Ko : AOut → Heap → Prop} (hn : args.length ≤ 14)
    (h : ∀ R : APost, (∀ e env A, fpost a_Pdisk_Disk_Crash.res Ko e env A → R e env A) → X Try.prog R a_Pdisk_Disk_Crash.body .done (env0 args) A) : SimX Try.prog F_Pdisk_Disk_Crash args A Ko :=
  X_intro g_Pdisk_Disk_Crash c_Pdisk_Disk_Crash (by rw [Try.ntmps50]; exact hn) h
theorem v_Pdisk_Disk_Crash {args : List AV} {v : AV} (hn : args.length ≤ 14) (h : X Try.prog (fin a_Pdisk_Disk_Crash.res v) a_Pdisk_Disk_Crash.body .done (env0 args) H0) : Gives Try.prog F_Pdisk_Disk_Crash args v :=
  Gives_intro g_Pdisk_Disk_Crash c_Pdisk_Disk_Crash (by rw [Try.ntmps50]; exact hn) h
theorem e_Pdisk_Disk_Crash {args : List AV} {Q : AOut → Prop} (hn : args.length ≤ 14) (h : X Try.prog (finE a_Pdisk_Disk_Crash.res Q) a_Pdisk_Disk_Crash.body .done (env0 args) H0) : Fins Try.prog F_Pdisk_Disk_Crash args Q :=
  Fins_intro g_Pdisk_Disk_Crash c_Pdisk_Disk_Crash (by rw [Try.ntmps50]; exact hn) h
theorem j_Pdisk_Disk_Crash {args : List AV} {A : Heap} {K Kp : AV → Heap → Prop} (hn : args.length ≤ 14) (h : X Try.prog (inl a_Pdisk_Disk_Crash.res K Kp) a_Pdisk_Disk_Crash.body .done (env0 args) A) : SimX Try.prog F_Pdisk_Disk_Crash args A (outK K Kp) :=
  X_inl g_Pdisk_Disk_Crash c_Pdisk_Disk_Crash (by rw [Try.ntmps50]; exact hn) h
theorem d_Pdisk_Disk_Crash {args : List AV} {A : Heap} {Ko : AOut → Heap → Prop} (hn : args.length ≤ 14)
    (h : ∀ R : APost, (∀ e env A, fpost a_Pdisk_Disk_Crash.res Ko e env A → R e env A) → X Try.prog R a_Pdisk_Disk_Crash.body .done (env0 args) A) : SimD Try.prog F_Pdisk_Disk_Crash args A Ko :=
  X_introD g_Pdisk_Disk_Crash c_Pdisk_Disk_Crash (by rw [Try.ntmps50]; exact hn) h
@[simp] theorem k_Pdisk_Disk_Crash : callable Try.prog F_Pdisk_Disk_Crash = true := by kernel_rfl
theorem c_Pdisk_Disk_Read : trF Try.prog Try.f51 = some a_Pdisk_Disk_Read := by kernel_rfl
theorem g_Pdisk_Disk_Read : Try.prog.funcs[51]? = some Try.f51 := by kernel_rfl
theorem i_Pdisk_Disk_Read {args : List AV} {A : Heap} {Ko : AOut → Heap → Prop} (hn : args.length ≤ 38)
    (h : ∀ R : APost, (∀ e env A, fpost a_Pdisk_Disk_Read.res Ko e env A → R e env A) → X Try.prog R a_Pdisk_Disk_Read.body .done (env0 args) A) : SimX Try.prog F_Pdisk_Disk_Read args A Ko :=
  X_intro g_Pdisk_Disk_Read c_Pdisk_Disk_Read (by rw [Try.ntmps51]; exact hn) h
theorem v_Pdisk_Disk_Read {args : List AV} {v : AV} (hn : args.length ≤ 38) (h : X Try.prog (fin a_Pdisk_Disk_Read.res v) a_Pdisk_Disk_Read.body .done (env0 args) H0) : Gives Try.prog F_Pdisk_Disk_Read args v :=
  Gives_intro g_Pdisk_Disk_Read c_Pdisk_Disk_Read (by rw [Try.ntmps51]; exact hn) h
theorem e_Pdisk_Disk_Read {args : List AV} {Q : AOut → Prop} (hn : args.length ≤ 38) (h : X Try.prog (finE a_Pdisk_Disk_Read.res Q) a_Pdisk_Disk_Read.body .done (env0 args) H0) : Fins Try.prog F_Pdisk_Disk_Read args Q :=
  Fins_intro g_Pdisk_Disk_Read c_Pdisk_Disk_Read (by rw [Try.ntmps51]; exact hn) h
theorem j_Pdisk_Disk_Read {args : List AV} {A : Heap} {K Kp : AV → Heap → Prop} (hn : args.length ≤ 38) (h : X Try.prog (inl a_Pdisk_Disk_Read.res K Kp) a_Pdisk_Disk_Read.body .done (env0 args) A) : SimX Try.prog F_Pdisk_Disk_Read args A (outK K Kp) :=
  X_inl g_Pdisk_Disk_Read c_Pdisk_Disk_Read (by rw [Try.ntmps51]; exact hn) h
theorem d_Pdisk_Disk_Read {args : List AV} {A : Heap} {Ko : AOut → Heap → Prop} (hn : args.length ≤ 38)
    (h : ∀ R : APost, (∀ e env A, fpost a_Pdisk_Disk_Read.res Ko e env A → R e env A) → X Try.prog R a_Pdisk_Disk_Read.body .done (env0 args) A) : SimD Try.prog F_Pdisk_Disk_Read args A Ko :=
  X_introD g_Pdisk_Disk_Read c_Pdisk_Disk_Read (by rw [Try.ntmps51]; exact hn) h
@[simp] theorem k_Pdisk_Disk_Read : callable Try.prog F_Pdisk_Disk_Read = true := by kernel_rfl
theorem c_Pdisk_Disk_Image : trF Try.prog Try.f52 = some a_Pdisk_Disk_Image := by kernel_rfl
theorem g_Pdisk_Disk_Image : Try.prog.funcs[52]? = some Try.f52 := by kernel_rfl
theorem i_Pdisk_Disk_Image {args : List AV} {A : Heap} {Ko : AOut → Heap → Prop} (hn : args.length ≤ 9)
    (h : ∀ R : APost, (∀ e env A, fpost a_Pdisk_Disk_Image.res Ko e env A → R e env A) → X Try.prog R a_Pdisk_Disk_Image.body .done (env0 args) A) : SimX Try.prog F_Pdisk_Disk_Image args A Ko :=
  X_intro g_Pdisk_Disk_Image c_Pdisk_Disk_Image (by rw [Try.ntmps52]; exact hn) h
theorem v_Pdisk_Disk_Image {args : List AV} {v : AV} (hn : args.length ≤ 9) (h : X Try.prog (fin a_Pdisk_Disk_Image.res v) a_Pdisk_Disk_Image.body .done (env0 args) H0) : Gives Try.prog F_Pdisk_Disk_Image args v :=
  Gives_intro g_Pdisk_Disk_Image c_Pdisk_Disk_Image (by rw [Try.ntmps52]; exact hn) h
theorem e_Pdisk_Disk_Image {args : List AV} {Q : AOut → Prop} (hn : args.length ≤ 9) (h : X Try.prog (finE a_Pdisk_Disk_Image.res Q) a_Pdisk_Disk_Image.body .done (env0 args) H0) : Fins Try.prog F_Pdisk_Disk_Image args Q :=
  Fins_intro g_Pdisk_Disk_Image c_Pdisk_Disk_Image (by rw [Try.ntmps52]; exact hn) h
theorem j_Pdisk_Disk_Image {args : List AV} {A : Heap} {K Kp : AV → Heap → Prop} (hn : args.length ≤ 9) (h : X Try.prog (inl a_Pdisk_Disk_Image.res K Kp) a_Pdisk_Disk_Image.body .done (env0 args) A) : SimX Try.prog F_Pdisk_Disk_Image args A (outK K Kp) :=
  X_inl g_Pdisk_Disk_Image c_Pdisk_Disk_Image (by rw [Try.ntmps52]; exact hn) h
theorem d_Pdisk_Disk_Image {args : List AV} {A : Heap} {Ko : AOut → Heap → Prop} (hn : args.length ≤ 9)
    (h : ∀ R : APost, (∀ e env A, fpost a_Pdisk_Disk_Image.res Ko e env A → R e env A) → X Try.prog R a_Pdisk_Disk_Image.body .done (env0 args) A) : SimD Try.prog F_Pdisk_Disk_Image args A Ko :=
  X_introD g_Pdisk_Disk_Image c_Pdisk_Disk_Image (by rw [Try.ntmps52]; exact hn) h
@[simp] theorem k_Pdisk_Disk_Image : callable Try.prog F_Pdisk_Disk_Image = true := by kernel_rfl
theorem c_Pdisk_Disk_Waits : trF Try.prog Try.f53 = some a_Pdisk_Disk_Waits := by kernel_rfl
theorem g_Pdisk_Disk_Waits : Try.prog.funcs[53]? = some Try.f53 := by kernel_rfl
theorem i_Pdisk_Disk_Waits {args : List AV} {A : Heap} {Ko : AOut → Heap → Prop} (hn : args.length ≤ 8)
    (h : ∀ R : APost, (∀ e env A, fpost a_Pdisk_Disk_Waits.res Ko e env A → R e env A) → X Try.prog R a_Pdisk_Disk_Waits.body .done (env0 args) A) : SimX Try.prog F_Pdisk_Disk_Waits args A Ko :=
  X_intro g_Pdisk_Disk_Waits c_Pdisk_Disk_Waits (by rw [Try.ntmps53]; exact hn) h
theorem v_Pdisk_Disk_Waits {args : List AV} {v : AV} (hn : args.length ≤ 8) (h : X Try.prog (fin a_Pdisk_Disk_Waits.res v) a_Pdisk_Disk_Waits.body .done (env0 args) H0) : Gives Try.prog F_Pdisk_Disk_Waits args v :=
  Gives_intro g_Pdisk_Disk_Waits c_Pdisk_Disk_Waits (by rw [Try.ntmps53]; exact hn) h
theorem e_Pdisk_Disk_Waits {args : List AV} {Q : AOut → Prop} (hn : args.length ≤ 8) (h : X Try.prog (finE a_Pdisk_Disk_Waits.res Q) a_Pdisk_Disk_Waits.body .done (env0 args) H0) : Fins Try.prog F_Pdisk_Disk_Waits args Q :=
  Fins_intro g_Pdisk_Disk_Waits c_Pdisk_Disk_Waits (by rw [Try.ntmps53]; exact hn) h
theorem j_Pdisk_Disk_Waits {args : List AV} {A : Heap} {K Kp : AV → Heap → Prop} (hn : args.length ≤ 8) (h : X Try.prog (inl a_Pdisk_Disk_Waits.res K Kp) a_Pdisk_Disk_Waits.body .done (env0 args) A) : SimX Try.prog F_Pdisk_Disk_Waits args A (outK K Kp) :=
  X_inl g_Pdisk_Disk_Waits c_Pdisk_Disk_Waits (by rw [Try.ntmps53]; exact hn) h
theorem d_Pdisk_Disk_Waits {args : List AV} {A : Heap} {Ko : AOut → Heap → Prop} (hn : args.length ≤ 8)
    (h : ∀ R : APost, (∀ e env A, fpost a_Pdisk_Disk_Waits.res Ko e env A → R e env A) → X Try.prog R a_Pdisk_Disk_Waits.body .done (env0 args) A) : SimD Try.prog F_Pdisk_Disk_Waits args A Ko :=
  X_introD g_Pdisk_Disk_Waits c_Pdisk_Disk_Waits (by rw [Try.ntmps53]; exact hn) h
@[simp] theorem k_Pdisk_Disk_Waits : callable Try.prog F_Pdisk_Disk_Waits = true := by kernel_rfl
theorem c_Pdisk_Disk_Twin : trF Try.prog Try.f54 = some a_Pdisk_Disk_Twin := by kernel_rfl
theorem g_Pdisk_Disk_Twin : Try.prog.funcs[54]? = some Try.f54 := by kernel_rfl
theorem i_Pdisk_Disk_Twin {args : List AV} {A : Heap} {Ko : AOut → Heap → Prop} (hn : args.length ≤ 48)
    (h : ∀ R : APost, (∀ e env A, fpost a_Pdisk_Disk_Twin.res Ko e env A → R e env A) → X Try.prog R a_Pdisk_Disk_Twin.body .done (env0 args) A) : SimX Try.prog F_Pdisk_Disk_Twin args A Ko :=
  X_intro g_Pdisk_Disk_Twin c_Pdisk_Disk_Twin (by rw [Try.ntmps54]; exact hn) h
theorem v_Pdisk_Disk_Twin {args : List AV} {v : AV} (hn : args.length ≤ 48) (h : X Try.prog (fin a_Pdisk_Disk_Twin.res v) a_Pdisk_Disk_Twin.body .done (env0 args) H0) : Gives Try.prog F_Pdisk_Disk_Twin args v :=
  Gives_intro g_Pdisk_Disk_Twin c_Pdisk_Disk_Twin (by rw [Try.ntmps54]; exact hn) h
theorem e_Pdisk_Disk_Twin {args : List AV} {Q : AOut → Prop} (hn : args.length ≤ 48) (h : X Try.prog (finE a_Pdisk_Disk_Twin.res Q) a_Pdisk_Disk_Twin.body .done (env0 args) H0) : Fins Try.prog F_Pdisk_Disk_Twin args Q :=
  Fins_intro g_Pdisk_Disk_Twin c_Pdisk_Disk_Twin (by rw [Try.ntmps54]; exact hn) h
theorem j_Pdisk_Disk_Twin {args : List AV} {A : Heap} {K Kp : AV → Heap → Prop} (hn : args.length ≤ 48) (h : X Try.prog (inl a_Pdisk_Disk_Twin.res K Kp) a_Pdisk_Disk_Twin.body .done (env0 args) A) : SimX Try.prog F_Pdisk_Disk_Twin args A (outK K Kp) :=
  X_inl g_Pdisk_Disk_Twin c_Pdisk_Disk_Twin (by rw [Try.ntmps54]; exact hn) h
theorem d_Pdisk_Disk_Twin {args : List AV} {A : Heap} {Ko : AOut → Heap → Prop} (hn : args.length ≤ 48)
    (h : ∀ R : APost, (∀ e env A, fpost a_Pdisk_Disk_Twin.res Ko e env A → R e env A) → X Try.prog R a_Pdisk_Disk_Twin.body .done (env0 args) A) : SimD Try.prog F_Pdisk_Disk_Twin args A Ko :=
  X_introD g_Pdisk_Disk_Twin c_Pdisk_Disk_Twin (by rw [Try.ntmps54]; exact hn) h
@[simp] theorem k_Pdisk_Disk_Twin : callable Try.prog F_Pdisk_Disk_Twin = true := by kernel_rfl
theorem c_Pdisk_Disk_Fuse : trF Try.prog Try.f80 = some a_Pdisk_Disk_Fuse := by kernel_rfl
theorem g_Pdisk_Disk_Fuse : Try.prog.funcs[80]? = some Try.f80 := by kernel_rfl
theorem i_Pdisk_Disk_Fuse {args : List AV} {A : Heap} {Ko : AOut → Heap → Prop} (hn : args.length ≤ 9)
    (h : ∀ R : APost, (∀ e env A, fpost a_Pdisk_Disk_Fuse.res Ko e env A → R e env A) → X Try.prog R a_Pdisk_Disk_Fuse.body .done (env0 args) A) : SimX Try.prog F_Pdisk_Disk_Fuse args A Ko :=
  X_intro g_Pdisk_Disk_Fuse c_Pdisk_Disk_Fuse (by rw [Try.ntmps80]; exact hn) h
theorem v_Pdisk_Disk_Fuse {args : List AV} {v : AV} (hn : args.length ≤ 9) (h : X Try.prog (fin a_Pdisk_Disk_Fuse.res v) a_Pdisk_Disk_Fuse.body .done (env0 args) H0) : Gives Try.prog F_Pdisk_Disk_Fuse args v :=
  Gives_intro g_Pdisk_Disk_Fuse c_Pdisk_Disk_Fuse (by rw [Try.ntmps80]; exact hn) h
theorem e_Pdisk_Disk_Fuse {args : List AV} {Q : AOut → Prop} (hn : args.length ≤ 9) (h : X Try.prog (finE a_Pdisk_Disk_Fuse.res Q) a_Pdisk_Disk_Fuse.body .done (env0 args) H0) : Fins Try.prog F_Pdisk_Disk_Fuse args Q :=
  Fins_intro g_Pdisk_Disk_Fuse c_Pdisk_Disk_Fuse (by rw [Try.ntmps80]; exact hn) h
theorem j_Pdisk_Disk_Fuse {args : List AV} {A : Heap} {K Kp : AV → Heap → Prop} (hn : args.length ≤ 9) (h : X Try.prog (inl a_Pdisk_Disk_Fuse.res K Kp) a_Pdisk_Disk_Fuse.body .done (env0 args) A) : SimX Try.prog F_Pdisk_Disk_Fuse args A (outK K Kp) :=
  X_inl g_Pdisk_Disk_Fuse c_Pdisk_Disk_Fuse (by rw [Try.ntmps80]; exact hn) h
theorem d_Pdisk_Disk_Fuse {args : List AV} {A : Heap} {Ko : AOut → Heap → Prop} (hn : args.length ≤ 9)
    (h : ∀ R : APost, (∀ e env A, fpost a_Pdisk_Disk_Fuse.res Ko e env A → R e env A) → X Try.prog R a_Pdisk_Disk_Fuse.body .done (env0 args) A) : SimD Try.prog F_Pdisk_Disk_Fuse args A Ko :=
  X_introD g_Pdisk_Disk_Fuse c_Pdisk_Disk_Fuse (by rw [Try.ntmps80]; exact hn) h
@[simp] theorem k_Pdisk_Disk_Fuse : callable Try.prog F_Pdisk_Disk_Fuse = true := by kernel_rfl
theorem c_Pdisk_Disk_Down : trF Try.prog Try.f81 = some a_Pdisk_Disk_Down := by kernel_rfl
theorem g_Pdisk_Disk_Down : Try.prog.funcs[81]? = some Try.f81 := by kernel_rfl
theorem i_Pdisk_Disk_Down {args : List AV} {A : Heap} {Ko : AOut → Heap → Prop} (hn : args.length ≤ 7)
    (h : ∀ R : APost, (∀ e env A, fpost a_Pdisk_Disk_Down.res Ko e env A → R e env A) → X Try.prog R a_Pdisk_Disk_Down.body .done (env0 args) A) : SimX Try.prog F_Pdisk_Disk_Down args A Ko :=
  X_intro g_Pdisk_Disk_Down c_Pdisk_Disk_Down (by rw [Try.ntmps81]; exact hn) h
theorem v_Pdisk_Disk_Down {args : List AV} {v : AV} (hn : args.length ≤ 7) (h : X Try.prog (fin a_Pdisk_Disk_Down.res v) a_Pdisk_Disk_Down.body .done (env0 args) H0) : Gives Try.prog F_Pdisk_Disk_Down args v :=
  Gives_intro g_Pdisk_Disk_Down c_Pdisk_Disk_Down (by rw [Try.ntmps81]; exact hn) h
theorem e_Pdisk_Disk_Down {args : List AV} {Q : AOut → Prop} (hn : args.length ≤ 7) (h : X Try.prog (finE a_Pdisk_Disk_Down.res Q) a_Pdisk_Disk_Down.body .done (env0 args) H0) : Fins Try.prog F_Pdisk_Disk_Down args Q :=
  Fins_intro g_Pdisk_Disk_Down c_Pdisk_Disk_Down (by rw [Try.ntmps81]; exact hn) h
theorem j_Pdisk_Disk_Down {args : List AV} {A : Heap} {K Kp : AV → Heap → Prop} (hn : args.length ≤ 7) (h : X Try.prog (inl a_Pdisk_Disk_Down.res K Kp) a_Pdisk_Disk_Down.body .done (env0 args) A) : SimX Try.prog F_Pdisk_Disk_Down args A (outK K Kp) :=
  X_inl g_Pdisk_Disk_Down c_Pdisk_Disk_Down (by rw [Try.ntmps81]; exact hn) h
theorem d_Pdisk_Disk_Down {args : List AV} {A : Heap} {Ko : AOut → Heap → Prop} (hn : args.length ≤ 7)
    (h : ∀ R : APost, (∀ e env A, fpost a_Pdisk_Disk_Down.res Ko e env A → R e env A) → X Try.prog R a_Pdisk_Disk_Down.body .done (env0 args) A) : SimD Try.prog F_Pdisk_Disk_Down args A Ko :=
  X_introD g_Pdisk_Disk_Down c_Pdisk_Disk_Down (by rw [Try.ntmps81]; exact hn) h
@[simp] theorem k_Pdisk_Disk_Down : callable Try.prog F_Pdisk_Disk_Down = true := by kernel_rfl
theorem c_Pdisk_Disk_Size : trF Try.prog Try.f82 = some a_Pdisk_Disk_Size := by kernel_rfl
theorem g_Pdisk_Disk_Size : Try.prog.funcs[82]? = some Try.f82 := by kernel_rfl
theorem i_Pdisk_Disk_Size {args : List AV} {A : Heap} {Ko : AOut → Heap → Prop} (hn : args.length ≤ 8)
    (h : ∀ R : APost, (∀ e env A, fpost a_Pdisk_Disk_Size.res Ko e env A → R e env A) → X Try.prog R a_Pdisk_Disk_Size.body .done (env0 args) A) : SimX Try.prog F_Pdisk_Disk_Size args A Ko :=
  X_intro g_Pdisk_Disk_Size c_Pdisk_Disk_Size (by rw [Try.ntmps82]; exact hn) h
theorem v_Pdisk_Disk_Size {args : List AV} {v : AV} (hn : args.length ≤ 8) (h : X Try.prog (fin a_Pdisk_Disk_Size.res v) a_Pdisk_Disk_Size.body .done (env0 args) H0) : Gives Try.prog F_Pdisk_Disk_Size args v :=
  Gives_intro g_Pdisk_Disk_Size c_Pdisk_Disk_Size (by rw [Try.ntmps82]; exact hn) h
theorem e_Pdisk_Disk_Size {args : List AV} {Q : AOut → Prop} (hn : args.length ≤ 8) (h : X Try.prog (finE a_Pdisk_Disk_Size.res Q) a_Pdisk_Disk_Size.body .done (env0 args) H0) : Fins Try.prog F_Pdisk_Disk_Size args Q :=
  Fins_intro g_Pdisk_Disk_Size c_Pdisk_Disk_Size (by rw [Try.ntmps82]; exact hn) h
theorem j_Pdisk_Disk_Size {args : List AV} {A : Heap} {K Kp : AV → Heap → Prop} (hn : args.length ≤ 8) (h : X Try.prog (inl a_Pdisk_Disk_Size.res K Kp) a_Pdisk_Disk_Size.body .done (env0 args) A) : SimX Try.prog F_Pdisk_Disk_Size args A (outK K Kp) :=
  X_inl g_Pdisk_Disk_Size c_Pdisk_Disk_Size (by rw [Try.ntmps82]; exact hn) h
theorem d_Pdisk_Disk_Size {args : List AV} {A : Heap} {Ko : AOut → Heap → Prop} (hn : args.length ≤ 8)
    (h : ∀ R : APost, (∀ e env A, fpost a_Pdisk_Disk_Size.res Ko e env A → R e env A) → X Try.prog R a_Pdisk_Disk_Size.body .done (env0 args) A) : SimD Try.prog F_Pdisk_Disk_Size args A Ko :=
  X_introD g_Pdisk_Disk_Size c_Pdisk_Disk_Size (by rw [Try.ntmps82]; exact hn) h
@[simp] theorem k_Pdisk_Disk_Size : callable Try.prog F_Pdisk_Disk_Size = true := by kernel_rfl
theorem c_Pdisk_Disk_Steps : trF Try.prog Try.f83 = some a_Pdisk_Disk_Steps := by kernel_rfl
theorem g_Pdisk_Disk_Steps : Try.prog.funcs[83]? = some Try.f83 := by kernel_rfl
theorem i_Pdisk_Disk_Steps {args : List AV} {A : Heap} {Ko : AOut → Heap → Prop} (hn : args.length ≤ 7)
    (h : ∀ R : APost, (∀ e env A, fpost a_Pdisk_Disk_Steps.res Ko e env A → R e env A) → X Try.prog R a_Pdisk_Disk_Steps.body .done (env0 args) A) : SimX Try.prog F_Pdisk_Disk_Steps args A Ko :=
  X_intro g_Pdisk_Disk_Steps c_Pdisk_Disk_Steps (by rw [Try.ntmps83]; exact hn) h
theorem v_Pdisk_Disk_Steps {args : List AV} {v : AV} (hn : args.length ≤ 7) (h : X Try.prog (fin a_Pdisk_Disk_Steps.res v) a_Pdisk_Disk_Steps.body .done (env0 args) H0) : Gives Try.prog F_Pdisk_Disk_Steps args v :=
  Gives_intro g_Pdisk_Disk_Steps c_Pdisk_Disk_Steps (by rw [Try.ntmps83]; exact hn) h
theorem e_Pdisk_Disk_Steps {args : List AV} {Q : AOut → Prop} (hn : args.length ≤ 7) (h : X Try.prog (finE a_Pdisk_Disk_Steps.res Q) a_Pdisk_Disk_Steps.body .done (env0 args) H0) : Fins Try.prog F_Pdisk_Disk_Steps args Q :=
  Fins_intro g_Pdisk_Disk_Steps c_Pdisk_Disk_Steps (by rw [Try.ntmps83]; exact hn) h
theorem j_Pdisk_Disk_Steps {args : List AV} {A : Heap} {K Kp : AV → Heap → Prop} (hn : args.length ≤ 7) (h : X Try.prog (inl a_Pdisk_Disk_Steps.res K Kp) a_Pdisk_Disk_Steps.body .done (env0 args) A) : SimX Try.prog F_Pdisk_Disk_Steps args A (outK K Kp) :=
  X_inl g_Pdisk_Disk_Steps c_Pdisk_Disk_Steps (by rw [Try.ntmps83]; exact hn) h
theorem d_Pdisk_Disk_Steps {args : List AV} {A : Heap} {Ko : AOut → Heap → Prop} (hn : args.length ≤ 7)
    (h : ∀ R : APost, (∀ e env A, fpost a_Pdisk_Disk_Steps.res Ko e env A → R e env A) → X Try.prog R a_Pdisk_Disk_Steps.body .done (env0 args) A) : SimD Try.prog F_Pdisk_Disk_Steps args A Ko :=
  X_introD g_Pdisk_Disk_Steps c_Pdisk_Disk_Steps (by rw [Try.ntmps83]; exact hn) h
@[simp] theorem k_Pdisk_Disk_Steps : callable Try.prog F_Pdisk_Disk_Steps = true := by kernel_rfl
theorem c_Pdisk_Disk_Pending : trF Try.prog Try.f84 = some a_Pdisk_Disk_Pending := by kernel_rfl
theorem g_Pdisk_Disk_Pending : Try.prog.funcs[84]? = some Try.f84 := by kernel_rfl
theorem i_Pdisk_Disk_Pending {args : List AV} {A : Heap} {Ko : AOut → Heap → Prop} (hn : args.length ≤ 22)
    (h : ∀ R : APost, (∀ e env A, fpost a_Pdisk_Disk_Pending.res Ko e env A → R e env A) → X Try.prog R a_Pdisk_Disk_Pending.body .done (env0 args) A) : SimX Try.prog F_Pdisk_Disk_Pending args A Ko :=
  X_intro g_Pdisk_Disk_Pending c_Pdisk_Disk_Pending (by rw [Try.ntmps84]; exact hn) h
theorem v_Pdisk_Disk_Pending {args : List AV} {v : AV} (hn : args.length ≤ 22) (h : X Try.prog (fin a_Pdisk_Disk_Pending.res v) a_Pdisk_Disk_Pending.body .done (env0 args) H0) : Gives Try.prog F_Pdisk_Disk_Pending args v :=
  Gives_intro g_Pdisk_Disk_Pending c_Pdisk_Disk_Pending (by rw [Try.ntmps84]; exact hn) h
theorem e_Pdisk_Disk_Pending {args : List AV} {Q : AOut → Prop} (hn : args.length ≤ 22) (h : X Try.prog (finE a_Pdisk_Disk_Pending.res Q) a_Pdisk_Disk_Pending.body .done (env0 args) H0) : Fins Try.prog F_Pdisk_Disk_Pending args Q :=
  Fins_intro g_Pdisk_Disk_Pending c_Pdisk_Disk_Pending (by rw [Try.ntmps84]; exact hn) h
theorem j_Pdisk_Disk_Pending {args : List AV} {A : Heap} {K Kp : AV → Heap → Prop} (hn : args.length ≤ 22) (h : X Try.prog (inl a_Pdisk_Disk_Pending.res K Kp) a_Pdisk_Disk_Pending.body .done (env0 args) A) : SimX Try.prog F_Pdisk_Disk_Pending args A (outK K Kp) :=
  X_inl g_Pdisk_Disk_Pending c_Pdisk_Disk_Pending (by rw [Try.ntmps84]; exact hn) h
theorem d_Pdisk_Disk_Pending {args : List AV} {A : Heap} {Ko : AOut → Heap → Prop} (hn : args.length ≤ 22)
    (h : ∀ R : APost, (∀ e env A, fpost a_Pdisk_Disk_Pending.res Ko e env A → R e env A) → X Try.prog R a_Pdisk_Disk_Pending.body .done (env0 args) A) : SimD Try.prog F_Pdisk_Disk_Pending args A Ko :=
  X_introD g_Pdisk_Disk_Pending c_Pdisk_Disk_Pending (by rw [Try.ntmps84]; exact hn) h
@[simp] theorem k_Pdisk_Disk_Pending : callable Try.prog F_Pdisk_Disk_Pending = true := by kernel_rfl
theorem c_Pdisk_Disk_inside : trF Try.prog Try.f91 = some a_Pdisk_Disk_inside := by kernel_rfl
theorem g_Pdisk_Disk_inside : Try.prog.funcs[91]? = some Try.f91 := by kernel_rfl
theorem i_Pdisk_Disk_inside {args : List AV} {A : Heap} {Ko : AOut → Heap → Prop} (hn : args.length ≤ 16)
    (h : ∀ R : APost, (∀ e env A, fpost a_Pdisk_Disk_inside.res Ko e env A → R e env A) → X Try.prog R a_Pdisk_Disk_inside.body .done (env0 args) A) : SimX Try.prog F_Pdisk_Disk_inside args A Ko :=
  X_intro g_Pdisk_Disk_inside c_Pdisk_Disk_inside (by rw [Try.ntmps91]; exact hn) h
theorem v_Pdisk_Disk_inside {args : List AV} {v : AV} (hn : args.length ≤ 16) (h : X Try.prog (fin a_Pdisk_Disk_inside.res v) a_Pdisk_Disk_inside.body .done (env0 args) H0) : Gives Try.prog F_Pdisk_Disk_inside args v :=
  Gives_intro g_Pdisk_Disk_inside c_Pdisk_Disk_inside (by rw [Try.ntmps91]; exact hn) h
theorem e_Pdisk_Disk_inside {args : List AV} {Q : AOut → Prop} (hn : args.length ≤ 16) (h : X Try.prog (finE a_Pdisk_Disk_inside.res Q) a_Pdisk_Disk_inside.body .done (env0 args) H0) : Fins Try.prog F_Pdisk_Disk_inside args Q :=
  Fins_intro g_Pdisk_Disk_inside c_Pdisk_Disk_inside (by rw [Try.ntmps91]; exact hn) h
theorem j_Pdisk_Disk_inside {args : List AV} {A : Heap} {K Kp : AV → Heap → Prop} (hn : args.length ≤ 16) (h : X Try.prog (inl a_Pdisk_Disk_inside.res K Kp) a_Pdisk_Disk_inside.body .done (env0 args) A) : SimX Try.prog F_Pdisk_Disk_inside args A (outK K Kp) :=
  X_inl g_Pdisk_Disk_inside c_Pdisk_Disk_inside (by rw [Try.ntmps91]; exact hn) h
theorem d_Pdisk_Disk_inside {args : List AV} {A : Heap} {Ko : AOut → Heap → Prop} (hn : args.length ≤ 16)
    (h : ∀ R : APost, (∀ e env A, fpost a_Pdisk_Disk_inside.res Ko e env A → R e env A) → X Try.prog R a_Pdisk_Disk_inside.body .done (env0 args) A) : SimD Try.prog F_Pdisk_Disk_inside args A Ko :=
  X_introD g_Pdisk_Disk_inside c_Pdisk_Disk_inside (by rw [Try.ntmps91]; exact hn) h
@[simp] theorem k_Pdisk_Disk_inside : callable Try.prog F_Pdisk_Disk_inside = true := by kernel_rfl
theorem c_Pdisk_Disk_step : trF Try.prog Try.f92 = some a_Pdisk_Disk_step := by kernel_rfl
theorem g_Pdisk_Disk_step : Try.prog.funcs[92]? = some Try.f92 := by kernel_rfl
theorem i_Pdisk_Disk_step {args : List AV} {A : Heap} {Ko : AOut → Heap → Prop} (hn : args.length ≤ 36)
    (h : ∀ R : APost, (∀ e env A, fpost a_Pdisk_Disk_step.res Ko e env A → R e env A) → X Try.prog R a_Pdisk_Disk_step.body .done (env0 args) A) : SimX Try.prog F_Pdisk_Disk_step args A Ko :=
  X_intro g_Pdisk_Disk_step c_Pdisk_Disk_step (by rw [Try.ntmps92]; exact hn) h
theorem v_Pdisk_Disk_step {args : List AV} {v : AV} (hn : args.length ≤ 36) (h : X Try.prog (fin a_Pdisk_Disk_step.res v) a_Pdisk_Disk_step.body .done (env0 args) H0) : Gives Try.prog F_Pdisk_Disk_step args v :=
  Gives_intro g_Pdisk_Disk_step c_Pdisk_Disk_step (by rw [Try.ntmps92]; exact hn) h
theorem e_Pdisk_Disk_step {args : List AV} {Q : AOut → Prop} (hn : args.length ≤ 36) (h : X Try.prog (finE a_Pdisk_Disk_step.res Q) a_Pdisk_Disk_step.body .done (env0 args) H0) : Fins Try.prog F_Pdisk_Disk_step args Q :=
  Fins_intro g_Pdisk_Disk_step c_Pdisk_Disk_step (by rw [Try.ntmps92]; exact hn) h
theorem j_Pdisk_Disk_step {args : List AV} {A : Heap} {K Kp : AV → Heap → Prop} (hn : args.length ≤ 36) (h : X Try.prog (inl a_Pdisk_Disk_step.res K Kp) a_Pdisk_Disk_step.body .done (env0 args) A) : SimX Try.prog F_Pdisk_Disk_step args A (outK K Kp) :=
  X_inl g_Pdisk_Disk_step c_Pdisk_Disk_step (by rw [Try.ntmps92]; exact hn) h
theorem d_Pdisk_Disk_step {args : List AV} {A : Heap} {Ko : AOut → Heap → Prop} (hn : args.length ≤ 36)
    (h : ∀ R : APost, (∀ e env A, fpost a_Pdisk_Disk_step.res Ko e env A → R e env A) → X Try.prog R a_Pdisk_Disk_step.body .done (env0 args) A) : SimD Try.prog F_Pdisk_Disk_step args A Ko :=
  X_introD g_Pdisk_Disk_step c_Pdisk_Disk_step (by rw [Try.ntmps92]; exact hn) h
@[simp] theorem k_Pdisk_Disk_step : callable Try.prog F_Pdisk_Disk_step = true := by kernel_rfl
theorem c_Pdisk_Disk_settle : trF Try.prog Try.f93 = some a_Pdisk_Disk_settle := by kernel_rfl
theorem g_Pdisk_Disk_settle : Try.prog.funcs[93]? = some Try.f93 := by kernel_rfl
theorem i_Pdisk_Disk_settle {args : List AV} {A : Heap} {Ko : AOut → Heap → Prop} (hn : args.length ≤ 41)
    (h : ∀ R : APost, (∀ e env A, fpost a_Pdisk_Disk_settle.res Ko e env A → R e env A) → X Try.prog R a_Pdisk_Disk_settle.body .done (env0 args) A) : SimX Try.prog F_Pdisk_Disk_settle args A Ko :=
  X_intro g_Pdisk_Disk_settle c_Pdisk_Disk_settle (by rw [Try.ntmps93]; exact hn) h
theorem v_Pdisk_Disk_settle {args : List AV} {v : AV} (hn : args.length ≤ 41) (h : X Try.prog (fin a_Pdisk_Disk_settle.res v) a_Pdisk_Disk_settle.body .done (env0 args) H0) : Gives Try.prog F_Pdisk_Disk_settle args v :=
  Gives_intro g_Pdisk_Disk_settle c_Pdisk_Disk_settle (by rw [Try.ntmps93]; exact hn) h
theorem e_Pdisk_Disk_settle {args : List AV} {Q : AOut → Prop} (hn : args.length ≤ 41) (h : X Try.prog (finE a_Pdisk_Disk_settle.res Q) a_Pdisk_Disk_settle.body .done (env0 args) H0) : Fins Try.prog F_Pdisk_Disk_settle args Q :=
  Fins_intro g_Pdisk_Disk_settle c_Pdisk_Disk_settle (by rw [Try.ntmps93]; exact hn) h
theorem j_Pdisk_Disk_settle {args : List AV} {A : Heap} {K Kp : AV → Heap → Prop} (hn : args.length ≤ 41) (h : X Try.prog (inl a_Pdisk_Disk_settle.res K Kp) a_Pdisk_Disk_settle.body .done (env0 args) A) : SimX Try.prog F_Pdisk_Disk_settle args A (outK K Kp) :=
  X_inl g_Pdisk_Disk_settle c_Pdisk_Disk_settle (by rw [Try.ntmps93]; exact hn) h
theorem d_Pdisk_Disk_settle {args : List AV} {A : Heap} {Ko : AOut → Heap → Prop} (hn : args.length ≤ 41)
    (h : ∀ R : APost, (∀ e env A, fpost a_Pdisk_Disk_settle.res Ko e env A → R e env A) → X Try.prog R a_Pdisk_Disk_settle.body .done (env0 args) A) : SimD Try.prog F_Pdisk_Disk_settle args A Ko :=
  X_introD g_Pdisk_Disk_settle c_Pdisk_Disk_settle (by rw [Try.ntmps93]; exact hn) h
@[simp] theorem k_Pdisk_Disk_settle : callable Try.prog F_Pdisk_Disk_settle = true := by kernel_rfl
theorem c_Pdisk_Disk_Flush_1 : trF Try.prog Try.f94 = some a_Pdisk_Disk_Flush_1 := by kernel_rfl
theorem g_Pdisk_Disk_Flush_1 : Try.prog.funcs[94]? = some Try.f94 := by kernel_rfl
theorem i_Pdisk_Disk_Flush_1 {args : List AV} {A : Heap} {Ko : AOut → Heap → Prop} (hn : args.length ≤ 3)
    (h : ∀ R : APost, (∀ e env A, fpost a_Pdisk_Disk_Flush_1.res Ko e env A → R e env A) → X Try.prog R a_Pdisk_Disk_Flush_1.body .done (env0 args) A) : SimX Try.prog F_Pdisk_Disk_Flush_1 args A Ko :=
  X_intro g_Pdisk_Disk_Flush_1 c_Pdisk_Disk_Flush_1 (by rw [Try.ntmps94]; exact hn) h
theorem v_Pdisk_Disk_Flush_1 {args : List AV} {v : AV} (hn : args.length ≤ 3) (h : X Try.prog (fin a_Pdisk_Disk_Flush_1.res v) a_Pdisk_Disk_Flush_1.body .done (env0 args) H0) : Gives Try.prog F_Pdisk_Disk_Flush_1 args v :=
  Gives_intro g_Pdisk_Disk_Flush_1 c_Pdisk_Disk_Flush_1 (by rw [Try.ntmps94]; exact hn) h
theorem e_Pdisk_Disk_Flush_1 {args : List AV} {Q : AOut → Prop} (hn : args.length ≤ 3) (h : X Try.prog (finE a_Pdisk_Disk_Flush_1.res Q) a_Pdisk_Disk_Flush_1.body .done (env0 args) H0) : Fins Try.prog F_Pdisk_Disk_Flush_1 args Q :=
  Fins_intro g_Pdisk_Disk_Flush_1 c_Pdisk_Disk_Flush_1 (by rw [Try.ntmps94]; exact hn) h
theorem j_Pdisk_Disk_Flush_1 {args : List AV} {A : Heap} {K Kp : AV → Heap → Prop} (hn : args.length ≤ 3) (h : X Try.prog (inl a_Pdisk_Disk_Flush_1.res K Kp) a_Pdisk_Disk_Flush_1.body .done (env0 args) A) : SimX Try.prog F_Pdisk_Disk_Flush_1 args A (outK K Kp) :=
  X_inl g_Pdisk_Disk_Flush_1 c_Pdisk_Disk_Flush_1 (by rw [Try.ntmps94]; exact hn) h
theorem d_Pdisk_Disk_Flush_1 {args : List AV} {A : Heap} {Ko : AOut → Heap → Prop} (hn : args.length ≤ 3)
    (h : ∀ R : APost, (∀ e env A, fpost a_Pdisk_Disk_Flush_1.res Ko e env A → R e env A) → X Try.prog R a_Pdisk_Disk_Flush_1.body .done (env0 args) A) : SimD Try.prog F_Pdisk_Disk_Flush_1 args A Ko :=
  X_introD g_Pdisk_Disk_Flush_1 c_Pdisk_Disk_Flush_1 (by rw [Try.ntmps94]; exact hn) h
@[simp] theorem k_Pdisk_Disk_Flush_1 : callable Try.prog F_Pdisk_Disk_Flush_1 = true := by kernel_rfl
theorem c_Pdisk_Disk_Crash_1 : trF Try.prog Try.f95 = some a_Pdisk_Disk_Crash_1 := by kernel_rfl
theorem g_Pdisk_Disk_Crash_1 : Try.prog.funcs[95]? = some Try.f95 := by kernel_rfl
theorem i_Pdisk_Disk_Crash_1 {args : List AV} {A : Heap} {Ko : AOut → Heap → Prop} (hn : args.length ≤ 14)
    (h : ∀ R : APost, (∀ e env A, fpost a_Pdisk_Disk_Crash_1.res Ko e env A → R e env A) → X Try.prog R a_Pdisk_Disk_Crash_1.body .done (env0 args) A) : SimX Try.prog F_Pdisk_Disk_Crash_1 args A Ko :=
  X_intro g_Pdisk_Disk_Crash_1 c_Pdisk_Disk_Crash_1 (by rw [Try.ntmps95]; exact hn) h
theorem v_Pdisk_Disk_Crash_1 {args : List AV} {v : AV} (hn : args.length ≤ 14) (h : X Try.prog (fin a_Pdisk_Disk_Crash_1.res v) a_Pdisk_Disk_Crash_1.body .done (env0 args) H0) : Gives Try.prog F_Pdisk_Disk_Crash_1 args v :=
  Gives_intro g_Pdisk_Disk_Crash_1 c_Pdisk_Disk_Crash_1 (by rw [Try.ntmps95]; exact hn) h
theorem e_Pdisk_Disk_Crash_1 {args : List AV} {Q : AOut → Prop} (hn : args.length ≤ 14) (h : X Try.prog (finE a_Pdisk_Disk_Crash_1.res Q) a_Pdisk_Disk_Crash_1.body .done (env0 args) H0) : Fins Try.prog F_Pdisk_Disk_Crash_1 args Q :=
  Fins_intro g_Pdisk_Disk_Crash_1 c_Pdisk_Disk_Crash_1 (by rw [Try.ntmps95]; exact hn) h
theorem j_Pdisk_Disk_Crash_1 {args : List AV} {A : Heap} {K Kp : AV → Heap → Prop} (hn : args.length ≤ 14) (h : X Try.prog (inl a_Pdisk_Disk_Crash_1.res K Kp) a_Pdisk_Disk_Crash_1.body .done (env0 args) A) : SimX Try.prog F_Pdisk_Disk_Crash_1 args A (outK K Kp) :=
  X_inl g_Pdisk_Disk_Crash_1 c_Pdisk_Disk_Crash_1 (by rw [Try.ntmps95]; exact hn) h
theorem d_Pdisk_Disk_Crash_1 {args : List AV} {A : Heap} {Ko : AOut → Heap → Prop} (hn : args.length ≤ 14)
    (h : ∀ R : APost, (∀ e env A, fpost a_Pdisk_Disk_Crash_1.res Ko e env A → R e env A) → X Try.prog R a_Pdisk_Disk_Crash_1.body .done (env0 args) A) : SimD Try.prog F_Pdisk_Disk_Crash_1 args A Ko :=
  X_introD g_Pdisk_Disk_Crash_1 c_Pdisk_Disk_Crash_1 (by rw [Try.ntmps95]; exact hn) h
@[simp] theorem k_Pdisk_Disk_Crash_1 : callable Try.prog F_Pdisk_Disk_Crash_1 = true := by kernel_rfl
theorem c_ref06_New : trF Try.prog Try.f44 = some a_ref06_New := by kernel_rfl
theorem g_ref06_New : Try.prog.funcs[44]? = some Try.f44 := by kernel_rfl
theorem i_ref06_New {args : List AV} {A : Heap} {Ko : AOut → Heap → Prop} (hn : args.length ≤ 14)
    (h : ∀ R : APost, (∀ e env A, fpost a_ref06_New.res Ko e env A → R e env A) → X Try.prog R a_ref06_New.body .done (env0 args) A) : SimX Try.prog F_ref06_New args A Ko :=
  X_intro g_ref06_New c_ref06_New (by rw [Try.ntmps44]; exact hn) h
theorem v_ref06_New {args : List AV} {v : AV} (hn : args.length ≤ 14) (h : X Try.prog (fin a_ref06_New.res v) a_ref06_New.body .done (env0 args) H0) : Gives Try.prog F_ref06_New args v :=
  Gives_intro g_ref06_New c_ref06_New (by rw [Try.ntmps44]; exact hn) h
theorem e_ref06_New {args : List AV} {Q : AOut → Prop} (hn : args.length ≤ 14) (h : X Try.prog (finE a_ref06_New.res Q) a_ref06_New.body .done (env0 args) H0) : Fins Try.prog F_ref06_New args Q :=
  Fins_intro g_ref06_New c_ref06_New (by rw [Try.ntmps44]; exact hn) h
theorem j_ref06_New {args : List AV} {A : Heap} {K Kp : AV → Heap → Prop} (hn : args.length ≤ 14) (h : X Try.prog (inl a_ref06_New.res K Kp) a_ref06_New.body .done (env0 args) A) : SimX Try.prog F_ref06_New args A (outK K Kp) :=
  X_inl g_ref06_New c_ref06_New (by rw [Try.ntmps44]; exact hn) h
theorem d_ref06_New {args : List AV} {A : Heap} {Ko : AOut → Heap → Prop} (hn : args.length ≤ 14)
    (h : ∀ R : APost, (∀ e env A, fpost a_ref06_New.res Ko e env A → R e env A) → X Try.prog R a_ref06_New.body .done (env0 args) A) : SimD Try.prog F_ref06_New args A Ko :=
  X_introD g_ref06_New c_ref06_New (by rw [Try.ntmps44]; exact hn) h
@[simp] theorem k_ref06_New : callable Try.prog F_ref06_New = true := by kernel_rfl
theorem c_ref06_Put : trF Try.prog Try.f85 = some a_ref06_Put := by kernel_rfl
theorem g_ref06_Put : Try.prog.funcs[85]? = some Try.f85 := by kernel_rfl
theorem i_ref06_Put {args : List AV} {A : Heap} {Ko : AOut → Heap → Prop} (hn : args.length ≤ 44)
    (h : ∀ R : APost, (∀ e env A, fpost a_ref06_Put.res Ko e env A → R e env A) → X Try.prog R a_ref06_Put.body .done (env0 args) A) : SimX Try.prog F_ref06_Put args A Ko :=
  X_intro g_ref06_Put c_ref06_Put (by rw [Try.ntmps85]; exact hn) h
theorem v_ref06_Put {args : List AV} {v : AV} (hn : args.length ≤ 44) (h : X Try.prog (fin a_ref06_Put.res v) a_ref06_Put.body .done (env0 args) H0) : Gives Try.prog F_ref06_Put args v :=
  Gives_intro g_ref06_Put c_ref06_Put (by rw [Try.ntmps85]; exact hn) h
theorem e_ref06_Put {args : List AV} {Q : AOut → Prop} (hn : args.length ≤ 44) (h : X Try.prog (finE a_ref06_Put.res Q) a_ref06_Put.body .done (env0 args) H0) : Fins Try.prog F_ref06_Put args Q :=
  Fins_intro g_ref06_Put c_ref06_Put (by rw [Try.ntmps85]; exact hn) h
theorem j_ref06_Put {args : List AV} {A : Heap} {K Kp : AV → Heap → Prop} (hn : args.length ≤ 44) (h : X Try.prog (inl a_ref06_Put.res K Kp) a_ref06_Put.body .done (env0 args) A) : SimX Try.prog F_ref06_Put args A (outK K Kp) :=
  X_inl g_ref06_Put c_ref06_Put (by rw [Try.ntmps85]; exact hn) h
theorem d_ref06_Put {args : List AV} {A : Heap} {Ko : AOut → Heap → Prop} (hn : args.length ≤ 44)
    (h : ∀ R : APost, (∀ e env A, fpost a_ref06_Put.res Ko e env A → R e env A) → X Try.prog R a_ref06_Put.body .done (env0 args) A) : SimD Try.prog F_ref06_Put args A Ko :=
  X_introD g_ref06_Put c_ref06_Put (by rw [Try.ntmps85]; exact hn) h
@[simp] theorem k_ref06_Put : callable Try.prog F_ref06_Put = true := by kernel_rfl
theorem c_ref06_Read : trF Try.prog Try.f86 = some a_ref06_Read := by kernel_rfl
theorem g_ref06_Read : Try.prog.funcs[86]? = some Try.f86 := by kernel_rfl
theorem i_ref06_Read {args : List AV} {A : Heap} {Ko : AOut → Heap → Prop} (hn : args.length ≤ 48)
    (h : ∀ R : APost, (∀ e env A, fpost a_ref06_Read.res Ko e env A → R e env A) → X Try.prog R a_ref06_Read.body .done (env0 args) A) : SimX Try.prog F_ref06_Read args A Ko :=
  X_intro g_ref06_Read c_ref06_Read (by rw [Try.ntmps86]; exact hn) h
theorem v_ref06_Read {args : List AV} {v : AV} (hn : args.length ≤ 48) (h : X Try.prog (fin a_ref06_Read.res v) a_ref06_Read.body .done (env0 args) H0) : Gives Try.prog F_ref06_Read args v :=
  Gives_intro g_ref06_Read c_ref06_Read (by rw [Try.ntmps86]; exact hn) h
theorem e_ref06_Read {args : List AV} {Q : AOut → Prop} (hn : args.length ≤ 48) (h : X Try.prog (finE a_ref06_Read.res Q) a_ref06_Read.body .done (env0 args) H0) : Fins Try.prog F_ref06_Read args Q :=
  Fins_intro g_ref06_Read c_ref06_Read (by rw [Try.ntmps86]; exact hn) h
theorem j_ref06_Read {args : List AV} {A : Heap} {K Kp : AV → Heap → Prop} (hn : args.length ≤ 48) (h : X Try.prog (inl a_ref06_Read.res K Kp) a_ref06_Read.body .done (env0 args) A) : SimX Try.prog F_ref06_Read args A (outK K Kp) :=
  X_inl g_ref06_Read c_ref06_Read (by rw [Try.ntmps86]; exact hn) h
theorem d_ref06_Read {args : List AV} {A : Heap} {Ko : AOut → Heap → Prop} (hn : args.length ≤ 48)
    (h : ∀ R : APost, (∀ e env A, fpost a_ref06_Read.res Ko e env A → R e env A) → X Try.prog R a_ref06_Read.body .done (env0 args) A) : SimD Try.prog F_ref06_Read args A Ko :=
  X_introD g_ref06_Read c_ref06_Read (by rw [Try.ntmps86]; exact hn) h
@[simp] theorem k_ref06_Read : callable Try.prog F_ref06_Read = true := by kernel_rfl
theorem c_ref06_Flush : trF Try.prog Try.f87 = some a_ref06_Flush := by kernel_rfl
theorem g_ref06_Flush : Try.prog.funcs[87]? = some Try.f87 := by kernel_rfl
theorem i_ref06_Flush {args : List AV} {A : Heap} {Ko : AOut → Heap → Prop} (hn : args.length ≤ 22)
    (h : ∀ R : APost, (∀ e env A, fpost a_ref06_Flush.res Ko e env A → R e env A) → X Try.prog R a_ref06_Flush.body .done (env0 args) A) : SimX Try.prog F_ref06_Flush args A Ko :=
  X_intro g_ref06_Flush c_ref06_Flush (by rw [Try.ntmps87]; exact hn) h
theorem v_ref06_Flush {args : List AV} {v : AV} (hn : args.length ≤ 22) (h : X Try.prog (fin a_ref06_Flush.res v) a_ref06_Flush.body .done (env0 args) H0) : Gives Try.prog F_ref06_Flush args v :=
  Gives_intro g_ref06_Flush c_ref06_Flush (by rw [Try.ntmps87]; exact hn) h
theorem e_ref06_Flush {args : List AV} {Q : AOut → Prop} (hn : args.length ≤ 22) (h : X Try.prog (finE a_ref06_Flush.res Q) a_ref06_Flush.body .done (env0 args) H0) : Fins Try.prog F_ref06_Flush args Q :=
  Fins_intro g_ref06_Flush c_ref06_Flush (by rw [Try.ntmps87]; exact hn) h
theorem j_ref06_Flush {args : List AV} {A : Heap} {K Kp : AV → Heap → Prop} (hn : args.length ≤ 22) (h : X Try.prog (inl a_ref06_Flush.res K Kp) a_ref06_Flush.body .done (env0 args) A) : SimX Try.prog F_ref06_Flush args A (outK K Kp) :=
  X_inl g_ref06_Flush c_ref06_Flush (by rw [Try.ntmps87]; exact hn) h
theorem d_ref06_Flush {args : List AV} {A : Heap} {Ko : AOut → Heap → Prop} (hn : args.length ≤ 22)
    (h : ∀ R : APost, (∀ e env A, fpost a_ref06_Flush.res Ko e env A → R e env A) → X Try.prog R a_ref06_Flush.body .done (env0 args) A) : SimD Try.prog F_ref06_Flush args A Ko :=
  X_introD g_ref06_Flush c_ref06_Flush (by rw [Try.ntmps87]; exact hn) h
@[simp] theorem k_ref06_Flush : callable Try.prog F_ref06_Flush = true := by kernel_rfl
theorem c_ref06_Crash : trF Try.prog Try.f88 = some a_ref06_Crash := by kernel_rfl
theorem g_ref06_Crash : Try.prog.funcs[88]? = some Try.f88 := by kernel_rfl
theorem i_ref06_Crash {args : List AV} {A : Heap} {Ko : AOut → Heap → Prop} (hn : args.length ≤ 18)
    (h : ∀ R : APost, (∀ e env A, fpost a_ref06_Crash.res Ko e env A → R e env A) → X Try.prog R a_ref06_Crash.body .done (env0 args) A) : SimX Try.prog F_ref06_Crash args A Ko :=
  X_intro g_ref06_Crash c_ref06_Crash (by rw [Try.ntmps88]; exact hn) h
theorem v_ref06_Crash {args : List AV} {v : AV} (hn : args.length ≤ 18) (h : X Try.prog (fin a_ref06_Crash.res v) a_ref06_Crash.body .done (env0 args) H0) : Gives Try.prog F_ref06_Crash args v :=
  Gives_intro g_ref06_Crash c_ref06_Crash (by rw [Try.ntmps88]; exact hn) h
theorem e_ref06_Crash {args : List AV} {Q : AOut → Prop} (hn : args.length ≤ 18) (h : X Try.prog (finE a_ref06_Crash.res Q) a_ref06_Crash.body .done (env0 args) H0) : Fins Try.prog F_ref06_Crash args Q :=
  Fins_intro g_ref06_Crash c_ref06_Crash (by rw [Try.ntmps88]; exact hn) h
theorem j_ref06_Crash {args : List AV} {A : Heap} {K Kp : AV → Heap → Prop} (hn : args.length ≤ 18) (h : X Try.prog (inl a_ref06_Crash.res K Kp) a_ref06_Crash.body .done (env0 args) A) : SimX Try.prog F_ref06_Crash args A (outK K Kp) :=
  X_inl g_ref06_Crash c_ref06_Crash (by rw [Try.ntmps88]; exact hn) h
theorem d_ref06_Crash {args : List AV} {A : Heap} {Ko : AOut → Heap → Prop} (hn : args.length ≤ 18)
    (h : ∀ R : APost, (∀ e env A, fpost a_ref06_Crash.res Ko e env A → R e env A) → X Try.prog R a_ref06_Crash.body .done (env0 args) A) : SimD Try.prog F_ref06_Crash args A Ko :=
  X_introD g_ref06_Crash c_ref06_Crash (by rw [Try.ntmps88]; exact hn) h
@[simp] theorem k_ref06_Crash : callable Try.prog F_ref06_Crash = true := by kernel_rfl
theorem c_ref06_Fuse : trF Try.prog Try.f89 = some a_ref06_Fuse := by kernel_rfl
theorem g_ref06_Fuse : Try.prog.funcs[89]? = some Try.f89 := by kernel_rfl
theorem i_ref06_Fuse {args : List AV} {A : Heap} {Ko : AOut → Heap → Prop} (hn : args.length ≤ 13)
    (h : ∀ R : APost, (∀ e env A, fpost a_ref06_Fuse.res Ko e env A → R e env A) → X Try.prog R a_ref06_Fuse.body .done (env0 args) A) : SimX Try.prog F_ref06_Fuse args A Ko :=
  X_intro g_ref06_Fuse c_ref06_Fuse (by rw [Try.ntmps89]; exact hn) h
theorem v_ref06_Fuse {args : List AV} {v : AV} (hn : args.length ≤ 13) (h : X Try.prog (fin a_ref06_Fuse.res v) a_ref06_Fuse.body .done (env0 args) H0) : Gives Try.prog F_ref06_Fuse args v :=
  Gives_intro g_ref06_Fuse c_ref06_Fuse (by rw [Try.ntmps89]; exact hn) h
theorem e_ref06_Fuse {args : List AV} {Q : AOut → Prop} (hn : args.length ≤ 13) (h : X Try.prog (finE a_ref06_Fuse.res Q) a_ref06_Fuse.body .done (env0 args) H0) : Fins Try.prog F_ref06_Fuse args Q :=
  Fins_intro g_ref06_Fuse c_ref06_Fuse (by rw [Try.ntmps89]; exact hn) h
theorem j_ref06_Fuse {args : List AV} {A : Heap} {K Kp : AV → Heap → Prop} (hn : args.length ≤ 13) (h : X Try.prog (inl a_ref06_Fuse.res K Kp) a_ref06_Fuse.body .done (env0 args) A) : SimX Try.prog F_ref06_Fuse args A (outK K Kp) :=
  X_inl g_ref06_Fuse c_ref06_Fuse (by rw [Try.ntmps89]; exact hn) h
theorem d_ref06_Fuse {args : List AV} {A : Heap} {Ko : AOut → Heap → Prop} (hn : args.length ≤ 13)
    (h : ∀ R : APost, (∀ e env A, fpost a_ref06_Fuse.res Ko e env A → R e env A) → X Try.prog R a_ref06_Fuse.body .done (env0 args) A) : SimD Try.prog F_ref06_Fuse args A Ko :=
  X_introD g_ref06_Fuse c_ref06_Fuse (by rw [Try.ntmps89]; exact hn) h
@[simp] theorem k_ref06_Fuse : callable Try.prog F_ref06_Fuse = true := by kernel_rfl
theorem c_ref06_SameImage : trF Try.prog Try.f90 = some a_ref06_SameImage := by kernel_rfl
theorem g_ref06_SameImage : Try.prog.funcs[90]? = some Try.f90 := by kernel_rfl
theorem i_ref06_SameImage {args : List AV} {A : Heap} {Ko : AOut → Heap → Prop} (hn : args.length ≤ 26)
    (h : ∀ R : APost, (∀ e env A, fpost a_ref06_SameImage.res Ko e env A → R e env A) → X Try.prog R a_ref06_SameImage.body .done (env0 args) A) : SimX Try.prog F_ref06_SameImage args A Ko :=
  X_intro g_ref06_SameImage c_ref06_SameImage (by rw [Try.ntmps90]; exact hn) h
theorem v_ref06_SameImage {args : List AV} {v : AV} (hn : args.length ≤ 26) (h : X Try.prog (fin a_ref06_SameImage.res v) a_ref06_SameImage.body .done (env0 args) H0) : Gives Try.prog F_ref06_SameImage args v :=
  Gives_intro g_ref06_SameImage c_ref06_SameImage (by rw [Try.ntmps90]; exact hn) h
theorem e_ref06_SameImage {args : List AV} {Q : AOut → Prop} (hn : args.length ≤ 26) (h : X Try.prog (finE a_ref06_SameImage.res Q) a_ref06_SameImage.body .done (env0 args) H0) : Fins Try.prog F_ref06_SameImage args Q :=
  Fins_intro g_ref06_SameImage c_ref06_SameImage (by rw [Try.ntmps90]; exact hn) h
theorem j_ref06_SameImage {args : List AV} {A : Heap} {K Kp : AV → Heap → Prop} (hn : args.length ≤ 26) (h : X Try.prog (inl a_ref06_SameImage.res K Kp) a_ref06_SameImage.body .done (env0 args) A) : SimX Try.prog F_ref06_SameImage args A (outK K Kp) :=
  X_inl g_ref06_SameImage c_ref06_SameImage (by rw [Try.ntmps90]; exact hn) h
theorem d_ref06_SameImage {args : List AV} {A : Heap} {Ko : AOut → Heap → Prop} (hn : args.length ≤ 26)
    (h : ∀ R : APost, (∀ e env A, fpost a_ref06_SameImage.res Ko e env A → R e env A) → X Try.prog R a_ref06_SameImage.body .done (env0 args) A) : SimD Try.prog F_ref06_SameImage args A Ko :=
  X_introD g_ref06_SameImage c_ref06_SameImage (by rw [Try.ntmps90]; exact hn) h
@[simp] theorem k_ref06_SameImage : callable Try.prog F_ref06_SameImage = true := by kernel_rfl
theorem c_ref06_step : trF Try.prog Try.f103 = some a_ref06_step := by kernel_rfl
theorem g_ref06_step : Try.prog.funcs[103]? = some Try.f103 := by kernel_rfl
theorem i_ref06_step {args : List AV} {A : Heap} {Ko : AOut → Heap → Prop} (hn : args.length ≤ 27)
    (h : ∀ R : APost, (∀ e env A, fpost a_ref06_step.res Ko e env A → R e env A) → X Try.prog R a_ref06_step.body .done (env0 args) A) : SimX Try.prog F_ref06_step args A Ko :=
  X_intro g_ref06_step c_ref06_step (by rw [Try.ntmps103]; exact hn) h
theorem v_ref06_step {args : List AV} {v : AV} (hn : args.length ≤ 27) (h : X Try.prog (fin a_ref06_step.res v) a_ref06_step.body .done (env0 args) H0) : Gives Try.prog F_ref06_step args v :=
  Gives_intro g_ref06_step c_ref06_step (by rw [Try.ntmps103]; exact hn) h
theorem e_ref06_step {args : List AV} {Q : AOut → Prop} (hn : args.length ≤ 27) (h : X Try.prog (finE a_ref06_step.res Q) a_ref06_step.body .done (env0 args) H0) : Fins Try.prog F_ref06_step args Q :=
  Fins_intro g_ref06_step c_ref06_step (by rw [Try.ntmps103]; exact hn) h
theorem j_ref06_step {args : List AV} {A : Heap} {K Kp : AV → Heap → Prop} (hn : args.length ≤ 27) (h : X Try.prog (inl a_ref06_step.res K Kp) a_ref06_step.body .done (env0 args) A) : SimX Try.prog F_ref06_step args A (outK K Kp) :=
  X_inl g_ref06_step c_ref06_step (by rw [Try.ntmps103]; exact hn) h
theorem d_ref06_step {args : List AV} {A : Heap} {Ko : AOut → Heap → Prop} (hn : args.length ≤ 27)
    (h : ∀ R : APost, (∀ e env A, fpost a_ref06_step.res Ko e env A → R e env A) → X Try.prog R a_ref06_step.body .done (env0 args) A) : SimD Try.prog F_ref06_step args A Ko :=
  X_introD g_ref06_step c_ref06_step (by rw [Try.ntmps103]; exact hn) h
@[simp] theorem k_ref06_step : callable Try.prog F_ref06_step = true := by kernel_rfl
theorem c_ref06_settle : trF Try.prog Try.f104 = some a_ref06_settle := by kernel_rfl
theorem g_ref06_settle : Try.prog.funcs[104]? = some Try.f104 := by kernel_rfl
theorem i_ref06_settle {args : List AV} {A : Heap} {Ko : AOut → Heap → Prop} (hn : args.length ≤ 50)
    (h : ∀ R : APost, (∀ e env A, fpost a_ref06_settle.res Ko e env A → R e env A) → X Try.prog R a_ref06_settle.body .done (env0 args) A) : SimX Try.prog F_ref06_settle args A Ko :=
  X_intro g_ref06_settle c_ref06_settle (by rw [Try.ntmps104]; exact hn) h
theorem v_ref06_settle {args : List AV} {v : AV} (hn : args.length ≤ 50) (h : X Try.prog (fin a_ref06_settle.res v) a_ref06_settle.body .done (env0 args) H0) : Gives Try.prog F_ref06_settle args v :=
  Gives_intro g_ref06_settle c_ref06_settle (by rw [Try.ntmps104]; exact hn) h
theorem e_ref06_settle {args : List AV} {Q : AOut → Prop} (hn : args.length ≤ 50) (h : X Try.prog (finE a_ref06_settle.res Q) a_ref06_settle.body .done (env0 args) H0) : Fins Try.prog F_ref06_settle args Q :=
  Fins_intro g_ref06_settle c_ref06_settle (by rw [Try.ntmps104]; exact hn) h
theorem j_ref06_settle {args : List AV} {A : Heap} {K Kp : AV → Heap → Prop} (hn : args.length ≤ 50) (h : X Try.prog (inl a_ref06_settle.res K Kp) a_ref06_settle.body .done (env0 args) A) : SimX Try.prog F_ref06_settle args A (outK K Kp) :=
  X_inl g_ref06_settle c_ref06_settle (by rw [Try.ntmps104]; exact hn) h
theorem d_ref06_settle {args : List AV} {A : Heap} {Ko : AOut → Heap → Prop} (hn : args.length ≤ 50)
    (h : ∀ R : APost, (∀ e env A, fpost a_ref06_settle.res Ko e env A → R e env A) → X Try.prog R a_ref06_settle.body .done (env0 args) A) : SimD Try.prog F_ref06_settle args A Ko :=
  X_introD g_ref06_settle c_ref06_settle (by rw [Try.ntmps104]; exact hn) h
@[simp] theorem k_ref06_settle : callable Try.prog F_ref06_settle = true := by kernel_rfl
theorem c_ref06_keeps : trF Try.prog Try.f109 = some a_ref06_keeps := by kernel_rfl
theorem g_ref06_keeps : Try.prog.funcs[109]? = some Try.f109 := by kernel_rfl
theorem i_ref06_keeps {args : List AV} {A : Heap} {Ko : AOut → Heap → Prop} (hn : args.length ≤ 20)
    (h : ∀ R : APost, (∀ e env A, fpost a_ref06_keeps.res Ko e env A → R e env A) → X Try.prog R a_ref06_keeps.body .done (env0 args) A) : SimX Try.prog F_ref06_keeps args A Ko :=
  X_intro g_ref06_keeps c_ref06_keeps (by rw [Try.ntmps109]; exact hn) h
theorem v_ref06_keeps {args : List AV} {v : AV} (hn : args.length ≤ 20) (h : X Try.prog (fin a_ref06_keeps.res v) a_ref06_keeps.body .done (env0 args) H0) : Gives Try.prog F_ref06_keeps args v :=
  Gives_intro g_ref06_keeps c_ref06_keeps (by rw [Try.ntmps109]; exact hn) h
theorem e_ref06_keeps {args : List AV} {Q : AOut → Prop} (hn : args.length ≤ 20) (h : X Try.prog (finE a_ref06_keeps.res Q) a_ref06_keeps.body .done (env0 args) H0) : Fins Try.prog F_ref06_keeps args Q :=
  Fins_intro g_ref06_keeps c_ref06_keeps (by rw [Try.ntmps109]; exact hn) h
theorem j_ref06_keeps {args : List AV} {A : Heap} {K Kp : AV → Heap → Prop} (hn : args.length ≤ 20) (h : X Try.prog (inl a_ref06_keeps.res K Kp) a_ref06_keeps.body .done (env0 args) A) : SimX Try.prog F_ref06_keeps args A (outK K Kp) :=
  X_inl g_ref06_keeps c_ref06_keeps (by rw [Try.ntmps109]; exact hn) h
theorem d_ref06_keeps {args : List AV} {A : Heap} {Ko : AOut → Heap → Prop} (hn : args.length ≤ 20)
    (h : ∀ R : APost, (∀ e env A, fpost a_ref06_keeps.res Ko e env A → R e env A) → X Try.prog R a_ref06_keeps.body .done (env0 args) A) : SimD Try.prog F_ref06_keeps args A Ko :=
  X_introD g_ref06_keeps c_ref06_keeps (by rw [Try.ntmps109]; exact hn) h
@[simp] theorem k_ref06_keeps : callable Try.prog F_ref06_keeps = true := by kernel_rfl
theorem c_law06_DiskDoes : trF Try.prog Try.f9 = some a_law06_DiskDoes := by kernel_rfl
theorem g_law06_DiskDoes : Try.prog.funcs[9]? = some Try.f9 := by kernel_rfl
theorem i_law06_DiskDoes {args : List AV} {A : Heap} {Ko : AOut → Heap → Prop} (hn : args.length ≤ 68)
    (h : ∀ R : APost, (∀ e env A, fpost a_law06_DiskDoes.res Ko e env A → R e env A) → X Try.prog R a_law06_DiskDoes.body .done (env0 args) A) : SimX Try.prog F_law06_DiskDoes args A Ko :=
  X_intro g_law06_DiskDoes c_law06_DiskDoes (by rw [Try.ntmps9]; exact hn) h
theorem v_law06_DiskDoes {args : List AV} {v : AV} (hn : args.length ≤ 68) (h : X Try.prog (fin a_law06_DiskDoes.res v) a_law06_DiskDoes.body .done (env0 args) H0) : Gives Try.prog F_law06_DiskDoes args v :=
  Gives_intro g_law06_DiskDoes c_law06_DiskDoes (by rw [Try.ntmps9]; exact hn) h
theorem e_law06_DiskDoes {args : List AV} {Q : AOut → Prop} (hn : args.length ≤ 68) (h : X Try.prog (finE a_law06_DiskDoes.res Q) a_law06_DiskDoes.body .done (env0 args) H0) : Fins Try.prog F_law06_DiskDoes args Q :=
  Fins_intro g_law06_DiskDoes c_law06_DiskDoes (by rw [Try.ntmps9]; exact hn) h
theorem j_law06_DiskDoes {args : List AV} {A : Heap} {K Kp : AV → Heap → Prop} (hn : args.length ≤ 68) (h : X Try.prog (inl a_law06_DiskDoes.res K Kp) a_law06_DiskDoes.body .done (env0 args) A) : SimX Try.prog F_law06_DiskDoes args A (outK K Kp) :=
  X_inl g_law06_DiskDoes c_law06_DiskDoes (by rw [Try.ntmps9]; exact hn) h
theorem d_law06_DiskDoes {args : List AV} {A : Heap} {Ko : AOut → Heap → Prop} (hn : args.length ≤ 68)
    (h : ∀ R : APost, (∀ e env A, fpost a_law06_DiskDoes.res Ko e env A → R e env A) → X Try.prog R a_law06_DiskDoes.body .done (env0 args) A) : SimD Try.prog F_law06_DiskDoes args A Ko :=
  X_introD g_law06_DiskDoes c_law06_DiskDoes (by rw [Try.ntmps9]; exact hn) h
@[simp] theorem k_law06_DiskDoes : callable Try.prog F_law06_DiskDoes = true := by kernel_rfl
theorem c_law06_DiskLasts : trF Try.prog Try.f10 = some a_law06_DiskLasts := by kernel_rfl
theorem g_law06_DiskLasts : Try.prog.funcs[10]? = some Try.f10 := by kernel_rfl
theorem i_law06_DiskLasts {args : List AV} {A : Heap} {Ko : AOut → Heap → Prop} (hn : args.length ≤ 165)
    (h : ∀ R : APost, (∀ e env A, fpost a_law06_DiskLasts.res Ko e env A → R e env A) → X Try.prog R a_law06_DiskLasts.body .done (env0 args) A) : SimX Try.prog F_law06_DiskLasts args A Ko :=
  X_intro g_law06_DiskLasts c_law06_DiskLasts (by rw [Try.ntmps10]; exact hn) h
theorem v_law06_DiskLasts {args : List AV} {v : AV} (hn : args.length ≤ 165) (h : X Try.prog (fin a_law06_DiskLasts.res v) a_law06_DiskLasts.body .done (env0 args) H0) : Gives Try.prog F_law06_DiskLasts args v :=
  Gives_intro g_law06_DiskLasts c_law06_DiskLasts (by rw [Try.ntmps10]; exact hn) h
theorem e_law06_DiskLasts {args : List AV} {Q : AOut → Prop} (hn : args.length ≤ 165) (h : X Try.prog (finE a_law06_DiskLasts.res Q) a_law06_DiskLasts.body .done (env0 args) H0) : Fins Try.prog F_law06_DiskLasts args Q :=
  Fins_intro g_law06_DiskLasts c_law06_DiskLasts (by rw [Try.ntmps10]; exact hn) h
theorem j_law06_DiskLasts {args : List AV} {A : Heap} {K Kp : AV → Heap → Prop} (hn : args.length ≤ 165) (h : X Try.prog (inl a_law06_DiskLasts.res K Kp) a_law06_DiskLasts.body .done (env0 args) A) : SimX Try.prog F_law06_DiskLasts args A (outK K Kp) :=
  X_inl g_law06_DiskLasts c_law06_DiskLasts (by rw [Try.ntmps10]; exact hn) h
theorem d_law06_DiskLasts {args : List AV} {A : Heap} {Ko : AOut → Heap → Prop} (hn : args.length ≤ 165)
    (h : ∀ R : APost, (∀ e env A, fpost a_law06_DiskLasts.res Ko e env A → R e env A) → X Try.prog R a_law06_DiskLasts.body .done (env0 args) A) : SimD Try.prog F_law06_DiskLasts args A Ko :=
  X_introD g_law06_DiskLasts c_law06_DiskLasts (by rw [Try.ntmps10]; exact hn) h
@[simp] theorem k_law06_DiskLasts : callable Try.prog F_law06_DiskLasts = true := by kernel_rfl
theorem c_law06_DiskTwins : trF Try.prog Try.f11 = some a_law06_DiskTwins := by kernel_rfl
theorem g_law06_DiskTwins : Try.prog.funcs[11]? = some Try.f11 := by kernel_rfl
theorem i_law06_DiskTwins {args : List AV} {A : Heap} {Ko : AOut → Heap → Prop} (hn : args.length ≤ 104)
    (h : ∀ R : APost, (∀ e env A, fpost a_law06_DiskTwins.res Ko e env A → R e env A) → X Try.prog R a_law06_DiskTwins.body .done (env0 args) A) : SimX Try.prog F_law06_DiskTwins args A Ko :=
  X_intro g_law06_DiskTwins c_law06_DiskTwins (by rw [Try.ntmps11]; exact hn) h
theorem v_law06_DiskTwins {args : List AV} {v : AV} (hn : args.length ≤ 104) (h : X Try.prog (fin a_law06_DiskTwins.res v) a_law06_DiskTwins.body .done (env0 args) H0) : Gives Try.prog F_law06_DiskTwins args v :=
  Gives_intro g_law06_DiskTwins c_law06_DiskTwins (by rw [Try.ntmps11]; exact hn) h
theorem e_law06_DiskTwins {args : List AV} {Q : AOut → Prop} (hn : args.length ≤ 104) (h : X Try.prog (finE a_law06_DiskTwins.res Q) a_law06_DiskTwins.body .done (env0 args) H0) : Fins Try.prog F_law06_DiskTwins args Q :=
  Fins_intro g_law06_DiskTwins c_law06_DiskTwins (by rw [Try.ntmps11]; exact hn) h
theorem j_law06_DiskTwins {args : List AV} {A : Heap} {K Kp : AV → Heap → Prop} (hn : args.length ≤ 104) (h : X Try.prog (inl a_law06_DiskTwins.res K Kp) a_law06_DiskTwins.body .done (env0 args) A) : SimX Try.prog F_law06_DiskTwins args A (outK K Kp) :=
  X_inl g_law06_DiskTwins c_law06_DiskTwins (by rw [Try.ntmps11]; exact hn) h
theorem d_law06_DiskTwins {args : List AV} {A : Heap} {Ko : AOut → Heap → Prop} (hn : args.length ≤ 104)
    (h : ∀ R : APost, (∀ e env A, fpost a_law06_DiskTwins.res Ko e env A → R e env A) → X Try.prog R a_law06_DiskTwins.body .done (env0 args) A) : SimD Try.prog F_law06_DiskTwins args A Ko :=
  X_introD g_law06_DiskTwins c_law06_DiskTwins (by rw [Try.ntmps11]; exact hn) h
@[simp] theorem k_law06_DiskTwins : callable Try.prog F_law06_DiskTwins = true := by kernel_rfl
theorem c_law06_light : trF Try.prog Try.f41 = some a_law06_light := by kernel_rfl
theorem g_law06_light : Try.prog.funcs[41]? = some Try.f41 := by kernel_rfl
theorem i_law06_light {args : List AV} {A : Heap} {Ko : AOut → Heap → Prop} (hn : args.length ≤ 20)
    (h : ∀ R : APost, (∀ e env A, fpost a_law06_light.res Ko e env A → R e env A) → X Try.prog R a_law06_light.body .done (env0 args) A) : SimX Try.prog F_law06_light args A Ko :=
  X_intro g_law06_light c_law06_light (by rw [Try.ntmps41]; exact hn) h
theorem v_law06_light {args : List AV} {v : AV} (hn : args.length ≤ 20) (h : X Try.prog (fin a_law06_light.res v) a_law06_light.body .done (env0 args) H0) : Gives Try.prog F_law06_light args v :=
  Gives_intro g_law06_light c_law06_light (by rw [Try.ntmps41]; exact hn) h
theorem e_law06_light {args : List AV} {Q : AOut → Prop} (hn : args.length ≤ 20) (h : X Try.prog (finE a_law06_light.res Q) a_law06_light.body .done (env0 args) H0) : Fins Try.prog F_law06_light args Q :=
  Fins_intro g_law06_light c_law06_light (by rw [Try.ntmps41]; exact hn) h
theorem j_law06_light {args : List AV} {A : Heap} {K Kp : AV → Heap → Prop} (hn : args.length ≤ 20) (h : X Try.prog (inl a_law06_light.res K Kp) a_law06_light.body .done (env0 args) A) : SimX Try.prog F_law06_light args A (outK K Kp) :=
  X_inl g_law06_light c_law06_light (by rw [Try.ntmps41]; exact hn) h
theorem d_law06_light {args : List AV} {A : Heap} {Ko : AOut → Heap → Prop} (hn : args.length ≤ 20)
    (h : ∀ R : APost, (∀ e env A, fpost a_law06_light.res Ko e env A → R e env A) → X Try.prog R a_law06_light.body .done (env0 args) A) : SimD Try.prog F_law06_light args A Ko :=
  X_introD g_law06_light c_law06_light (by rw [Try.ntmps41]; exact hn) h
@[simp] theorem k_law06_light : callable Try.prog F_law06_light = true := by kernel_rfl
theorem c_law06_works : trF Try.prog Try.f42 = some a_law06_works := by kernel_rfl
theorem g_law06_works : Try.prog.funcs[42]? = some Try.f42 := by kernel_rfl
theorem i_law06_works {args : List AV} {A : Heap} {Ko : AOut → Heap → Prop} (hn : args.length ≤ 135)
    (h : ∀ R : APost, (∀ e env A, fpost a_law06_works.res Ko e env A → R e env A) → X Try.prog R a_law06_works.body .done (env0 args) A) : SimX Try.prog F_law06_works args A Ko :=
  X_intro g_law06_works c_law06_works (by rw [Try.ntmps42]; exact hn) h
theorem v_law06_works {args : List AV} {v : AV} (hn : args.length ≤ 135) (h : X Try.prog (fin a_law06_works.res v) a_law06_works.body .done (env0 args) H0) : Gives Try.prog F_law06_works args v :=
  Gives_intro g_law06_works c_law06_works (by rw [Try.ntmps42]; exact hn) h
theorem e_law06_works {args : List AV} {Q : AOut → Prop} (hn : args.length ≤ 135) (h : X Try.prog (finE a_law06_works.res Q) a_law06_works.body .done (env0 args) H0) : Fins Try.prog F_law06_works args Q :=
  Fins_intro g_law06_works c_law06_works (by rw [Try.ntmps42]; exact hn) h
theorem j_law06_works {args : List AV} {A : Heap} {K Kp : AV → Heap → Prop} (hn : args.length ≤ 135) (h : X Try.prog (inl a_law06_works.res K Kp) a_law06_works.body .done (env0 args) A) : SimX Try.prog F_law06_works args A (outK K Kp) :=
  X_inl g_law06_works c_law06_works (by rw [Try.ntmps42]; exact hn) h
theorem d_law06_works {args : List AV} {A : Heap} {Ko : AOut → Heap → Prop} (hn : args.length ≤ 135)
    (h : ∀ R : APost, (∀ e env A, fpost a_law06_works.res Ko e env A → R e env A) → X Try.prog R a_law06_works.body .done (env0 args) A) : SimD Try.prog F_law06_works args A Ko :=
  X_introD g_law06_works c_law06_works (by rw [Try.ntmps42]; exact hn) h
@[simp] theorem k_law06_works : callable Try.prog F_law06_works = true := by kernel_rfl
theorem c_law06_do : trF Try.prog Try.f45 = some a_law06_do := by kernel_rfl
theorem g_law06_do : Try.prog.funcs[45]? = some Try.f45 := by kernel_rfl
theorem i_law06_do {args : List AV} {A : Heap} {Ko : AOut → Heap → Prop} (hn : args.length ≤ 107)
    (h : ∀ R : APost, (∀ e env A, fpost a_law06_do.res Ko e env A → R e env A) → X Try.prog R a_law06_do.body .done (env0 args) A) : SimX Try.prog F_law06_do args A Ko :=
  X_intro g_law06_do c_law06_do (by rw [Try.ntmps45]; exact hn) h
theorem v_law06_do {args : List AV} {v : AV} (hn : args.length ≤ 107) (h : X Try.prog (fin a_law06_do.res v) a_law06_do.body .done (env0 args) H0) : Gives Try.prog F_law06_do args v :=
  Gives_intro g_law06_do c_law06_do (by rw [Try.ntmps45]; exact hn) h
theorem e_law06_do {args : List AV} {Q : AOut → Prop} (hn : args.length ≤ 107) (h : X Try.prog (finE a_law06_do.res Q) a_law06_do.body .done (env0 args) H0) : Fins Try.prog F_law06_do args Q :=
  Fins_intro g_law06_do c_law06_do (by rw [Try.ntmps45]; exact hn) h
theorem j_law06_do {args : List AV} {A : Heap} {K Kp : AV → Heap → Prop} (hn : args.length ≤ 107) (h : X Try.prog (inl a_law06_do.res K Kp) a_law06_do.body .done (env0 args) A) : SimX Try.prog F_law06_do args A (outK K Kp) :=
  X_inl g_law06_do c_law06_do (by rw [Try.ntmps45]; exact hn) h
theorem d_law06_do {args : List AV} {A : Heap} {Ko : AOut → Heap → Prop} (hn : args.length ≤ 107)
    (h : ∀ R : APost, (∀ e env A, fpost a_law06_do.res Ko e env A → R e env A) → X Try.prog R a_law06_do.body .done (env0 args) A) : SimD Try.prog F_law06_do args A Ko :=
  X_introD g_law06_do c_law06_do (by rw [Try.ntmps45]; exact hn) h
@[simp] theorem k_law06_do : callable Try.prog F_law06_do = true := by kernel_rfl
theorem c_law06_same : trF Try.prog Try.f46 = some a_law06_same := by kernel_rfl
theorem g_law06_same : Try.prog.funcs[46]? = some Try.f46 := by kernel_rfl
theorem i_law06_same {args : List AV} {A : Heap} {Ko : AOut → Heap → Prop} (hn : args.length ≤ 69)
    (h : ∀ R : APost, (∀ e env A, fpost a_law06_same.res Ko e env A → R e env A) → X Try.prog R a_law06_same.body .done (env0 args) A) : SimX Try.prog F_law06_same args A Ko :=
  X_intro g_law06_same c_law06_same (by rw [Try.ntmps46]; exact hn) h
theorem v_law06_same {args : List AV} {v : AV} (hn : args.length ≤ 69) (h : X Try.prog (fin a_law06_same.res v) a_law06_same.body .done (env0 args) H0) : Gives Try.prog F_law06_same args v :=
  Gives_intro g_law06_same c_law06_same (by rw [Try.ntmps46]; exact hn) h
theorem e_law06_same {args : List AV} {Q : AOut → Prop} (hn : args.length ≤ 69) (h : X Try.prog (finE a_law06_same.res Q) a_law06_same.body .done (env0 args) H0) : Fins Try.prog F_law06_same args Q :=
  Fins_intro g_law06_same c_law06_same (by rw [Try.ntmps46]; exact hn) h
theorem j_law06_same {args : List AV} {A : Heap} {K Kp : AV → Heap → Prop} (hn : args.length ≤ 69) (h : X Try.prog (inl a_law06_same.res K Kp) a_law06_same.body .done (env0 args) A) : SimX Try.prog F_law06_same args A (outK K Kp) :=
  X_inl g_law06_same c_law06_same (by rw [Try.ntmps46]; exact hn) h
theorem d_law06_same {args : List AV} {A : Heap} {Ko : AOut → Heap → Prop} (hn : args.length ≤ 69)
    (h : ∀ R : APost, (∀ e env A, fpost a_law06_same.res Ko e env A → R e env A) → X Try.prog R a_law06_same.body .done (env0 args) A) : SimD Try.prog F_law06_same args A Ko :=
  X_introD g_law06_same c_law06_same (by rw [Try.ntmps46]; exact hn) h
@[simp] theorem k_law06_same : callable Try.prog F_law06_same = true := by kernel_rfl
theorem c_law06_Filled : trF Try.prog Try.f47 = some a_law06_Filled := by kernel_rfl
theorem g_law06_Filled : Try.prog.funcs[47]? = some Try.f47 := by kernel_rfl
theorem i_law06_Filled {args : List AV} {A : Heap} {Ko : AOut → Heap → Prop} (hn : args.length ≤ 13)
    (h : ∀ R : APost, (∀ e env A, fpost a_law06_Filled.res Ko e env A → R e env A) → X Try.prog R a_law06_Filled.body .done (env0 args) A) : SimX Try.prog F_law06_Filled args A Ko :=
  X_intro g_law06_Filled c_law06_Filled (by rw [Try.ntmps47]; exact hn) h
theorem v_law06_Filled {args : List AV} {v : AV} (hn : args.length ≤ 13) (h : X Try.prog (fin a_law06_Filled.res v) a_law06_Filled.body .done (env0 args) H0) : Gives Try.prog F_law06_Filled args v :=
  Gives_intro g_law06_Filled c_law06_Filled (by rw [Try.ntmps47]; exact hn) h
theorem e_law06_Filled {args : List AV} {Q : AOut → Prop} (hn : args.length ≤ 13) (h : X Try.prog (finE a_law06_Filled.res Q) a_law06_Filled.body .done (env0 args) H0) : Fins Try.prog F_law06_Filled args Q :=
  Fins_intro g_law06_Filled c_law06_Filled (by rw [Try.ntmps47]; exact hn) h
theorem j_law06_Filled {args : List AV} {A : Heap} {K Kp : AV → Heap → Prop} (hn : args.length ≤ 13) (h : X Try.prog (inl a_law06_Filled.res K Kp) a_law06_Filled.body .done (env0 args) A) : SimX Try.prog F_law06_Filled args A (outK K Kp) :=
  X_inl g_law06_Filled c_law06_Filled (by rw [Try.ntmps47]; exact hn) h
theorem d_law06_Filled {args : List AV} {A : Heap} {Ko : AOut → Heap → Prop} (hn : args.length ≤ 13)
    (h : ∀ R : APost, (∀ e env A, fpost a_law06_Filled.res Ko e env A → R e env A) → X Try.prog R a_law06_Filled.body .done (env0 args) A) : SimD Try.prog F_law06_Filled args A Ko :=
  X_introD g_law06_Filled c_law06_Filled (by rw [Try.ntmps47]; exact hn) h
@[simp] theorem k_law06_Filled : callable Try.prog F_law06_Filled = true := by kernel_rfl
end Go.Proofs.Ytjbiekcldkjgjaa
