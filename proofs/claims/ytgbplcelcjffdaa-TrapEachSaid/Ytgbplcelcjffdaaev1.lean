/- Texts of this claim, in order: Fn Gtrap Tt Ta Tb Tc Td Te Tf Tg Th. -/
import Derived.Test.YtgbplcelcjffdaaL4
import Derived.Test.YtgbplcelcjffdaaProg
import Derived.KernelRfl
/- The numbers of functions and types, by name. -/
namespace Go.Proofs.Ytgbplcelcjffdaa
open Go AVL
set_option linter.unusedVariables false
set_option maxRecDepth 20000

abbrev F_law02_CrcSums : FuncId := 3
abbrev F_law02_CrcParts : FuncId := 4
abbrev F_law02_CrcHolds : FuncId := 5
abbrev F_law02_CrcTurns : FuncId := 6
abbrev F_law05_TrapCatches : FuncId := 7
abbrev F_law05_TrapEach : FuncId := 8
abbrev F_law05_TrapNests : FuncId := 9
abbrev F_law07_PlanParts : FuncId := 10
abbrev F_law07_PlanRoom : FuncId := 11
abbrev F_law07_PlanHomes : FuncId := 12
abbrev F_law02_works : FuncId := 13
abbrev F_crc_Of : FuncId := 14
abbrev F_ref02_Of : FuncId := 15
abbrev F_crc_More : FuncId := 16
abbrev F_crc_Sealed : FuncId := 17
abbrev F_ref01_Get : FuncId := 18
abbrev F_crc_Holds : FuncId := 19
abbrev F_ref01_Same : FuncId := 20
abbrev F_trap_Catch : FuncId := 21
abbrev F_law05_TrapCatches_1 : FuncId := 22
abbrev F_law05_deep : FuncId := 23
abbrev F_trap_Try_int : FuncId := 24
abbrev F_law05_TrapCatches_2 : FuncId := 25
abbrev F_law05_step : FuncId := 26
abbrev F_ref05_Code : FuncId := 27
abbrev F_law05_works : FuncId := 28
abbrev F_trap_Each : FuncId := 29
abbrev F_law05_TrapEach_1 : FuncId := 30
abbrev F_ref05_Each : FuncId := 31
abbrev F_trap_First : FuncId := 32
abbrev F_law05_TrapEach_2 : FuncId := 33
abbrev F_law05_TrapEach_3 : FuncId := 34
abbrev F_law05_TrapEach_4 : FuncId := 35
abbrev F_law05_TrapNests_1 : FuncId := 36
abbrev F_trap_Always : FuncId := 37
abbrev F_law05_TrapNests_1_1 : FuncId := 38
abbrev F_law05_TrapNests_1_1_1 : FuncId := 39
abbrev F_law05_TrapNests_1_2 : FuncId := 40
abbrev F_plan_Of : FuncId := 41
abbrev F_ref07_Check : FuncId := 42
abbrev F_plan_Check : FuncId := 43
abbrev F_law07_works : FuncId := 44
abbrev F_ref07_Parts : FuncId := 45
abbrev F_ref07_Index : FuncId := 46
abbrev F_plan_Layout_Bound : FuncId := 47
abbrev F_ref07_First : FuncId := 48
abbrev F_plan_Layout_Part : FuncId := 49
abbrev F_plan_Same : FuncId := 50
abbrev F_plan_Layout_Home : FuncId := 51
abbrev F_crc_Four : FuncId := 52
abbrev F_ref02_bits : FuncId := 53
abbrev F_crc_turn : FuncId := 54
abbrev F_trap_Catch_1 : FuncId := 55
abbrev F_trap_caught : FuncId := 56
abbrev F_trap_Try_int_1 : FuncId := 57
abbrev F_trap_Must : FuncId := 58
abbrev F_law05_works_1 : FuncId := 59
abbrev F_trap_Throw : FuncId := 60
abbrev F_law05_works_2 : FuncId := 61
abbrev F_law05_works_3 : FuncId := 62
abbrev F_law05_works_4 : FuncId := 63
abbrev F_law05_works_5 : FuncId := 64
abbrev F_law05_works_6 : FuncId := 65
abbrev F_law05_works_7 : FuncId := 66
abbrev F_law05_works_8 : FuncId := 67
abbrev F_law05_works_8_1 : FuncId := 68
abbrev F_law05_works_8_2 : FuncId := 69
abbrev F_trap_Each_1 : FuncId := 70
abbrev F_ref07_right : FuncId := 71
abbrev F_Pruntime_TypeAssertionError_Error : FuncId := 80
abbrev F_Pruntime_TypeAssertionError_RuntimeError : FuncId := 81
abbrev F_Pruntime_PanicNilError_Error : FuncId := 82
abbrev F_Pruntime_PanicNilError_RuntimeError : FuncId := 83
abbrev F_Pinternal_abi_Type_Align : FuncId := 84
abbrev F_internal_runtime_maps_unhashableTypeError_Error : FuncId := 85
abbrev F_internal_runtime_maps_unhashableTypeError_RuntimeError : FuncId := 86
abbrev F_internal_abi_Kind_String : FuncId := 87
abbrev T_fno_c : TypeId := 1
abbrev T_int64 : TypeId := 2
abbrev T_int : TypeId := 3
abbrev T_bool : TypeId := 4
abbrev T_uint8 : TypeId := 5
abbrev T_string : TypeId := 9
abbrev T_uintptr : TypeId := 12
abbrev T_P_runtime_TypeAssertionError : TypeId := 15
abbrev T_P_runtime_PanicNilError : TypeId := 16
abbrev T_P_abi_Type : TypeId := 17
abbrev T_interface : TypeId := 20
abbrev T_int32 : TypeId := 21
abbrev T_L_uint8 : TypeId := 22
abbrev T_fno_c_bool : TypeId := 23
abbrev T_uint32 : TypeId := 24
abbrev T_fno_L_uint8_c_uint32 : TypeId := 25
abbrev T_fno_L_uint8_c_bool : TypeId := 26
abbrev T_uint16 : TypeId := 27
abbrev T_fno_uint32_L_uint8_c_uint32 : TypeId := 28
abbrev T_fno_L_uint8_uint16_c_bool : TypeId := 29
abbrev T_fno_L_uint8_c_L_uint8 : TypeId := 30
abbrev T_uint64 : TypeId := 31
abbrev T_fno_L_uint8_c_uint64 : TypeId := 32
abbrev T_fno_L_uint8_L_uint8_c_bool : TypeId := 33
abbrev T_uint : TypeId := 34
abbrev T_fno_L_uint8_uint16_uint32_c_bool : TypeId := 35
abbrev T_api_Code : TypeId := 36
abbrev T_fno_funco_c_c_api_Code : TypeId := 37
abbrev T_fno_int_int_c : TypeId := 38
abbrev T_int_api_Code : TypeId := 39
abbrev T_fno_funco_c_int_c_o_int_api_Code_c : TypeId := 40
abbrev T_fno_int_c : TypeId := 41
abbrev T_fno_c_int : TypeId := 42
abbrev T_fno_int_c_api_Code : TypeId := 43
abbrev T_fno_int_uint8_c_bool : TypeId := 44
abbrev T_L_int : TypeId := 45
abbrev T_fno_int_funco_int_c_c_o_int_api_Code_c : TypeId := 46
abbrev T_fno_L_int_c_o_int_api_Code_c : TypeId := 47
abbrev T_fno_L_int_c_bool : TypeId := 49
abbrev T_fno_funco_c_funco_c_c : TypeId := 50
abbrev T_fno_int_int_c_bool : TypeId := 51
abbrev T_api_Plan : TypeId := 53
abbrev T_plan_Layout : TypeId := 55
abbrev T_plan_Layout_api_Code : TypeId := 56
abbrev T_fno_api_Plan_c_o_plan_Layout_api_Code_c : TypeId := 57
abbrev T_fno_api_Plan_c_api_Code : TypeId := 58
abbrev T_L_string : TypeId := 59
abbrev T_fno_api_Plan_c_L_string : TypeId := 60
abbrev T_fno_api_Plan_c_int : TypeId := 61
abbrev T_fno_L_string_string_c_int : TypeId := 62
abbrev T_fno_int_c_string : TypeId := 63
abbrev T_fno_api_Plan_int_c_bool : TypeId := 64
abbrev T_fno_plan_Layout_plan_Layout_c_bool : TypeId := 65
abbrev T_fno_api_Plan_api_Plan_c_bool : TypeId := 66
abbrev T_fno_int_c_bool : TypeId := 67
abbrev T_4_uint8 : TypeId := 68
abbrev T_fno_uint32_c_4_uint8 : TypeId := 69
abbrev T_fno_uint32_uint8_c_uint32 : TypeId := 70
abbrev T_fno_interface_c_api_Code : TypeId := 71
abbrev T_fno_api_Code_c : TypeId := 72
abbrev T_L_func : TypeId := 73
abbrev T_fno_api_Plan_c_bool : TypeId := 74
abbrev T_2_int : TypeId := 75
abbrev T_4_2_int : TypeId := 76
abbrev T_trap_Fault : TypeId := 78
abbrev T_fno_c_string : TypeId := 79
abbrev T_0_P_runtime_PanicNilError : TypeId := 82
abbrev T_fno_unsafe_Pointer_unsafe_Pointer_c_bool : TypeId := 87
abbrev T_P_uint8 : TypeId := 88
end Go.Proofs.Ytgbplcelcjffdaa

/- Abstract programs; that they are the program's. -/
namespace Go.Proofs.Ytgbplcelcjffdaa
open Go AVL
set_option linter.unusedVariables false
set_option maxRecDepth 20000

-- NOT: function 21
def q_trap_Try_int_0 : List AOper := [
  ⟨(some 1), (.box 42 .sc (.t 0)), none⟩,
  ⟨(some 2), (.alloc 3 [(.int .i64 0)]), none⟩,
  ⟨(some 3), (.mv (.v (.int .i64 0))), none⟩]
def q_trap_Try_int_1 : List AOper := [
  ⟨(some 5), (.load .sc 1 (.t 1)), none⟩,
  ⟨(some 6), (.xx (.p (.isNil .fn false)) [(.t 5)]), none⟩]
def q_trap_Try_int_2 : List AOper := [
  ⟨(some 7), (.load .sc 1 (.t 2)), none⟩,
  ⟨none, (.store .sc 1 (.t 2) (.t 7)), none⟩,
  ⟨(some 3), (.mv (.v (.int .i64 1))), none⟩]
def q_trap_Try_int_3 : List AOper := [
  ⟨(some 8), (.xx (.p (.mkF (.func F_trap_Try_int_1) 0)) [(.t 1), (.t 2)]), none⟩,
  ⟨(some 9), (.call F_trap_Catch [(.sc, (.t 8))]), none⟩,
  ⟨(some 3), (.mv (.t 9)), none⟩]
def q_trap_Try_int_4 : List AOper := [
  ⟨(some 10), (.mv (.t 3)), none⟩,
  ⟨(some 11), (.eq .scI true (.t 10) (.v (.int .i64 0))), none⟩]
def q_trap_Try_int_5 : List AOper := [
  ⟨(some 4), (.mv (.v (.int .i64 0))), none⟩]
def q_trap_Try_int_6 : List AOper := [
  ⟨(some 12), (.mv (.t 4)), none⟩,
  ⟨(some 13), (.mv (.t 3)), none⟩,
  ⟨none, (.store .sc 1 (.t 2) (.t 12)), none⟩,
  ⟨(some 3), (.mv (.t 13)), none⟩]
def q_trap_Try_int_7 : List AOper := [
  ⟨(some 14), (.load .sc 1 (.t 2)), none⟩,
  ⟨none, (.store .sc 1 (.t 2) (.t 14)), none⟩,
  ⟨(some 3), (.mv (.v (.int .i64 0))), none⟩]
def a_trap_Try_int : AFunc := ⟨[(.cell 2 .sc 1), (.tmp 3)], (.seq (.region q_trap_Try_int_0) (.seq (.seq (.region q_trap_Try_int_1) (.cond (.t 6) (.seq (.region q_trap_Try_int_2) .ret) .skip)) (.seq (.region q_trap_Try_int_3) (.seq (.seq (.region q_trap_Try_int_4) (.cond (.t 11) (.seq (.region q_trap_Try_int_5) (.seq (.region q_trap_Try_int_6) .ret)) .skip)) (.seq (.region q_trap_Try_int_7) .ret)))))⟩

def q_trap_Each_0 : List AOper := [
  ⟨(some 2), (.box 3 .sc (.t 0)), none⟩,
  ⟨(some 3), (.box 41 .sc (.t 1)), none⟩,
  ⟨(some 4), (.mv (.v (.int .i64 0))), none⟩,
  ⟨(some 5), (.mv (.v (.int .i64 0))), none⟩]
def q_trap_Each_1 : List AOper := [
  ⟨(some 6), (.alloc 3 [(.int .i64 0)]), none⟩,
  ⟨none, (.store .sc 1 (.t 6) (.v (.int .i64 0))), none⟩]
def q_trap_Each_2 : List AOper := [
  ⟨(some 8), (.xx (.p (.mkF (.func F_trap_Each_1) 0)) [(.t 2), (.t 3), (.t 6)]), none⟩,
  ⟨(some 9), (.call F_trap_Catch [(.sc, (.t 8))]), none⟩,
  ⟨(some 7), (.mv (.t 9)), none⟩]
def q_trap_Each_3 : List AOper := [
  ⟨(some 10), (.load .sc 1 (.t 6)), none⟩,
  ⟨(some 11), (.mv (.t 7)), none⟩,
  ⟨(some 4), (.mv (.t 10)), none⟩,
  ⟨(some 5), (.mv (.t 11)), none⟩]
def a_trap_Each : AFunc := ⟨[(.tmp 4), (.tmp 5)], (.seq (.region q_trap_Each_0) (.seq (.region q_trap_Each_1) (.seq (.region q_trap_Each_2) (.seq (.region q_trap_Each_3) .ret))))⟩

def q_trap_First_0 : List AOper := [
  ⟨(some 2), (.mv (.v (.int .i64 0))), none⟩]
def q_trap_First_1 : List AOper := [
  ⟨(some 6), (.mv (.t 0)), none⟩,
  ⟨(some 7), (.len false (.t 6)), none⟩,
  ⟨(some 8), (.mv (.v (.int .i64 0))), none⟩]
def q_trap_First_2 : List AOper := [
  ⟨(some 9), (.bin .lss (.t 8) (.t 7)), none⟩]
def q_trap_First_3 : List AOper := [
  ⟨(some 10), (.idx 1 (.t 6) (.t 8)), none⟩,
  ⟨(some 11), (.load .sc 1 (.t 10)), none⟩,
  ⟨(some 4), (.mv (.t 11)), none⟩]
def q_trap_First_4 : List AOper := [
  ⟨(some 12), (.mv (.t 4)), none⟩,
  ⟨(some 13), (.call F_trap_Catch [(.sc, (.t 12))]), none⟩,
  ⟨(some 5), (.mv (.t 13)), none⟩]
def q_trap_First_5 : List AOper := [
  ⟨(some 14), (.mv (.t 5)), none⟩,
  ⟨(some 15), (.eq .scI true (.t 14) (.v (.int .i64 0))), none⟩]
def q_trap_First_6 : List AOper := [
  ⟨(some 16), (.mv (.t 5)), none⟩,
  ⟨(some 2), (.mv (.t 16)), none⟩]
def q_trap_First_7 : List AOper := [
  ⟨(some 17), (.bin .add (.t 8) (.v (.int .i64 1))), none⟩,
  ⟨(some 8), (.mv (.t 17)), none⟩]
def q_trap_First_L8 : ACode := (.seq (.region q_trap_First_2) (.seq (.cond (.t 9) .skip (.exit 0)) (.seq (.block 1 (.seq (.region q_trap_First_3) (.seq (.region q_trap_First_4) (.seq (.region q_trap_First_5) (.cond (.t 15) (.seq (.region q_trap_First_6) .ret) .skip))))) (.region q_trap_First_7))))
def q_trap_First_8 : List AOper := [
  ⟨(some 2), (.mv (.v (.int .i64 0))), none⟩]
def a_trap_First : AFunc := ⟨[(.tmp 2)], (.seq (.region q_trap_First_0) (.seq (.seq (.region q_trap_First_1) (.block 0 (.loop q_trap_First_L8))) (.seq (.region q_trap_First_8) .ret)))⟩

-- NOT: function 37
-- NOT: function 55
def q_trap_caught_0 : List AOper := [
  ⟨(some 2), (.mv (.v (.int .i64 0))), none⟩]
def q_trap_caught_1 : List AOper := [
  ⟨(some 5), (.mv (.t 0)), none⟩]
def q_trap_caught_2 : List AOper := [
  ⟨(some 6), (.xx (.p (.isNil .ifc false)) [(.t 5)]), none⟩]
def q_trap_caught_3 : List AOper := [
  ⟨(some 3), (.mv (.t 5)), none⟩]
def q_trap_caught_4 : List AOper := [
  ⟨(some 2), (.mv (.v (.int .i64 0))), none⟩]
def q_trap_caught_5 : List AOper := [
  ⟨(some 7), (.xx (.p (.asrt 78 (.agg [(.int .i64 0)]))) [(.t 5)]), none⟩,
  ⟨(some 8), (.ext 1 (.t 7)), none⟩,
  ⟨(some 9), (.ext 0 (.t 7)), none⟩]
def q_trap_caught_6 : List AOper := [
  ⟨(some 4), (.alloc 78 [(.int .i64 0)]), none⟩,
  ⟨none, (.store .ag 1 (.t 4) (.t 9)), none⟩]
def q_trap_caught_7 : List AOper := [
  ⟨(some 10), (.fadr 0 1 .sc (.t 4)), none⟩,
  ⟨(some 11), (.load .sc 1 (.t 10)), none⟩,
  ⟨(some 2), (.mv (.t 11)), none⟩]
def q_trap_caught_8 : List AOper := [
  ⟨(some 2), (.mv (.v (.int .i64 17))), none⟩]
def a_trap_caught : AFunc := ⟨[(.tmp 2)], (.seq (.region q_trap_caught_0) (.seq (.seq (.region q_trap_caught_1) (.block 0 (.seq (.region q_trap_caught_2) (.cond (.t 6) (.seq (.region q_trap_caught_3) (.seq (.region q_trap_caught_4) .ret)) (.seq (.region q_trap_caught_5) (.cond (.t 8) (.seq (.region q_trap_caught_6) (.seq (.region q_trap_caught_7) .ret)) .skip)))))) (.seq (.region q_trap_caught_8) .ret)))⟩

def q_trap_Try_int_1_0 : List AOper := [
  ⟨(some 2), (.load .sc 1 (.t 0)), none⟩,
  ⟨(some 3), (.callV (.t 2) []), none⟩,
  ⟨none, (.store .sc 1 (.t 1) (.t 3)), none⟩]
def a_trap_Try_int_1 : AFunc := ⟨[], (.region q_trap_Try_int_1_0)⟩

def q_trap_Must_0 : List AOper := [
  ⟨(some 2), (.mv (.t 0)), none⟩,
  ⟨(some 3), (.eq .scI true (.t 2) (.v (.int .i64 0))), none⟩]
def q_trap_Must_1 : List AOper := [
  ⟨(some 4), (.mv (.t 0)), none⟩,
  ⟨(some 5), (.call F_trap_Throw [(.sc, (.t 4))]), none⟩]
def a_trap_Must : AFunc := ⟨[], (.seq (.region q_trap_Must_0) (.cond (.t 3) (.region q_trap_Must_1) .skip))⟩

def q_trap_Throw_0 : List AOper := [
  ⟨(some 2), (.mv (.t 0)), none⟩,
  ⟨(some 3), (.build .ag [(.int .i64 0)] [(0, (1, (.t 2)))]), none⟩,
  ⟨(some 4), (.xx (.p (.ifc 78)) [(.t 3)]), none⟩,
  ⟨none, (.pnc (.t 4)), none⟩]
def a_trap_Throw : AFunc := ⟨[], (.region q_trap_Throw_0)⟩

def q_trap_Each_1_0 : List AOper := [
  ⟨(some 4), (.load .sc 1 (.t 0)), none⟩,
  ⟨(some 5), (.mv (.v (.int .i64 0))), none⟩]
def q_trap_Each_1_1 : List AOper := [
  ⟨(some 6), (.bin .lss (.t 5) (.t 4)), none⟩]
def q_trap_Each_1_2 : List AOper := [
  ⟨(some 7), (.mv (.t 5)), none⟩,
  ⟨(some 3), (.mv (.t 7)), none⟩]
def q_trap_Each_1_3 : List AOper := [
  ⟨(some 8), (.load .sc 1 (.t 1)), none⟩,
  ⟨(some 9), (.mv (.t 3)), none⟩,
  ⟨(some 10), (.callV (.t 8) [(.sc, (.t 9))]), none⟩]
def q_trap_Each_1_4 : List AOper := [
  ⟨(some 11), (.load .sc 1 (.t 2)), none⟩,
  ⟨(some 12), (.bin .add (.t 11) (.v (.int .i64 1))), none⟩,
  ⟨none, (.store .sc 1 (.t 2) (.t 12)), none⟩]
def q_trap_Each_1_5 : List AOper := [
  ⟨(some 13), (.bin .add (.t 5) (.v (.int .i64 1))), none⟩,
  ⟨(some 5), (.mv (.t 13)), none⟩]
def q_trap_Each_1_L6 : ACode := (.seq (.region q_trap_Each_1_1) (.seq (.cond (.t 6) .skip (.exit 0)) (.seq (.block 1 (.seq (.region q_trap_Each_1_2) (.seq (.region q_trap_Each_1_3) (.region q_trap_Each_1_4)))) (.region q_trap_Each_1_5))))
def a_trap_Each_1 : AFunc := ⟨[], (.seq (.region q_trap_Each_1_0) (.block 0 (.loop q_trap_Each_1_L6)))⟩

def q_ref05_Code_0 : List AOper := [
  ⟨(some 2), (.mv (.v (.int .i64 0))), none⟩]
def q_ref05_Code_1 : List AOper := [
  ⟨(some 3), (.mv (.t 0)), none⟩,
  ⟨(some 4), (.bin .lss (.t 3) (.v (.int .i64 0))), none⟩]
def q_ref05_Code_2 : List AOper := [
  ⟨(some 2), (.mv (.v (.int .i64 17))), none⟩]
def q_ref05_Code_3 : List AOper := [
  ⟨(some 5), (.mv (.t 0)), none⟩,
  ⟨(some 2), (.mv (.t 5)), none⟩]
def a_ref05_Code : AFunc := ⟨[(.tmp 2)], (.seq (.region q_ref05_Code_0) (.seq (.seq (.region q_ref05_Code_1) (.cond (.t 4) (.seq (.region q_ref05_Code_2) .ret) .skip)) (.seq (.region q_ref05_Code_3) .ret)))⟩

def q_ref05_Each_0 : List AOper := [
  ⟨(some 2), (.mv (.v (.int .i64 0))), none⟩,
  ⟨(some 3), (.mv (.v (.int .i64 0))), none⟩]
def q_ref05_Each_1 : List AOper := [
  ⟨(some 4), (.mv (.v (.int .i64 0))), none⟩]
def q_ref05_Each_2 : List AOper := [
  ⟨(some 5), (.mv (.t 4)), none⟩,
  ⟨(some 6), (.mv (.t 0)), none⟩,
  ⟨(some 7), (.len false (.t 6)), none⟩,
  ⟨(some 8), (.bin .lss (.t 5) (.t 7)), none⟩]
def q_ref05_Each_3 : List AOper := [
  ⟨(some 11), (.mv (.t 0)), none⟩,
  ⟨(some 12), (.mv (.t 4)), none⟩,
  ⟨(some 13), (.idx 1 (.t 11) (.t 12)), none⟩,
  ⟨(some 14), (.load .sc 1 (.t 13)), none⟩,
  ⟨(some 15), (.eq .scI true (.t 14) (.v (.int .i64 0))), none⟩]
def q_ref05_Each_4 : List AOper := [
  ⟨(some 16), (.mv (.t 4)), none⟩,
  ⟨(some 17), (.mv (.t 0)), none⟩,
  ⟨(some 18), (.mv (.t 4)), none⟩,
  ⟨(some 19), (.idx 1 (.t 17) (.t 18)), none⟩,
  ⟨(some 20), (.load .sc 1 (.t 19)), none⟩,
  ⟨(some 21), (.call F_ref05_Code [(.sc, (.t 20))]), none⟩,
  ⟨(some 2), (.mv (.t 16)), none⟩,
  ⟨(some 3), (.mv (.t 21)), none⟩]
def q_ref05_Each_5 : List AOper := [
  ⟨(some 9), (.mv (.t 4)), none⟩,
  ⟨(some 10), (.bin .add (.t 9) (.v (.int .i64 1))), none⟩,
  ⟨(some 4), (.mv (.t 10)), none⟩]
def q_ref05_Each_L6 : ACode := (.seq (.seq (.region q_ref05_Each_2) (.cond (.t 8) .skip (.exit 0))) (.seq (.block 1 (.seq (.region q_ref05_Each_3) (.cond (.t 15) (.seq (.region q_ref05_Each_4) .ret) .skip))) (.region q_ref05_Each_5)))
def q_ref05_Each_6 : List AOper := [
  ⟨(some 22), (.mv (.t 0)), none⟩,
  ⟨(some 23), (.len false (.t 22)), none⟩,
  ⟨(some 2), (.mv (.t 23)), none⟩,
  ⟨(some 3), (.mv (.v (.int .i64 0))), none⟩]
def a_ref05_Each : AFunc := ⟨[(.tmp 2), (.tmp 3)], (.seq (.region q_ref05_Each_0) (.seq (.seq (.region q_ref05_Each_1) (.block 0 (.loop q_ref05_Each_L6))) (.seq (.region q_ref05_Each_6) .ret)))⟩

def q_law05_TrapCatches_0 : List AOper := [
  ⟨(some 2), (.box 3 .sc (.t 0)), none⟩,
  ⟨(some 3), (.box 5 .sc (.t 1)), none⟩,
  ⟨(some 4), (.mv (.v (.bool false))), none⟩]
def q_law05_TrapCatches_1 : List AOper := [
  ⟨(some 9), (.xx (.p (.mkF (.func F_law05_TrapCatches_1) 0)) [(.t 2), (.t 3)]), none⟩,
  ⟨(some 10), (.call F_trap_Catch [(.sc, (.t 9))]), none⟩,
  ⟨(some 5), (.mv (.t 10)), none⟩]
def q_law05_TrapCatches_2 : List AOper := [
  ⟨(some 12), (.xx (.p (.mkF (.func F_law05_TrapCatches_2) 0)) [(.t 2)]), none⟩,
  ⟨(some 13), (.call F_trap_Try_int [(.sc, (.t 12))]), none⟩,
  ⟨(some 11), (.mv (.t 13)), none⟩,
  ⟨(some 14), (.ext 0 (.t 11)), none⟩,
  ⟨(some 15), (.ext 1 (.t 11)), none⟩,
  ⟨(some 6), (.mv (.t 14)), none⟩,
  ⟨(some 7), (.mv (.t 15)), none⟩]
def q_law05_TrapCatches_3 : List AOper := [
  ⟨(some 16), (.load .sc 1 (.t 2)), none⟩,
  ⟨(some 17), (.call F_ref05_Code [(.sc, (.t 16))]), none⟩,
  ⟨(some 8), (.mv (.t 17)), none⟩]
def q_law05_TrapCatches_4 : List AOper := [
  ⟨(some 18), (.mv (.t 5)), none⟩,
  ⟨(some 19), (.mv (.t 8)), none⟩,
  ⟨(some 20), (.eq .scI false (.t 18) (.t 19)), none⟩,
  ⟨(some 21), (.mv (.t 20)), none⟩,
  ⟨(some 22), (.mv (.t 7)), (some (21, true))⟩,
  ⟨(some 23), (.mv (.t 8)), (some (21, true))⟩,
  ⟨(some 24), (.eq .scI false (.t 22) (.t 23)), (some (21, true))⟩,
  ⟨(some 25), (.pick (.t 21) (.t 24) (.v (.bool false))), none⟩,
  ⟨(some 26), (.mv (.t 25)), none⟩,
  ⟨(some 27), (.mv (.t 6)), (some (26, true))⟩,
  ⟨(some 28), (.eq .scI false (.t 27) (.v (.int .i64 5))), (some (26, true))⟩,
  ⟨(some 29), (.mv (.t 8)), (some (26, true))⟩,
  ⟨(some 30), (.eq .scI false (.t 29) (.v (.int .i64 0))), (some (26, true))⟩,
  ⟨(some 31), (.eq .scB false (.t 28) (.t 30)), (some (26, true))⟩,
  ⟨(some 32), (.pick (.t 26) (.t 31) (.v (.bool false))), none⟩,
  ⟨(some 33), (.mv (.t 32)), none⟩,
  ⟨(some 34), (.mv (.t 6)), (some (33, true))⟩,
  ⟨(some 35), (.eq .scI false (.t 34) (.v (.int .i64 5))), (some (33, true))⟩,
  ⟨(some 36), (.mv (.t 35)), (some (33, true))⟩,
  ⟨(some 37), (.mv (.t 6)), (some (36, false))⟩,
  ⟨(some 38), (.eq .scI false (.t 37) (.v (.int .i64 0))), (some (36, false))⟩,
  ⟨(some 39), (.pick (.t 36) (.v (.bool true)) (.t 38)), (some (33, true))⟩,
  ⟨(some 40), (.pick (.t 33) (.t 39) (.v (.bool false))), none⟩,
  ⟨(some 41), (.mv (.t 40)), none⟩,
  ⟨(some 42), (.call F_law05_works []), (some (41, true))⟩,
  ⟨(some 43), (.pick (.t 41) (.t 42) (.v (.bool false))), none⟩,
  ⟨(some 4), (.mv (.t 43)), none⟩]
def a_law05_TrapCatches : AFunc := ⟨[(.tmp 4)], (.seq (.region q_law05_TrapCatches_0) (.seq (.region q_law05_TrapCatches_1) (.seq (.region q_law05_TrapCatches_2) (.seq (.region q_law05_TrapCatches_3) (.seq (.region q_law05_TrapCatches_4) .ret)))))⟩

def q_law05_TrapEach_0 : List AOper := [
  ⟨(some 1), (.box 45 .sc (.t 0)), none⟩,
  ⟨(some 2), (.mv (.v (.bool false))), none⟩]
def q_law05_TrapEach_1 : List AOper := [
  ⟨(some 14), (.load .sc 1 (.t 1)), none⟩,
  ⟨(some 15), (.len false (.t 14)), none⟩,
  ⟨(some 16), (.bin .gtr (.t 15) (.v (.int .i64 200))), none⟩]
def q_law05_TrapEach_2 : List AOper := [
  ⟨(some 17), (.call F_law05_works []), none⟩,
  ⟨(some 2), (.mv (.t 17)), none⟩]
def q_law05_TrapEach_3 : List AOper := [
  ⟨(some 3), (.alloc 3 [(.int .i64 0)]), none⟩,
  ⟨none, (.store .sc 1 (.t 3) (.v (.int .i64 0))), none⟩]
def q_law05_TrapEach_4 : List AOper := [
  ⟨(some 19), (.load .sc 1 (.t 1)), none⟩,
  ⟨(some 20), (.len false (.t 19)), none⟩,
  ⟨(some 21), (.xx (.p (.mkF (.func F_law05_TrapEach_1) 0)) [(.t 1), (.t 3)]), none⟩,
  ⟨(some 22), (.call F_trap_Each [(.sc, (.t 20)), (.sc, (.t 21))]), none⟩,
  ⟨(some 18), (.mv (.t 22)), none⟩,
  ⟨(some 23), (.ext 0 (.t 18)), none⟩,
  ⟨(some 24), (.ext 1 (.t 18)), none⟩,
  ⟨(some 4), (.mv (.t 23)), none⟩,
  ⟨(some 5), (.mv (.t 24)), none⟩]
def q_law05_TrapEach_5 : List AOper := [
  ⟨(some 26), (.load .sc 1 (.t 1)), none⟩,
  ⟨(some 27), (.call F_ref05_Each [(.sc, (.t 26))]), none⟩,
  ⟨(some 25), (.mv (.t 27)), none⟩,
  ⟨(some 28), (.ext 0 (.t 25)), none⟩,
  ⟨(some 29), (.ext 1 (.t 25)), none⟩,
  ⟨(some 6), (.mv (.t 28)), none⟩,
  ⟨(some 7), (.mv (.t 29)), none⟩]
def q_law05_TrapEach_6 : List AOper := [
  ⟨(some 30), (.mv (.t 4)), none⟩,
  ⟨(some 31), (.mv (.t 6)), none⟩,
  ⟨(some 32), (.eq .scI true (.t 30) (.t 31)), none⟩,
  ⟨(some 33), (.mv (.t 32)), none⟩,
  ⟨(some 34), (.load .sc 1 (.t 3)), (some (33, false))⟩,
  ⟨(some 35), (.mv (.t 6)), (some (33, false))⟩,
  ⟨(some 36), (.eq .scI true (.t 34) (.t 35)), (some (33, false))⟩,
  ⟨(some 37), (.pick (.t 33) (.v (.bool true)) (.t 36)), none⟩,
  ⟨(some 38), (.mv (.t 37)), none⟩,
  ⟨(some 39), (.mv (.t 5)), (some (38, false))⟩,
  ⟨(some 40), (.mv (.t 7)), (some (38, false))⟩,
  ⟨(some 41), (.eq .scI true (.t 39) (.t 40)), (some (38, false))⟩,
  ⟨(some 42), (.pick (.t 38) (.v (.bool true)) (.t 41)), none⟩]
def q_law05_TrapEach_7 : List AOper := [
  ⟨(some 2), (.mv (.v (.bool false))), none⟩]
def q_law05_TrapEach_8 : List AOper := [
  ⟨(some 8), (.alloc 3 [(.int .i64 0)]), none⟩,
  ⟨(some 9), (.alloc 3 [(.int .i64 0)]), none⟩,
  ⟨(some 10), (.alloc 3 [(.int .i64 0)]), none⟩,
  ⟨none, (.store .sc 1 (.t 8) (.v (.int .i64 0))), none⟩,
  ⟨none, (.store .sc 1 (.t 9) (.v (.int .i64 0))), none⟩,
  ⟨none, (.store .sc 1 (.t 10) (.v (.int .i64 0))), none⟩]
def q_law05_TrapEach_9 : List AOper := [
  ⟨(some 43), (.load .sc 1 (.t 1)), none⟩,
  ⟨(some 44), (.len false (.t 43)), none⟩,
  ⟨(some 45), (.bin .gtr (.t 44) (.v (.int .i64 2))), none⟩]
def q_law05_TrapEach_10 : List DOp := [
  ⟨⟨(some 46), (.load .sc 1 (.t 1)), none⟩, true, false, none, []⟩,
  ⟨⟨(some 47), (.idx 1 (.t 46) (.v (.int .i64 0))), none⟩, true, false, none, []⟩,
  ⟨⟨(some 48), (.load .sc 1 (.t 47)), none⟩, true, false, none, []⟩,
  ⟨⟨(some 49), (.load .sc 1 (.t 1)), none⟩, true, false, none, []⟩,
  ⟨⟨(some 50), (.idx 1 (.t 49) (.v (.int .i64 1))), none⟩, true, false, none, []⟩,
  ⟨⟨(some 51), (.load .sc 1 (.t 50)), none⟩, true, false, none, []⟩,
  ⟨⟨(some 52), (.load .sc 1 (.t 1)), none⟩, true, false, none, []⟩,
  ⟨⟨(some 53), (.idx 1 (.t 52) (.v (.int .i64 2))), none⟩, true, false, none, []⟩,
  ⟨⟨(some 54), (.load .sc 1 (.t 53)), none⟩, true, false, none, []⟩,
  ⟨⟨none, (.store .sc 1 (.t 8) (.t 48)), none⟩, false, true, (some [53, 52, 1, 50, 49, 1]), []⟩,
  ⟨⟨none, (.store .sc 1 (.t 9) (.t 51)), none⟩, false, true, (some [53, 52, 1]), []⟩,
  ⟨⟨none, (.store .sc 1 (.t 10) (.t 54)), none⟩, false, false, none, []⟩]
def q_law05_TrapEach_11 : List AOper := [
  ⟨(some 55), (.xx (.p (.mkF (.func F_law05_TrapEach_2) 0)) [(.t 8)]), none⟩,
  ⟨(some 56), (.xx (.p (.mkF (.func F_law05_TrapEach_3) 0)) [(.t 9)]), none⟩,
  ⟨(some 57), (.xx (.p (.mkF (.func F_law05_TrapEach_4) 0)) [(.t 10)]), none⟩,
  ⟨(some 58), (.bsl 1 .sc 1 [(.t 55), (.t 56), (.t 57)]), none⟩,
  ⟨(some 59), (.call F_trap_First [(.sc, (.t 58))]), none⟩,
  ⟨(some 11), (.mv (.t 59)), none⟩]
def q_law05_TrapEach_12 : List AOper := [
  ⟨(some 61), (.load .sc 1 (.t 8)), none⟩,
  ⟨(some 62), (.load .sc 1 (.t 9)), none⟩,
  ⟨(some 63), (.load .sc 1 (.t 10)), none⟩,
  ⟨(some 64), (.bslI 3 .i64 [(.t 61), (.t 62), (.t 63)]), none⟩,
  ⟨(some 65), (.call F_ref05_Each [(.sc, (.t 64))]), none⟩,
  ⟨(some 60), (.mv (.t 65)), none⟩,
  ⟨(some 66), (.ext 0 (.t 60)), none⟩,
  ⟨(some 67), (.ext 1 (.t 60)), none⟩,
  ⟨(some 12), (.mv (.t 66)), none⟩,
  ⟨(some 13), (.mv (.t 67)), none⟩]
def q_law05_TrapEach_13 : List AOper := [
  ⟨(some 68), (.mv (.t 11)), none⟩,
  ⟨(some 69), (.mv (.t 13)), none⟩,
  ⟨(some 70), (.eq .scI false (.t 68) (.t 69)), none⟩,
  ⟨(some 71), (.mv (.t 70)), none⟩,
  ⟨(some 72), (.call F_law05_works []), (some (71, true))⟩,
  ⟨(some 73), (.pick (.t 71) (.t 72) (.v (.bool false))), none⟩,
  ⟨(some 2), (.mv (.t 73)), none⟩]
def a_law05_TrapEach : AFunc := ⟨[(.tmp 2)], (.seq (.region q_law05_TrapEach_0) (.seq (.seq (.region q_law05_TrapEach_1) (.cond (.t 16) (.seq (.region q_law05_TrapEach_2) .ret) .skip)) (.seq (.region q_law05_TrapEach_3) (.seq (.region q_law05_TrapEach_4) (.seq (.region q_law05_TrapEach_5) (.seq (.seq (.region q_law05_TrapEach_6) (.cond (.t 42) (.seq (.region q_law05_TrapEach_7) .ret) .skip)) (.seq (.region q_law05_TrapEach_8) (.seq (.seq (.region q_law05_TrapEach_9) (.cond (.t 45) (.regionD q_law05_TrapEach_10) .skip)) (.seq (.region q_law05_TrapEach_11) (.seq (.region q_law05_TrapEach_12) (.seq (.region q_law05_TrapEach_13) .ret)))))))))))⟩

def q_law05_TrapNests_0 : List AOper := [
  ⟨(some 2), (.box 3 .sc (.t 0)), none⟩,
  ⟨(some 3), (.box 3 .sc (.t 1)), none⟩,
  ⟨(some 4), (.mv (.v (.bool false))), none⟩]
def q_law05_TrapNests_1 : List AOper := [
  ⟨(some 5), (.alloc 3 [(.int .i64 0)]), none⟩,
  ⟨none, (.store .sc 1 (.t 5) (.v (.int .i64 0))), none⟩]
def q_law05_TrapNests_2 : List AOper := [
  ⟨(some 6), (.alloc 36 [(.int .i64 0)]), none⟩]
def q_law05_TrapNests_3 : List AOper := [
  ⟨(some 9), (.xx (.p (.mkF (.func F_law05_TrapNests_1) 0)) [(.t 2), (.t 6), (.t 3), (.t 5)]), none⟩,
  ⟨(some 10), (.call F_trap_Catch [(.sc, (.t 9))]), none⟩,
  ⟨(some 7), (.mv (.t 10)), none⟩]
def q_law05_TrapNests_4 : List AOper := [
  ⟨(some 8), (.mv (.v (.int .i64 1))), none⟩]
def q_law05_TrapNests_5 : List AOper := [
  ⟨(some 11), (.load .sc 1 (.t 3)), none⟩,
  ⟨(some 12), (.eq .scI false (.t 11) (.v (.int .i64 0))), none⟩]
def q_law05_TrapNests_6 : List AOper := [
  ⟨(some 8), (.mv (.v (.int .i64 11))), none⟩]
def q_law05_TrapNests_7 : List DOp := [
  ⟨⟨(some 13), (.load .sc 1 (.t 6)), none⟩, true, false, none, []⟩,
  ⟨⟨(some 14), (.load .sc 1 (.t 2)), none⟩, true, false, none, []⟩,
  ⟨⟨(some 15), (.call F_ref05_Code [(.sc, (.t 14))]), none⟩, false, true, (some [6]), []⟩,
  ⟨⟨(some 16), (.eq .scI false (.t 13) (.t 15)), none⟩, true, false, none, []⟩,
  ⟨⟨(some 17), (.mv (.t 16)), none⟩, true, false, none, []⟩,
  ⟨⟨(some 18), (.mv (.t 7)), (some (17, true))⟩, true, false, none, []⟩,
  ⟨⟨(some 19), (.load .sc 1 (.t 3)), (some (17, true))⟩, true, false, none, []⟩,
  ⟨⟨(some 20), (.call F_ref05_Code [(.sc, (.t 19))]), (some (17, true))⟩, false, false, none, []⟩,
  ⟨⟨(some 21), (.eq .scI false (.t 18) (.t 20)), (some (17, true))⟩, true, false, none, []⟩,
  ⟨⟨(some 22), (.pick (.t 17) (.t 21) (.v (.bool false))), none⟩, true, false, none, []⟩,
  ⟨⟨(some 23), (.mv (.t 22)), none⟩, true, false, none, []⟩,
  ⟨⟨(some 24), (.load .sc 1 (.t 5)), (some (23, true))⟩, true, false, none, []⟩,
  ⟨⟨(some 25), (.mv (.t 8)), (some (23, true))⟩, true, false, none, []⟩,
  ⟨⟨(some 26), (.eq .scI false (.t 24) (.t 25)), (some (23, true))⟩, true, false, none, []⟩,
  ⟨⟨(some 27), (.pick (.t 23) (.t 26) (.v (.bool false))), none⟩, true, false, none, []⟩,
  ⟨⟨(some 28), (.mv (.t 27)), none⟩, true, false, none, []⟩,
  ⟨⟨(some 29), (.call F_law05_works []), (some (28, true))⟩, false, false, none, []⟩,
  ⟨⟨(some 30), (.pick (.t 28) (.t 29) (.v (.bool false))), none⟩, true, false, none, []⟩,
  ⟨⟨(some 4), (.mv (.t 30)), none⟩, true, false, none, []⟩]
def a_law05_TrapNests : AFunc := ⟨[(.tmp 4)], (.seq (.region q_law05_TrapNests_0) (.seq (.region q_law05_TrapNests_1) (.seq (.region q_law05_TrapNests_2) (.seq (.region q_law05_TrapNests_3) (.seq (.region q_law05_TrapNests_4) (.seq (.seq (.region q_law05_TrapNests_5) (.cond (.t 12) (.region q_law05_TrapNests_6) .skip)) (.seq (.regionD q_law05_TrapNests_7) .ret)))))))⟩

def q_law05_TrapCatches_1_0 : List AOper := [
  ⟨(some 2), (.load .sc 1 (.t 0)), none⟩,
  ⟨(some 3), (.load .sc 1 (.t 1)), none⟩,
  ⟨(some 4), (.conv .i64 (.t 3)), none⟩,
  ⟨(some 5), (.call F_law05_deep [(.sc, (.t 2)), (.sc, (.t 4))]), none⟩]
def a_law05_TrapCatches_1 : AFunc := ⟨[], (.region q_law05_TrapCatches_1_0)⟩

def q_law05_deep_0 : List AOper := [
  ⟨(some 4), (.mv (.t 1)), none⟩,
  ⟨(some 5), (.bin .gtr (.t 4) (.v (.int .i64 0))), none⟩]
def q_law05_deep_1 : List AOper := [
  ⟨(some 6), (.mv (.t 0)), none⟩,
  ⟨(some 7), (.mv (.t 1)), none⟩,
  ⟨(some 8), (.bin .sub (.t 7) (.v (.int .i64 1))), none⟩,
  ⟨(some 9), (.call F_law05_deep [(.sc, (.t 6)), (.sc, (.t 8))]), none⟩]
def q_law05_deep_2 : List AOper := [
  ⟨(some 10), (.mv (.t 0)), none⟩,
  ⟨(some 11), (.call F_law05_step [(.sc, (.t 10))]), none⟩]
def a_law05_deep : AFunc := ⟨[], (.seq (.seq (.region q_law05_deep_0) (.cond (.t 5) (.seq (.region q_law05_deep_1) .ret) .skip)) (.region q_law05_deep_2))⟩

def q_law05_TrapCatches_2_0 : List AOper := [
  ⟨(some 1), (.mv (.v (.int .i64 0))), none⟩]
def q_law05_TrapCatches_2_1 : List AOper := [
  ⟨(some 2), (.load .sc 1 (.t 0)), none⟩,
  ⟨(some 3), (.call F_law05_step [(.sc, (.t 2))]), none⟩]
def q_law05_TrapCatches_2_2 : List AOper := [
  ⟨(some 1), (.mv (.v (.int .i64 5))), none⟩]
def a_law05_TrapCatches_2 : AFunc := ⟨[(.tmp 1)], (.seq (.region q_law05_TrapCatches_2_0) (.seq (.region q_law05_TrapCatches_2_1) (.seq (.region q_law05_TrapCatches_2_2) .ret)))⟩

def q_law05_step_0 : List AOper := [
  ⟨(some 3), (.mv (.t 0)), none⟩,
  ⟨(some 4), (.bin .lss (.t 3) (.v (.int .i64 0))), none⟩]
def q_law05_step_1 : List AOper := [
  ⟨(some 2), (.mv (.v .nilS)), none⟩]
def q_law05_step_2 : List AOper := [
  ⟨(some 5), (.mv (.t 2)), none⟩,
  ⟨(some 6), (.mv (.t 2)), none⟩,
  ⟨(some 7), (.len false (.t 6)), none⟩,
  ⟨(some 8), (.mv (.t 0)), none⟩,
  ⟨(some 9), (.bin .rem (.t 8) (.v (.int .i64 2))), none⟩,
  ⟨(some 10), (.bin .sub (.t 7) (.t 9)), none⟩,
  ⟨(some 11), (.idx 1 (.t 5) (.t 10)), none⟩,
  ⟨none, (.store .sc 1 (.t 11) (.v (.int .i64 1))), none⟩]
def q_law05_step_3 : List AOper := [
  ⟨(some 12), (.mv (.t 0)), none⟩,
  ⟨(some 13), (.call F_trap_Must [(.sc, (.t 12))]), none⟩]
def a_law05_step : AFunc := ⟨[], (.seq (.seq (.region q_law05_step_0) (.cond (.t 4) (.seq (.region q_law05_step_1) (.region q_law05_step_2)) .skip)) (.region q_law05_step_3))⟩

def q_law05_works_0 : List AOper := [
  ⟨(some 0), (.mv (.v (.bool false))), none⟩]
def q_law05_works_1 : List AOper := [
  ⟨(some 13), (.call F_trap_Catch [(.sc, (.v (.func (.func F_law05_works_1) [] [])))]), none⟩,
  ⟨(some 1), (.mv (.t 13)), none⟩]
def q_law05_works_2 : List AOper := [
  ⟨(some 14), (.call F_trap_Catch [(.sc, (.v (.func (.func F_law05_works_2) [] [])))]), none⟩,
  ⟨(some 2), (.mv (.t 14)), none⟩]
def q_law05_works_3 : List AOper := [
  ⟨(some 15), (.call F_trap_Catch [(.sc, (.v .nilF))]), none⟩,
  ⟨(some 3), (.mv (.t 15)), none⟩]
def q_law05_works_4 : List AOper := [
  ⟨(some 17), (.call F_trap_Try_int [(.sc, (.v (.func (.func F_law05_works_3) [] [])))]), none⟩,
  ⟨(some 16), (.mv (.t 17)), none⟩,
  ⟨(some 18), (.ext 0 (.t 16)), none⟩,
  ⟨(some 19), (.ext 1 (.t 16)), none⟩,
  ⟨(some 4), (.mv (.t 18)), none⟩,
  ⟨(some 5), (.mv (.t 19)), none⟩]
def q_law05_works_5 : List AOper := [
  ⟨(some 21), (.call F_trap_Try_int [(.sc, (.v (.func (.func F_law05_works_4) [] [])))]), none⟩,
  ⟨(some 20), (.mv (.t 21)), none⟩,
  ⟨(some 22), (.ext 0 (.t 20)), none⟩,
  ⟨(some 23), (.ext 1 (.t 20)), none⟩,
  ⟨(some 6), (.mv (.t 22)), none⟩,
  ⟨(some 7), (.mv (.t 23)), none⟩]
def q_law05_works_6 : List AOper := [
  ⟨(some 25), (.call F_trap_Each [(.sc, (.v (.int .i64 3))), (.sc, (.v (.func (.func F_law05_works_5) [] [])))]), none⟩,
  ⟨(some 24), (.mv (.t 25)), none⟩,
  ⟨(some 26), (.ext 0 (.t 24)), none⟩,
  ⟨(some 27), (.ext 1 (.t 24)), none⟩,
  ⟨(some 8), (.mv (.t 26)), none⟩,
  ⟨(some 9), (.mv (.t 27)), none⟩]
def q_law05_works_7 : List AOper := [
  ⟨(some 28), (.bsl 1 .sc 1 [(.v (.func (.func F_law05_works_6) [] [])), (.v (.func (.func F_law05_works_7) [] [])), (.v .nilF)]), none⟩,
  ⟨(some 29), (.call F_trap_First [(.sc, (.t 28))]), none⟩,
  ⟨(some 10), (.mv (.t 29)), none⟩]
def q_law05_works_8 : List AOper := [
  ⟨(some 11), (.alloc 4 [(.bool false)]), none⟩,
  ⟨none, (.store .sc 1 (.t 11) (.v (.bool false))), none⟩]
def q_law05_works_9 : List AOper := [
  ⟨(some 30), (.xx (.p (.mkF (.func F_law05_works_8) 0)) [(.t 11)]), none⟩,
  ⟨(some 31), (.call F_trap_Catch [(.sc, (.t 30))]), none⟩,
  ⟨(some 12), (.mv (.t 31)), none⟩]
def q_law05_works_10 : List AOper := [
  ⟨(some 32), (.mv (.t 1)), none⟩,
  ⟨(some 33), (.eq .scI false (.t 32) (.v (.int .i64 6))), none⟩,
  ⟨(some 34), (.mv (.t 33)), none⟩,
  ⟨(some 35), (.mv (.t 2)), (some (34, true))⟩,
  ⟨(some 36), (.eq .scI false (.t 35) (.v (.int .i64 17))), (some (34, true))⟩,
  ⟨(some 37), (.pick (.t 34) (.t 36) (.v (.bool false))), none⟩,
  ⟨(some 38), (.mv (.t 37)), none⟩,
  ⟨(some 39), (.mv (.t 3)), (some (38, true))⟩,
  ⟨(some 40), (.eq .scI false (.t 39) (.v (.int .i64 1))), (some (38, true))⟩,
  ⟨(some 41), (.pick (.t 38) (.t 40) (.v (.bool false))), none⟩,
  ⟨(some 42), (.mv (.t 41)), none⟩,
  ⟨(some 43), (.mv (.t 4)), (some (42, true))⟩,
  ⟨(some 44), (.eq .scI false (.t 43) (.v (.int .i64 7))), (some (42, true))⟩,
  ⟨(some 45), (.pick (.t 42) (.t 44) (.v (.bool false))), none⟩,
  ⟨(some 46), (.mv (.t 45)), none⟩,
  ⟨(some 47), (.mv (.t 5)), (some (46, true))⟩,
  ⟨(some 48), (.eq .scI false (.t 47) (.v (.int .i64 0))), (some (46, true))⟩,
  ⟨(some 49), (.pick (.t 46) (.t 48) (.v (.bool false))), none⟩,
  ⟨(some 50), (.mv (.t 49)), none⟩,
  ⟨(some 51), (.mv (.t 6)), (some (50, true))⟩,
  ⟨(some 52), (.eq .scI false (.t 51) (.v (.int .i64 0))), (some (50, true))⟩,
  ⟨(some 53), (.pick (.t 50) (.t 52) (.v (.bool false))), none⟩,
  ⟨(some 54), (.mv (.t 53)), none⟩,
  ⟨(some 55), (.mv (.t 7)), (some (54, true))⟩,
  ⟨(some 56), (.eq .scI false (.t 55) (.v (.int .i64 12))), (some (54, true))⟩,
  ⟨(some 57), (.pick (.t 54) (.t 56) (.v (.bool false))), none⟩,
  ⟨(some 58), (.mv (.t 57)), none⟩,
  ⟨(some 59), (.mv (.t 8)), (some (58, true))⟩,
  ⟨(some 60), (.eq .scI false (.t 59) (.v (.int .i64 2))), (some (58, true))⟩,
  ⟨(some 61), (.pick (.t 58) (.t 60) (.v (.bool false))), none⟩,
  ⟨(some 62), (.mv (.t 61)), none⟩,
  ⟨(some 63), (.mv (.t 9)), (some (62, true))⟩,
  ⟨(some 64), (.eq .scI false (.t 63) (.v (.int .i64 5))), (some (62, true))⟩,
  ⟨(some 65), (.pick (.t 62) (.t 64) (.v (.bool false))), none⟩,
  ⟨(some 66), (.mv (.t 65)), none⟩,
  ⟨(some 67), (.mv (.t 10)), (some (66, true))⟩,
  ⟨(some 68), (.eq .scI false (.t 67) (.v (.int .i64 10))), (some (66, true))⟩,
  ⟨(some 69), (.pick (.t 66) (.t 68) (.v (.bool false))), none⟩,
  ⟨(some 70), (.mv (.t 69)), none⟩,
  ⟨(some 71), (.mv (.t 12)), (some (70, true))⟩,
  ⟨(some 72), (.eq .scI false (.t 71) (.v (.int .i64 11))), (some (70, true))⟩,
  ⟨(some 73), (.pick (.t 70) (.t 72) (.v (.bool false))), none⟩,
  ⟨(some 74), (.mv (.t 73)), none⟩,
  ⟨(some 75), (.load .sc 1 (.t 11)), (some (74, true))⟩,
  ⟨(some 76), (.pick (.t 74) (.t 75) (.v (.bool false))), none⟩,
  ⟨(some 0), (.mv (.t 76)), none⟩]
def a_law05_works : AFunc := ⟨[(.tmp 0)], (.seq (.region q_law05_works_0) (.seq (.region q_law05_works_1) (.seq (.region q_law05_works_2) (.seq (.region q_law05_works_3) (.seq (.region q_law05_works_4) (.seq (.region q_law05_works_5) (.seq (.region q_law05_works_6) (.seq (.region q_law05_works_7) (.seq (.region q_law05_works_8) (.seq (.region q_law05_works_9) (.seq (.region q_law05_works_10) .ret)))))))))))⟩

def q_law05_TrapEach_1_0 : List AOper := [
  ⟨(some 4), (.load .sc 1 (.t 1)), none⟩,
  ⟨(some 5), (.mv (.t 0)), none⟩,
  ⟨(some 6), (.idx 1 (.t 4) (.t 5)), none⟩,
  ⟨(some 7), (.load .sc 1 (.t 6)), none⟩,
  ⟨(some 8), (.call F_law05_step [(.sc, (.t 7))]), none⟩]
def q_law05_TrapEach_1_1 : List AOper := [
  ⟨(some 9), (.load .sc 1 (.t 2)), none⟩,
  ⟨(some 10), (.bin .add (.t 9) (.v (.int .i64 1))), none⟩,
  ⟨none, (.store .sc 1 (.t 2) (.t 10)), none⟩]
def a_law05_TrapEach_1 : AFunc := ⟨[], (.seq (.region q_law05_TrapEach_1_0) (.region q_law05_TrapEach_1_1))⟩

def q_law05_TrapEach_2_0 : List AOper := [
  ⟨(some 1), (.load .sc 1 (.t 0)), none⟩,
  ⟨(some 2), (.call F_law05_step [(.sc, (.t 1))]), none⟩]
def a_law05_TrapEach_2 : AFunc := ⟨[], (.region q_law05_TrapEach_2_0)⟩

def q_law05_TrapEach_3_0 : List AOper := [
  ⟨(some 1), (.load .sc 1 (.t 0)), none⟩,
  ⟨(some 2), (.call F_law05_step [(.sc, (.t 1))]), none⟩]
def a_law05_TrapEach_3 : AFunc := ⟨[], (.region q_law05_TrapEach_3_0)⟩

def q_law05_TrapEach_4_0 : List AOper := [
  ⟨(some 1), (.load .sc 1 (.t 0)), none⟩,
  ⟨(some 2), (.call F_law05_step [(.sc, (.t 1))]), none⟩]
def a_law05_TrapEach_4 : AFunc := ⟨[], (.region q_law05_TrapEach_4_0)⟩

def q_law05_TrapNests_1_0 : List AOper := [
  ⟨(some 4), (.xx (.p (.mkF (.func F_law05_TrapNests_1_1) 0)) [(.t 0), (.t 1), (.t 2), (.t 3)]), none⟩,
  ⟨(some 5), (.xx (.p (.mkF (.func F_law05_TrapNests_1_2) 0)) [(.t 3)]), none⟩,
  ⟨(some 6), (.call F_trap_Always [(.sc, (.t 4)), (.sc, (.t 5))]), none⟩]
def a_law05_TrapNests_1 : AFunc := ⟨[], (.region q_law05_TrapNests_1_0)⟩

def q_law05_TrapNests_1_1_0 : List AOper := [
  ⟨(some 4), (.xx (.p (.mkF (.func F_law05_TrapNests_1_1_1) 0)) [(.t 0)]), none⟩,
  ⟨(some 5), (.call F_trap_Catch [(.sc, (.t 4))]), none⟩,
  ⟨none, (.store .sc 1 (.t 1) (.t 5)), none⟩]
def q_law05_TrapNests_1_1_1 : List AOper := [
  ⟨(some 6), (.load .sc 1 (.t 2)), none⟩,
  ⟨(some 7), (.call F_law05_step [(.sc, (.t 6))]), none⟩]
def q_law05_TrapNests_1_1_2 : List AOper := [
  ⟨(some 8), (.load .sc 1 (.t 3)), none⟩,
  ⟨(some 9), (.bin .add (.t 8) (.v (.int .i64 10))), none⟩,
  ⟨none, (.store .sc 1 (.t 3) (.t 9)), none⟩]
def a_law05_TrapNests_1_1 : AFunc := ⟨[], (.seq (.region q_law05_TrapNests_1_1_0) (.seq (.region q_law05_TrapNests_1_1_1) (.region q_law05_TrapNests_1_1_2)))⟩

def q_law05_TrapNests_1_1_1_0 : List AOper := [
  ⟨(some 1), (.load .sc 1 (.t 0)), none⟩,
  ⟨(some 2), (.call F_law05_step [(.sc, (.t 1))]), none⟩]
def a_law05_TrapNests_1_1_1 : AFunc := ⟨[], (.region q_law05_TrapNests_1_1_1_0)⟩

def q_law05_TrapNests_1_2_0 : List AOper := [
  ⟨(some 1), (.load .sc 1 (.t 0)), none⟩,
  ⟨(some 2), (.bin .add (.t 1) (.v (.int .i64 1))), none⟩,
  ⟨none, (.store .sc 1 (.t 0) (.t 2)), none⟩]
def a_law05_TrapNests_1_2 : AFunc := ⟨[], (.region q_law05_TrapNests_1_2_0)⟩

def q_law05_works_1_0 : List AOper := [
  ⟨(some 0), (.call F_trap_Throw [(.sc, (.v (.int .i64 6)))]), none⟩]
def a_law05_works_1 : AFunc := ⟨[], (.region q_law05_works_1_0)⟩

def q_law05_works_2_0 : List AOper := [
  ⟨(some 0), (.call F_law05_step [(.sc, (.v (.int .i64 (-1))))]), none⟩]
def a_law05_works_2 : AFunc := ⟨[], (.region q_law05_works_2_0)⟩

def q_law05_works_3_0 : List AOper := [
  ⟨(some 0), (.mv (.v (.int .i64 0))), none⟩]
def q_law05_works_3_1 : List AOper := [
  ⟨(some 0), (.mv (.v (.int .i64 7))), none⟩]
def a_law05_works_3 : AFunc := ⟨[(.tmp 0)], (.seq (.region q_law05_works_3_0) (.seq (.region q_law05_works_3_1) .ret))⟩

def q_law05_works_4_0 : List AOper := [
  ⟨(some 0), (.mv (.v (.int .i64 0))), none⟩]
def q_law05_works_4_1 : List AOper := [
  ⟨(some 1), (.call F_trap_Must [(.sc, (.v (.int .i64 12)))]), none⟩]
def q_law05_works_4_2 : List AOper := [
  ⟨(some 0), (.mv (.v (.int .i64 7))), none⟩]
def a_law05_works_4 : AFunc := ⟨[(.tmp 0)], (.seq (.region q_law05_works_4_0) (.seq (.region q_law05_works_4_1) (.seq (.region q_law05_works_4_2) .ret)))⟩

def q_law05_works_5_0 : List AOper := [
  ⟨(some 2), (.mv (.t 0)), none⟩,
  ⟨(some 3), (.bin .quo (.t 2) (.v (.int .i64 2))), none⟩,
  ⟨(some 4), (.bin .mul (.t 3) (.v (.int .i64 5))), none⟩,
  ⟨(some 5), (.call F_law05_step [(.sc, (.t 4))]), none⟩]
def a_law05_works_5 : AFunc := ⟨[], (.region q_law05_works_5_0)⟩


def a_law05_works_6 : AFunc := ⟨[], .skip⟩

def q_law05_works_7_0 : List AOper := [
  ⟨(some 0), (.call F_trap_Throw [(.sc, (.v (.int .i64 10)))]), none⟩]
def a_law05_works_7 : AFunc := ⟨[], (.region q_law05_works_7_0)⟩

def q_law05_works_8_0 : List AOper := [
  ⟨(some 1), (.xx (.p (.mkF (.func F_law05_works_8_2) 0)) [(.t 0)]), none⟩,
  ⟨(some 2), (.call F_trap_Always [(.sc, (.v (.func (.func F_law05_works_8_1) [] []))), (.sc, (.t 1))]), none⟩]
def a_law05_works_8 : AFunc := ⟨[], (.region q_law05_works_8_0)⟩

def q_law05_works_8_1_0 : List AOper := [
  ⟨(some 0), (.call F_trap_Throw [(.sc, (.v (.int .i64 11)))]), none⟩]
def a_law05_works_8_1 : AFunc := ⟨[], (.region q_law05_works_8_1_0)⟩

def q_law05_works_8_2_0 : List AOper := [
  ⟨none, (.store .sc 1 (.t 0) (.v (.bool true))), none⟩]
def a_law05_works_8_2 : AFunc := ⟨[], (.region q_law05_works_8_2_0)⟩


theorem c_trap_Try_int : trF Try.prog Try.f24 = some a_trap_Try_int := by kernel_rfl
theorem g_trap_Try_int : Try.prog.funcs[24]? = some Try.f24 := by kernel_rfl
theorem i_trap_Try_int {args : List AV} {A : Heap} {Ko : AOut → Heap → Prop} (hn : args.length ≤ 15)
    (h : ∀ R : APost, (∀ e env A, fpost a_trap_Try_int.res Ko e env A → R e env A) → X Try.prog R a_trap_Try_int.body .done (env0 args) A) : SimX Try.prog F_trap_Try_int args A Ko :=
  X_intro g_trap_Try_int c_trap_Try_int (by rw [Try.ntmps24]; exact hn) h
theorem v_trap_Try_int {args : List AV} {v : AV} (hn : args.length ≤ 15) (h : X Try.prog (fin a_trap_Try_int.res v) a_trap_Try_int.body .done (env0 args) H0) : Gives Try.prog F_trap_Try_int args v :=
  Gives_intro g_trap_Try_int c_trap_Try_int (by rw [Try.ntmps24]; exact hn) h
theorem e_trap_Try_int {args : List AV} {Q : AOut → Prop} (hn : args.length ≤ 15) (h : X Try.prog (finE a_trap_Try_int.res Q) a_trap_Try_int.body .done (env0 args) H0) : Fins Try.prog F_trap_Try_int args Q :=
  Fins_intro g_trap_Try_int c_trap_Try_int (by rw [Try.ntmps24]; exact hn) h
theorem j_trap_Try_int {args : List AV} {A : Heap} {K Kp : AV → Heap → Prop} (hn : args.length ≤ 15) (h : X Try.prog (inl a_trap_Try_int.res K Kp) a_trap_Try_int.body .done (env0 args) A) : SimX Try.prog F_trap_Try_int args A (outK K Kp) :=
  X_inl g_trap_Try_int c_trap_Try_int (by rw [Try.ntmps24]; exact hn) h
theorem d_trap_Try_int {args : List AV} {A : Heap} {Ko : AOut → Heap → Prop} (hn : args.length ≤ 15) (hrf : AVL.Func.hasRF Try.f24 = false)
    (h : ∀ R : APost, (∀ e env A, fpost a_trap_Try_int.res Ko e env A → R e env A) → X Try.prog R a_trap_Try_int.body .done (env0 args) A) : SimD Try.prog F_trap_Try_int args A Ko :=
  X_introD g_trap_Try_int c_trap_Try_int (by rw [Try.ntmps24]; exact hn) hrf h
@[simp] theorem k_trap_Try_int : callable Try.prog F_trap_Try_int = true := by kernel_rfl
theorem c_trap_Each : trF Try.prog Try.f29 = some a_trap_Each := by kernel_rfl
theorem g_trap_Each : Try.prog.funcs[29]? = some Try.f29 := by kernel_rfl
theorem i_trap_Each {args : List AV} {A : Heap} {Ko : AOut → Heap → Prop} (hn : args.length ≤ 12)
    (h : ∀ R : APost, (∀ e env A, fpost a_trap_Each.res Ko e env A → R e env A) → X Try.prog R a_trap_Each.body .done (env0 args) A) : SimX Try.prog F_trap_Each args A Ko :=
  X_intro g_trap_Each c_trap_Each (by rw [Try.ntmps29]; exact hn) h
theorem v_trap_Each {args : List AV} {v : AV} (hn : args.length ≤ 12) (h : X Try.prog (fin a_trap_Each.res v) a_trap_Each.body .done (env0 args) H0) : Gives Try.prog F_trap_Each args v :=
  Gives_intro g_trap_Each c_trap_Each (by rw [Try.ntmps29]; exact hn) h
theorem e_trap_Each {args : List AV} {Q : AOut → Prop} (hn : args.length ≤ 12) (h : X Try.prog (finE a_trap_Each.res Q) a_trap_Each.body .done (env0 args) H0) : Fins Try.prog F_trap_Each args Q :=
  Fins_intro g_trap_Each c_trap_Each (by rw [Try.ntmps29]; exact hn) h
theorem j_trap_Each {args : List AV} {A : Heap} {K Kp : AV → Heap → Prop} (hn : args.length ≤ 12) (h : X Try.prog (inl a_trap_Each.res K Kp) a_trap_Each.body .done (env0 args) A) : SimX Try.prog F_trap_Each args A (outK K Kp) :=
  X_inl g_trap_Each c_trap_Each (by rw [Try.ntmps29]; exact hn) h
theorem d_trap_Each {args : List AV} {A : Heap} {Ko : AOut → Heap → Prop} (hn : args.length ≤ 12) (hrf : AVL.Func.hasRF Try.f29 = false)
    (h : ∀ R : APost, (∀ e env A, fpost a_trap_Each.res Ko e env A → R e env A) → X Try.prog R a_trap_Each.body .done (env0 args) A) : SimD Try.prog F_trap_Each args A Ko :=
  X_introD g_trap_Each c_trap_Each (by rw [Try.ntmps29]; exact hn) hrf h
@[simp] theorem k_trap_Each : callable Try.prog F_trap_Each = true := by kernel_rfl
theorem c_trap_First : trF Try.prog Try.f32 = some a_trap_First := by kernel_rfl
theorem g_trap_First : Try.prog.funcs[32]? = some Try.f32 := by kernel_rfl
theorem i_trap_First {args : List AV} {A : Heap} {Ko : AOut → Heap → Prop} (hn : args.length ≤ 18)
    (h : ∀ R : APost, (∀ e env A, fpost a_trap_First.res Ko e env A → R e env A) → X Try.prog R a_trap_First.body .done (env0 args) A) : SimX Try.prog F_trap_First args A Ko :=
  X_intro g_trap_First c_trap_First (by rw [Try.ntmps32]; exact hn) h
theorem v_trap_First {args : List AV} {v : AV} (hn : args.length ≤ 18) (h : X Try.prog (fin a_trap_First.res v) a_trap_First.body .done (env0 args) H0) : Gives Try.prog F_trap_First args v :=
  Gives_intro g_trap_First c_trap_First (by rw [Try.ntmps32]; exact hn) h
theorem e_trap_First {args : List AV} {Q : AOut → Prop} (hn : args.length ≤ 18) (h : X Try.prog (finE a_trap_First.res Q) a_trap_First.body .done (env0 args) H0) : Fins Try.prog F_trap_First args Q :=
  Fins_intro g_trap_First c_trap_First (by rw [Try.ntmps32]; exact hn) h
theorem j_trap_First {args : List AV} {A : Heap} {K Kp : AV → Heap → Prop} (hn : args.length ≤ 18) (h : X Try.prog (inl a_trap_First.res K Kp) a_trap_First.body .done (env0 args) A) : SimX Try.prog F_trap_First args A (outK K Kp) :=
  X_inl g_trap_First c_trap_First (by rw [Try.ntmps32]; exact hn) h
theorem d_trap_First {args : List AV} {A : Heap} {Ko : AOut → Heap → Prop} (hn : args.length ≤ 18) (hrf : AVL.Func.hasRF Try.f32 = false)
    (h : ∀ R : APost, (∀ e env A, fpost a_trap_First.res Ko e env A → R e env A) → X Try.prog R a_trap_First.body .done (env0 args) A) : SimD Try.prog F_trap_First args A Ko :=
  X_introD g_trap_First c_trap_First (by rw [Try.ntmps32]; exact hn) hrf h
@[simp] theorem k_trap_First : callable Try.prog F_trap_First = true := by kernel_rfl
theorem c_trap_caught : trF Try.prog Try.f56 = some a_trap_caught := by kernel_rfl
theorem g_trap_caught : Try.prog.funcs[56]? = some Try.f56 := by kernel_rfl
theorem i_trap_caught {args : List AV} {A : Heap} {Ko : AOut → Heap → Prop} (hn : args.length ≤ 12)
    (h : ∀ R : APost, (∀ e env A, fpost a_trap_caught.res Ko e env A → R e env A) → X Try.prog R a_trap_caught.body .done (env0 args) A) : SimX Try.prog F_trap_caught args A Ko :=
  X_intro g_trap_caught c_trap_caught (by rw [Try.ntmps56]; exact hn) h
theorem v_trap_caught {args : List AV} {v : AV} (hn : args.length ≤ 12) (h : X Try.prog (fin a_trap_caught.res v) a_trap_caught.body .done (env0 args) H0) : Gives Try.prog F_trap_caught args v :=
  Gives_intro g_trap_caught c_trap_caught (by rw [Try.ntmps56]; exact hn) h
theorem e_trap_caught {args : List AV} {Q : AOut → Prop} (hn : args.length ≤ 12) (h : X Try.prog (finE a_trap_caught.res Q) a_trap_caught.body .done (env0 args) H0) : Fins Try.prog F_trap_caught args Q :=
  Fins_intro g_trap_caught c_trap_caught (by rw [Try.ntmps56]; exact hn) h
theorem j_trap_caught {args : List AV} {A : Heap} {K Kp : AV → Heap → Prop} (hn : args.length ≤ 12) (h : X Try.prog (inl a_trap_caught.res K Kp) a_trap_caught.body .done (env0 args) A) : SimX Try.prog F_trap_caught args A (outK K Kp) :=
  X_inl g_trap_caught c_trap_caught (by rw [Try.ntmps56]; exact hn) h
theorem d_trap_caught {args : List AV} {A : Heap} {Ko : AOut → Heap → Prop} (hn : args.length ≤ 12) (hrf : AVL.Func.hasRF Try.f56 = false)
    (h : ∀ R : APost, (∀ e env A, fpost a_trap_caught.res Ko e env A → R e env A) → X Try.prog R a_trap_caught.body .done (env0 args) A) : SimD Try.prog F_trap_caught args A Ko :=
  X_introD g_trap_caught c_trap_caught (by rw [Try.ntmps56]; exact hn) hrf h
@[simp] theorem k_trap_caught : callable Try.prog F_trap_caught = true := by kernel_rfl
theorem c_trap_Try_int_1 : trF Try.prog Try.f57 = some a_trap_Try_int_1 := by kernel_rfl
theorem g_trap_Try_int_1 : Try.prog.funcs[57]? = some Try.f57 := by kernel_rfl
theorem i_trap_Try_int_1 {args : List AV} {A : Heap} {Ko : AOut → Heap → Prop} (hn : args.length ≤ 4)
    (h : ∀ R : APost, (∀ e env A, fpost a_trap_Try_int_1.res Ko e env A → R e env A) → X Try.prog R a_trap_Try_int_1.body .done (env0 args) A) : SimX Try.prog F_trap_Try_int_1 args A Ko :=
  X_intro g_trap_Try_int_1 c_trap_Try_int_1 (by rw [Try.ntmps57]; exact hn) h
theorem v_trap_Try_int_1 {args : List AV} {v : AV} (hn : args.length ≤ 4) (h : X Try.prog (fin a_trap_Try_int_1.res v) a_trap_Try_int_1.body .done (env0 args) H0) : Gives Try.prog F_trap_Try_int_1 args v :=
  Gives_intro g_trap_Try_int_1 c_trap_Try_int_1 (by rw [Try.ntmps57]; exact hn) h
theorem e_trap_Try_int_1 {args : List AV} {Q : AOut → Prop} (hn : args.length ≤ 4) (h : X Try.prog (finE a_trap_Try_int_1.res Q) a_trap_Try_int_1.body .done (env0 args) H0) : Fins Try.prog F_trap_Try_int_1 args Q :=
  Fins_intro g_trap_Try_int_1 c_trap_Try_int_1 (by rw [Try.ntmps57]; exact hn) h
theorem j_trap_Try_int_1 {args : List AV} {A : Heap} {K Kp : AV → Heap → Prop} (hn : args.length ≤ 4) (h : X Try.prog (inl a_trap_Try_int_1.res K Kp) a_trap_Try_int_1.body .done (env0 args) A) : SimX Try.prog F_trap_Try_int_1 args A (outK K Kp) :=
  X_inl g_trap_Try_int_1 c_trap_Try_int_1 (by rw [Try.ntmps57]; exact hn) h
theorem d_trap_Try_int_1 {args : List AV} {A : Heap} {Ko : AOut → Heap → Prop} (hn : args.length ≤ 4) (hrf : AVL.Func.hasRF Try.f57 = false)
    (h : ∀ R : APost, (∀ e env A, fpost a_trap_Try_int_1.res Ko e env A → R e env A) → X Try.prog R a_trap_Try_int_1.body .done (env0 args) A) : SimD Try.prog F_trap_Try_int_1 args A Ko :=
  X_introD g_trap_Try_int_1 c_trap_Try_int_1 (by rw [Try.ntmps57]; exact hn) hrf h
@[simp] theorem k_trap_Try_int_1 : callable Try.prog F_trap_Try_int_1 = true := by kernel_rfl
theorem c_trap_Must : trF Try.prog Try.f58 = some a_trap_Must := by kernel_rfl
theorem g_trap_Must : Try.prog.funcs[58]? = some Try.f58 := by kernel_rfl
theorem i_trap_Must {args : List AV} {A : Heap} {Ko : AOut → Heap → Prop} (hn : args.length ≤ 6)
    (h : ∀ R : APost, (∀ e env A, fpost a_trap_Must.res Ko e env A → R e env A) → X Try.prog R a_trap_Must.body .done (env0 args) A) : SimX Try.prog F_trap_Must args A Ko :=
  X_intro g_trap_Must c_trap_Must (by rw [Try.ntmps58]; exact hn) h
theorem v_trap_Must {args : List AV} {v : AV} (hn : args.length ≤ 6) (h : X Try.prog (fin a_trap_Must.res v) a_trap_Must.body .done (env0 args) H0) : Gives Try.prog F_trap_Must args v :=
  Gives_intro g_trap_Must c_trap_Must (by rw [Try.ntmps58]; exact hn) h
theorem e_trap_Must {args : List AV} {Q : AOut → Prop} (hn : args.length ≤ 6) (h : X Try.prog (finE a_trap_Must.res Q) a_trap_Must.body .done (env0 args) H0) : Fins Try.prog F_trap_Must args Q :=
  Fins_intro g_trap_Must c_trap_Must (by rw [Try.ntmps58]; exact hn) h
theorem j_trap_Must {args : List AV} {A : Heap} {K Kp : AV → Heap → Prop} (hn : args.length ≤ 6) (h : X Try.prog (inl a_trap_Must.res K Kp) a_trap_Must.body .done (env0 args) A) : SimX Try.prog F_trap_Must args A (outK K Kp) :=
  X_inl g_trap_Must c_trap_Must (by rw [Try.ntmps58]; exact hn) h
theorem d_trap_Must {args : List AV} {A : Heap} {Ko : AOut → Heap → Prop} (hn : args.length ≤ 6) (hrf : AVL.Func.hasRF Try.f58 = false)
    (h : ∀ R : APost, (∀ e env A, fpost a_trap_Must.res Ko e env A → R e env A) → X Try.prog R a_trap_Must.body .done (env0 args) A) : SimD Try.prog F_trap_Must args A Ko :=
  X_introD g_trap_Must c_trap_Must (by rw [Try.ntmps58]; exact hn) hrf h
@[simp] theorem k_trap_Must : callable Try.prog F_trap_Must = true := by kernel_rfl
theorem c_trap_Throw : trF Try.prog Try.f60 = some a_trap_Throw := by kernel_rfl
theorem g_trap_Throw : Try.prog.funcs[60]? = some Try.f60 := by kernel_rfl
theorem i_trap_Throw {args : List AV} {A : Heap} {Ko : AOut → Heap → Prop} (hn : args.length ≤ 5)
    (h : ∀ R : APost, (∀ e env A, fpost a_trap_Throw.res Ko e env A → R e env A) → X Try.prog R a_trap_Throw.body .done (env0 args) A) : SimX Try.prog F_trap_Throw args A Ko :=
  X_intro g_trap_Throw c_trap_Throw (by rw [Try.ntmps60]; exact hn) h
theorem v_trap_Throw {args : List AV} {v : AV} (hn : args.length ≤ 5) (h : X Try.prog (fin a_trap_Throw.res v) a_trap_Throw.body .done (env0 args) H0) : Gives Try.prog F_trap_Throw args v :=
  Gives_intro g_trap_Throw c_trap_Throw (by rw [Try.ntmps60]; exact hn) h
theorem e_trap_Throw {args : List AV} {Q : AOut → Prop} (hn : args.length ≤ 5) (h : X Try.prog (finE a_trap_Throw.res Q) a_trap_Throw.body .done (env0 args) H0) : Fins Try.prog F_trap_Throw args Q :=
  Fins_intro g_trap_Throw c_trap_Throw (by rw [Try.ntmps60]; exact hn) h
theorem j_trap_Throw {args : List AV} {A : Heap} {K Kp : AV → Heap → Prop} (hn : args.length ≤ 5) (h : X Try.prog (inl a_trap_Throw.res K Kp) a_trap_Throw.body .done (env0 args) A) : SimX Try.prog F_trap_Throw args A (outK K Kp) :=
  X_inl g_trap_Throw c_trap_Throw (by rw [Try.ntmps60]; exact hn) h
theorem d_trap_Throw {args : List AV} {A : Heap} {Ko : AOut → Heap → Prop} (hn : args.length ≤ 5) (hrf : AVL.Func.hasRF Try.f60 = false)
    (h : ∀ R : APost, (∀ e env A, fpost a_trap_Throw.res Ko e env A → R e env A) → X Try.prog R a_trap_Throw.body .done (env0 args) A) : SimD Try.prog F_trap_Throw args A Ko :=
  X_introD g_trap_Throw c_trap_Throw (by rw [Try.ntmps60]; exact hn) hrf h
@[simp] theorem k_trap_Throw : callable Try.prog F_trap_Throw = true := by kernel_rfl
theorem c_trap_Each_1 : trF Try.prog Try.f70 = some a_trap_Each_1 := by kernel_rfl
theorem g_trap_Each_1 : Try.prog.funcs[70]? = some Try.f70 := by kernel_rfl
theorem i_trap_Each_1 {args : List AV} {A : Heap} {Ko : AOut → Heap → Prop} (hn : args.length ≤ 14)
    (h : ∀ R : APost, (∀ e env A, fpost a_trap_Each_1.res Ko e env A → R e env A) → X Try.prog R a_trap_Each_1.body .done (env0 args) A) : SimX Try.prog F_trap_Each_1 args A Ko :=
  X_intro g_trap_Each_1 c_trap_Each_1 (by rw [Try.ntmps70]; exact hn) h
theorem v_trap_Each_1 {args : List AV} {v : AV} (hn : args.length ≤ 14) (h : X Try.prog (fin a_trap_Each_1.res v) a_trap_Each_1.body .done (env0 args) H0) : Gives Try.prog F_trap_Each_1 args v :=
  Gives_intro g_trap_Each_1 c_trap_Each_1 (by rw [Try.ntmps70]; exact hn) h
theorem e_trap_Each_1 {args : List AV} {Q : AOut → Prop} (hn : args.length ≤ 14) (h : X Try.prog (finE a_trap_Each_1.res Q) a_trap_Each_1.body .done (env0 args) H0) : Fins Try.prog F_trap_Each_1 args Q :=
  Fins_intro g_trap_Each_1 c_trap_Each_1 (by rw [Try.ntmps70]; exact hn) h
theorem j_trap_Each_1 {args : List AV} {A : Heap} {K Kp : AV → Heap → Prop} (hn : args.length ≤ 14) (h : X Try.prog (inl a_trap_Each_1.res K Kp) a_trap_Each_1.body .done (env0 args) A) : SimX Try.prog F_trap_Each_1 args A (outK K Kp) :=
  X_inl g_trap_Each_1 c_trap_Each_1 (by rw [Try.ntmps70]; exact hn) h
theorem d_trap_Each_1 {args : List AV} {A : Heap} {Ko : AOut → Heap → Prop} (hn : args.length ≤ 14) (hrf : AVL.Func.hasRF Try.f70 = false)
    (h : ∀ R : APost, (∀ e env A, fpost a_trap_Each_1.res Ko e env A → R e env A) → X Try.prog R a_trap_Each_1.body .done (env0 args) A) : SimD Try.prog F_trap_Each_1 args A Ko :=
  X_introD g_trap_Each_1 c_trap_Each_1 (by rw [Try.ntmps70]; exact hn) hrf h
@[simp] theorem k_trap_Each_1 : callable Try.prog F_trap_Each_1 = true := by kernel_rfl
theorem c_ref05_Code : trF Try.prog Try.f27 = some a_ref05_Code := by kernel_rfl
theorem g_ref05_Code : Try.prog.funcs[27]? = some Try.f27 := by kernel_rfl
theorem i_ref05_Code {args : List AV} {A : Heap} {Ko : AOut → Heap → Prop} (hn : args.length ≤ 6)
    (h : ∀ R : APost, (∀ e env A, fpost a_ref05_Code.res Ko e env A → R e env A) → X Try.prog R a_ref05_Code.body .done (env0 args) A) : SimX Try.prog F_ref05_Code args A Ko :=
  X_intro g_ref05_Code c_ref05_Code (by rw [Try.ntmps27]; exact hn) h
theorem v_ref05_Code {args : List AV} {v : AV} (hn : args.length ≤ 6) (h : X Try.prog (fin a_ref05_Code.res v) a_ref05_Code.body .done (env0 args) H0) : Gives Try.prog F_ref05_Code args v :=
  Gives_intro g_ref05_Code c_ref05_Code (by rw [Try.ntmps27]; exact hn) h
theorem e_ref05_Code {args : List AV} {Q : AOut → Prop} (hn : args.length ≤ 6) (h : X Try.prog (finE a_ref05_Code.res Q) a_ref05_Code.body .done (env0 args) H0) : Fins Try.prog F_ref05_Code args Q :=
  Fins_intro g_ref05_Code c_ref05_Code (by rw [Try.ntmps27]; exact hn) h
theorem j_ref05_Code {args : List AV} {A : Heap} {K Kp : AV → Heap → Prop} (hn : args.length ≤ 6) (h : X Try.prog (inl a_ref05_Code.res K Kp) a_ref05_Code.body .done (env0 args) A) : SimX Try.prog F_ref05_Code args A (outK K Kp) :=
  X_inl g_ref05_Code c_ref05_Code (by rw [Try.ntmps27]; exact hn) h
theorem d_ref05_Code {args : List AV} {A : Heap} {Ko : AOut → Heap → Prop} (hn : args.length ≤ 6) (hrf : AVL.Func.hasRF Try.f27 = false)
    (h : ∀ R : APost, (∀ e env A, fpost a_ref05_Code.res Ko e env A → R e env A) → X Try.prog R a_ref05_Code.body .done (env0 args) A) : SimD Try.prog F_ref05_Code args A Ko :=
  X_introD g_ref05_Code c_ref05_Code (by rw [Try.ntmps27]; exact hn) hrf h
@[simp] theorem k_ref05_Code : callable Try.prog F_ref05_Code = true := by kernel_rfl
theorem c_ref05_Each : trF Try.prog Try.f31 = some a_ref05_Each := by kernel_rfl
theorem g_ref05_Each : Try.prog.funcs[31]? = some Try.f31 := by kernel_rfl
theorem i_ref05_Each {args : List AV} {A : Heap} {Ko : AOut → Heap → Prop} (hn : args.length ≤ 24)
    (h : ∀ R : APost, (∀ e env A, fpost a_ref05_Each.res Ko e env A → R e env A) → X Try.prog R a_ref05_Each.body .done (env0 args) A) : SimX Try.prog F_ref05_Each args A Ko :=
  X_intro g_ref05_Each c_ref05_Each (by rw [Try.ntmps31]; exact hn) h
theorem v_ref05_Each {args : List AV} {v : AV} (hn : args.length ≤ 24) (h : X Try.prog (fin a_ref05_Each.res v) a_ref05_Each.body .done (env0 args) H0) : Gives Try.prog F_ref05_Each args v :=
  Gives_intro g_ref05_Each c_ref05_Each (by rw [Try.ntmps31]; exact hn) h
theorem e_ref05_Each {args : List AV} {Q : AOut → Prop} (hn : args.length ≤ 24) (h : X Try.prog (finE a_ref05_Each.res Q) a_ref05_Each.body .done (env0 args) H0) : Fins Try.prog F_ref05_Each args Q :=
  Fins_intro g_ref05_Each c_ref05_Each (by rw [Try.ntmps31]; exact hn) h
theorem j_ref05_Each {args : List AV} {A : Heap} {K Kp : AV → Heap → Prop} (hn : args.length ≤ 24) (h : X Try.prog (inl a_ref05_Each.res K Kp) a_ref05_Each.body .done (env0 args) A) : SimX Try.prog F_ref05_Each args A (outK K Kp) :=
  X_inl g_ref05_Each c_ref05_Each (by rw [Try.ntmps31]; exact hn) h
theorem d_ref05_Each {args : List AV} {A : Heap} {Ko : AOut → Heap → Prop} (hn : args.length ≤ 24) (hrf : AVL.Func.hasRF Try.f31 = false)
    (h : ∀ R : APost, (∀ e env A, fpost a_ref05_Each.res Ko e env A → R e env A) → X Try.prog R a_ref05_Each.body .done (env0 args) A) : SimD Try.prog F_ref05_Each args A Ko :=
  X_introD g_ref05_Each c_ref05_Each (by rw [Try.ntmps31]; exact hn) hrf h
@[simp] theorem k_ref05_Each : callable Try.prog F_ref05_Each = true := by kernel_rfl
theorem c_law05_TrapCatches : trF Try.prog Try.f7 = some a_law05_TrapCatches := by kernel_rfl
theorem g_law05_TrapCatches : Try.prog.funcs[7]? = some Try.f7 := by kernel_rfl
theorem i_law05_TrapCatches {args : List AV} {A : Heap} {Ko : AOut → Heap → Prop} (hn : args.length ≤ 44)
    (h : ∀ R : APost, (∀ e env A, fpost a_law05_TrapCatches.res Ko e env A → R e env A) → X Try.prog R a_law05_TrapCatches.body .done (env0 args) A) : SimX Try.prog F_law05_TrapCatches args A Ko :=
  X_intro g_law05_TrapCatches c_law05_TrapCatches (by rw [Try.ntmps7]; exact hn) h
theorem v_law05_TrapCatches {args : List AV} {v : AV} (hn : args.length ≤ 44) (h : X Try.prog (fin a_law05_TrapCatches.res v) a_law05_TrapCatches.body .done (env0 args) H0) : Gives Try.prog F_law05_TrapCatches args v :=
  Gives_intro g_law05_TrapCatches c_law05_TrapCatches (by rw [Try.ntmps7]; exact hn) h
theorem e_law05_TrapCatches {args : List AV} {Q : AOut → Prop} (hn : args.length ≤ 44) (h : X Try.prog (finE a_law05_TrapCatches.res Q) a_law05_TrapCatches.body .done (env0 args) H0) : Fins Try.prog F_law05_TrapCatches args Q :=
  Fins_intro g_law05_TrapCatches c_law05_TrapCatches (by rw [Try.ntmps7]; exact hn) h
theorem j_law05_TrapCatches {args : List AV} {A : Heap} {K Kp : AV → Heap → Prop} (hn : args.length ≤ 44) (h : X Try.prog (inl a_law05_TrapCatches.res K Kp) a_law05_TrapCatches.body .done (env0 args) A) : SimX Try.prog F_law05_TrapCatches args A (outK K Kp) :=
  X_inl g_law05_TrapCatches c_law05_TrapCatches (by rw [Try.ntmps7]; exact hn) h
theorem d_law05_TrapCatches {args : List AV} {A : Heap} {Ko : AOut → Heap → Prop} (hn : args.length ≤ 44) (hrf : AVL.Func.hasRF Try.f7 = false)
    (h : ∀ R : APost, (∀ e env A, fpost a_law05_TrapCatches.res Ko e env A → R e env A) → X Try.prog R a_law05_TrapCatches.body .done (env0 args) A) : SimD Try.prog F_law05_TrapCatches args A Ko :=
  X_introD g_law05_TrapCatches c_law05_TrapCatches (by rw [Try.ntmps7]; exact hn) hrf h
@[simp] theorem k_law05_TrapCatches : callable Try.prog F_law05_TrapCatches = true := by kernel_rfl
theorem c_law05_TrapEach : trF Try.prog Try.f8 = some a_law05_TrapEach := by kernel_rfl
theorem g_law05_TrapEach : Try.prog.funcs[8]? = some Try.f8 := by kernel_rfl
theorem i_law05_TrapEach {args : List AV} {A : Heap} {Ko : AOut → Heap → Prop} (hn : args.length ≤ 74)
    (h : ∀ R : APost, (∀ e env A, fpost a_law05_TrapEach.res Ko e env A → R e env A) → X Try.prog R a_law05_TrapEach.body .done (env0 args) A) : SimX Try.prog F_law05_TrapEach args A Ko :=
  X_intro g_law05_TrapEach c_law05_TrapEach (by rw [Try.ntmps8]; exact hn) h
theorem v_law05_TrapEach {args : List AV} {v : AV} (hn : args.length ≤ 74) (h : X Try.prog (fin a_law05_TrapEach.res v) a_law05_TrapEach.body .done (env0 args) H0) : Gives Try.prog F_law05_TrapEach args v :=
  Gives_intro g_law05_TrapEach c_law05_TrapEach (by rw [Try.ntmps8]; exact hn) h
theorem e_law05_TrapEach {args : List AV} {Q : AOut → Prop} (hn : args.length ≤ 74) (h : X Try.prog (finE a_law05_TrapEach.res Q) a_law05_TrapEach.body .done (env0 args) H0) : Fins Try.prog F_law05_TrapEach args Q :=
  Fins_intro g_law05_TrapEach c_law05_TrapEach (by rw [Try.ntmps8]; exact hn) h
theorem j_law05_TrapEach {args : List AV} {A : Heap} {K Kp : AV → Heap → Prop} (hn : args.length ≤ 74) (h : X Try.prog (inl a_law05_TrapEach.res K Kp) a_law05_TrapEach.body .done (env0 args) A) : SimX Try.prog F_law05_TrapEach args A (outK K Kp) :=
  X_inl g_law05_TrapEach c_law05_TrapEach (by rw [Try.ntmps8]; exact hn) h
theorem d_law05_TrapEach {args : List AV} {A : Heap} {Ko : AOut → Heap → Prop} (hn : args.length ≤ 74) (hrf : AVL.Func.hasRF Try.f8 = false)
    (h : ∀ R : APost, (∀ e env A, fpost a_law05_TrapEach.res Ko e env A → R e env A) → X Try.prog R a_law05_TrapEach.body .done (env0 args) A) : SimD Try.prog F_law05_TrapEach args A Ko :=
  X_introD g_law05_TrapEach c_law05_TrapEach (by rw [Try.ntmps8]; exact hn) hrf h
@[simp] theorem k_law05_TrapEach : callable Try.prog F_law05_TrapEach = true := by kernel_rfl
theorem c_law05_TrapNests : trF Try.prog Try.f9 = some a_law05_TrapNests := by kernel_rfl
theorem g_law05_TrapNests : Try.prog.funcs[9]? = some Try.f9 := by kernel_rfl
theorem i_law05_TrapNests {args : List AV} {A : Heap} {Ko : AOut → Heap → Prop} (hn : args.length ≤ 31)
    (h : ∀ R : APost, (∀ e env A, fpost a_law05_TrapNests.res Ko e env A → R e env A) → X Try.prog R a_law05_TrapNests.body .done (env0 args) A) : SimX Try.prog F_law05_TrapNests args A Ko :=
  X_intro g_law05_TrapNests c_law05_TrapNests (by rw [Try.ntmps9]; exact hn) h
theorem v_law05_TrapNests {args : List AV} {v : AV} (hn : args.length ≤ 31) (h : X Try.prog (fin a_law05_TrapNests.res v) a_law05_TrapNests.body .done (env0 args) H0) : Gives Try.prog F_law05_TrapNests args v :=
  Gives_intro g_law05_TrapNests c_law05_TrapNests (by rw [Try.ntmps9]; exact hn) h
theorem e_law05_TrapNests {args : List AV} {Q : AOut → Prop} (hn : args.length ≤ 31) (h : X Try.prog (finE a_law05_TrapNests.res Q) a_law05_TrapNests.body .done (env0 args) H0) : Fins Try.prog F_law05_TrapNests args Q :=
  Fins_intro g_law05_TrapNests c_law05_TrapNests (by rw [Try.ntmps9]; exact hn) h
theorem j_law05_TrapNests {args : List AV} {A : Heap} {K Kp : AV → Heap → Prop} (hn : args.length ≤ 31) (h : X Try.prog (inl a_law05_TrapNests.res K Kp) a_law05_TrapNests.body .done (env0 args) A) : SimX Try.prog F_law05_TrapNests args A (outK K Kp) :=
  X_inl g_law05_TrapNests c_law05_TrapNests (by rw [Try.ntmps9]; exact hn) h
theorem d_law05_TrapNests {args : List AV} {A : Heap} {Ko : AOut → Heap → Prop} (hn : args.length ≤ 31) (hrf : AVL.Func.hasRF Try.f9 = false)
    (h : ∀ R : APost, (∀ e env A, fpost a_law05_TrapNests.res Ko e env A → R e env A) → X Try.prog R a_law05_TrapNests.body .done (env0 args) A) : SimD Try.prog F_law05_TrapNests args A Ko :=
  X_introD g_law05_TrapNests c_law05_TrapNests (by rw [Try.ntmps9]; exact hn) hrf h
@[simp] theorem k_law05_TrapNests : callable Try.prog F_law05_TrapNests = true := by kernel_rfl
theorem c_law05_TrapCatches_1 : trF Try.prog Try.f22 = some a_law05_TrapCatches_1 := by kernel_rfl
theorem g_law05_TrapCatches_1 : Try.prog.funcs[22]? = some Try.f22 := by kernel_rfl
theorem i_law05_TrapCatches_1 {args : List AV} {A : Heap} {Ko : AOut → Heap → Prop} (hn : args.length ≤ 6)
    (h : ∀ R : APost, (∀ e env A, fpost a_law05_TrapCatches_1.res Ko e env A → R e env A) → X Try.prog R a_law05_TrapCatches_1.body .done (env0 args) A) : SimX Try.prog F_law05_TrapCatches_1 args A Ko :=
  X_intro g_law05_TrapCatches_1 c_law05_TrapCatches_1 (by rw [Try.ntmps22]; exact hn) h
theorem v_law05_TrapCatches_1 {args : List AV} {v : AV} (hn : args.length ≤ 6) (h : X Try.prog (fin a_law05_TrapCatches_1.res v) a_law05_TrapCatches_1.body .done (env0 args) H0) : Gives Try.prog F_law05_TrapCatches_1 args v :=
  Gives_intro g_law05_TrapCatches_1 c_law05_TrapCatches_1 (by rw [Try.ntmps22]; exact hn) h
theorem e_law05_TrapCatches_1 {args : List AV} {Q : AOut → Prop} (hn : args.length ≤ 6) (h : X Try.prog (finE a_law05_TrapCatches_1.res Q) a_law05_TrapCatches_1.body .done (env0 args) H0) : Fins Try.prog F_law05_TrapCatches_1 args Q :=
  Fins_intro g_law05_TrapCatches_1 c_law05_TrapCatches_1 (by rw [Try.ntmps22]; exact hn) h
theorem j_law05_TrapCatches_1 {args : List AV} {A : Heap} {K Kp : AV → Heap → Prop} (hn : args.length ≤ 6) (h : X Try.prog (inl a_law05_TrapCatches_1.res K Kp) a_law05_TrapCatches_1.body .done (env0 args) A) : SimX Try.prog F_law05_TrapCatches_1 args A (outK K Kp) :=
  X_inl g_law05_TrapCatches_1 c_law05_TrapCatches_1 (by rw [Try.ntmps22]; exact hn) h
theorem d_law05_TrapCatches_1 {args : List AV} {A : Heap} {Ko : AOut → Heap → Prop} (hn : args.length ≤ 6) (hrf : AVL.Func.hasRF Try.f22 = false)
    (h : ∀ R : APost, (∀ e env A, fpost a_law05_TrapCatches_1.res Ko e env A → R e env A) → X Try.prog R a_law05_TrapCatches_1.body .done (env0 args) A) : SimD Try.prog F_law05_TrapCatches_1 args A Ko :=
  X_introD g_law05_TrapCatches_1 c_law05_TrapCatches_1 (by rw [Try.ntmps22]; exact hn) hrf h
@[simp] theorem k_law05_TrapCatches_1 : callable Try.prog F_law05_TrapCatches_1 = true := by kernel_rfl
theorem c_law05_deep : trF Try.prog Try.f23 = some a_law05_deep := by kernel_rfl
theorem g_law05_deep : Try.prog.funcs[23]? = some Try.f23 := by kernel_rfl
theorem i_law05_deep {args : List AV} {A : Heap} {Ko : AOut → Heap → Prop} (hn : args.length ≤ 12)
    (h : ∀ R : APost, (∀ e env A, fpost a_law05_deep.res Ko e env A → R e env A) → X Try.prog R a_law05_deep.body .done (env0 args) A) : SimX Try.prog F_law05_deep args A Ko :=
  X_intro g_law05_deep c_law05_deep (by rw [Try.ntmps23]; exact hn) h
theorem v_law05_deep {args : List AV} {v : AV} (hn : args.length ≤ 12) (h : X Try.prog (fin a_law05_deep.res v) a_law05_deep.body .done (env0 args) H0) : Gives Try.prog F_law05_deep args v :=
  Gives_intro g_law05_deep c_law05_deep (by rw [Try.ntmps23]; exact hn) h
theorem e_law05_deep {args : List AV} {Q : AOut → Prop} (hn : args.length ≤ 12) (h : X Try.prog (finE a_law05_deep.res Q) a_law05_deep.body .done (env0 args) H0) : Fins Try.prog F_law05_deep args Q :=
  Fins_intro g_law05_deep c_law05_deep (by rw [Try.ntmps23]; exact hn) h
theorem j_law05_deep {args : List AV} {A : Heap} {K Kp : AV → Heap → Prop} (hn : args.length ≤ 12) (h : X Try.prog (inl a_law05_deep.res K Kp) a_law05_deep.body .done (env0 args) A) : SimX Try.prog F_law05_deep args A (outK K Kp) :=
  X_inl g_law05_deep c_law05_deep (by rw [Try.ntmps23]; exact hn) h
theorem d_law05_deep {args : List AV} {A : Heap} {Ko : AOut → Heap → Prop} (hn : args.length ≤ 12) (hrf : AVL.Func.hasRF Try.f23 = false)
    (h : ∀ R : APost, (∀ e env A, fpost a_law05_deep.res Ko e env A → R e env A) → X Try.prog R a_law05_deep.body .done (env0 args) A) : SimD Try.prog F_law05_deep args A Ko :=
  X_introD g_law05_deep c_law05_deep (by rw [Try.ntmps23]; exact hn) hrf h
@[simp] theorem k_law05_deep : callable Try.prog F_law05_deep = true := by kernel_rfl
theorem c_law05_TrapCatches_2 : trF Try.prog Try.f25 = some a_law05_TrapCatches_2 := by kernel_rfl
theorem g_law05_TrapCatches_2 : Try.prog.funcs[25]? = some Try.f25 := by kernel_rfl
theorem i_law05_TrapCatches_2 {args : List AV} {A : Heap} {Ko : AOut → Heap → Prop} (hn : args.length ≤ 4)
    (h : ∀ R : APost, (∀ e env A, fpost a_law05_TrapCatches_2.res Ko e env A → R e env A) → X Try.prog R a_law05_TrapCatches_2.body .done (env0 args) A) : SimX Try.prog F_law05_TrapCatches_2 args A Ko :=
  X_intro g_law05_TrapCatches_2 c_law05_TrapCatches_2 (by rw [Try.ntmps25]; exact hn) h
theorem v_law05_TrapCatches_2 {args : List AV} {v : AV} (hn : args.length ≤ 4) (h : X Try.prog (fin a_law05_TrapCatches_2.res v) a_law05_TrapCatches_2.body .done (env0 args) H0) : Gives Try.prog F_law05_TrapCatches_2 args v :=
  Gives_intro g_law05_TrapCatches_2 c_law05_TrapCatches_2 (by rw [Try.ntmps25]; exact hn) h
theorem e_law05_TrapCatches_2 {args : List AV} {Q : AOut → Prop} (hn : args.length ≤ 4) (h : X Try.prog (finE a_law05_TrapCatches_2.res Q) a_law05_TrapCatches_2.body .done (env0 args) H0) : Fins Try.prog F_law05_TrapCatches_2 args Q :=
  Fins_intro g_law05_TrapCatches_2 c_law05_TrapCatches_2 (by rw [Try.ntmps25]; exact hn) h
theorem j_law05_TrapCatches_2 {args : List AV} {A : Heap} {K Kp : AV → Heap → Prop} (hn : args.length ≤ 4) (h : X Try.prog (inl a_law05_TrapCatches_2.res K Kp) a_law05_TrapCatches_2.body .done (env0 args) A) : SimX Try.prog F_law05_TrapCatches_2 args A (outK K Kp) :=
  X_inl g_law05_TrapCatches_2 c_law05_TrapCatches_2 (by rw [Try.ntmps25]; exact hn) h
theorem d_law05_TrapCatches_2 {args : List AV} {A : Heap} {Ko : AOut → Heap → Prop} (hn : args.length ≤ 4) (hrf : AVL.Func.hasRF Try.f25 = false)
    (h : ∀ R : APost, (∀ e env A, fpost a_law05_TrapCatches_2.res Ko e env A → R e env A) → X Try.prog R a_law05_TrapCatches_2.body .done (env0 args) A) : SimD Try.prog F_law05_TrapCatches_2 args A Ko :=
  X_introD g_law05_TrapCatches_2 c_law05_TrapCatches_2 (by rw [Try.ntmps25]; exact hn) hrf h
@[simp] theorem k_law05_TrapCatches_2 : callable Try.prog F_law05_TrapCatches_2 = true := by kernel_rfl
theorem c_law05_step : trF Try.prog Try.f26 = some a_law05_step := by kernel_rfl
theorem g_law05_step : Try.prog.funcs[26]? = some Try.f26 := by kernel_rfl
theorem i_law05_step {args : List AV} {A : Heap} {Ko : AOut → Heap → Prop} (hn : args.length ≤ 14)
    (h : ∀ R : APost, (∀ e env A, fpost a_law05_step.res Ko e env A → R e env A) → X Try.prog R a_law05_step.body .done (env0 args) A) : SimX Try.prog F_law05_step args A Ko :=
  X_intro g_law05_step c_law05_step (by rw [Try.ntmps26]; exact hn) h
theorem v_law05_step {args : List AV} {v : AV} (hn : args.length ≤ 14) (h : X Try.prog (fin a_law05_step.res v) a_law05_step.body .done (env0 args) H0) : Gives Try.prog F_law05_step args v :=
  Gives_intro g_law05_step c_law05_step (by rw [Try.ntmps26]; exact hn) h
theorem e_law05_step {args : List AV} {Q : AOut → Prop} (hn : args.length ≤ 14) (h : X Try.prog (finE a_law05_step.res Q) a_law05_step.body .done (env0 args) H0) : Fins Try.prog F_law05_step args Q :=
  Fins_intro g_law05_step c_law05_step (by rw [Try.ntmps26]; exact hn) h
theorem j_law05_step {args : List AV} {A : Heap} {K Kp : AV → Heap → Prop} (hn : args.length ≤ 14) (h : X Try.prog (inl a_law05_step.res K Kp) a_law05_step.body .done (env0 args) A) : SimX Try.prog F_law05_step args A (outK K Kp) :=
  X_inl g_law05_step c_law05_step (by rw [Try.ntmps26]; exact hn) h
theorem d_law05_step {args : List AV} {A : Heap} {Ko : AOut → Heap → Prop} (hn : args.length ≤ 14) (hrf : AVL.Func.hasRF Try.f26 = false)
    (h : ∀ R : APost, (∀ e env A, fpost a_law05_step.res Ko e env A → R e env A) → X Try.prog R a_law05_step.body .done (env0 args) A) : SimD Try.prog F_law05_step args A Ko :=
  X_introD g_law05_step c_law05_step (by rw [Try.ntmps26]; exact hn) hrf h
@[simp] theorem k_law05_step : callable Try.prog F_law05_step = true := by kernel_rfl
theorem c_law05_works : trF Try.prog Try.f28 = some a_law05_works := by kernel_rfl
theorem g_law05_works : Try.prog.funcs[28]? = some Try.f28 := by kernel_rfl
theorem i_law05_works {args : List AV} {A : Heap} {Ko : AOut → Heap → Prop} (hn : args.length ≤ 77)
    (h : ∀ R : APost, (∀ e env A, fpost a_law05_works.res Ko e env A → R e env A) → X Try.prog R a_law05_works.body .done (env0 args) A) : SimX Try.prog F_law05_works args A Ko :=
  X_intro g_law05_works c_law05_works (by rw [Try.ntmps28]; exact hn) h
theorem v_law05_works {args : List AV} {v : AV} (hn : args.length ≤ 77) (h : X Try.prog (fin a_law05_works.res v) a_law05_works.body .done (env0 args) H0) : Gives Try.prog F_law05_works args v :=
  Gives_intro g_law05_works c_law05_works (by rw [Try.ntmps28]; exact hn) h
theorem e_law05_works {args : List AV} {Q : AOut → Prop} (hn : args.length ≤ 77) (h : X Try.prog (finE a_law05_works.res Q) a_law05_works.body .done (env0 args) H0) : Fins Try.prog F_law05_works args Q :=
  Fins_intro g_law05_works c_law05_works (by rw [Try.ntmps28]; exact hn) h
theorem j_law05_works {args : List AV} {A : Heap} {K Kp : AV → Heap → Prop} (hn : args.length ≤ 77) (h : X Try.prog (inl a_law05_works.res K Kp) a_law05_works.body .done (env0 args) A) : SimX Try.prog F_law05_works args A (outK K Kp) :=
  X_inl g_law05_works c_law05_works (by rw [Try.ntmps28]; exact hn) h
theorem d_law05_works {args : List AV} {A : Heap} {Ko : AOut → Heap → Prop} (hn : args.length ≤ 77) (hrf : AVL.Func.hasRF Try.f28 = false)
    (h : ∀ R : APost, (∀ e env A, fpost a_law05_works.res Ko e env A → R e env A) → X Try.prog R a_law05_works.body .done (env0 args) A) : SimD Try.prog F_law05_works args A Ko :=
  X_introD g_law05_works c_law05_works (by rw [Try.ntmps28]; exact hn) hrf h
@[simp] theorem k_law05_works : callable Try.prog F_law05_works = true := by kernel_rfl
theorem c_law05_TrapEach_1 : trF Try.prog Try.f30 = some a_law05_TrapEach_1 := by kernel_rfl
theorem g_law05_TrapEach_1 : Try.prog.funcs[30]? = some Try.f30 := by kernel_rfl
theorem i_law05_TrapEach_1 {args : List AV} {A : Heap} {Ko : AOut → Heap → Prop} (hn : args.length ≤ 11)
    (h : ∀ R : APost, (∀ e env A, fpost a_law05_TrapEach_1.res Ko e env A → R e env A) → X Try.prog R a_law05_TrapEach_1.body .done (env0 args) A) : SimX Try.prog F_law05_TrapEach_1 args A Ko :=
  X_intro g_law05_TrapEach_1 c_law05_TrapEach_1 (by rw [Try.ntmps30]; exact hn) h
theorem v_law05_TrapEach_1 {args : List AV} {v : AV} (hn : args.length ≤ 11) (h : X Try.prog (fin a_law05_TrapEach_1.res v) a_law05_TrapEach_1.body .done (env0 args) H0) : Gives Try.prog F_law05_TrapEach_1 args v :=
  Gives_intro g_law05_TrapEach_1 c_law05_TrapEach_1 (by rw [Try.ntmps30]; exact hn) h
theorem e_law05_TrapEach_1 {args : List AV} {Q : AOut → Prop} (hn : args.length ≤ 11) (h : X Try.prog (finE a_law05_TrapEach_1.res Q) a_law05_TrapEach_1.body .done (env0 args) H0) : Fins Try.prog F_law05_TrapEach_1 args Q :=
  Fins_intro g_law05_TrapEach_1 c_law05_TrapEach_1 (by rw [Try.ntmps30]; exact hn) h
theorem j_law05_TrapEach_1 {args : List AV} {A : Heap} {K Kp : AV → Heap → Prop} (hn : args.length ≤ 11) (h : X Try.prog (inl a_law05_TrapEach_1.res K Kp) a_law05_TrapEach_1.body .done (env0 args) A) : SimX Try.prog F_law05_TrapEach_1 args A (outK K Kp) :=
  X_inl g_law05_TrapEach_1 c_law05_TrapEach_1 (by rw [Try.ntmps30]; exact hn) h
theorem d_law05_TrapEach_1 {args : List AV} {A : Heap} {Ko : AOut → Heap → Prop} (hn : args.length ≤ 11) (hrf : AVL.Func.hasRF Try.f30 = false)
    (h : ∀ R : APost, (∀ e env A, fpost a_law05_TrapEach_1.res Ko e env A → R e env A) → X Try.prog R a_law05_TrapEach_1.body .done (env0 args) A) : SimD Try.prog F_law05_TrapEach_1 args A Ko :=
  X_introD g_law05_TrapEach_1 c_law05_TrapEach_1 (by rw [Try.ntmps30]; exact hn) hrf h
@[simp] theorem k_law05_TrapEach_1 : callable Try.prog F_law05_TrapEach_1 = true := by kernel_rfl
theorem c_law05_TrapEach_2 : trF Try.prog Try.f33 = some a_law05_TrapEach_2 := by kernel_rfl
theorem g_law05_TrapEach_2 : Try.prog.funcs[33]? = some Try.f33 := by kernel_rfl
theorem i_law05_TrapEach_2 {args : List AV} {A : Heap} {Ko : AOut → Heap → Prop} (hn : args.length ≤ 3)
    (h : ∀ R : APost, (∀ e env A, fpost a_law05_TrapEach_2.res Ko e env A → R e env A) → X Try.prog R a_law05_TrapEach_2.body .done (env0 args) A) : SimX Try.prog F_law05_TrapEach_2 args A Ko :=
  X_intro g_law05_TrapEach_2 c_law05_TrapEach_2 (by rw [Try.ntmps33]; exact hn) h
theorem v_law05_TrapEach_2 {args : List AV} {v : AV} (hn : args.length ≤ 3) (h : X Try.prog (fin a_law05_TrapEach_2.res v) a_law05_TrapEach_2.body .done (env0 args) H0) : Gives Try.prog F_law05_TrapEach_2 args v :=
  Gives_intro g_law05_TrapEach_2 c_law05_TrapEach_2 (by rw [Try.ntmps33]; exact hn) h
theorem e_law05_TrapEach_2 {args : List AV} {Q : AOut → Prop} (hn : args.length ≤ 3) (h : X Try.prog (finE a_law05_TrapEach_2.res Q) a_law05_TrapEach_2.body .done (env0 args) H0) : Fins Try.prog F_law05_TrapEach_2 args Q :=
  Fins_intro g_law05_TrapEach_2 c_law05_TrapEach_2 (by rw [Try.ntmps33]; exact hn) h
theorem j_law05_TrapEach_2 {args : List AV} {A : Heap} {K Kp : AV → Heap → Prop} (hn : args.length ≤ 3) (h : X Try.prog (inl a_law05_TrapEach_2.res K Kp) a_law05_TrapEach_2.body .done (env0 args) A) : SimX Try.prog F_law05_TrapEach_2 args A (outK K Kp) :=
  X_inl g_law05_TrapEach_2 c_law05_TrapEach_2 (by rw [Try.ntmps33]; exact hn) h
theorem d_law05_TrapEach_2 {args : List AV} {A : Heap} {Ko : AOut → Heap → Prop} (hn : args.length ≤ 3) (hrf : AVL.Func.hasRF Try.f33 = false)
    (h : ∀ R : APost, (∀ e env A, fpost a_law05_TrapEach_2.res Ko e env A → R e env A) → X Try.prog R a_law05_TrapEach_2.body .done (env0 args) A) : SimD Try.prog F_law05_TrapEach_2 args A Ko :=
  X_introD g_law05_TrapEach_2 c_law05_TrapEach_2 (by rw [Try.ntmps33]; exact hn) hrf h
@[simp] theorem k_law05_TrapEach_2 : callable Try.prog F_law05_TrapEach_2 = true := by kernel_rfl
theorem c_law05_TrapEach_3 : trF Try.prog Try.f34 = some a_law05_TrapEach_3 := by kernel_rfl
theorem g_law05_TrapEach_3 : Try.prog.funcs[34]? = some Try.f34 := by kernel_rfl
theorem i_law05_TrapEach_3 {args : List AV} {A : Heap} {Ko : AOut → Heap → Prop} (hn : args.length ≤ 3)
    (h : ∀ R : APost, (∀ e env A, fpost a_law05_TrapEach_3.res Ko e env A → R e env A) → X Try.prog R a_law05_TrapEach_3.body .done (env0 args) A) : SimX Try.prog F_law05_TrapEach_3 args A Ko :=
  X_intro g_law05_TrapEach_3 c_law05_TrapEach_3 (by rw [Try.ntmps34]; exact hn) h
theorem v_law05_TrapEach_3 {args : List AV} {v : AV} (hn : args.length ≤ 3) (h : X Try.prog (fin a_law05_TrapEach_3.res v) a_law05_TrapEach_3.body .done (env0 args) H0) : Gives Try.prog F_law05_TrapEach_3 args v :=
  Gives_intro g_law05_TrapEach_3 c_law05_TrapEach_3 (by rw [Try.ntmps34]; exact hn) h
theorem e_law05_TrapEach_3 {args : List AV} {Q : AOut → Prop} (hn : args.length ≤ 3) (h : X Try.prog (finE a_law05_TrapEach_3.res Q) a_law05_TrapEach_3.body .done (env0 args) H0) : Fins Try.prog F_law05_TrapEach_3 args Q :=
  Fins_intro g_law05_TrapEach_3 c_law05_TrapEach_3 (by rw [Try.ntmps34]; exact hn) h
theorem j_law05_TrapEach_3 {args : List AV} {A : Heap} {K Kp : AV → Heap → Prop} (hn : args.length ≤ 3) (h : X Try.prog (inl a_law05_TrapEach_3.res K Kp) a_law05_TrapEach_3.body .done (env0 args) A) : SimX Try.prog F_law05_TrapEach_3 args A (outK K Kp) :=
  X_inl g_law05_TrapEach_3 c_law05_TrapEach_3 (by rw [Try.ntmps34]; exact hn) h
theorem d_law05_TrapEach_3 {args : List AV} {A : Heap} {Ko : AOut → Heap → Prop} (hn : args.length ≤ 3) (hrf : AVL.Func.hasRF Try.f34 = false)
    (h : ∀ R : APost, (∀ e env A, fpost a_law05_TrapEach_3.res Ko e env A → R e env A) → X Try.prog R a_law05_TrapEach_3.body .done (env0 args) A) : SimD Try.prog F_law05_TrapEach_3 args A Ko :=
  X_introD g_law05_TrapEach_3 c_law05_TrapEach_3 (by rw [Try.ntmps34]; exact hn) hrf h
@[simp] theorem k_law05_TrapEach_3 : callable Try.prog F_law05_TrapEach_3 = true := by kernel_rfl
theorem c_law05_TrapEach_4 : trF Try.prog Try.f35 = some a_law05_TrapEach_4 := by kernel_rfl
theorem g_law05_TrapEach_4 : Try.prog.funcs[35]? = some Try.f35 := by kernel_rfl
theorem i_law05_TrapEach_4 {args : List AV} {A : Heap} {Ko : AOut → Heap → Prop} (hn : args.length ≤ 3)
    (h : ∀ R : APost, (∀ e env A, fpost a_law05_TrapEach_4.res Ko e env A → R e env A) → X Try.prog R a_law05_TrapEach_4.body .done (env0 args) A) : SimX Try.prog F_law05_TrapEach_4 args A Ko :=
  X_intro g_law05_TrapEach_4 c_law05_TrapEach_4 (by rw [Try.ntmps35]; exact hn) h
theorem v_law05_TrapEach_4 {args : List AV} {v : AV} (hn : args.length ≤ 3) (h : X Try.prog (fin a_law05_TrapEach_4.res v) a_law05_TrapEach_4.body .done (env0 args) H0) : Gives Try.prog F_law05_TrapEach_4 args v :=
  Gives_intro g_law05_TrapEach_4 c_law05_TrapEach_4 (by rw [Try.ntmps35]; exact hn) h
theorem e_law05_TrapEach_4 {args : List AV} {Q : AOut → Prop} (hn : args.length ≤ 3) (h : X Try.prog (finE a_law05_TrapEach_4.res Q) a_law05_TrapEach_4.body .done (env0 args) H0) : Fins Try.prog F_law05_TrapEach_4 args Q :=
  Fins_intro g_law05_TrapEach_4 c_law05_TrapEach_4 (by rw [Try.ntmps35]; exact hn) h
theorem j_law05_TrapEach_4 {args : List AV} {A : Heap} {K Kp : AV → Heap → Prop} (hn : args.length ≤ 3) (h : X Try.prog (inl a_law05_TrapEach_4.res K Kp) a_law05_TrapEach_4.body .done (env0 args) A) : SimX Try.prog F_law05_TrapEach_4 args A (outK K Kp) :=
  X_inl g_law05_TrapEach_4 c_law05_TrapEach_4 (by rw [Try.ntmps35]; exact hn) h
theorem d_law05_TrapEach_4 {args : List AV} {A : Heap} {Ko : AOut → Heap → Prop} (hn : args.length ≤ 3) (hrf : AVL.Func.hasRF Try.f35 = false)
    (h : ∀ R : APost, (∀ e env A, fpost a_law05_TrapEach_4.res Ko e env A → R e env A) → X Try.prog R a_law05_TrapEach_4.body .done (env0 args) A) : SimD Try.prog F_law05_TrapEach_4 args A Ko :=
  X_introD g_law05_TrapEach_4 c_law05_TrapEach_4 (by rw [Try.ntmps35]; exact hn) hrf h
@[simp] theorem k_law05_TrapEach_4 : callable Try.prog F_law05_TrapEach_4 = true := by kernel_rfl
theorem c_law05_TrapNests_1 : trF Try.prog Try.f36 = some a_law05_TrapNests_1 := by kernel_rfl
theorem g_law05_TrapNests_1 : Try.prog.funcs[36]? = some Try.f36 := by kernel_rfl
theorem i_law05_TrapNests_1 {args : List AV} {A : Heap} {Ko : AOut → Heap → Prop} (hn : args.length ≤ 7)
    (h : ∀ R : APost, (∀ e env A, fpost a_law05_TrapNests_1.res Ko e env A → R e env A) → X Try.prog R a_law05_TrapNests_1.body .done (env0 args) A) : SimX Try.prog F_law05_TrapNests_1 args A Ko :=
  X_intro g_law05_TrapNests_1 c_law05_TrapNests_1 (by rw [Try.ntmps36]; exact hn) h
theorem v_law05_TrapNests_1 {args : List AV} {v : AV} (hn : args.length ≤ 7) (h : X Try.prog (fin a_law05_TrapNests_1.res v) a_law05_TrapNests_1.body .done (env0 args) H0) : Gives Try.prog F_law05_TrapNests_1 args v :=
  Gives_intro g_law05_TrapNests_1 c_law05_TrapNests_1 (by rw [Try.ntmps36]; exact hn) h
theorem e_law05_TrapNests_1 {args : List AV} {Q : AOut → Prop} (hn : args.length ≤ 7) (h : X Try.prog (finE a_law05_TrapNests_1.res Q) a_law05_TrapNests_1.body .done (env0 args) H0) : Fins Try.prog F_law05_TrapNests_1 args Q :=
  Fins_intro g_law05_TrapNests_1 c_law05_TrapNests_1 (by rw [Try.ntmps36]; exact hn) h
theorem j_law05_TrapNests_1 {args : List AV} {A : Heap} {K Kp : AV → Heap → Prop} (hn : args.length ≤ 7) (h : X Try.prog (inl a_law05_TrapNests_1.res K Kp) a_law05_TrapNests_1.body .done (env0 args) A) : SimX Try.prog F_law05_TrapNests_1 args A (outK K Kp) :=
  X_inl g_law05_TrapNests_1 c_law05_TrapNests_1 (by rw [Try.ntmps36]; exact hn) h
theorem d_law05_TrapNests_1 {args : List AV} {A : Heap} {Ko : AOut → Heap → Prop} (hn : args.length ≤ 7) (hrf : AVL.Func.hasRF Try.f36 = false)
    (h : ∀ R : APost, (∀ e env A, fpost a_law05_TrapNests_1.res Ko e env A → R e env A) → X Try.prog R a_law05_TrapNests_1.body .done (env0 args) A) : SimD Try.prog F_law05_TrapNests_1 args A Ko :=
  X_introD g_law05_TrapNests_1 c_law05_TrapNests_1 (by rw [Try.ntmps36]; exact hn) hrf h
@[simp] theorem k_law05_TrapNests_1 : callable Try.prog F_law05_TrapNests_1 = true := by kernel_rfl
theorem c_law05_TrapNests_1_1 : trF Try.prog Try.f38 = some a_law05_TrapNests_1_1 := by kernel_rfl
theorem g_law05_TrapNests_1_1 : Try.prog.funcs[38]? = some Try.f38 := by kernel_rfl
theorem i_law05_TrapNests_1_1 {args : List AV} {A : Heap} {Ko : AOut → Heap → Prop} (hn : args.length ≤ 10)
    (h : ∀ R : APost, (∀ e env A, fpost a_law05_TrapNests_1_1.res Ko e env A → R e env A) → X Try.prog R a_law05_TrapNests_1_1.body .done (env0 args) A) : SimX Try.prog F_law05_TrapNests_1_1 args A Ko :=
  X_intro g_law05_TrapNests_1_1 c_law05_TrapNests_1_1 (by rw [Try.ntmps38]; exact hn) h
theorem v_law05_TrapNests_1_1 {args : List AV} {v : AV} (hn : args.length ≤ 10) (h : X Try.prog (fin a_law05_TrapNests_1_1.res v) a_law05_TrapNests_1_1.body .done (env0 args) H0) : Gives Try.prog F_law05_TrapNests_1_1 args v :=
  Gives_intro g_law05_TrapNests_1_1 c_law05_TrapNests_1_1 (by rw [Try.ntmps38]; exact hn) h
theorem e_law05_TrapNests_1_1 {args : List AV} {Q : AOut → Prop} (hn : args.length ≤ 10) (h : X Try.prog (finE a_law05_TrapNests_1_1.res Q) a_law05_TrapNests_1_1.body .done (env0 args) H0) : Fins Try.prog F_law05_TrapNests_1_1 args Q :=
  Fins_intro g_law05_TrapNests_1_1 c_law05_TrapNests_1_1 (by rw [Try.ntmps38]; exact hn) h
theorem j_law05_TrapNests_1_1 {args : List AV} {A : Heap} {K Kp : AV → Heap → Prop} (hn : args.length ≤ 10) (h : X Try.prog (inl a_law05_TrapNests_1_1.res K Kp) a_law05_TrapNests_1_1.body .done (env0 args) A) : SimX Try.prog F_law05_TrapNests_1_1 args A (outK K Kp) :=
  X_inl g_law05_TrapNests_1_1 c_law05_TrapNests_1_1 (by rw [Try.ntmps38]; exact hn) h
theorem d_law05_TrapNests_1_1 {args : List AV} {A : Heap} {Ko : AOut → Heap → Prop} (hn : args.length ≤ 10) (hrf : AVL.Func.hasRF Try.f38 = false)
    (h : ∀ R : APost, (∀ e env A, fpost a_law05_TrapNests_1_1.res Ko e env A → R e env A) → X Try.prog R a_law05_TrapNests_1_1.body .done (env0 args) A) : SimD Try.prog F_law05_TrapNests_1_1 args A Ko :=
  X_introD g_law05_TrapNests_1_1 c_law05_TrapNests_1_1 (by rw [Try.ntmps38]; exact hn) hrf h
@[simp] theorem k_law05_TrapNests_1_1 : callable Try.prog F_law05_TrapNests_1_1 = true := by kernel_rfl
theorem c_law05_TrapNests_1_1_1 : trF Try.prog Try.f39 = some a_law05_TrapNests_1_1_1 := by kernel_rfl
theorem g_law05_TrapNests_1_1_1 : Try.prog.funcs[39]? = some Try.f39 := by kernel_rfl
theorem i_law05_TrapNests_1_1_1 {args : List AV} {A : Heap} {Ko : AOut → Heap → Prop} (hn : args.length ≤ 3)
    (h : ∀ R : APost, (∀ e env A, fpost a_law05_TrapNests_1_1_1.res Ko e env A → R e env A) → X Try.prog R a_law05_TrapNests_1_1_1.body .done (env0 args) A) : SimX Try.prog F_law05_TrapNests_1_1_1 args A Ko :=
  X_intro g_law05_TrapNests_1_1_1 c_law05_TrapNests_1_1_1 (by rw [Try.ntmps39]; exact hn) h
theorem v_law05_TrapNests_1_1_1 {args : List AV} {v : AV} (hn : args.length ≤ 3) (h : X Try.prog (fin a_law05_TrapNests_1_1_1.res v) a_law05_TrapNests_1_1_1.body .done (env0 args) H0) : Gives Try.prog F_law05_TrapNests_1_1_1 args v :=
  Gives_intro g_law05_TrapNests_1_1_1 c_law05_TrapNests_1_1_1 (by rw [Try.ntmps39]; exact hn) h
theorem e_law05_TrapNests_1_1_1 {args : List AV} {Q : AOut → Prop} (hn : args.length ≤ 3) (h : X Try.prog (finE a_law05_TrapNests_1_1_1.res Q) a_law05_TrapNests_1_1_1.body .done (env0 args) H0) : Fins Try.prog F_law05_TrapNests_1_1_1 args Q :=
  Fins_intro g_law05_TrapNests_1_1_1 c_law05_TrapNests_1_1_1 (by rw [Try.ntmps39]; exact hn) h
theorem j_law05_TrapNests_1_1_1 {args : List AV} {A : Heap} {K Kp : AV → Heap → Prop} (hn : args.length ≤ 3) (h : X Try.prog (inl a_law05_TrapNests_1_1_1.res K Kp) a_law05_TrapNests_1_1_1.body .done (env0 args) A) : SimX Try.prog F_law05_TrapNests_1_1_1 args A (outK K Kp) :=
  X_inl g_law05_TrapNests_1_1_1 c_law05_TrapNests_1_1_1 (by rw [Try.ntmps39]; exact hn) h
theorem d_law05_TrapNests_1_1_1 {args : List AV} {A : Heap} {Ko : AOut → Heap → Prop} (hn : args.length ≤ 3) (hrf : AVL.Func.hasRF Try.f39 = false)
    (h : ∀ R : APost, (∀ e env A, fpost a_law05_TrapNests_1_1_1.res Ko e env A → R e env A) → X Try.prog R a_law05_TrapNests_1_1_1.body .done (env0 args) A) : SimD Try.prog F_law05_TrapNests_1_1_1 args A Ko :=
  X_introD g_law05_TrapNests_1_1_1 c_law05_TrapNests_1_1_1 (by rw [Try.ntmps39]; exact hn) hrf h
@[simp] theorem k_law05_TrapNests_1_1_1 : callable Try.prog F_law05_TrapNests_1_1_1 = true := by kernel_rfl
theorem c_law05_TrapNests_1_2 : trF Try.prog Try.f40 = some a_law05_TrapNests_1_2 := by kernel_rfl
theorem g_law05_TrapNests_1_2 : Try.prog.funcs[40]? = some Try.f40 := by kernel_rfl
theorem i_law05_TrapNests_1_2 {args : List AV} {A : Heap} {Ko : AOut → Heap → Prop} (hn : args.length ≤ 3)
    (h : ∀ R : APost, (∀ e env A, fpost a_law05_TrapNests_1_2.res Ko e env A → R e env A) → X Try.prog R a_law05_TrapNests_1_2.body .done (env0 args) A) : SimX Try.prog F_law05_TrapNests_1_2 args A Ko :=
  X_intro g_law05_TrapNests_1_2 c_law05_TrapNests_1_2 (by rw [Try.ntmps40]; exact hn) h
theorem v_law05_TrapNests_1_2 {args : List AV} {v : AV} (hn : args.length ≤ 3) (h : X Try.prog (fin a_law05_TrapNests_1_2.res v) a_law05_TrapNests_1_2.body .done (env0 args) H0) : Gives Try.prog F_law05_TrapNests_1_2 args v :=
  Gives_intro g_law05_TrapNests_1_2 c_law05_TrapNests_1_2 (by rw [Try.ntmps40]; exact hn) h
theorem e_law05_TrapNests_1_2 {args : List AV} {Q : AOut → Prop} (hn : args.length ≤ 3) (h : X Try.prog (finE a_law05_TrapNests_1_2.res Q) a_law05_TrapNests_1_2.body .done (env0 args) H0) : Fins Try.prog F_law05_TrapNests_1_2 args Q :=
  Fins_intro g_law05_TrapNests_1_2 c_law05_TrapNests_1_2 (by rw [Try.ntmps40]; exact hn) h
theorem j_law05_TrapNests_1_2 {args : List AV} {A : Heap} {K Kp : AV → Heap → Prop} (hn : args.length ≤ 3) (h : X Try.prog (inl a_law05_TrapNests_1_2.res K Kp) a_law05_TrapNests_1_2.body .done (env0 args) A) : SimX Try.prog F_law05_TrapNests_1_2 args A (outK K Kp) :=
  X_inl g_law05_TrapNests_1_2 c_law05_TrapNests_1_2 (by rw [Try.ntmps40]; exact hn) h
theorem d_law05_TrapNests_1_2 {args : List AV} {A : Heap} {Ko : AOut → Heap → Prop} (hn : args.length ≤ 3) (hrf : AVL.Func.hasRF Try.f40 = false)
    (h : ∀ R : APost, (∀ e env A, fpost a_law05_TrapNests_1_2.res Ko e env A → R e env A) → X Try.prog R a_law05_TrapNests_1_2.body .done (env0 args) A) : SimD Try.prog F_law05_TrapNests_1_2 args A Ko :=
  X_introD g_law05_TrapNests_1_2 c_law05_TrapNests_1_2 (by rw [Try.ntmps40]; exact hn) hrf h
@[simp] theorem k_law05_TrapNests_1_2 : callable Try.prog F_law05_TrapNests_1_2 = true := by kernel_rfl
theorem c_law05_works_1 : trF Try.prog Try.f59 = some a_law05_works_1 := by kernel_rfl
theorem g_law05_works_1 : Try.prog.funcs[59]? = some Try.f59 := by kernel_rfl
theorem i_law05_works_1 {args : List AV} {A : Heap} {Ko : AOut → Heap → Prop} (hn : args.length ≤ 1)
    (h : ∀ R : APost, (∀ e env A, fpost a_law05_works_1.res Ko e env A → R e env A) → X Try.prog R a_law05_works_1.body .done (env0 args) A) : SimX Try.prog F_law05_works_1 args A Ko :=
  X_intro g_law05_works_1 c_law05_works_1 (by rw [Try.ntmps59]; exact hn) h
theorem v_law05_works_1 {args : List AV} {v : AV} (hn : args.length ≤ 1) (h : X Try.prog (fin a_law05_works_1.res v) a_law05_works_1.body .done (env0 args) H0) : Gives Try.prog F_law05_works_1 args v :=
  Gives_intro g_law05_works_1 c_law05_works_1 (by rw [Try.ntmps59]; exact hn) h
theorem e_law05_works_1 {args : List AV} {Q : AOut → Prop} (hn : args.length ≤ 1) (h : X Try.prog (finE a_law05_works_1.res Q) a_law05_works_1.body .done (env0 args) H0) : Fins Try.prog F_law05_works_1 args Q :=
  Fins_intro g_law05_works_1 c_law05_works_1 (by rw [Try.ntmps59]; exact hn) h
theorem j_law05_works_1 {args : List AV} {A : Heap} {K Kp : AV → Heap → Prop} (hn : args.length ≤ 1) (h : X Try.prog (inl a_law05_works_1.res K Kp) a_law05_works_1.body .done (env0 args) A) : SimX Try.prog F_law05_works_1 args A (outK K Kp) :=
  X_inl g_law05_works_1 c_law05_works_1 (by rw [Try.ntmps59]; exact hn) h
theorem d_law05_works_1 {args : List AV} {A : Heap} {Ko : AOut → Heap → Prop} (hn : args.length ≤ 1) (hrf : AVL.Func.hasRF Try.f59 = false)
    (h : ∀ R : APost, (∀ e env A, fpost a_law05_works_1.res Ko e env A → R e env A) → X Try.prog R a_law05_works_1.body .done (env0 args) A) : SimD Try.prog F_law05_works_1 args A Ko :=
  X_introD g_law05_works_1 c_law05_works_1 (by rw [Try.ntmps59]; exact hn) hrf h
@[simp] theorem k_law05_works_1 : callable Try.prog F_law05_works_1 = true := by kernel_rfl
theorem c_law05_works_2 : trF Try.prog Try.f61 = some a_law05_works_2 := by kernel_rfl
theorem g_law05_works_2 : Try.prog.funcs[61]? = some Try.f61 := by kernel_rfl
theorem i_law05_works_2 {args : List AV} {A : Heap} {Ko : AOut → Heap → Prop} (hn : args.length ≤ 1)
    (h : ∀ R : APost, (∀ e env A, fpost a_law05_works_2.res Ko e env A → R e env A) → X Try.prog R a_law05_works_2.body .done (env0 args) A) : SimX Try.prog F_law05_works_2 args A Ko :=
  X_intro g_law05_works_2 c_law05_works_2 (by rw [Try.ntmps61]; exact hn) h
theorem v_law05_works_2 {args : List AV} {v : AV} (hn : args.length ≤ 1) (h : X Try.prog (fin a_law05_works_2.res v) a_law05_works_2.body .done (env0 args) H0) : Gives Try.prog F_law05_works_2 args v :=
  Gives_intro g_law05_works_2 c_law05_works_2 (by rw [Try.ntmps61]; exact hn) h
theorem e_law05_works_2 {args : List AV} {Q : AOut → Prop} (hn : args.length ≤ 1) (h : X Try.prog (finE a_law05_works_2.res Q) a_law05_works_2.body .done (env0 args) H0) : Fins Try.prog F_law05_works_2 args Q :=
  Fins_intro g_law05_works_2 c_law05_works_2 (by rw [Try.ntmps61]; exact hn) h
theorem j_law05_works_2 {args : List AV} {A : Heap} {K Kp : AV → Heap → Prop} (hn : args.length ≤ 1) (h : X Try.prog (inl a_law05_works_2.res K Kp) a_law05_works_2.body .done (env0 args) A) : SimX Try.prog F_law05_works_2 args A (outK K Kp) :=
  X_inl g_law05_works_2 c_law05_works_2 (by rw [Try.ntmps61]; exact hn) h
theorem d_law05_works_2 {args : List AV} {A : Heap} {Ko : AOut → Heap → Prop} (hn : args.length ≤ 1) (hrf : AVL.Func.hasRF Try.f61 = false)
    (h : ∀ R : APost, (∀ e env A, fpost a_law05_works_2.res Ko e env A → R e env A) → X Try.prog R a_law05_works_2.body .done (env0 args) A) : SimD Try.prog F_law05_works_2 args A Ko :=
  X_introD g_law05_works_2 c_law05_works_2 (by rw [Try.ntmps61]; exact hn) hrf h
@[simp] theorem k_law05_works_2 : callable Try.prog F_law05_works_2 = true := by kernel_rfl
theorem c_law05_works_3 : trF Try.prog Try.f62 = some a_law05_works_3 := by kernel_rfl
theorem g_law05_works_3 : Try.prog.funcs[62]? = some Try.f62 := by kernel_rfl
theorem i_law05_works_3 {args : List AV} {A : Heap} {Ko : AOut → Heap → Prop} (hn : args.length ≤ 1)
    (h : ∀ R : APost, (∀ e env A, fpost a_law05_works_3.res Ko e env A → R e env A) → X Try.prog R a_law05_works_3.body .done (env0 args) A) : SimX Try.prog F_law05_works_3 args A Ko :=
  X_intro g_law05_works_3 c_law05_works_3 (by rw [Try.ntmps62]; exact hn) h
theorem v_law05_works_3 {args : List AV} {v : AV} (hn : args.length ≤ 1) (h : X Try.prog (fin a_law05_works_3.res v) a_law05_works_3.body .done (env0 args) H0) : Gives Try.prog F_law05_works_3 args v :=
  Gives_intro g_law05_works_3 c_law05_works_3 (by rw [Try.ntmps62]; exact hn) h
theorem e_law05_works_3 {args : List AV} {Q : AOut → Prop} (hn : args.length ≤ 1) (h : X Try.prog (finE a_law05_works_3.res Q) a_law05_works_3.body .done (env0 args) H0) : Fins Try.prog F_law05_works_3 args Q :=
  Fins_intro g_law05_works_3 c_law05_works_3 (by rw [Try.ntmps62]; exact hn) h
theorem j_law05_works_3 {args : List AV} {A : Heap} {K Kp : AV → Heap → Prop} (hn : args.length ≤ 1) (h : X Try.prog (inl a_law05_works_3.res K Kp) a_law05_works_3.body .done (env0 args) A) : SimX Try.prog F_law05_works_3 args A (outK K Kp) :=
  X_inl g_law05_works_3 c_law05_works_3 (by rw [Try.ntmps62]; exact hn) h
theorem d_law05_works_3 {args : List AV} {A : Heap} {Ko : AOut → Heap → Prop} (hn : args.length ≤ 1) (hrf : AVL.Func.hasRF Try.f62 = false)
    (h : ∀ R : APost, (∀ e env A, fpost a_law05_works_3.res Ko e env A → R e env A) → X Try.prog R a_law05_works_3.body .done (env0 args) A) : SimD Try.prog F_law05_works_3 args A Ko :=
  X_introD g_law05_works_3 c_law05_works_3 (by rw [Try.ntmps62]; exact hn) hrf h
@[simp] theorem k_law05_works_3 : callable Try.prog F_law05_works_3 = true := by kernel_rfl
theorem c_law05_works_4 : trF Try.prog Try.f63 = some a_law05_works_4 := by kernel_rfl
theorem g_law05_works_4 : Try.prog.funcs[63]? = some Try.f63 := by kernel_rfl
theorem i_law05_works_4 {args : List AV} {A : Heap} {Ko : AOut → Heap → Prop} (hn : args.length ≤ 2)
    (h : ∀ R : APost, (∀ e env A, fpost a_law05_works_4.res Ko e env A → R e env A) → X Try.prog R a_law05_works_4.body .done (env0 args) A) : SimX Try.prog F_law05_works_4 args A Ko :=
  X_intro g_law05_works_4 c_law05_works_4 (by rw [Try.ntmps63]; exact hn) h
theorem v_law05_works_4 {args : List AV} {v : AV} (hn : args.length ≤ 2) (h : X Try.prog (fin a_law05_works_4.res v) a_law05_works_4.body .done (env0 args) H0) : Gives Try.prog F_law05_works_4 args v :=
  Gives_intro g_law05_works_4 c_law05_works_4 (by rw [Try.ntmps63]; exact hn) h
theorem e_law05_works_4 {args : List AV} {Q : AOut → Prop} (hn : args.length ≤ 2) (h : X Try.prog (finE a_law05_works_4.res Q) a_law05_works_4.body .done (env0 args) H0) : Fins Try.prog F_law05_works_4 args Q :=
  Fins_intro g_law05_works_4 c_law05_works_4 (by rw [Try.ntmps63]; exact hn) h
theorem j_law05_works_4 {args : List AV} {A : Heap} {K Kp : AV → Heap → Prop} (hn : args.length ≤ 2) (h : X Try.prog (inl a_law05_works_4.res K Kp) a_law05_works_4.body .done (env0 args) A) : SimX Try.prog F_law05_works_4 args A (outK K Kp) :=
  X_inl g_law05_works_4 c_law05_works_4 (by rw [Try.ntmps63]; exact hn) h
theorem d_law05_works_4 {args : List AV} {A : Heap} {Ko : AOut → Heap → Prop} (hn : args.length ≤ 2) (hrf : AVL.Func.hasRF Try.f63 = false)
    (h : ∀ R : APost, (∀ e env A, fpost a_law05_works_4.res Ko e env A → R e env A) → X Try.prog R a_law05_works_4.body .done (env0 args) A) : SimD Try.prog F_law05_works_4 args A Ko :=
  X_introD g_law05_works_4 c_law05_works_4 (by rw [Try.ntmps63]; exact hn) hrf h
@[simp] theorem k_law05_works_4 : callable Try.prog F_law05_works_4 = true := by kernel_rfl
theorem c_law05_works_5 : trF Try.prog Try.f64 = some a_law05_works_5 := by kernel_rfl
theorem g_law05_works_5 : Try.prog.funcs[64]? = some Try.f64 := by kernel_rfl
theorem i_law05_works_5 {args : List AV} {A : Heap} {Ko : AOut → Heap → Prop} (hn : args.length ≤ 6)
    (h : ∀ R : APost, (∀ e env A, fpost a_law05_works_5.res Ko e env A → R e env A) → X Try.prog R a_law05_works_5.body .done (env0 args) A) : SimX Try.prog F_law05_works_5 args A Ko :=
  X_intro g_law05_works_5 c_law05_works_5 (by rw [Try.ntmps64]; exact hn) h
theorem v_law05_works_5 {args : List AV} {v : AV} (hn : args.length ≤ 6) (h : X Try.prog (fin a_law05_works_5.res v) a_law05_works_5.body .done (env0 args) H0) : Gives Try.prog F_law05_works_5 args v :=
  Gives_intro g_law05_works_5 c_law05_works_5 (by rw [Try.ntmps64]; exact hn) h
theorem e_law05_works_5 {args : List AV} {Q : AOut → Prop} (hn : args.length ≤ 6) (h : X Try.prog (finE a_law05_works_5.res Q) a_law05_works_5.body .done (env0 args) H0) : Fins Try.prog F_law05_works_5 args Q :=
  Fins_intro g_law05_works_5 c_law05_works_5 (by rw [Try.ntmps64]; exact hn) h
theorem j_law05_works_5 {args : List AV} {A : Heap} {K Kp : AV → Heap → Prop} (hn : args.length ≤ 6) (h : X Try.prog (inl a_law05_works_5.res K Kp) a_law05_works_5.body .done (env0 args) A) : SimX Try.prog F_law05_works_5 args A (outK K Kp) :=
  X_inl g_law05_works_5 c_law05_works_5 (by rw [Try.ntmps64]; exact hn) h
theorem d_law05_works_5 {args : List AV} {A : Heap} {Ko : AOut → Heap → Prop} (hn : args.length ≤ 6) (hrf : AVL.Func.hasRF Try.f64 = false)
    (h : ∀ R : APost, (∀ e env A, fpost a_law05_works_5.res Ko e env A → R e env A) → X Try.prog R a_law05_works_5.body .done (env0 args) A) : SimD Try.prog F_law05_works_5 args A Ko :=
  X_introD g_law05_works_5 c_law05_works_5 (by rw [Try.ntmps64]; exact hn) hrf h
@[simp] theorem k_law05_works_5 : callable Try.prog F_law05_works_5 = true := by kernel_rfl
theorem c_law05_works_6 : trF Try.prog Try.f65 = some a_law05_works_6 := by kernel_rfl
theorem g_law05_works_6 : Try.prog.funcs[65]? = some Try.f65 := by kernel_rfl
theorem i_law05_works_6 {args : List AV} {A : Heap} {Ko : AOut → Heap → Prop} (hn : args.length ≤ 0)
    (h : ∀ R : APost, (∀ e env A, fpost a_law05_works_6.res Ko e env A → R e env A) → X Try.prog R a_law05_works_6.body .done (env0 args) A) : SimX Try.prog F_law05_works_6 args A Ko :=
  X_intro g_law05_works_6 c_law05_works_6 (by rw [Try.ntmps65]; exact hn) h
theorem v_law05_works_6 {args : List AV} {v : AV} (hn : args.length ≤ 0) (h : X Try.prog (fin a_law05_works_6.res v) a_law05_works_6.body .done (env0 args) H0) : Gives Try.prog F_law05_works_6 args v :=
  Gives_intro g_law05_works_6 c_law05_works_6 (by rw [Try.ntmps65]; exact hn) h
theorem e_law05_works_6 {args : List AV} {Q : AOut → Prop} (hn : args.length ≤ 0) (h : X Try.prog (finE a_law05_works_6.res Q) a_law05_works_6.body .done (env0 args) H0) : Fins Try.prog F_law05_works_6 args Q :=
  Fins_intro g_law05_works_6 c_law05_works_6 (by rw [Try.ntmps65]; exact hn) h
theorem j_law05_works_6 {args : List AV} {A : Heap} {K Kp : AV → Heap → Prop} (hn : args.length ≤ 0) (h : X Try.prog (inl a_law05_works_6.res K Kp) a_law05_works_6.body .done (env0 args) A) : SimX Try.prog F_law05_works_6 args A (outK K Kp) :=
  X_inl g_law05_works_6 c_law05_works_6 (by rw [Try.ntmps65]; exact hn) h
theorem d_law05_works_6 {args : List AV} {A : Heap} {Ko : AOut → Heap → Prop} (hn : args.length ≤ 0) (hrf : AVL.Func.hasRF Try.f65 = false)
    (h : ∀ R : APost, (∀ e env A, fpost a_law05_works_6.res Ko e env A → R e env A) → X Try.prog R a_law05_works_6.body .done (env0 args) A) : SimD Try.prog F_law05_works_6 args A Ko :=
  X_introD g_law05_works_6 c_law05_works_6 (by rw [Try.ntmps65]; exact hn) hrf h
@[simp] theorem k_law05_works_6 : callable Try.prog F_law05_works_6 = true := by kernel_rfl
theorem c_law05_works_7 : trF Try.prog Try.f66 = some a_law05_works_7 := by kernel_rfl
theorem g_law05_works_7 : Try.prog.funcs[66]? = some Try.f66 := by kernel_rfl
theorem i_law05_works_7 {args : List AV} {A : Heap} {Ko : AOut → Heap → Prop} (hn : args.length ≤ 1)
    (h : ∀ R : APost, (∀ e env A, fpost a_law05_works_7.res Ko e env A → R e env A) → X Try.prog R a_law05_works_7.body .done (env0 args) A) : SimX Try.prog F_law05_works_7 args A Ko :=
  X_intro g_law05_works_7 c_law05_works_7 (by rw [Try.ntmps66]; exact hn) h
theorem v_law05_works_7 {args : List AV} {v : AV} (hn : args.length ≤ 1) (h : X Try.prog (fin a_law05_works_7.res v) a_law05_works_7.body .done (env0 args) H0) : Gives Try.prog F_law05_works_7 args v :=
  Gives_intro g_law05_works_7 c_law05_works_7 (by rw [Try.ntmps66]; exact hn) h
theorem e_law05_works_7 {args : List AV} {Q : AOut → Prop} (hn : args.length ≤ 1) (h : X Try.prog (finE a_law05_works_7.res Q) a_law05_works_7.body .done (env0 args) H0) : Fins Try.prog F_law05_works_7 args Q :=
  Fins_intro g_law05_works_7 c_law05_works_7 (by rw [Try.ntmps66]; exact hn) h
theorem j_law05_works_7 {args : List AV} {A : Heap} {K Kp : AV → Heap → Prop} (hn : args.length ≤ 1) (h : X Try.prog (inl a_law05_works_7.res K Kp) a_law05_works_7.body .done (env0 args) A) : SimX Try.prog F_law05_works_7 args A (outK K Kp) :=
  X_inl g_law05_works_7 c_law05_works_7 (by rw [Try.ntmps66]; exact hn) h
theorem d_law05_works_7 {args : List AV} {A : Heap} {Ko : AOut → Heap → Prop} (hn : args.length ≤ 1) (hrf : AVL.Func.hasRF Try.f66 = false)
    (h : ∀ R : APost, (∀ e env A, fpost a_law05_works_7.res Ko e env A → R e env A) → X Try.prog R a_law05_works_7.body .done (env0 args) A) : SimD Try.prog F_law05_works_7 args A Ko :=
  X_introD g_law05_works_7 c_law05_works_7 (by rw [Try.ntmps66]; exact hn) hrf h
@[simp] theorem k_law05_works_7 : callable Try.prog F_law05_works_7 = true := by kernel_rfl
theorem c_law05_works_8 : trF Try.prog Try.f67 = some a_law05_works_8 := by kernel_rfl
theorem g_law05_works_8 : Try.prog.funcs[67]? = some Try.f67 := by kernel_rfl
theorem i_law05_works_8 {args : List AV} {A : Heap} {Ko : AOut → Heap → Prop} (hn : args.length ≤ 3)
    (h : ∀ R : APost, (∀ e env A, fpost a_law05_works_8.res Ko e env A → R e env A) → X Try.prog R a_law05_works_8.body .done (env0 args) A) : SimX Try.prog F_law05_works_8 args A Ko :=
  X_intro g_law05_works_8 c_law05_works_8 (by rw [Try.ntmps67]; exact hn) h
theorem v_law05_works_8 {args : List AV} {v : AV} (hn : args.length ≤ 3) (h : X Try.prog (fin a_law05_works_8.res v) a_law05_works_8.body .done (env0 args) H0) : Gives Try.prog F_law05_works_8 args v :=
  Gives_intro g_law05_works_8 c_law05_works_8 (by rw [Try.ntmps67]; exact hn) h
theorem e_law05_works_8 {args : List AV} {Q : AOut → Prop} (hn : args.length ≤ 3) (h : X Try.prog (finE a_law05_works_8.res Q) a_law05_works_8.body .done (env0 args) H0) : Fins Try.prog F_law05_works_8 args Q :=
  Fins_intro g_law05_works_8 c_law05_works_8 (by rw [Try.ntmps67]; exact hn) h
theorem j_law05_works_8 {args : List AV} {A : Heap} {K Kp : AV → Heap → Prop} (hn : args.length ≤ 3) (h : X Try.prog (inl a_law05_works_8.res K Kp) a_law05_works_8.body .done (env0 args) A) : SimX Try.prog F_law05_works_8 args A (outK K Kp) :=
  X_inl g_law05_works_8 c_law05_works_8 (by rw [Try.ntmps67]; exact hn) h
theorem d_law05_works_8 {args : List AV} {A : Heap} {Ko : AOut → Heap → Prop} (hn : args.length ≤ 3) (hrf : AVL.Func.hasRF Try.f67 = false)
    (h : ∀ R : APost, (∀ e env A, fpost a_law05_works_8.res Ko e env A → R e env A) → X Try.prog R a_law05_works_8.body .done (env0 args) A) : SimD Try.prog F_law05_works_8 args A Ko :=
  X_introD g_law05_works_8 c_law05_works_8 (by rw [Try.ntmps67]; exact hn) hrf h
@[simp] theorem k_law05_works_8 : callable Try.prog F_law05_works_8 = true := by kernel_rfl
theorem c_law05_works_8_1 : trF Try.prog Try.f68 = some a_law05_works_8_1 := by kernel_rfl
theorem g_law05_works_8_1 : Try.prog.funcs[68]? = some Try.f68 := by kernel_rfl
theorem i_law05_works_8_1 {args : List AV} {A : Heap} {Ko : AOut → Heap → Prop} (hn : args.length ≤ 1)
    (h : ∀ R : APost, (∀ e env A, fpost a_law05_works_8_1.res Ko e env A → R e env A) → X Try.prog R a_law05_works_8_1.body .done (env0 args) A) : SimX Try.prog F_law05_works_8_1 args A Ko :=
  X_intro g_law05_works_8_1 c_law05_works_8_1 (by rw [Try.ntmps68]; exact hn) h
theorem v_law05_works_8_1 {args : List AV} {v : AV} (hn : args.length ≤ 1) (h : X Try.prog (fin a_law05_works_8_1.res v) a_law05_works_8_1.body .done (env0 args) H0) : Gives Try.prog F_law05_works_8_1 args v :=
  Gives_intro g_law05_works_8_1 c_law05_works_8_1 (by rw [Try.ntmps68]; exact hn) h
theorem e_law05_works_8_1 {args : List AV} {Q : AOut → Prop} (hn : args.length ≤ 1) (h : X Try.prog (finE a_law05_works_8_1.res Q) a_law05_works_8_1.body .done (env0 args) H0) : Fins Try.prog F_law05_works_8_1 args Q :=
  Fins_intro g_law05_works_8_1 c_law05_works_8_1 (by rw [Try.ntmps68]; exact hn) h
theorem j_law05_works_8_1 {args : List AV} {A : Heap} {K Kp : AV → Heap → Prop} (hn : args.length ≤ 1) (h : X Try.prog (inl a_law05_works_8_1.res K Kp) a_law05_works_8_1.body .done (env0 args) A) : SimX Try.prog F_law05_works_8_1 args A (outK K Kp) :=
  X_inl g_law05_works_8_1 c_law05_works_8_1 (by rw [Try.ntmps68]; exact hn) h
theorem d_law05_works_8_1 {args : List AV} {A : Heap} {Ko : AOut → Heap → Prop} (hn : args.length ≤ 1) (hrf : AVL.Func.hasRF Try.f68 = false)
    (h : ∀ R : APost, (∀ e env A, fpost a_law05_works_8_1.res Ko e env A → R e env A) → X Try.prog R a_law05_works_8_1.body .done (env0 args) A) : SimD Try.prog F_law05_works_8_1 args A Ko :=
  X_introD g_law05_works_8_1 c_law05_works_8_1 (by rw [Try.ntmps68]; exact hn) hrf h
@[simp] theorem k_law05_works_8_1 : callable Try.prog F_law05_works_8_1 = true := by kernel_rfl
theorem c_law05_works_8_2 : trF Try.prog Try.f69 = some a_law05_works_8_2 := by kernel_rfl
theorem g_law05_works_8_2 : Try.prog.funcs[69]? = some Try.f69 := by kernel_rfl
theorem i_law05_works_8_2 {args : List AV} {A : Heap} {Ko : AOut → Heap → Prop} (hn : args.length ≤ 1)
    (h : ∀ R : APost, (∀ e env A, fpost a_law05_works_8_2.res Ko e env A → R e env A) → X Try.prog R a_law05_works_8_2.body .done (env0 args) A) : SimX Try.prog F_law05_works_8_2 args A Ko :=
  X_intro g_law05_works_8_2 c_law05_works_8_2 (by rw [Try.ntmps69]; exact hn) h
theorem v_law05_works_8_2 {args : List AV} {v : AV} (hn : args.length ≤ 1) (h : X Try.prog (fin a_law05_works_8_2.res v) a_law05_works_8_2.body .done (env0 args) H0) : Gives Try.prog F_law05_works_8_2 args v :=
  Gives_intro g_law05_works_8_2 c_law05_works_8_2 (by rw [Try.ntmps69]; exact hn) h
theorem e_law05_works_8_2 {args : List AV} {Q : AOut → Prop} (hn : args.length ≤ 1) (h : X Try.prog (finE a_law05_works_8_2.res Q) a_law05_works_8_2.body .done (env0 args) H0) : Fins Try.prog F_law05_works_8_2 args Q :=
  Fins_intro g_law05_works_8_2 c_law05_works_8_2 (by rw [Try.ntmps69]; exact hn) h
theorem j_law05_works_8_2 {args : List AV} {A : Heap} {K Kp : AV → Heap → Prop} (hn : args.length ≤ 1) (h : X Try.prog (inl a_law05_works_8_2.res K Kp) a_law05_works_8_2.body .done (env0 args) A) : SimX Try.prog F_law05_works_8_2 args A (outK K Kp) :=
  X_inl g_law05_works_8_2 c_law05_works_8_2 (by rw [Try.ntmps69]; exact hn) h
theorem d_law05_works_8_2 {args : List AV} {A : Heap} {Ko : AOut → Heap → Prop} (hn : args.length ≤ 1) (hrf : AVL.Func.hasRF Try.f69 = false)
    (h : ∀ R : APost, (∀ e env A, fpost a_law05_works_8_2.res Ko e env A → R e env A) → X Try.prog R a_law05_works_8_2.body .done (env0 args) A) : SimD Try.prog F_law05_works_8_2 args A Ko :=
  X_introD g_law05_works_8_2 c_law05_works_8_2 (by rw [Try.ntmps69]; exact hn) hrf h
@[simp] theorem k_law05_works_8_2 : callable Try.prog F_law05_works_8_2 = true := by kernel_rfl
theorem g_trap_Catch : Try.prog.funcs[21]? = some Try.f21 := by kernel_rfl
@[simp] theorem k_trap_Catch : callable Try.prog F_trap_Catch = true := by kernel_rfl
theorem n_trap_Catch : Try.f21.ntmps = 8 := Try.ntmps21
theorem g_trap_Always : Try.prog.funcs[37]? = some Try.f37 := by kernel_rfl
@[simp] theorem k_trap_Always : callable Try.prog F_trap_Always = true := by kernel_rfl
theorem n_trap_Always : Try.f37.ntmps = 7 := Try.ntmps37
theorem g_trap_Catch_1 : Try.prog.funcs[55]? = some Try.f55 := by kernel_rfl
@[simp] theorem k_trap_Catch_1 : callable Try.prog F_trap_Catch_1 = true := by kernel_rfl
theorem n_trap_Catch_1 : Try.f55.ntmps = 3 := Try.ntmps55
end Go.Proofs.Ytgbplcelcjffdaa

/- Catch: what is deferred, what is recovered; what is thrown. -/
namespace Go.Proofs.Ytgbplcelcjffdaa
open Go AVL
set_option linter.unusedVariables false
set_option linter.unusedSimpArgs false

theorem wpOpsS_step {P : Program} {ops : Array Oper} {Q : Exit → Act → List Frame → World → Prop} {i : Nat} {rest : List Nat} {o : Oper} {a : Act} {cs : List Frame} {w : World} (ho : ops[i]? = some o) (hg : o.guard = none)
    (h : o.wp P a w (fun a' w' => wpOpsS P ops Q rest a' cs w') (fun e a' w' => Q e a' cs w')) : wpOpsS P ops Q (i :: rest) a cs w := by
  have hw : Region.wanted o (yielded ops a.tmps) = true := by simp [Region.wanted, hg]
  simp only [wpOpsS, ho, hw, if_true]
  unfold Oper.wp at h
  split
  · rename_i w' hr
    rw [hr] at h
    exact h.elim
  · exact h
theorem wpOpsS_rec {P : Program} {ops : Array Oper} {Q : Exit → Act → List Frame → World → Prop} {i : Nat} {rest : List Nat} {o : Oper} {a : Act} {c : Frame} {cs : List Frame} {w : World} (ho : ops[i]? = some o) (hg : o.guard = none)
    {tys : Array TypeId} (hop : o.op = .call { callee := .builtin .recover, args := #[], argTypes := tys }) (v : Value) (cs' : List Frame) (hr : recoverD (c :: cs) = some (v, cs') ∨ (recoverD (c :: cs) = none ∧ v = .nilIface ∧ cs' = c :: cs))
    (h : wpOpsS P ops Q rest (a.put o.dst v) cs' w) : wpOpsS P ops Q (i :: rest) a (c :: cs) w := by
  have hw : Region.wanted o (yielded ops a.tmps) = true := by simp [Region.wanted, hg]
  have hrun : (execOp a.eval o).run P w = .ok .recover w := by simp [execOp, hop, resolve, invoke, builtin]
  simp only [wpOpsS, ho, hw, if_true, hrun]
  rcases hr with hr | ⟨hr, rfl, rfl⟩
  · rw [hr]; exact h
  · rw [hr]; exact h
/-- The code that is told of what was thrown. -/
def caughtC : AV → Option Int
  | .nilI => some 0
  | .iface t v => if t = T_trap_Fault then match v with
      | .agg [.int .i64 c] => some c
      | _ => none
    else some 17
  | _ => none
theorem w_caught (x : AV) (c : Int) (hx : caughtC x = some c) : Gives Try.prog F_trap_caught [x] (.int .i64 c) := by
  refine v_trap_caught (by simp) ?_
  cases x <;> simp only [caughtC] at hx <;> try (cases hx; done)
  case nilI =>
    injection hx with hx; subst hx
    simp -implicitDefEqProofs [a_trap_caught, q_trap_caught_0, q_trap_caught_1, q_trap_caught_2, q_trap_caught_3, q_trap_caught_4, q_trap_caught_5, q_trap_caught_6]
  case iface t v =>
    split at hx
    · rename_i ht
      subst ht
      split at hx
      · injection hx with hx; subst hx
        simp -implicitDefEqProofs [a_trap_caught, q_trap_caught_0, q_trap_caught_1, q_trap_caught_2, q_trap_caught_3, q_trap_caught_4, q_trap_caught_5, q_trap_caught_6, q_trap_caught_7]
      · cases hx
    · rename_i ht
      injection hx with hx; subst hx
      simp -implicitDefEqProofs [a_trap_caught, q_trap_caught_0, q_trap_caught_1, q_trap_caught_2, q_trap_caught_3, q_trap_caught_4, q_trap_caught_5, q_trap_caught_6, q_trap_caught_8, ht]
/-! the deferred function that recovers -/
/-- What is deferred by Catch: of a frame that is panicking or returning. -/
def toldBy : FrameMode → Value → FrameMode → Prop
  | .returning, v, u => v = .nilIface ∧ u = .returning
  | .panicking ch, v, u => ch = [{ v := v, recovered := false }] ∧ u = .panicking [{ v := v, recovered := true }]
  | _, _, _ => False
theorem toldBy_rec {u u' : FrameMode} {v : Value} (h : toldBy u v u') (c : Frame) (cs : List Frame) (hc : c.mode = u) :
    recoverD (c :: cs) = some (v, { c with mode := u' } :: cs) ∨ (recoverD (c :: cs) = none ∧ v = .nilIface ∧ { c with mode := u' } :: cs = c :: cs) := by
  cases u with
  | run => exact h.elim
  | returning =>
    obtain ⟨rfl, rfl⟩ := h
    refine .inr ⟨?_, rfl, ?_⟩
    · simp [recoverD, hc]
    · rw [← hc]
  | panicking ch =>
    obtain ⟨rfl, rfl⟩ := h
    exact .inl (by simp [recoverD, hc])
theorem shape_Catch_1 : ∃ o0 o1 o2 : Oper, Try.f55.body = some (.region 0 #[o0, o1, o2] false) ∧ (∃ tys, o0.op = .call { callee := .builtin .recover, args := #[], argTypes := tys }) ∧ o0.guard = none ∧ o0.dst = some 1 ∧
    trOp Try.prog o1.op = some (.call F_trap_caught [(.sc, .t 1)]) ∧ o1.guard = none ∧ o1.dst = some 2 ∧ trOp Try.prog o2.op = some (.store .sc 1 (.t 0) (.t 2)) ∧ o2.guard = none ∧ o2.dst = none :=
  ⟨_, _, _, rfl, ⟨_, rfl⟩, rfl, rfl, by kernel_rfl, rfl, rfl, by kernel_rfl, rfl, rfl⟩
theorem res_Catch_1 : Try.f55.results = #[] := rfl
theorem w_Catch_1 {E : Emb} {A : Heap} {w : World} {g : Nat} {x : AV} {v p : Value} {c c0 : Int} {u u' : FrameMode} (hR : Rep E A w) (hA : A g = some (.var T_api_Code [.int .i64 c0])) (hp : TV E (.ptr g 0) p) (hx : TV E x v) (hxc : caughtC x = some c) (hu : toldBy u v u') :
    CallsD Try.prog F_trap_Catch_1 #[p] u w fun e u2 w' => u2 = u' ∧ (∃ v, e = .returned v) ∧ ∃ E', Rep E' (A.set g (.var T_api_Code [.int .i64 c])) w' ∧ E.Le E' ∧ Same w w' := by
  have hag : x.isAgg = false := by cases x <;> simp [caughtC] at hxc <;> rfl
  obtain ⟨o0, o1, o2, hb, ⟨tys, h0⟩, h0g, h0d, h1, h1g, h1d, h2, h2g, h2d⟩ := shape_Catch_1
  refine callsD_of_wpS g_trap_Catch_1 hb fun c₀ cs hc => ?_
  refine wpS_region ?_
  show wpOpsS Try.prog #[o0, o1, o2] _ [0, 1, 2] _ _ _
  refine wpOpsS_rec (o := o0) rfl h0g h0 v ({ c₀ with mode := u' } :: cs) (toldBy_rec hu c₀ cs hc) ?_
  rw [n_trap_Catch_1, h0d]
  obtain ⟨hl, he⟩ := env0_ok (E := E) (args := [.ptr g 0]) (cargs := #[p]) (D := []) (n := 3) (TVl_cons.2 ⟨_, _, rfl, hp, TVl_nil.2 rfl⟩) (by simp)
  obtain ⟨he1, ha1, hd1⟩ := put_ok he (by simp) (d := some 1) (n := 3) (by decide) hx
  generalize Act.put _ (some 1) v = a1 at *
  refine wpOpsS_step (o := o1) rfl h1g ?_
  refine oper_ok0 h1 hR he1 (K := fun v A' => v = .int .i64 c ∧ A' = A) (Kp := fun _ _ => False) ?_ ?_ (fun _ _ _ _ _ h => h.elim) (by rintro ⟨_, _, _, e, _⟩; cases e)
  · have hcl := (w_caught x c hxc).call (A := A) (K := fun v A' => v = .int .i64 c ∧ A' = A) (Kp := fun _ _ => False) (.cons (.refl _) rfl .nil) rfl ⟨rfl, rfl⟩
    cases x <;> simp only [caughtC] at hxc <;> (try (cases hxc; done)) <;>
    · simp -implicitDefEqProofs
      exact hcl
  rintro v1 A1 E1 w1 c1 ⟨rfl, rfl⟩ hR1 hE1 hS1 hc1
  rw [h1d]
  obtain ⟨he2, ha2, hd2⟩ := put_ok (he1.mono hE1) ha1 (d := some 2) (n := 3) (by decide) hc1
  generalize Act.put a1 (some 2) c1 = a2 at *
  refine wpOpsS_step (o := o2) rfl h2g ?_
  refine oper_ok0 h2 hR1 he2 (K := fun _ A' => A' = A1.set g (.var T_api_Code [.int .i64 c])) (Kp := fun _ _ => False) ?_ ?_ (fun _ _ _ _ _ h => h.elim) (by rintro ⟨_, _, _, e, _⟩; cases e)
  · simp -implicitDefEqProofs [hA]
  rintro v2 A2 E2 w2 c2 rfl hR2 hE2 hS2 hc2
  rw [h2d]
  refine ⟨by simp only [Act.put]; rw [hd2, hd1], u', rfl, .tuple #[], ?_, rfl, ⟨_, rfl⟩, E2, hR2, hE1.trans hE2, hS1.trans hS2⟩
  simp [results, res_Catch_1]
theorem callable_run {P : Program} {f : FuncId} {args : Array Value} {w : World} (h : callable P f = true) : (callFunc f args).run P w = .ok (.enter f args) w := by
  unfold callable at h
  split at h
  · rename_i fn hf
    simp only [Bool.and_eq_true] at h
    have hbody : ¬ fn.body = none := by intro e; rw [e] at h; simp at h
    have hname : ¬ fn.name = "runtime.NumGoroutine" := by simpa using h.2
    simp [callFunc, hf, hname, hbody]
  · cases h
def c0 : Cont := .var T_api_Code [.int .i64 0]
theorem shape_Catch : ∃ (pre0 pre1 rest : Code) (id : Nat) (o1 o2 : Oper), Try.f21.body = some (.seq pre0 (.seq pre1 (.seq (.region id #[o1, o2] false) rest))) ∧
    trC Try.prog 8 pre0 = some (.region [⟨some 2, .alloc T_api_Code [.int .i64 0], none⟩]) ∧
    trC Try.prog 8 pre1 = some (.seq (.region [⟨some 3, .mv (.t 0), none⟩, ⟨some 4, .xx (.p (.isNil .fn false)) [.t 3], none⟩]) (.cond (.t 4) (.seq (.region [⟨none, .store .sc 1 (.t 2) (.v (.int .i64 1)), none⟩]) .ret) .skip)) ∧
    trOp Try.prog o1.op = some (.xx (.p (.mkF (.func F_trap_Catch_1) 0)) [.t 2]) ∧ o1.guard = none ∧ o1.dst = some 5 ∧
    o2.op = .defer { callee := .value (.tmp 5), args := #[], argTypes := #[] } ∧ o2.guard = none ∧ o2.dst = none ∧
    trC Try.prog 8 rest = some (.seq (.region [⟨some 6, .mv (.t 0), none⟩, ⟨some 7, .callV (.t 6) [], none⟩]) (.seq (.region [⟨none, .store .sc 1 (.t 2) (.v (.int .i64 0)), none⟩]) .ret)) :=
  ⟨_, _, _, _, _, _, rfl, by kernel_rfl, by kernel_rfl, by kernel_rfl, rfl, rfl, rfl, rfl, rfl, by kernel_rfl⟩
theorem res_Catch : trRes Try.prog Try.f21.results.toList = some [.cell 2 .sc 1] := by kernel_rfl
/-- How a call that Catch has made ended, and with which code. -/
def cPost (g : Nat) (K : AV → Heap → Prop) : APost := fun ae env B => env 2 = .ptr g 0 ∧ ∃ c, ((ae = .ret ∧ c = 0) ∨ ∃ v, ae = .pan v ∧ caughtC v = some c) ∧ B g = some c0 ∧ ∃ B' : Heap, B'.Sub (B.set g (.var T_api_Code [.int .i64 c])) ∧ K (.int .i64 c) B'
def endC : AOut → Int → Prop
  | .ret _, c => c = 0
  | .pan v, c => caughtC v = some c
theorem set_same_c {A : Heap} {g : Nat} {c d : Cont} : (A.set g c).set g d = A.set g d := by
  funext x; simp only [set_app]; split <;> rfl
theorem w_Catch {k : FuncId} {first cap : List AV} {A : Heap} {K Kp : AV → Heap → Prop} (hk : callable Try.prog k = true)
    (h : ∀ g, A g = none → SimX Try.prog k (first ++ cap) (A.set g c0) fun o B => ∃ c, endC o c ∧ B g = some c0 ∧ ∃ B' : Heap, B'.Sub (B.set g (.var T_api_Code [.int .i64 c])) ∧ K (.int .i64 c) B') :
    SimX Try.prog F_trap_Catch [.func (.func k) first cap] A (outK K Kp) := by
  intro E w cargs hR hT
  obtain ⟨pre0, pre1, rest, id, o1, o2, hb, hp0, hp1, h1, h1g, h1d, h2, h2g, h2d, hrest⟩ := shape_Catch
  refine calls_of_wp_defers g_trap_Catch hb ?_
  rw [n_trap_Catch]
  obtain ⟨hl, he⟩ := env0_ok (E := E) (D := []) (n := 8) hT (by simp)
  have ha : ({ tmps := cargs ++ Array.replicate (8 - cargs.size) undef, defers := [] } : Act).tmps.size = 8 := by simp at hl; simp; omega
  refine wp_seq (wp_mono (aw_okU (D := []) _ _ hp0 (fun ae env B => ae = .normal ∧ ∃ g, A g = none ∧ env 0 = .func (.func k) first cap ∧ env 2 = .ptr g 0 ∧ B = A.set g c0) _ A ?_ E _ w hR he ha rfl) ?_)
  · show X Try.prog _ _ .done _ A
    simp -implicitDefEqProofs
    intro g hg
    exact ⟨g, by simp [hg, c0]⟩
  rintro e a1 w1 ⟨ae, env1, A1, E1, ⟨rfl, g, hg, e0, e2, rfl⟩, hx, hR1, he1, hE1, hS1, ha1, hd1⟩
  cases hx
  refine wp_seq (wp_mono (aw_okU (D := []) _ _ hp1 (fun ae env B => ae = .normal ∧ env 0 = .func (.func k) first cap ∧ env 2 = .ptr g 0 ∧ B = A.set g c0) _ _ ?_ E1 _ w1 hR1 he1 ha1 hd1) ?_)
  · show X Try.prog _ _ .done _ _
    simp -implicitDefEqProofs [e0, e2]
  rintro e a2 w2 ⟨ae, env2, A2, E2, ⟨rfl, f0, f2, rfl⟩, hx, hR2, he2, hE2, hS2, ha2, hd2⟩
  cases hx
  refine wp_seq (wp_region ?_)
  show wpOps Try.prog #[o1, o2] _ [0, 1] _ _
  have w1' : Region.wanted o1 (yielded #[o1, o2] a2.tmps) = true := by simp [Region.wanted, h1g]
  simp only [wpOps, List.getElem?_toArray, List.getElem?_cons_zero, w1', if_true]
  refine .inl ?_
  refine oper_ok0 h1 hR2 he2 (K := fun v A' => v = .func (.func F_trap_Catch_1) [] [.ptr g 0] ∧ A' = A.set g c0) (Kp := fun _ _ => False) ?_ ?_ (fun _ _ _ _ _ h => h.elim) (by rintro ⟨_, _, _, e, _⟩; cases e)
  · simp -implicitDefEqProofs [f2]
  rintro v3 A3 E3 w3 c3 ⟨rfl, rfl⟩ hR3 hE3 hS3 hc3
  rw [h1d]
  obtain ⟨he3, ha3, hd3⟩ := put_ok (he2.mono hE3) ha2 (d := some 5) (n := 8) (by decide) hc3
  have hcl : ∃ p, c3 = .func (.func F_trap_Catch_1) #[] #[p] ∧ TV E3 (.ptr g 0) p := by
    rcases hc3 with ⟨hn, _⟩ | ⟨_, hc3⟩
    · cases hn
    · simp only [VR] at hc3
      obtain ⟨xs, ys, ⟨_, hk', hv⟩, hx1, hy1⟩ := hc3
      injection hv with hv
      simp only [Emb.fn] at hk'; injection hk' with hk'; subst hk'
      rw [TVl_nil] at hx1
      obtain ⟨p, r, hy, hp, hr⟩ := TVl_cons.1 hy1
      rw [TVl_nil] at hr; subst hr
      refine ⟨p, ?_, hp⟩
      rw [hv, show xs = #[] from by cases xs; simp_all, show ys = #[p] from by cases ys; simp_all]
  obtain ⟨p, rfl, hp⟩ := hcl
  have hev : (a2.put (some 5) (.func (.func F_trap_Catch_1) #[] #[p])).eval (.tmp 5) = .func (.func F_trap_Catch_1) #[] #[p] := by
    simp [Act.eval, Act.put, ha2]
  generalize a2.put (some 5) (.func (.func F_trap_Catch_1) #[] #[p]) = a3 at *
  have w2' : Region.wanted o2 (yielded #[o1, o2] a3.tmps) = true := by simp [Region.wanted, h2g]
  simp only [wpOps, List.getElem?_toArray, List.getElem?_cons_succ, List.getElem?_cons_zero, w2', if_true]
  refine .inl ?_
  have hrun : (execOp a3.eval o2).run Try.prog w3 = .ok (.defer { target := .fn (.func F_trap_Catch_1) #[p], args := #[] }) w3 := by
    simp [execOp, h2, resolve, hev, Deferred.ofValue]
  unfold Oper.wp
  rw [hrun]
  show Code.wp Try.prog rest _ (Act.put { a3 with defers := { target := .fn (.func F_trap_Catch_1) #[p], args := #[] } :: a3.defers } o2.dst undef) w3
  rw [h2d, hd3, hd2]
  refine wp_mono (aw_okU (D := [{ target := .fn (.func F_trap_Catch_1) #[p], args := #[] }]) _ _ hrest (cPost g K) _ _ ?_ E3 { tmps := a3.tmps, defers := [{ target := .fn (.func F_trap_Catch_1) #[p], args := #[] }] } w3 hR3 he3 ha3 rfl) ?_
  · show X Try.prog _ _ .done _ _
    simp -implicitDefEqProofs [f0, hk]
    refine (h g hg).mono ?_
    rintro o B ⟨c, h1, h2, h3⟩
    cases o with
    | ret v =>
      have h1 : c = 0 := h1
      subst h1
      simp -implicitDefEqProofs [f2, h2, c0]
      exact h3
    | pan v =>
      simp -implicitDefEqProofs [f2]
      exact ⟨c, h1, h2, h3⟩
  rintro e a4 w4 ⟨ae, env4, A4, E4, ⟨g2, c, hend, hg4, B', hB', hK⟩, hx, hR4, he4, hE4, hS4, ha4, hd4⟩
  have hp4 : TV E4 (.ptr g 0) p := TV_mono hE4 hp
  have fin : ∀ (u u' : FrameMode) (x : AV) (v : Value), TV E4 x v → caughtC x = some c → toldBy u v u' → settle u' = .returning → u ≠ .run → Leaves Try.prog Try.f21 a4.tmps (fun e w' => ∃ o A' E', outK K Kp o A' ∧ Rep E' A' w' ∧ E.Le E' ∧ Same w w' ∧ OutR E' o e) a4.defers u w4 := by
    intro u u' x v hx hxc hu hs hr
    rw [hd4]
    refine leaves_cons hr (callable_run k_trap_Catch_1) ?_
    refine (w_Catch_1 hR4 hg4 hp4 hx hxc hu).mono ?_
    rintro e u2 w5 ⟨rfl, ⟨v5, rfl⟩, E5, hR5, hE5, hS5⟩
    show Leaves _ _ _ _ [] (settle u2) w5
    rw [hs]
    have he5 := he4.mono hE5
    obtain ⟨vs, cs, hvs, hrs, hTs⟩ := aress_ok hR5 he5 Try.f21.results.toList _ (fun vs => vs = [.int .i64 c]) res_Catch (by simp -implicitDefEqProofs [g2])
    subst hvs
    refine ⟨_, run_results hrs, .ret (.int .i64 c), B', E5, hK, hR5.sub hB', ((hE1.trans hE2).trans hE3).trans (hE4.trans hE5), ((hS1.trans hS2).trans hS3).trans (hS4.trans hS5), _, rfl, ?_⟩
    exact out_ok hTs
  rcases hend with ⟨rfl, rfl⟩ | ⟨v, rfl, hv⟩
  · cases hx
    exact fin .returning .returning .nilI .nilIface (.inr ⟨rfl, by simp [VR]⟩) rfl ⟨rfl, rfl⟩ rfl (by simp)
  · obtain ⟨cv, rfl, hcv⟩ := hx
    exact fin _ _ v cv hcv hv ⟨rfl, rfl⟩ rfl (by simp)
def faultV (c : Int) : AV := .iface T_trap_Fault (.agg [.int .i64 c])
theorem w_Throw (c : Int) : Fins Try.prog F_trap_Throw [.int .i64 c] (fun o => o = .pan (faultV c)) := by
  refine e_trap_Throw (by simp) ?_
  simp -implicitDefEqProofs [a_trap_Throw, q_trap_Throw_0, faultV]
theorem catch_of {k : FuncId} {first cap : List AV} {A : Heap} {K Kp : AV → Heap → Prop} (hk : callable Try.prog k = true)
    (h : ∀ g, A g = none → SimX Try.prog k (first ++ cap) (A.set g c0) fun o B => ∃ c A', endC o c ∧ A' g = none ∧ B = A'.set g c0 ∧ K (.int .i64 c) A') :
    SimX Try.prog F_trap_Catch [.func (.func k) first cap] A (outK K Kp) :=
  w_Catch hk fun g hg => (h g hg).mono fun o B ⟨c, A', h1, h2, h3, h4⟩ => ⟨c, h1, by rw [h3]; simp, A', by rw [h3, set_same_c]; exact sub_none h2, h4⟩
end Go.Proofs.Ytgbplcelcjffdaa

/- Always: what is deferred. -/
namespace Go.Proofs.Ytgbplcelcjffdaa
open Go AVL
set_option linter.unusedVariables false
set_option linter.unusedSimpArgs false

theorem shape_Always : ∃ (rest : Code) (id : Nat) (o1 o2 : Oper), Try.f37.body = some (.seq (.region id #[o1, o2] false) rest) ∧
    trOp Try.prog o1.op = some (.mv (.t 1)) ∧ o1.guard = none ∧ o1.dst = some 4 ∧
    o2.op = .defer { callee := .value (.tmp 4), args := #[], argTypes := #[] } ∧ o2.guard = none ∧ o2.dst = none ∧
    trC Try.prog 7 rest = some (.region [⟨some 5, .mv (.t 0), none⟩, ⟨some 6, .callV (.t 5) [], none⟩]) :=
  ⟨_, _, _, _, rfl, by kernel_rfl, rfl, rfl, rfl, rfl, rfl, by kernel_rfl⟩
theorem res_Always : Try.f37.results = #[] := rfl
theorem w_Always {k k2 : FuncId} {first cap first2 cap2 : List AV} {A : Heap} {K Kp : AV → Heap → Prop} (hk : callable Try.prog k = true) (hk2 : callable Try.prog k2 = true)
    (h : SimX Try.prog k (first ++ cap) A fun o B => SimD Try.prog k2 (first2 ++ cap2) B fun o2 B2 => (∃ v, o2 = .ret v) ∧ match o with
      | .ret _ => K (.tuple []) B2
      | .pan v => Kp v B2) :
    SimX Try.prog F_trap_Always [.func (.func k) first cap, .func (.func k2) first2 cap2] A (outK K Kp) := by
  intro E w cargs hR hT
  obtain ⟨rest, id, o1, o2, hb, h1, h1g, h1d, h2, h2g, h2d, hrest⟩ := shape_Always
  refine calls_of_wp_defers g_trap_Always hb ?_
  rw [n_trap_Always]
  obtain ⟨hl, he⟩ := env0_ok (E := E) (D := []) (n := 7) hT (by simp)
  have ha : ({ tmps := cargs ++ Array.replicate (7 - cargs.size) undef, defers := [] } : Act).tmps.size = 7 := by simp at hl; simp; omega
  refine wp_seq (wp_region ?_)
  show wpOps Try.prog #[o1, o2] _ [0, 1] _ _
  generalize hax : ({ tmps := cargs ++ Array.replicate (7 - cargs.size) undef, defers := [] } : Act) = a2 at *
  have hd2 : a2.defers = [] := by rw [← hax]
  have w1' : Region.wanted o1 (yielded #[o1, o2] a2.tmps) = true := by simp [Region.wanted, h1g]
  simp only [wpOps, List.getElem?_toArray, List.getElem?_cons_zero, w1', if_true]
  refine .inl ?_
  refine oper_ok0 h1 hR he (K := fun v A' => v = .func (.func k2) first2 cap2 ∧ A' = A) (Kp := fun _ _ => False) ?_ ?_ (fun _ _ _ _ _ h => h.elim) (by rintro ⟨_, _, _, e, _⟩; cases e)
  · simp -implicitDefEqProofs
  rintro v3 A3 E3 w3 c3 ⟨rfl, rfl⟩ hR3 hE3 hS3 hc3
  rw [h1d]
  obtain ⟨he3, ha3, hd3⟩ := put_ok (he.mono hE3) ha (d := some 4) (n := 7) (by decide) hc3
  have hcl : ∃ xs ys, c3 = .func (.func k2) xs ys ∧ TVl E3 (first2 ++ cap2) (xs.toList ++ ys.toList) := by
    rcases hc3 with ⟨hn, _⟩ | ⟨_, hc3⟩
    · cases hn
    · simp only [VR] at hc3
      obtain ⟨xs, ys, ⟨_, hk', hv⟩, hx1, hy1⟩ := hc3
      injection hv with hv
      simp only [Emb.fn] at hk'; injection hk' with hk'; subst hk'
      exact ⟨xs, ys, hv, TVl_append hx1 hy1⟩
  obtain ⟨xs, ys, rfl, hp⟩ := hcl
  have hev : (a2.put (some 4) (.func (.func k2) xs ys)).eval (.tmp 4) = .func (.func k2) xs ys := by
    simp [Act.eval, Act.put, ha]
  generalize a2.put (some 4) (.func (.func k2) xs ys) = a3 at *
  have w2' : Region.wanted o2 (yielded #[o1, o2] a3.tmps) = true := by simp [Region.wanted, h2g]
  simp only [wpOps, List.getElem?_toArray, List.getElem?_cons_succ, List.getElem?_cons_zero, w2', if_true]
  refine .inl ?_
  have hrun : (execOp a3.eval o2).run Try.prog w3 = .ok (.defer { target := .fn (.func k2) ys, args := xs }) w3 := by
    simp [execOp, h2, resolve, hev, Deferred.ofValue]
  unfold Oper.wp
  rw [hrun]
  show Code.wp Try.prog rest _ (Act.put { a3 with defers := { target := .fn (.func k2) ys, args := xs } :: a3.defers } o2.dst undef) w3
  rw [h2d, hd3, hd2]
  refine wp_mono (aw_okU (D := [{ target := .fn (.func k2) ys, args := xs }]) _ _ hrest (fun ae env B => (ae = .normal ∧ SimD Try.prog k2 (first2 ++ cap2) B fun o2 B2 => (∃ v, o2 = .ret v) ∧ K (.tuple []) B2) ∨
      ∃ v, ae = .pan v ∧ SimD Try.prog k2 (first2 ++ cap2) B fun o2 B2 => (∃ v, o2 = .ret v) ∧ Kp v B2) _ _ ?_ E3 { tmps := a3.tmps, defers := [{ target := .fn (.func k2) ys, args := xs }] } w3 hR3 he3 ha3 rfl) ?_
  · show X Try.prog _ _ .done _ _
    simp -implicitDefEqProofs [hk]
    refine h.mono ?_
    intro o B hD
    cases o with
    | ret v => simp -implicitDefEqProofs; exact hD
    | pan v => simp -implicitDefEqProofs; exact hD
  rintro e a4 w4 ⟨ae, env4, A4, E4, hend, hx, hR4, he4, hE4, hS4, ha4, hd4⟩
  have hT4 := TVl_mono hE4 _ _ hp
  have inv : (invoke (.fn (.func k2) ys) xs).run Try.prog w4 = .ok (.enter k2 (xs ++ ys)) w4 := callable_run hk2
  rcases hend with ⟨rfl, hD⟩ | ⟨v, rfl, hD⟩
  · cases hx
    show Leaves Try.prog Try.f37 a4.tmps _ a4.defers .returning w4
    rw [hd4]
    refine leaves_cons (by simp) inv ?_
    refine (hD E4 w4 (xs ++ ys) .returning hR4 (by simpa using hT4)).mono ?_
    rintro e u2 w5 ⟨rfl, o2, A5, E5, ⟨⟨v5, rfl⟩, hK⟩, hR5, hE5, hS5, hO⟩
    obtain ⟨c5, rfl, hc5⟩ := hO
    refine ⟨.tuple #[], by simp [results, res_Always], .ret (.tuple []), A5, E5, hK, hR5, hE3.trans (hE4.trans hE5), hS3.trans (hS4.trans hS5), _, rfl, ?_⟩
    rw [TV_tuple]; exact ⟨_, rfl, TVl_nil.2 rfl⟩
  · obtain ⟨cv, rfl, hcv⟩ := hx
    show Leaves Try.prog Try.f37 a4.tmps _ a4.defers (.panicking _) w4
    rw [hd4]
    refine leaves_cons (by simp) inv ?_
    refine (hD E4 w4 (xs ++ ys) (.panicking [{ v := cv, recovered := false }]) hR4 (by simpa using hT4)).mono ?_
    rintro e u2 w5 ⟨rfl, o2, A5, E5, ⟨⟨v5, rfl⟩, hK⟩, hR5, hE5, hS5, hO⟩
    obtain ⟨c5, rfl, hc5⟩ := hO
    exact ⟨.pan v, A5, E5, hK, hR5, hE3.trans (hE4.trans hE5), hS3.trans (hS4.trans hS5), _, rfl, TV_mono hE5 hcv⟩
end Go.Proofs.Ytgbplcelcjffdaa

/- The walks of the thrown steps. -/
namespace Go.Proofs.Ytgbplcelcjffdaa
open Go AVL
set_option linter.unusedVariables false
set_option linter.unusedSimpArgs false

theorem w_Must (c : Int) : Fins Try.prog F_trap_Must [.int .i64 c] (fun o => o = if c = 0 then .ret (.tuple []) else .pan (faultV c)) := by
  refine e_trap_Must (by simp) ?_
  simp -implicitDefEqProofs [a_trap_Must, q_trap_Must_0, q_trap_Must_1, outOf]
  intro h
  refine (w_Throw c).call (.cons (.refl _) rfl .nil) (by rintro o rfl; rfl) ?_
  rintro o rfl
  simp -implicitDefEqProofs [h]
theorem bounds_not : ¬ (Try.prog.rt.boundsError = T_trap_Fault) := of_decide_eq_true (by kernel_rfl)
/-- How a step ends. -/
def stepQ (n : Int) (o : AOut) : Prop := if n < 0 then ∃ v, o = .pan v ∧ caughtC v = some 17 ∧ v.noF = true else o = if n = 0 then .ret (.tuple []) else .pan (faultV n)
theorem stepQ_noF {n : Int} {o : AOut} (h : stepQ n o) : o.noF = true := by
  unfold stepQ at h
  split at h
  · obtain ⟨v, rfl, _, h⟩ := h; exact h
  · subst h; split <;> rfl
theorem w_step (n : Int) (hn : -9223372036854775808 ≤ n ∧ n < 9223372036854775808) : Fins Try.prog F_law05_step [.int .i64 n] (stepQ n) := by
  refine e_law05_step (by simp) ?_
  simp -implicitDefEqProofs [a_law05_step, q_law05_step_0, q_law05_step_1, q_law05_step_2, q_law05_step_3]
  refine ⟨fun h => ?_, fun h => ?_⟩
  · have hb : ∀ v, stepQ n (.pan (.iface Try.prog.rt.boundsError (.agg [.int .i64 v, .int .i64 0, .bool false, .int .u8 0]))) ∧ stepQ n (.pan (.iface Try.prog.rt.boundsError (.agg [.int .i64 v, .int .i64 0, .bool true, .int .u8 0]))) := fun v => by
      simp [stepQ, h, caughtC, AV.noF, AV.noFs, T_trap_Fault]
    exact hb _
  · refine (w_Must n).call (.cons (.refl _) rfl .nil) (by rintro o rfl; split <;> rfl) ?_
    rintro o rfl
    by_cases h0 : n = 0
    · simp [h0, stepQ, outOf]
    · simp [h0, stepQ, outOf]; omega
theorem stepQ_ret {n : Int} {v : AV} (h : stepQ n (.ret v)) : n = 0 ∧ v = .tuple [] := by
  unfold stepQ at h
  split at h
  · obtain ⟨_, h, _⟩ := h; cases h
  · split at h
    · injection h with h; exact ⟨by assumption, h⟩
    · cases h
theorem w_deep (n : Int) (hn : -9223372036854775808 ≤ n ∧ n < 9223372036854775808) : ∀ d : Nat, d < 1000 → Fins Try.prog F_law05_deep [.int .i64 n, .int .i64 d] (stepQ n)
  | 0, _ => by
    refine e_law05_deep (by simp) ?_
    simp -implicitDefEqProofs [a_law05_deep, q_law05_deep_0, q_law05_deep_1, q_law05_deep_2]
    refine (w_step n hn).call (.cons (.refl _) rfl .nil) (fun o h => stepQ_noF h) ?_
    intro o ho
    cases o with
    | ret v =>
      obtain ⟨h0, rfl⟩ := stepQ_ret ho
      simpa [outOf] using ho
    | pan v => simpa using ho
  | d + 1, hd => by
    refine e_law05_deep (by simp) ?_
    have e1 : ((d + 1 : Nat) : Int) - 1 = (d : Int) := by omega
    simp -implicitDefEqProofs (disch := first | omega | simp) [a_law05_deep, q_law05_deep_0, q_law05_deep_1, q_law05_deep_2, wrap_i64, e1, -Int.natCast_add]
    refine (w_deep n hn d (by omega)).call (.cons (.refl _) rfl (.cons (.refl _) rfl .nil)) (fun o h => stepQ_noF h) ?_
    intro o ho
    cases o with
    | ret v =>
      obtain ⟨h0, rfl⟩ := stepQ_ret ho
      simpa [outOf] using ho
    | pan v => simpa using ho
/-- The code of a step. -/
def codeN (n : Int) : Int := if n < 0 then 17 else n
theorem stepQ_end {n : Int} {o : AOut} (h : stepQ n o) : endC o (codeN n) := by
  unfold stepQ at h
  unfold codeN
  split at h
  · rename_i hn
    obtain ⟨v, rfl, h, _⟩ := h
    rw [if_pos hn]; exact h
  · rename_i hn
    rw [if_neg hn]
    split at h
    · rename_i h0; subst h; subst h0; rfl
    · subst h; simp [endC, caughtC, faultV]
theorem w_ref05_Code (n : Int) : Gives Try.prog F_ref05_Code [.int .i64 n] (.int .i64 (codeN n)) := by
  refine v_ref05_Code (by simp) ?_
  simp -implicitDefEqProofs [a_ref05_Code, q_ref05_Code_0, q_ref05_Code_1, q_ref05_Code_2, q_ref05_Code_3]
  exact ⟨fun h => by rw [codeN, if_pos h], fun h => by rw [codeN, if_neg (by omega)]⟩
/-- A call that leaves memory as it is, at a function's end. -/
theorem Fins.last {P : Program} {f : FuncId} {args args' : List AV} {Q : AOut → Prop} {A : Heap} {K : AOut → Heap → Prop} (h : Fins P f args' Q) (hv : VwL A args args') (hn : ∀ o, Q o → o.noF = true) (hk : ∀ o, Q o → K o A) : SimX P f args A K :=
  SimX.view h hv (fun o B ⟨h1, h2⟩ => by subst h2; exact ⟨hn o h1, fun g c hc => by cases hc⟩) (fun o B ⟨h1, h2⟩ _ => by subst h2; rw [join_H0]; exact hk o h1)
end Go.Proofs.Ytgbplcelcjffdaa

/- The walk of TrapCatches. -/
namespace Go.Proofs.Ytgbplcelcjffdaa
open Go AVL
set_option linter.unusedVariables false
set_option linter.unusedSimpArgs false

def I64 (n : Int) : Prop := -9223372036854775808 ≤ n ∧ n < 9223372036854775808
theorem w_TrapCatches_1 (n : Int) (d : Nat) (hn : I64 n) (hd : d < 256) (g2 g3 : Nat) (A : Heap) (h2 : A g2 = some (.var T_int [.int .i64 n])) (h3 : A g3 = some (.var T_uint8 [.int .u8 d])) :
    SimX Try.prog F_law05_TrapCatches_1 [.ptr g2 0, .ptr g3 0] A fun o B => endC o (codeN n) ∧ B = A := by
  refine i_law05_TrapCatches_1 (by simp) fun R hR => ?_
  simp -implicitDefEqProofs (disch := first | omega | simp) [a_law05_TrapCatches_1, q_law05_TrapCatches_1_0, h2, h3, wrap_i64]
  refine (w_deep n hn d (by omega)).call (.cons (.refl _) rfl (.cons (.refl _) rfl .nil)) (fun o h => stepQ_noF h) ?_
  intro o ho
  have he := stepQ_end ho
  cases o with
  | ret v =>
    simp -implicitDefEqProofs
    exact hR _ _ _ ⟨A, Sub_refl A, he, rfl⟩
  | pan v =>
    simp -implicitDefEqProofs
    exact hR _ _ _ ⟨A, Sub_refl A, he, rfl⟩
theorem set_swap {A : Heap} {g h : Nat} {c d : Cont} (e : ¬ g = h) : (A.set g c).set h d = (A.set h d).set g c := by
  funext x
  simp only [set_app]
  by_cases h1 : x = g
  · subst h1; simp [e]
  · simp [h1]
theorem w_Try_pure {k : FuncId} {first cap : List AV} {A : Heap} {K Kp : AV → Heap → Prop} {Q : AOut → Prop} (hk : callable Try.prog k = true)
    (h : ∀ B, A.Sub B → SimX Try.prog k (first ++ cap) B fun o B' => Q o ∧ B' = B)
    (hQ : ∀ o, Q o → ∃ c x, endC o c ∧ (o = .ret (.int .i64 x) ∨ (∃ v, o = .pan v) ∧ x = 0) ∧ K (.tuple [.int .i64 x, .int .i64 c]) A) :
    SimX Try.prog F_trap_Try_int [.func (.func k) first cap] A (outK K Kp) := by
  refine i_trap_Try_int (by simp) fun R hR => ?_
  simp -implicitDefEqProofs +contextual [a_trap_Try_int, q_trap_Try_int_0, q_trap_Try_int_1, q_trap_Try_int_3]
  intro g1 h1 g2 k1 k2 h2
  have hsub : ∀ X Y, A.Sub ((A.set g1 X).set g2 Y) := fun X Y y z hy => by
    have n1 : y ≠ g1 := fun e => by subst e; rw [h1] at hy; cases hy
    have n2 : y ≠ g2 := fun e => by subst e; rw [h2] at hy; cases hy
    simp [n1, n2, hy]
  refine catch_of (by simp) fun gc hgc => ?_
  have hgc' := hgc
  simp only [set_none] at hgc
  obtain ⟨c1, c2, c3, c4, c5⟩ := hgc
  refine i_trap_Try_int_1 (by simp) fun R2 hR2 => ?_
  simp -implicitDefEqProofs [a_trap_Try_int_1, q_trap_Try_int_1_0, k1, k2, c1, c2, c3, c4, hk]
  refine (h _ ?_).mono ?_
  · intro x c hx
    have n1 : x ≠ g1 := fun e => by subst e; rw [h1] at hx; cases hx
    have n2 : x ≠ g2 := fun e => by subst e; rw [h2] at hx; cases hx
    have n3 : x ≠ gc := fun e => by subst e; rw [c5] at hx; cases hx
    simp [n1, n2, n3, hx]
  rintro o B ⟨hq, rfl⟩
  obtain ⟨c, x, he, hx, hKx⟩ := hQ o hq
  rcases hx with rfl | ⟨⟨v, rfl⟩, rfl⟩
  · have he : c = 0 := he
    subst he
    simp -implicitDefEqProofs [k1, k2, c1, c2, c3, c4]
    refine hR2 _ _ _ ⟨_, Sub_refl _, _, (A.set g1 (.var T_fno_c_int [.func (.func k) first cap])).set g2 (.var T_int [.int .i64 x]), rfl, by simp [c1, c2, c3, c4, c5], ?_, ?_⟩
    · rw [set_swap (c := c0) (g := gc) (h := g2) c1, set_set]
    · simp -implicitDefEqProofs [q_trap_Try_int_4, q_trap_Try_int_7, k1, k2]
      refine hR _ _ _ ?_
      simp -implicitDefEqProofs [a_trap_Try_int, fpost, outOf]
      exact ⟨A, hsub _ _, hKx⟩
  · simp -implicitDefEqProofs [k1, k2, c1, c2, c3, c4]
    refine hR2 _ _ _ ⟨_, Sub_refl _, c, (A.set g1 (.var T_fno_c_int [.func (.func k) first cap])).set g2 (.var T_int [.int .i64 0]), he, by simp [c1, c2, c3, c4, c5], rfl, ?_⟩
    simp -implicitDefEqProofs [q_trap_Try_int_4, q_trap_Try_int_5, q_trap_Try_int_6, q_trap_Try_int_7, k1, k2]
    refine ⟨fun h0 => hR _ _ _ ?_, fun h0 => hR _ _ _ ?_⟩
    · subst h0
      simp -implicitDefEqProofs [a_trap_Try_int, fpost, outOf]
      exact ⟨A, hsub _ _, hKx⟩
    · simp -implicitDefEqProofs [a_trap_Try_int, fpost, outOf]
      exact ⟨A, hsub _ _, hKx⟩
end Go.Proofs.Ytgbplcelcjffdaa

/- Each and First, of functions that are known. -/
namespace Go.Proofs.Ytgbplcelcjffdaa
open Go AVL
set_option linter.unusedVariables false
set_option linter.unusedSimpArgs false

theorem w_Each {k n : Nat} {first cap : List AV} {A : Nat → Heap} {K Kp : AV → Heap → Prop} {Q : Nat → AOut → Prop} (hk : callable Try.prog k = true) (hn : n < 2 ^ 40)
    (hdom : ∀ i x, A i x = none ↔ A 0 x = none)
    (hcl : ∀ i, i < n → ∀ B, (A i).Sub B → SimX Try.prog k (first ++ .int .i64 i :: cap) B fun o B' => Q i o ∧ (∀ x, A 0 x = none → B' x = B x) ∧ ((∃ v, o = .ret v) → (A (i + 1)).Sub B') ∧ ((∃ v, o = .pan v) → (A i).Sub B'))
    (hcode : ∀ i v, Q i (.pan v) → ∃ c, caughtC v = some c)
    (hK : (∀ j, j < n → ∃ v, Q j (.ret v)) → K (.tuple [.int .i64 n, .int .i64 0]) (A n))
    (hKp : ∀ i v c, i < n → (∀ j, j < i → ∃ v, Q j (.ret v)) → Q i (.pan v) → caughtC v = some c → K (.tuple [.int .i64 i, .int .i64 c]) (A i)) :
    SimX Try.prog F_trap_Each [.int .i64 n, .func (.func k) first cap] (A 0) (outK K Kp) := by
  refine i_trap_Each (by simp) fun R hR => ?_
  simp -implicitDefEqProofs +contextual [a_trap_Each, q_trap_Each_0, q_trap_Each_1, q_trap_Each_2]
  intro gn hgn gf k1 k2 hgf gd k3 k4 k5 k6 hgd
  refine catch_of (by simp) fun gc hgc => ?_
  simp only [set_none] at hgc
  obtain ⟨c1, c2, c3, c4, c5, c6, hgc⟩ := hgc
  have hc0 : ∀ x, A 0 x = none → ∀ i, A i x = none := fun x hx i => (hdom i x).2 hx
  -- what the loop holds
  refine i_trap_Each_1 (by simp) fun R2 hR2 => ?_
  simp -implicitDefEqProofs [a_trap_Each_1, q_trap_Each_1_0, k1, k2, k3, k4, k5, k6, c1, c2, c3, c4, c5, c6]
  have fin : ∀ (i : Nat) (c : Int) (B : Heap), (A i).Sub B → B gd = some (.var T_int [.int .i64 i]) → B gc = some c0 → K (.tuple [.int .i64 i, .int .i64 c]) (A i) → ∀ o, endC o c →
      ∃ c A', endC o c ∧ A' gc = none ∧ B = A'.set gc c0 ∧ KV Try.prog R (some 9) [⟨some 7, .mv (.t 9), none⟩] (.thn (.seq (.region q_trap_Each_3) .ret) .done)
        (upd (upd (upd (upd (upd (upd (env0 [.int .i64 n, .func (.func k) first cap]) 2 (.ptr gn 0)) 3 (.ptr gf 0)) 4 (.int .i64 0)) 5 (.int .i64 0)) 6 (.ptr gd 0)) 8 (.func (.func F_trap_Each_1) [] [.ptr gn 0, .ptr gf 0, .ptr gd 0])) (.int .i64 c) A' := by
    intro i c B h1 h2 h3 h4 o ho
    refine ⟨c, B.del gc, ho, by simp [del_app], ?_, ?_⟩
    · funext x; simp only [set_app, del_app]; split
      · rename_i e; subst e; exact h3
      · rfl
    · have h5 : (B.del gc) gd = some (.var T_int [.int .i64 i]) := by rw [del_app, if_neg c2]; exact h2
      simp -implicitDefEqProofs [q_trap_Each_3, h5]
      refine hR _ _ _ ?_
      simp -implicitDefEqProofs [a_trap_Each, fpost, outOf]
      refine ⟨A i, fun x z hx => ?_, h4⟩
      rw [del_app, if_neg (fun e => by subst e; rw [hc0 _ hgc i] at hx; cases hx)]
      exact h1 _ _ hx
  refine X_lp (fun (i : Nat) env B => i ≤ n ∧ env 0 = .ptr gn 0 ∧ env 1 = .ptr gf 0 ∧ env 2 = .ptr gd 0 ∧ env 4 = .int .i64 n ∧ env 5 = .int .i64 i ∧ (A i).Sub B ∧ B gn = some (.var T_int [.int .i64 n]) ∧ B gf = some (.var T_fno_int_c [.func (.func k) first cap]) ∧
    B gd = some (.var T_int [.int .i64 i]) ∧ B gc = some c0 ∧ ∀ j, j < i → ∃ v, Q j (.ret v)) (fun i => n - i) 0 ?_ ?_
  · refine ⟨by omega, by simp, by simp, by simp, by simp, by simp, ?_, by simp [k1, k2, k3, k4, k5, k6, c1, c2, c3, c4, c5, c6], by simp [k1, k2, k3, k4, k5, k6, c1, c2, c3, c4, c5, c6], by simp [k1, k2, k3, k4, k5, k6, c1, c2, c3, c4, c5, c6], by simp [c0], by simp⟩
    intro y z hy
    have n1 : y ≠ gn := fun e => by subst e; rw [hgn] at hy; cases hy
    have n2 : y ≠ gf := fun e => by subst e; rw [hgf] at hy; cases hy
    have n3 : y ≠ gd := fun e => by subst e; rw [hgd] at hy; cases hy
    have n4 : y ≠ gc := fun e => by subst e; rw [hgc] at hy; cases hy
    simp [n1, n2, n3, n4, hy]
  rintro i env B ⟨hi, e0, e1, e2, e4, e5, hB, b1, b2, b3, b4, hq⟩
  simp -implicitDefEqProofs (disch := first | omega | simp) [q_trap_Each_1_L6, q_trap_Each_1_1, q_trap_Each_1_2, q_trap_Each_1_3, e0, e1, e2, e4, e5, b1, b2, b3, b4, wrap_i64, hk]
  refine ⟨fun hlt => ?_, fun hge => ?_⟩
  · refine (hcl i hlt B hB).mono ?_
    rintro o B' ⟨ho, hfr, hret, hpan⟩
    have f1 := hfr gn hgn
    have f2 := hfr gf hgf
    have f3 := hfr gd hgd
    have f4 := hfr gc hgc
    rw [b1] at f1; rw [b2] at f2; rw [b3] at f3; rw [b4] at f4
    cases o with
    | ret v =>
      simp -implicitDefEqProofs (disch := first | omega | simp) [q_trap_Each_1_4, q_trap_Each_1_5, e0, e1, e2, e4, e5, f1, f2, f3, f4, wrap_i64]
      refine lp_next (i + 1) ⟨hlt, by simp [e0], by simp [e1], by simp [e2], by simp [e4], by simp, ?_, by simp [k5, k6, f1], by simp [k3, k4, f2], by simp, by simp [c1, c2, f4], ?_⟩ (by omega)
      · intro y z hy
        have n3 : y ≠ gd := fun e => by subst e; rw [hc0 _ hgd] at hy; cases hy
        simp [n3, hret ⟨v, rfl⟩ _ _ hy]
      · intro j hj
        rcases Nat.lt_succ_iff_lt_or_eq.1 hj with h | h
        · exact hq j h
        · subst h; exact ⟨v, ho⟩
    | pan v =>
      simp -implicitDefEqProofs
      obtain ⟨c, hc⟩ := hcode i v ho
      exact hR2 _ _ _ ⟨B', Sub_refl B', fin i c B' (hpan ⟨v, rfl⟩) f3 f4 (hKp i v c hlt hq ho hc) (.pan v) hc⟩
  · have : i = n := by omega
    subst this
    simp -implicitDefEqProofs
    exact hR2 _ _ _ ⟨B, Sub_refl B, fin i 0 B hB b3 b4 (hK hq) _ rfl⟩
theorem w_Each1 {k n : Nat} {first cap : List AV} {A : Nat → Heap} {K Kp : AV → Heap → Prop} {Q : Nat → AOut → Prop} (hk : callable Try.prog k = true) (hn : n < 2 ^ 40)
    (hdom : ∀ i x, A i x = none ↔ A 0 x = none)
    (hcl : ∀ i, i < n → ∀ B, (A i).Sub B → SimX Try.prog k (first ++ .int .i64 i :: cap) B fun o B' => Q i o ∧ (∀ x, A 0 x = none → B' x = B x) ∧ ((∃ v, o = .ret v) → (A (i + 1)).Sub B') ∧ ((∃ v, o = .pan v) → (A i).Sub B'))
    (hcode : ∀ i v, Q i (.pan v) → ∃ c, caughtC v = some c)
    (hK : ∀ (j : Nat) (c : Int), j ≤ n → (∀ i, i < j → ∃ v, Q i (.ret v)) → ((j = n ∧ c = 0) ∨ (j < n ∧ ∃ v, Q j (.pan v) ∧ caughtC v = some c)) → K (.tuple [.int .i64 j, .int .i64 c]) (A j)) :
    SimX Try.prog F_trap_Each [.int .i64 n, .func (.func k) first cap] (A 0) (outK K Kp) :=
  w_Each hk hn hdom hcl hcode (fun h => hK n 0 (Nat.le_refl n) h (.inl ⟨rfl, rfl⟩)) fun i v c hi hlow ho hc => hK i c (Nat.le_of_lt hi) hlow (.inr ⟨hi, v, ho, hc⟩)
/-- A function that leaves memory as it is, and ends with this code. -/
def Still (A : Heap) (f : AV) (c : Int) : Prop := ∃ k first cap, f = .func (.func k) first cap ∧ callable Try.prog k = true ∧ ∀ B, A.Sub B → SimX Try.prog k (first ++ cap) B fun o B' => endC o c ∧ B' = B
theorem catch_still {A : Heap} {f : AV} {c : Int} {K Kp : AV → Heap → Prop} (h : Still A f c) (hK : K (.int .i64 c) A) : SimX Try.prog F_trap_Catch [f] A (outK K Kp) := by
  obtain ⟨k, first, cap, rfl, hk, h⟩ := h
  refine catch_of hk fun g hg => (h _ (sub_none hg)).mono ?_
  rintro o B ⟨ho, rfl⟩
  exact ⟨c, A, ho, hg, rfl, hK⟩
theorem w_First {fs : List AV} {A : Heap} {g m : Nat} {t : TypeId} {c : Int} {K Kp : AV → Heap → Prop} (hA : A g = some (.row t 1 fs)) (hm : m ≤ fs.length) (hl : fs.length < 2 ^ 40)
    (hlow : ∀ j (hj : j < fs.length), j < m → Still A fs[j] 0) (hat : (m = fs.length ∧ c = 0) ∨ (c ≠ 0 ∧ ∃ hj : m < fs.length, Still A fs[m] c)) (hK : K (.int .i64 c) A) :
    SimX Try.prog F_trap_First [.own g 0 fs.length] A (outK K Kp) := by
  refine i_trap_First (by simp) fun R hR => ?_
  simp -implicitDefEqProofs [a_trap_First, q_trap_First_0, q_trap_First_1]
  refine X_lp (fun (i : Nat) env B => i ≤ m ∧ env 6 = .own g 0 fs.length ∧ env 7 = .int .i64 fs.length ∧ env 8 = .int .i64 i ∧ B = A) (fun i => m - i) 0 ⟨by omega, by simp, by simp, by simp, rfl⟩ ?_
  rintro i env B ⟨hi, e6, e7, e8, rfl⟩
  simp -implicitDefEqProofs (disch := first | omega | simp) [q_trap_First_L8, q_trap_First_2, q_trap_First_3, e6, e7, e8, hA]
  refine ⟨fun hlt => ?_, fun hge => ?_⟩
  · refine ⟨hlt, ?_⟩
    have st : Still B fs[i] (if i < m then 0 else c) := by
      split
      · exact hlow i hlt (by assumption)
      · have : i = m := by omega
        subst this
        rcases hat with ⟨h, _⟩ | ⟨_, _, h⟩
        · omega
        · exact h
    obtain ⟨k, first, cap, hf, hk, hs⟩ := st
    simp -implicitDefEqProofs [hf, q_trap_First_4]
    refine catch_still ⟨k, first, cap, rfl, hk, hs⟩ ?_
    by_cases him : i < m
    · simp -implicitDefEqProofs (disch := first | omega | simp) [him, q_trap_First_5, q_trap_First_7, e8, wrap_i64]
      exact lp_next (i + 1) ⟨him, by simp [e6], by simp [e7], by simp, rfl⟩ (by omega)
    · have hc : c ≠ 0 := by
        rcases hat with ⟨h, _⟩ | ⟨h, _⟩
        · omega
        · exact h
      simp -implicitDefEqProofs [him, hc, q_trap_First_5, q_trap_First_6]
      refine hR _ _ _ ?_
      simp -implicitDefEqProofs [a_trap_First, fpost, outOf]
      exact ⟨B, Sub_refl B, hK⟩
  · have hc : c = 0 := by
      rcases hat with ⟨_, h⟩ | ⟨_, h, _⟩
      · exact h
      · omega
    subst hc
    simp -implicitDefEqProofs [q_trap_First_8]
    refine hR _ _ _ ?_
    simp -implicitDefEqProofs [a_trap_First, fpost, outOf]
    exact ⟨B, Sub_refl B, hK⟩
/-! works -/
theorem still_of {A : Heap} {k : FuncId} {cap : List AV} {n : Int} (hk : callable Try.prog k = true) (h : ∀ B, A.Sub B → SimX Try.prog k cap B fun o B' => endC o n ∧ B' = B) : Still A (.func (.func k) [] cap) n := ⟨k, [], cap, rfl, hk, h⟩
end Go.Proofs.Ytgbplcelcjffdaa

/- The walk of the trap's works. -/
namespace Go.Proofs.Ytgbplcelcjffdaa
open Go AVL
set_option linter.unusedVariables false
set_option linter.unusedSimpArgs false

theorem w_Catch_nil {A : Heap} {K Kp : AV → Heap → Prop} (hK : K (.int .i64 1) A) : SimX Try.prog F_trap_Catch [.nilF] A (outK K Kp) := by
  intro E w cargs hR hT
  obtain ⟨pre0, pre1, rest, id, o1, o2, hb, hp0, hp1, h1, h1g, h1d, h2, h2g, h2d, hrest⟩ := shape_Catch
  refine calls_of_wp_defers g_trap_Catch hb ?_
  rw [n_trap_Catch]
  obtain ⟨hl, he⟩ := env0_ok (E := E) (D := []) (n := 8) hT (by simp)
  have ha : ({ tmps := cargs ++ Array.replicate (8 - cargs.size) undef, defers := [] } : Act).tmps.size = 8 := by simp at hl; simp; omega
  refine wp_seq (wp_mono (aw_okU (D := []) _ _ hp0 (fun ae env B => ae = .normal ∧ ∃ g, A g = none ∧ env 0 = .nilF ∧ env 2 = .ptr g 0 ∧ B = A.set g c0) _ A ?_ E _ w hR he ha rfl) ?_)
  · show X Try.prog _ _ .done _ A
    simp -implicitDefEqProofs
    intro g hg
    exact ⟨g, by simp [hg, c0]⟩
  rintro e a1 w1 ⟨ae, env1, A1, E1, ⟨rfl, g, hg, e0, e2, rfl⟩, hx, hR1, he1, hE1, hS1, ha1, hd1⟩
  cases hx
  refine wp_seq (wp_mono (aw_okU (D := []) _ _ hp1 (fun ae env B => ae = .ret ∧ env 2 = .ptr g 0 ∧ B = A.set g (.var T_api_Code [.int .i64 1])) _ _ ?_ E1 _ w1 hR1 he1 ha1 hd1) ?_)
  · show X Try.prog _ _ .done _ _
    simp -implicitDefEqProofs [e0, e2, c0]
  rintro e a2 w2 ⟨ae, env2, A2, E2, ⟨rfl, f2, rfl⟩, hx, hR2, he2, hE2, hS2, ha2, hd2⟩
  cases hx
  show Leaves Try.prog Try.f21 a2.tmps _ a2.defers .returning w2
  rw [hd2]
  obtain ⟨vs, cs, hvs, hrs, hTs⟩ := aress_ok hR2 he2 Try.f21.results.toList _ (fun vs => vs = [.int .i64 1]) res_Catch (by simp -implicitDefEqProofs [f2])
  subst hvs
  exact ⟨_, run_results hrs, .ret (.int .i64 1), A, E2, hK, hR2.sub (sub_none hg), hE1.trans hE2, hS1.trans hS2, _, rfl, out_ok hTs⟩

theorem st_works_1 (A : Heap) : Still A (.func (.func F_law05_works_1) [] []) 6 := by
  refine still_of (by simp) fun B _ => i_law05_works_1 (by simp) fun R hR => ?_
  simp -implicitDefEqProofs [a_law05_works_1, q_law05_works_1_0]
  refine (w_Throw 6).call (.cons (.refl _) rfl .nil) (by rintro o rfl; rfl) ?_
  rintro o rfl
  simp -implicitDefEqProofs
  exact hR _ _ _ ⟨B, Sub_refl B, by simp [endC, caughtC, faultV], rfl⟩
theorem st_works_7 (A : Heap) : Still A (.func (.func F_law05_works_7) [] []) 10 := by
  refine still_of (by simp) fun B _ => i_law05_works_7 (by simp) fun R hR => ?_
  simp -implicitDefEqProofs [a_law05_works_7, q_law05_works_7_0]
  refine (w_Throw 10).call (.cons (.refl _) rfl .nil) (by rintro o rfl; rfl) ?_
  rintro o rfl
  simp -implicitDefEqProofs
  exact hR _ _ _ ⟨B, Sub_refl B, by simp [endC, caughtC, faultV], rfl⟩
theorem st_works_2 (A : Heap) : Still A (.func (.func F_law05_works_2) [] []) 17 := by
  refine still_of (by simp) fun B _ => i_law05_works_2 (by simp) fun R hR => ?_
  simp -implicitDefEqProofs [a_law05_works_2, q_law05_works_2_0]
  refine (w_step (-1) (by decide)).call (.cons (.refl _) rfl .nil) (fun o h => stepQ_noF h) ?_
  intro o ho
  have he := stepQ_end ho
  cases o with
  | ret v => exact absurd (stepQ_ret ho).1 (by decide)
  | pan v =>
    simp -implicitDefEqProofs
    exact hR _ _ _ ⟨B, Sub_refl B, he, rfl⟩
theorem st_works_6 (A : Heap) : Still A (.func (.func F_law05_works_6) [] []) 0 := by
  refine still_of (by simp) fun B _ => i_law05_works_6 (by simp) fun R hR => ?_
  simp -implicitDefEqProofs [a_law05_works_6]
  exact hR _ _ _ ⟨B, Sub_refl B, rfl, rfl⟩
theorem d_works_8_2 {B : Heap} {g : Nat} {b : Bool} (hg : B g = some (.var T_bool [.bool b])) : SimD Try.prog F_law05_works_8_2 [.ptr g 0] B fun o B' => (∃ v, o = .ret v) ∧ B' = B.set g (.var T_bool [.bool true]) := by
  refine d_law05_works_8_2 (by simp) rfl fun R hR => ?_
  simp -implicitDefEqProofs [a_law05_works_8_2, q_law05_works_8_2_0, hg]
  exact hR _ _ _ ⟨_, Sub_refl _, ⟨_, rfl⟩, rfl⟩
theorem w_law05_works : Gives Try.prog F_law05_works [] (.bool true) := by
  refine v_law05_works (by simp) ?_
  simp -implicitDefEqProofs [a_law05_works, q_law05_works_0, q_law05_works_1]
  refine catch_still (st_works_1 _) ?_
  simp -implicitDefEqProofs [q_law05_works_2]
  refine catch_still (st_works_2 _) ?_
  simp -implicitDefEqProofs [q_law05_works_3]
  refine w_Catch_nil ?_
  simp -implicitDefEqProofs [q_law05_works_4]
  refine w_Try_pure (by simp) (Q := fun o => o = .ret (.int .i64 7)) (fun B hB => ?_) ?_
  · refine i_law05_works_3 (by simp) fun R hR => ?_
    simp -implicitDefEqProofs [a_law05_works_3, q_law05_works_3_0, q_law05_works_3_1]
    exact hR _ _ _ ⟨B, Sub_refl B, rfl, rfl⟩
  rintro o rfl
  refine ⟨0, 7, rfl, .inl rfl, ?_⟩
  simp -implicitDefEqProofs [q_law05_works_5]
  refine w_Try_pure (by simp) (Q := fun o => o = .pan (faultV 12)) (fun B hB => ?_) ?_
  · refine i_law05_works_4 (by simp) fun R hR => ?_
    simp -implicitDefEqProofs [a_law05_works_4, q_law05_works_4_0, q_law05_works_4_1]
    refine (w_Must 12).call (.cons (.refl _) rfl .nil) (by rintro o rfl; split <;> rfl) ?_
    rintro o rfl
    simp -implicitDefEqProofs
    exact hR _ _ _ ⟨B, Sub_refl B, rfl, rfl⟩
  rintro o rfl
  refine ⟨12, 0, by simp [endC, caughtC, faultV], .inr ⟨⟨_, rfl⟩, rfl⟩, ?_⟩
  simp -implicitDefEqProofs [q_law05_works_6]
  refine w_Each (n := 3) (A := fun _ => H0) (Q := fun i o => stepQ (if i < 2 then 0 else 5) o) (by simp) (by decide) (fun _ _ => Iff.rfl) (fun i hi B hB => ?_) ?_ ?_ ?_
  · refine i_law05_works_5 (by simp) fun R hR => ?_
    have e : IntKind.i64.wrap (IntKind.i64.wrap ((i : Int) / 2) * 5) = if i < 2 then 0 else 5 := by
      rcases (by omega : i = 0 ∨ i = 1 ∨ i = 2) with rfl | rfl | rfl <;> decide
    simp -implicitDefEqProofs [a_law05_works_5, q_law05_works_5_0, e]
    refine (w_step _ (by split <;> decide)).call (.cons (.refl _) rfl .nil) (fun o h => stepQ_noF h) ?_
    intro o ho
    cases o with
    | ret v =>
      have hv := stepQ_ret ho
      simp -implicitDefEqProofs
      exact hR _ _ _ ⟨B, Sub_refl B, by simpa [outOf, hv.2] using ho, fun _ _ => rfl, fun _ => hB, fun _ => hB⟩
    | pan v =>
      simp -implicitDefEqProofs
      exact hR _ _ _ ⟨B, Sub_refl B, ho, fun _ _ => rfl, fun _ => hB, fun _ => hB⟩
  · intro i v h
    exact ⟨_, stepQ_end h⟩
  · intro h
    obtain ⟨v, hv⟩ := h 2 (by omega)
    exact absurd (stepQ_ret hv).1 (by decide)
  intro i v c hi hlow ho hc
  have h2 := stepQ_end ho
  have : i = 2 := by
    rcases (by omega : i = 0 ∨ i = 1 ∨ i = 2) with rfl | rfl | rfl
    · simp [stepQ] at ho
    · simp [stepQ] at ho
    · rfl
  subst this
  have hc5 : c = 5 := by
    have h3 : caughtC v = some (codeN 5) := h2
    rw [hc] at h3
    injection h3
  subst hc5
  simp -implicitDefEqProofs [q_law05_works_7]
  intro g
  refine w_First (fs := [.func (.func F_law05_works_6) [] [], .func (.func F_law05_works_7) [] [], .nilF]) (m := 1) (c := 10) set_eq' (by decide) (by decide) ?_ (.inr ⟨by decide, by decide, st_works_7 _⟩) ?_
  · intro j hj h1
    have : j = 0 := by omega
    subst this
    exact st_works_6 _
  simp -implicitDefEqProofs +contextual [q_law05_works_8, q_law05_works_9]
  intro g2 k1 k2
  refine catch_of (by simp) fun gc hgc => ?_
  simp only [set_none] at hgc
  obtain ⟨c1, c2, c3, c4, c5⟩ := hgc
  refine i_law05_works_8 (by simp) fun R hR => ?_
  simp -implicitDefEqProofs [a_law05_works_8, q_law05_works_8_0]
  refine w_Always (first := []) (cap := []) (by simp) (by simp) ?_
  refine i_law05_works_8_1 (by simp) fun R2 hR2 => ?_
  simp -implicitDefEqProofs [a_law05_works_8_1, q_law05_works_8_1_0]
  refine (w_Throw 11).call (.cons (.refl _) rfl .nil) (by rintro o rfl; rfl) ?_
  rintro o rfl
  simp -implicitDefEqProofs
  refine hR2 _ _ _ ⟨_, Sub_refl _, ?_⟩
  refine (d_works_8_2 (b := false) (by simp [c1, c2, c3, c4])).mono ?_
  rintro o B ⟨⟨v, rfl⟩, rfl⟩
  refine ⟨⟨_, rfl⟩, ?_⟩
  simp -implicitDefEqProofs
  refine hR _ _ _ ⟨_, Sub_refl _, 11, (H0.set g (.row 1 1 [.func (.func F_law05_works_6) [] [], .func (.func F_law05_works_7) [] [], .nilF])).set g2 (.var T_bool [.bool true]), by simp [endC, caughtC, faultV], by simp [c1, c2, c3, c4], ?_, ?_⟩
  · rw [set_swap (c := c0) (g := gc) (h := g2) c1, set_set]
  · simp -implicitDefEqProofs [q_law05_works_10]
end Go.Proofs.Ytgbplcelcjffdaa

/- The walk of TrapCatches. -/
namespace Go.Proofs.Ytgbplcelcjffdaa
open Go AVL
set_option linter.unusedVariables false
set_option linter.unusedSimpArgs false

theorem w_law05_TrapCatches (n : Int) (d : Nat) (hn : I64 n) (hd : d < 256) : Gives Try.prog F_law05_TrapCatches [.int .i64 n, .int .u8 d] (.bool true) := by
  refine v_law05_TrapCatches (by simp) ?_
  simp -implicitDefEqProofs +contextual [a_law05_TrapCatches, q_law05_TrapCatches_0, q_law05_TrapCatches_1]
  intro g g1 k1 k2
  refine catch_of (by simp) fun gc hgc => ?_
  have c1 : ¬gc = g := fun e => by subst e; simp [k2] at hgc
  have c2 : ¬gc = g1 := fun e => by subst e; simp at hgc
  have c1' : ¬g = gc := fun e => c1 e.symm
  have c2' : ¬g1 = gc := fun e => c2 e.symm
  refine (w_TrapCatches_1 n d hn hd g g1 _ (by simp [k2, c1']) (by simp [c2'])).mono ?_
  rintro o B ⟨he, rfl⟩
  refine ⟨_, _, he, hgc, rfl, ?_⟩
  simp -implicitDefEqProofs [q_law05_TrapCatches_2]
  refine w_Try_pure (by simp) (Q := fun o => (n = 0 ∧ o = .ret (.int .i64 5)) ∨ ∃ v, o = .pan v ∧ stepQ n o) (fun B hB => ?_) ?_
  · refine i_law05_TrapCatches_2 (by simp) fun R hR => ?_
    have hg : B g = some (.var T_int [.int .i64 n]) := hB _ _ (by simp [k2])
    simp -implicitDefEqProofs [a_law05_TrapCatches_2, q_law05_TrapCatches_2_0, q_law05_TrapCatches_2_1, hg]
    refine (w_step n hn).call (.cons (.refl _) rfl .nil) (fun o h => stepQ_noF h) ?_
    intro o ho
    cases o with
    | ret v =>
      obtain ⟨h0, rfl⟩ := stepQ_ret ho
      simp -implicitDefEqProofs [q_law05_TrapCatches_2_2]
      exact hR _ _ _ ⟨B, Sub_refl B, .inl ⟨h0, by simp [outOf]⟩, rfl⟩
    | pan v =>
      simp -implicitDefEqProofs
      exact hR _ _ _ ⟨B, Sub_refl B, .inr ⟨v, rfl, ho⟩, rfl⟩
  · intro o ho
    have fin : ∀ x, (x = 5 ∧ codeN n = 0 ∨ x = 0 ∧ codeN n ≠ 0) → KV Try.prog (fin [ARes.tmp 4] (AV.bool true)) (some 13)
        [⟨some 11, .mv (.t 13), none⟩, ⟨some 14, .ext 0 (.t 11), none⟩, ⟨some 15, .ext 1 (.t 11), none⟩, ⟨some 6, .mv (.t 14), none⟩, ⟨some 7, .mv (.t 15), none⟩] (Kt.thn ((ACode.region q_law05_TrapCatches_3).seq ((ACode.region q_law05_TrapCatches_4).seq ACode.ret)) Kt.done)
        (upd (upd (upd (upd (upd (upd (upd (env0 [.int .i64 n, .int .u8 d]) 2 (.ptr g 0)) 3 (.ptr g1 0)) 4 (.bool false)) 9 (.func (.func F_law05_TrapCatches_1) [] [.ptr g 0, .ptr g1 0])) 10 (.int .i64 (codeN n))) 5 (.int .i64 (codeN n))) 12 (.func (.func F_law05_TrapCatches_2) [] [.ptr g 0]))
        (.tuple [.int .i64 x, .int .i64 (codeN n)]) ((H0.set g (.var 3 [.int .i64 n])).set g1 (.var 5 [.int .u8 d])) := by
      intro x hx
      simp -implicitDefEqProofs [q_law05_TrapCatches_3, k1, k2]
      refine (w_ref05_Code n).call (.cons (.refl _) rfl .nil) rfl ?_
      rcases hx with ⟨rfl, hc⟩ | ⟨rfl, hc⟩
      · simp -implicitDefEqProofs [q_law05_TrapCatches_4, hc]
        refine w_law05_works.call .nil rfl ?_
        simp -implicitDefEqProofs
      · simp -implicitDefEqProofs [q_law05_TrapCatches_4, hc]
        refine w_law05_works.call .nil rfl ?_
        simp -implicitDefEqProofs
    rcases ho with ⟨h0, rfl⟩ | ⟨v, rfl, ho⟩
    · have hc : codeN n = 0 := by subst h0; rfl
      refine ⟨codeN n, 5, hc, .inl rfl, fin 5 (.inl ⟨rfl, hc⟩)⟩
    · have he2 := stepQ_end ho
      refine ⟨codeN n, 0, he2, .inr ⟨⟨v, rfl⟩, rfl⟩, fin 0 (.inr ⟨rfl, ?_⟩)⟩
      unfold stepQ at ho
      unfold codeN
      split at ho
      · rename_i h; rw [if_pos h]; decide
      · rename_i h
        rw [if_neg h]
        intro h0; subst h0; simp at ho
end Go.Proofs.Ytgbplcelcjffdaa

/- The walk of TrapNests. -/
namespace Go.Proofs.Ytgbplcelcjffdaa
open Go AVL
set_option linter.unusedVariables false
set_option linter.unusedSimpArgs false

theorem set_ext {A B : Heap} (h : ∀ x, A x = B x) : A = B := funext h
theorem w_law05_TrapNests (n m : Int) (hn : I64 n) (hm : I64 m) : Gives Try.prog F_law05_TrapNests [.int .i64 n, .int .i64 m] (.bool true) := by
  refine v_law05_TrapNests (by simp) ?_
  simp -implicitDefEqProofs +contextual [a_law05_TrapNests, q_law05_TrapNests_0, q_law05_TrapNests_1, q_law05_TrapNests_2, q_law05_TrapNests_3]
  intro g2 g3 k1 k2 g5 k3 k4 k5 k6 g6 k7 k8 k9 k10 k11 k12
  refine catch_of (by simp) fun gc hgc => ?_
  simp only [set_none] at hgc
  obtain ⟨c1, c2, c3, c4, c5, c6, c7, c8, c9⟩ := hgc
  refine i_law05_TrapNests_1 (by simp) fun R hR => ?_
  simp -implicitDefEqProofs [a_law05_TrapNests_1, q_law05_TrapNests_1_0]
  refine w_Always (first := []) (by simp) (by simp) ?_
  refine i_law05_TrapNests_1_1 (by simp) fun R2 hR2 => ?_
  simp -implicitDefEqProofs [a_law05_TrapNests_1_1, q_law05_TrapNests_1_1_0]
  refine catch_of (first := []) (by simp) fun gd hgd => ?_
  have hgd0 := hgd
  simp only [set_none] at hgd
  obtain ⟨d1, d2, d3, d4, d5, d6, d7, d8, d9, d10, d11⟩ := hgd
  refine i_law05_TrapNests_1_1_1 (by simp) fun R3 hR3 => ?_
  simp -implicitDefEqProofs [a_law05_TrapNests_1_1_1, q_law05_TrapNests_1_1_1_0, k1, k2, k3, k4, k5, k6, k7, k8, k9, k10, k11, k12, c1, c2, c3, c4, c5, c6, c7, c8, c9, d1, d2, d3, d4, d5, d6, d7, d8, d9, d10, d11]
  refine (w_step n hn).call (.cons (.refl _) rfl .nil) (fun o h => stepQ_noF h) ?_
  intro o ho
  have he := stepQ_end ho
  have key : KV Try.prog R2 (some 5) [⟨none, .store .sc 1 (.t 1) (.t 5), none⟩] (.thn (.seq (.region q_law05_TrapNests_1_1_1) (.region q_law05_TrapNests_1_1_2)) .done)
      (upd (env0 [.ptr g2 0, .ptr g6 0, .ptr g3 0, .ptr g5 0]) 4 (.func (.func F_law05_TrapNests_1_1_1) [] [.ptr g2 0])) (.int .i64 (codeN n))
      (((((H0.set g2 (.var 3 [.int .i64 n])).set g3 (.var 3 [.int .i64 m])).set g5 (.var 3 [.int .i64 0])).set g6 (.var 36 [.int .i64 0])).set gc c0) := by
    clear hR3 ho he hgd0
    simp -implicitDefEqProofs [q_law05_TrapNests_1_1_1, k1, k2, k3, k4, k5, k6, k7, k8, k9, k10, k11, k12, c1, c2, c3, c4, c5, c6, c7, c8, c9]
    refine (w_step m hm).call (.cons (.refl _) rfl .nil) (fun o h => stepQ_noF h) ?_
    intro o ho
    have he := stepQ_end ho
    -- what Catch is told, and all behind it
    have fin : ∀ (ord : Int) (B : Heap) (o : AOut), endC o (codeN m) → ((m = 0 ∧ ord = 11) ∨ (m ≠ 0 ∧ ord = 1)) → B = (((((H0.set g2 (.var 3 [.int .i64 n])).set g3 (.var 3 [.int .i64 m])).set g5 (.var 3 [.int .i64 ord])).set g6 (.var 36 [.int .i64 (codeN n)])).set gc c0) →
        ∃ c A', endC o c ∧ A' gc = none ∧ B = A'.set gc c0 ∧ KV Try.prog (fin [ARes.tmp 4] (AV.bool true)) (some 10) [⟨some 7, .mv (.t 10), none⟩]
          (.thn (.seq (.region q_law05_TrapNests_4) (.seq (.seq (.region q_law05_TrapNests_5) (.cond (.t 12) (.region q_law05_TrapNests_6) .skip)) (.seq (.regionD q_law05_TrapNests_7) .ret))) .done)
          (upd (upd (upd (upd (upd (upd (env0 [.int .i64 n, .int .i64 m]) 2 (.ptr g2 0)) 3 (.ptr g3 0)) 4 (.bool false)) 5 (.ptr g5 0)) 6 (.ptr g6 0)) 9 (.func (.func F_law05_TrapNests_1) [] [.ptr g2 0, .ptr g6 0, .ptr g3 0, .ptr g5 0])) (.int .i64 c) A' := by
      intro ord B o ho hord hB
      refine ⟨codeN m, _, ho, ?_, hB, ?_⟩
      · simp [c1, c2, c3, c4, c5, c6, c7, c8, c9]
      · simp -implicitDefEqProofs [q_law05_TrapNests_4, q_law05_TrapNests_5, q_law05_TrapNests_6, k1, k2, k3, k4, k5, k6, k7, k8, k9, k10, k11, k12]
        rcases hord with ⟨rfl, rfl⟩ | ⟨hm0, rfl⟩
        · simp -implicitDefEqProofs [q_law05_TrapNests_7, k1, k2, k3, k4, k5, k6, k7, k8, k9, k10, k11, k12]
          refine (w_ref05_Code n).call (.cons (.refl _) rfl .nil) rfl ?_
          simp -implicitDefEqProofs [k1, k2, k3, k4, k5, k6, k7, k8, k9, k10, k11, k12, Sub_refl]
          refine (w_ref05_Code 0).call (.cons (.refl _) rfl .nil) rfl ?_
          simp -implicitDefEqProofs [k1, k2, k3, k4, k5, k6, k7, k8, k9, k10, k11, k12, Sub_refl]
          refine w_law05_works.call .nil rfl ?_
          simp -implicitDefEqProofs
        · simp -implicitDefEqProofs [q_law05_TrapNests_7, hm0, k1, k2, k3, k4, k5, k6, k7, k8, k9, k10, k11, k12]
          refine (w_ref05_Code n).call (.cons (.refl _) rfl .nil) rfl ?_
          simp -implicitDefEqProofs [k1, k2, k3, k4, k5, k6, k7, k8, k9, k10, k11, k12, Sub_refl]
          refine (w_ref05_Code m).call (.cons (.refl _) rfl .nil) rfl ?_
          simp -implicitDefEqProofs [k1, k2, k3, k4, k5, k6, k7, k8, k9, k10, k11, k12, Sub_refl]
          refine w_law05_works.call .nil rfl ?_
          simp -implicitDefEqProofs
    have last : ∀ (B : Heap) (x : Int), B g5 = some (.var 3 [.int .i64 x]) → IntKind.i64.wrap (x + 1) = x + 1 → SimD Try.prog F_law05_TrapNests_1_2 [.ptr g5 0] B fun o B' => (∃ v, o = .ret v) ∧ B' = B.set g5 (.var 3 [.int .i64 (x + 1)]) := by
      intro B x hB hw
      refine d_law05_TrapNests_1_2 (by simp) rfl fun R hR => ?_
      simp -implicitDefEqProofs [a_law05_TrapNests_1_2, q_law05_TrapNests_1_2_0, hB, hw]
      exact hR _ _ _ ⟨_, Sub_refl _, ⟨_, rfl⟩, rfl⟩
    cases o with
    | ret v =>
      obtain ⟨h0, rfl⟩ := stepQ_ret ho
      have w10 : IntKind.i64.wrap 10 = 10 := by decide
      simp -implicitDefEqProofs [q_law05_TrapNests_1_1_2, k1, k2, k3, k4, k5, k6, k7, k8, k9, k10, k11, k12, c1, c2, c3, c4, c5, c6, c7, c8, c9, w10]
      refine hR2 _ _ _ ⟨_, Sub_refl _, ?_⟩
      refine (last _ 10 (by simp) (by decide)).mono ?_
      rintro o B ⟨⟨v, rfl⟩, rfl⟩
      refine ⟨⟨_, rfl⟩, ?_⟩
      simp -implicitDefEqProofs
      refine hR _ _ _ ⟨_, Sub_refl _, fin 11 _ _ (by rw [h0]; rfl) (.inl ⟨h0, rfl⟩) ?_⟩
      funext x
      simp only [set_app]
      by_cases x1 : x = gc
      · subst x1; simp [c1, c2, c3, c4, c5, c6, c7, c8, c9]
      by_cases x2 : x = g6
      · subst x2; simp [k1, k2, k3, k4, k5, k6, k7, k8, k9, k10, k11, k12, c1, c2, c3, c4, c5, c6, c7, c8, c9]
      by_cases x3 : x = g5
      · subst x3; simp [k1, k2, k3, k4, k5, k6, k7, k8, k9, k10, k11, k12, c1, c2, c3, c4, c5, c6, c7, c8, c9]
      simp [x1, x2, x3]
    | pan v =>
      have h0 : m ≠ 0 := fun e => by subst e; simp [stepQ] at ho
      simp -implicitDefEqProofs
      refine hR2 _ _ _ ⟨_, Sub_refl _, ?_⟩
      refine (last _ 0 (by simp [k1, k2, k3, k4, k5, k6, k7, k8, k9, k10, k11, k12, c1, c2, c3, c4, c5, c6, c7, c8, c9]) (by decide)).mono ?_
      rintro o B ⟨⟨w, rfl⟩, rfl⟩
      refine ⟨⟨_, rfl⟩, ?_⟩
      simp -implicitDefEqProofs
      refine hR _ _ _ ⟨_, Sub_refl _, fin 1 _ _ he (.inr ⟨h0, rfl⟩) ?_⟩
      funext x
      simp only [set_app]
      by_cases x1 : x = gc
      · subst x1; simp [c1, c2, c3, c4, c5, c6, c7, c8, c9]
      by_cases x2 : x = g6
      · subst x2; simp [k1, k2, k3, k4, k5, k6, k7, k8, k9, k10, k11, k12, c1, c2, c3, c4, c5, c6, c7, c8, c9]
      by_cases x3 : x = g5
      · subst x3; simp [k1, k2, k3, k4, k5, k6, k7, k8, k9, k10, k11, k12, c1, c2, c3, c4, c5, c6, c7, c8, c9]
      simp [x1, x2, x3]
  cases o with
  | ret v =>
    simp -implicitDefEqProofs
    exact hR3 _ _ _ ⟨_, Sub_refl _, codeN n, _, he, hgd0, rfl, key⟩
  | pan v =>
    simp -implicitDefEqProofs
    exact hR3 _ _ _ ⟨_, Sub_refl _, codeN n, _, he, hgd0, rfl, key⟩
end Go.Proofs.Ytgbplcelcjffdaa

/- The walk of TrapEach. -/
namespace Go.Proofs.Ytgbplcelcjffdaa
open Go AVL
set_option linter.unusedVariables false
set_option linter.unusedSimpArgs false

def firstNZ : List Int → Nat
  | [] => 0
  | x :: r => if x = 0 then firstNZ r + 1 else 0
def eachC (zs : List Int) : Int := codeN (zs[firstNZ zs]?.getD 0)
theorem codeN_zero {n : Int} : codeN n = 0 ↔ n = 0 := by
  unfold codeN; split <;> omega
theorem firstNZ_le : ∀ zs, firstNZ zs ≤ zs.length
  | [] => by simp [firstNZ]
  | x :: r => by
    have := firstNZ_le r
    simp only [firstNZ, List.length_cons]; split <;> omega
theorem firstNZ_eq {zs : List Int} {i : Nat} (hi : i ≤ zs.length) (hlow : ∀ j, j < i → zs[j]?.getD 0 = 0) (hat : i = zs.length ∨ (i < zs.length ∧ zs[i]?.getD 0 ≠ 0)) : firstNZ zs = i := by
  induction zs generalizing i with
  | nil => simp [firstNZ] at *; omega
  | cons x r ih =>
    cases i with
    | zero =>
      rcases hat with h | ⟨h, h2⟩
      · simp at h
      · simp [firstNZ]; simpa using h2
    | succ i =>
      have h0 := hlow 0 (by omega)
      simp at h0
      subst h0
      simp only [firstNZ, if_true]
      rw [ih (i := i) (by simpa using hi) (fun j hji => by simpa using hlow (j + 1) (by omega)) (by
        rcases hat with h | ⟨h, h2⟩
        · exact .inl (by simpa using h)
        · exact .inr ⟨by simpa using h, by simpa using h2⟩)]
theorem w_ref05_Each (zs : List Int) (hl : zs.length < 2 ^ 40) : Gives Try.prog F_ref05_Each [.isl .i64 zs] (.tuple [.int .i64 (firstNZ zs : Nat), .int .i64 (eachC zs)]) := by
  refine v_ref05_Each (by simp) ?_
  simp -implicitDefEqProofs [a_ref05_Each, q_ref05_Each_0, q_ref05_Each_1]
  refine X_lp (fun (i : Nat) env A => i ≤ zs.length ∧ env 0 = .isl .i64 zs ∧ env 4 = .int .i64 i ∧ ∀ j, j < i → zs[j]?.getD 0 = 0) (fun i => zs.length - i) 0 ⟨by omega, by simp, by simp, by simp⟩ ?_
  rintro i env A ⟨h1, h2, h3, h4⟩
  simp -implicitDefEqProofs (disch := first | omega | simp) [q_ref05_Each_L6, q_ref05_Each_2, q_ref05_Each_3, q_ref05_Each_4, q_ref05_Each_5, q_ref05_Each_6, h2, h3, wrap_i64]
  refine ⟨fun hlt => ⟨hlt, fun hz => ?_, fun hz => ?_⟩, fun hge => ?_⟩
  · refine lp_next (i + 1) ⟨hlt, by simp [h2], by simp, fun j hj => ?_⟩ (by omega)
    rcases Nat.lt_succ_iff_lt_or_eq.1 hj with h | rfl
    · exact h4 j h
    · exact hz
  · refine ⟨hlt, ?_⟩
    refine (w_ref05_Code _).call (.cons (.refl _) rfl .nil) rfl ?_
    have := firstNZ_eq h1 h4 (.inr ⟨hlt, hz⟩)
    simp -implicitDefEqProofs [outOf, eachC, this]
  · have hi : i = zs.length := by omega
    have := firstNZ_eq h1 h4 (.inl hi)
    have hc : codeN 0 = 0 := rfl
    simp -implicitDefEqProofs [outOf, eachC, this, hi, hc]
theorem st_step {A : Heap} {g : Nat} {n : Int} {k : FuncId} (hn : I64 n) (hk : callable Try.prog k = true) (hg : A g = some (.var T_int [.int .i64 n]))
    (h : ∀ B : Heap, B g = some (.var T_int [.int .i64 n]) → SimX Try.prog k [.ptr g 0] B fun o B' => stepQ n o ∧ B' = B) : Still A (.func (.func k) [] [.ptr g 0]) (codeN n) :=
  still_of hk fun B hB => (h B (hB _ _ hg)).mono fun o B' ⟨h1, h2⟩ => ⟨stepQ_end h1, h2⟩
theorem cl_TrapEach_2 {g : Nat} {n : Int} (hn : I64 n) (B : Heap) (hg : B g = some (.var T_int [.int .i64 n])) : SimX Try.prog F_law05_TrapEach_2 [.ptr g 0] B fun o B' => stepQ n o ∧ B' = B := by
  refine i_law05_TrapEach_2 (by simp) fun R hR => ?_
  simp -implicitDefEqProofs [a_law05_TrapEach_2, q_law05_TrapEach_2_0, hg]
  refine (w_step n hn).call (.cons (.refl _) rfl .nil) (fun o h => stepQ_noF h) ?_
  intro o ho
  cases o with
  | ret v =>
    simp -implicitDefEqProofs
    exact hR _ _ _ ⟨B, Sub_refl B, by simpa [outOf, (stepQ_ret ho).2] using ho, rfl⟩
  | pan v =>
    simp -implicitDefEqProofs
    exact hR _ _ _ ⟨B, Sub_refl B, ho, rfl⟩
theorem cl_TrapEach_3 {g : Nat} {n : Int} (hn : I64 n) (B : Heap) (hg : B g = some (.var T_int [.int .i64 n])) : SimX Try.prog F_law05_TrapEach_3 [.ptr g 0] B fun o B' => stepQ n o ∧ B' = B := by
  refine i_law05_TrapEach_3 (by simp) fun R hR => ?_
  simp -implicitDefEqProofs [a_law05_TrapEach_3, q_law05_TrapEach_3_0, hg]
  refine (w_step n hn).call (.cons (.refl _) rfl .nil) (fun o h => stepQ_noF h) ?_
  intro o ho
  cases o with
  | ret v =>
    simp -implicitDefEqProofs
    exact hR _ _ _ ⟨B, Sub_refl B, by simpa [outOf, (stepQ_ret ho).2] using ho, rfl⟩
  | pan v =>
    simp -implicitDefEqProofs
    exact hR _ _ _ ⟨B, Sub_refl B, ho, rfl⟩
theorem cl_TrapEach_4 {g : Nat} {n : Int} (hn : I64 n) (B : Heap) (hg : B g = some (.var T_int [.int .i64 n])) : SimX Try.prog F_law05_TrapEach_4 [.ptr g 0] B fun o B' => stepQ n o ∧ B' = B := by
  refine i_law05_TrapEach_4 (by simp) fun R hR => ?_
  simp -implicitDefEqProofs [a_law05_TrapEach_4, q_law05_TrapEach_4_0, hg]
  refine (w_step n hn).call (.cons (.refl _) rfl .nil) (fun o h => stepQ_noF h) ?_
  intro o ho
  cases o with
  | ret v =>
    simp -implicitDefEqProofs
    exact hR _ _ _ ⟨B, Sub_refl B, by simpa [outOf, (stepQ_ret ho).2] using ho, rfl⟩
  | pan v =>
    simp -implicitDefEqProofs
    exact hR _ _ _ ⟨B, Sub_refl B, ho, rfl⟩
theorem each_tail (g8 g9 g10 : Nat) : ∀ (a b d : Int) (env : AEnv) (B : Heap), I64 a → I64 b → I64 d → env 8 = .ptr g8 0 → env 9 = .ptr g9 0 → env 10 = .ptr g10 0 → B g8 = some (.var 3 [.int .i64 a]) → B g9 = some (.var 3 [.int .i64 b]) → B g10 = some (.var 3 [.int .i64 d]) →
      XO Try.prog (fin [ARes.tmp 2] (AV.bool true)) q_law05_TrapEach_11 (.thn (.seq (.region q_law05_TrapEach_12) (.seq (.region q_law05_TrapEach_13) .ret)) .done) env B:= by
  intro a b d env B ha hb hd e8 e9 e10 b8 b9 b10
  obtain ⟨r12, hr12⟩ : ∃ r, r = q_law05_TrapEach_12 := ⟨_, rfl⟩
  rw [← hr12]
  simp -implicitDefEqProofs [q_law05_TrapEach_11, e8, e9, e10]
  intro g hg
  have n8 : ¬g8 = g := fun e => by subst e; rw [b8] at hg; cases hg
  have n9 : ¬g9 = g := fun e => by subst e; rw [b9] at hg; cases hg
  have n10 : ¬g10 = g := fun e => by subst e; rw [b10] at hg; cases hg
  obtain ⟨m, hm⟩ : ∃ m, m = firstNZ [a, b, d] := ⟨_, rfl⟩
  refine w_First (fs := [.func (.func F_law05_TrapEach_2) [] [.ptr g8 0], .func (.func F_law05_TrapEach_3) [] [.ptr g9 0], .func (.func F_law05_TrapEach_4) [] [.ptr g10 0]]) (m := m) (c := eachC [a, b, d]) set_eq' (by rw [hm]; exact firstNZ_le _) (by simp) ?_ ?_ ?_
  · intro j hj hjm
    have s2 : Still (B.set g (.row 1 1 [.func (.func F_law05_TrapEach_2) [] [.ptr g8 0], .func (.func F_law05_TrapEach_3) [] [.ptr g9 0], .func (.func F_law05_TrapEach_4) [] [.ptr g10 0]])) (.func (.func F_law05_TrapEach_2) [] [.ptr g8 0]) (codeN a) := st_step ha (by simp) (by simp [n8, b8]) (cl_TrapEach_2 ha)
    have s3 : Still (B.set g (.row 1 1 [.func (.func F_law05_TrapEach_2) [] [.ptr g8 0], .func (.func F_law05_TrapEach_3) [] [.ptr g9 0], .func (.func F_law05_TrapEach_4) [] [.ptr g10 0]])) (.func (.func F_law05_TrapEach_3) [] [.ptr g9 0]) (codeN b) := st_step hb (by simp) (by simp [n9, b9]) (cl_TrapEach_3 hb)
    have s4 : Still (B.set g (.row 1 1 [.func (.func F_law05_TrapEach_2) [] [.ptr g8 0], .func (.func F_law05_TrapEach_3) [] [.ptr g9 0], .func (.func F_law05_TrapEach_4) [] [.ptr g10 0]])) (.func (.func F_law05_TrapEach_4) [] [.ptr g10 0]) (codeN d) := st_step hd (by simp) (by simp [n10, b10]) (cl_TrapEach_4 hd)
    simp only [firstNZ] at hm
    simp at hj
    rcases (by omega : j = 0 ∨ j = 1 ∨ j = 2) with rfl | rfl | rfl
    · by_cases h1 : a = 0
      · subst h1; exact s2
      · simp [h1] at hm; omega
    · by_cases h1 : a = 0
      · by_cases h2 : b = 0
        · subst h2; exact s3
        · simp [h1, h2] at hm; omega
      · simp [h1] at hm; omega
    · by_cases h1 : a = 0
      · by_cases h2 : b = 0
        · by_cases h3 : d = 0
          · subst h3; exact s4
          · simp [h1, h2, h3] at hm; omega
        · simp [h1, h2] at hm; omega
      · simp [h1] at hm; omega
  · have s2 : Still (B.set g (.row 1 1 [.func (.func F_law05_TrapEach_2) [] [.ptr g8 0], .func (.func F_law05_TrapEach_3) [] [.ptr g9 0], .func (.func F_law05_TrapEach_4) [] [.ptr g10 0]])) (.func (.func F_law05_TrapEach_2) [] [.ptr g8 0]) (codeN a) := st_step ha (by simp) (by simp [n8, b8]) (cl_TrapEach_2 ha)
    have s3 : Still (B.set g (.row 1 1 [.func (.func F_law05_TrapEach_2) [] [.ptr g8 0], .func (.func F_law05_TrapEach_3) [] [.ptr g9 0], .func (.func F_law05_TrapEach_4) [] [.ptr g10 0]])) (.func (.func F_law05_TrapEach_3) [] [.ptr g9 0]) (codeN b) := st_step hb (by simp) (by simp [n9, b9]) (cl_TrapEach_3 hb)
    have s4 : Still (B.set g (.row 1 1 [.func (.func F_law05_TrapEach_2) [] [.ptr g8 0], .func (.func F_law05_TrapEach_3) [] [.ptr g9 0], .func (.func F_law05_TrapEach_4) [] [.ptr g10 0]])) (.func (.func F_law05_TrapEach_4) [] [.ptr g10 0]) (codeN d) := st_step hd (by simp) (by simp [n10, b10]) (cl_TrapEach_4 hd)
    by_cases h1 : a = 0
    · by_cases h2 : b = 0
      · by_cases h3 : d = 0
        · refine .inl ?_
          subst h1; subst h2; subst h3
          exact ⟨by rw [hm]; rfl, rfl⟩
        · have hm2 : m = 2 := by rw [hm]; simp [firstNZ, h1, h2, h3]
          have hc : eachC [a, b, d] = codeN d := by simp [eachC, firstNZ, h1, h2, h3]
          subst hm2
          exact .inr ⟨by rw [hc]; exact fun h => h3 (codeN_zero.1 h), by simp, by rw [hc]; exact s4⟩
      · have hm2 : m = 1 := by rw [hm]; simp [firstNZ, h1, h2]
        have hc : eachC [a, b, d] = codeN b := by simp [eachC, firstNZ, h1, h2]
        subst hm2
        exact .inr ⟨by rw [hc]; exact fun h => h2 (codeN_zero.1 h), by simp, by rw [hc]; exact s3⟩
    · have hm2 : m = 0 := by rw [hm]; simp [firstNZ, h1]
      have hc : eachC [a, b, d] = codeN a := by simp [eachC, firstNZ, h1]
      subst hm2
      exact .inr ⟨by rw [hc]; exact fun h => h1 (codeN_zero.1 h), by simp, by rw [hc]; exact s2⟩
  simp -implicitDefEqProofs [hr12, q_law05_TrapEach_12, e8, e9, e10, n8, n9, n10, b8, b9, b10]
  intro h hgh
  have hv := Vw.own (A := ((B.set g (.row 1 1 [.func (.func F_law05_TrapEach_2) [] [.ptr g8 0], .func (.func F_law05_TrapEach_3) [] [.ptr g9 0], .func (.func F_law05_TrapEach_4) [] [.ptr g10 0]])).set h (.irow 3 .i64 [a, b, d]))) (g := h) (i := 0) (n := 3) set_eq' (by simp)
  have hv' := hv
  simp only [List.drop_zero] at hv'
  intro hBh hBh2
  refine (w_ref05_Each [a, b, d] (by simp)).call (.cons hv' rfl .nil) rfl ?_
  simp -implicitDefEqProofs [q_law05_TrapEach_13]
  refine w_law05_works.call .nil rfl ?_
  simp -implicitDefEqProofs
theorem w_law05_TrapEach (zs : List Int) (hz : ∀ z ∈ zs, I64 z) (hl : zs.length < 2 ^ 63) : Gives Try.prog F_law05_TrapEach [.isl .i64 zs] (.bool true) := by
  refine v_law05_TrapEach (by simp) ?_
  have hzi : ∀ i : Nat, I64 (zs[i]?.getD 0) := fun i => by
    cases h : zs[i]? with
    | none => simp [I64]
    | some z => simpa using hz z (List.mem_of_getElem? h)
  simp -implicitDefEqProofs [a_law05_TrapEach, q_law05_TrapEach_0, q_law05_TrapEach_1]
  intro g1
  refine ⟨fun h200 => ?_, fun h200 => ?_⟩
  · simp -implicitDefEqProofs [q_law05_TrapEach_2]
    refine w_law05_works.call .nil rfl ?_
    simp -implicitDefEqProofs
  simp -implicitDefEqProofs +contextual [q_law05_TrapEach_3, q_law05_TrapEach_4]
  intro g3 k1 k2
  refine w_Each1 (n := zs.length) (A := fun i => (H0.set g1 (.var 45 [.isl .i64 zs])).set g3 (.var 3 [.int .i64 i])) (Q := fun i o => stepQ (zs[i]?.getD 0) o) (by simp) (by omega) (fun i x => by simp [set_app]; split <;> simp) (fun i hi B hB => ?_) (fun i v h => ⟨_, stepQ_end h⟩) ?_
  · have b1 : B g1 = some (.var 45 [.isl .i64 zs]) := hB _ _ (by simp [k2])
    have b3 : B g3 = some (.var 3 [.int .i64 i]) := hB _ _ (by simp)
    refine i_law05_TrapEach_1 (by simp) fun R hR => ?_
    simp -implicitDefEqProofs (disch := first | omega | simp) [a_law05_TrapEach_1, q_law05_TrapEach_1_0, b1, b3]
    refine ⟨hi, ?_⟩
    have ez : zs[i]?.getD 0 = zs[i] := by simp [List.getElem?_eq_getElem hi]
    have hzi' := hzi i
    rw [ez] at hzi'
    refine (w_step _ hzi').call (.cons (.refl _) rfl .nil) (fun o h => stepQ_noF h) ?_
    intro o ho
    rw [← ez] at ho
    cases o with
    | ret v =>
      simp -implicitDefEqProofs (disch := first | omega | simp) [q_law05_TrapEach_1_1, b3, wrap_i64]
      refine hR _ _ _ ⟨_, Sub_refl _, by simpa [outOf, (stepQ_ret ho).2] using ho, fun x hx => ?_, fun _ => ?_, fun h => by obtain ⟨_, h⟩ := h; cases h⟩
      · simp only [set_none] at hx; simp [hx.1]
      · exact sub_set (sub_set (H0_sub _) (by simp [k2, b1])) (by simp)
    | pan v =>
      simp -implicitDefEqProofs
      exact hR _ _ _ ⟨B, Sub_refl B, ho, fun x hx => rfl, (fun h => by obtain ⟨_, h⟩ := h; cases h), fun _ => hB⟩
  intro j c hj hlow hend
  have hlow' : ∀ i, i < j → zs[i]?.getD 0 = 0 := fun i hi => by
    obtain ⟨v, hv⟩ := hlow i hi
    exact (stepQ_ret hv).1
  have hjc : firstNZ zs = j ∧ eachC zs = c := by
    rcases hend with ⟨rfl, rfl⟩ | ⟨hlt, v, ho, hc⟩
    · have := firstNZ_eq hj hlow' (.inl rfl)
      refine ⟨this, ?_⟩
      simp [eachC, this]; rfl
    · have hne : zs[j]?.getD 0 ≠ 0 := fun e => by rw [e] at ho; simp [stepQ] at ho
      have := firstNZ_eq hj hlow' (.inr ⟨hlt, hne⟩)
      refine ⟨this, ?_⟩
      have h2 : caughtC v = some (codeN (zs[j]?.getD 0)) := stepQ_end ho
      rw [hc] at h2
      injection h2 with h2
      rw [eachC, this, h2]
  obtain ⟨rfl, rfl⟩ := hjc
  clear hj hlow hlow' hend
  simp -implicitDefEqProofs [q_law05_TrapEach_5, k1, k2]
  refine (w_ref05_Each zs (by omega)).call (.cons (.refl _) rfl .nil) rfl ?_
  simp -implicitDefEqProofs +contextual [q_law05_TrapEach_6, q_law05_TrapEach_8, k1, k2]
  intro g8 k3 k4 k5 k6 g9 k7 k8 k9 k10 k11 k12 g10 k13 k14 k15 k16 k17 k18 k19 k20
  have tail := each_tail g8 g9 g10
  by_cases hlen : 2 < zs.length
  · have z0 : zs[0]?.getD 0 = zs[0] := by simp [List.getElem?_eq_getElem (show 0 < zs.length by omega)]
    have hlen2 : (2 : Int) < zs.length := by omega
    simp -implicitDefEqProofs (disch := first | omega | simp) [q_law05_TrapEach_9, q_law05_TrapEach_10, hlen2, k1, k2, k3, k4, k5, k6, k7, k8, k9, k10, k11, k12, k13, k14, k15, k16, k17, k18, k19, k20]
    have i0 : (0 : Nat) < zs.length := by omega
    have i1 : 1 < zs.length := by omega
    have i2 : 2 < zs.length := by omega
    have z1 : zs[1]?.getD 0 = zs[1] := by simp [List.getElem?_eq_getElem i1]
    have z2 : zs[2]?.getD 0 = zs[2] := by simp [List.getElem?_eq_getElem i2]
    refine ⟨i0, by omega, ?_⟩
    refine tail zs[0] zs[1] zs[2] _ _ (z0 ▸ hzi 0) (z1 ▸ hzi 1) (z2 ▸ hzi 2) (by simp) (by simp) (by simp) (by simp [k1, k2, k3, k4, k5, k6, k7, k8, k9, k10, k11, k12, k13, k14, k15, k16, k17, k18, k19, k20]) (by simp [k1, k2, k3, k4, k5, k6, k7, k8, k9, k10, k11, k12, k13, k14, k15, k16, k17, k18, k19, k20]) (by simp [k1, k2, k3, k4, k5, k6, k7, k8, k9, k10, k11, k12, k13, k14, k15, k16, k17, k18, k19, k20])
  · have hlen2 : ¬ (2 : Int) < zs.length := by omega
    simp -implicitDefEqProofs [q_law05_TrapEach_9, hlen2, k1, k2, k3, k4, k5, k6, k7, k8, k9, k10, k11, k12, k13, k14, k15, k16, k17, k18, k19, k20]
    refine tail 0 0 0 _ _ ⟨by decide, by decide⟩ ⟨by decide, by decide⟩ ⟨by decide, by decide⟩ (by simp) (by simp) (by simp) (by simp [k1, k2, k3, k4, k5, k6, k7, k8, k9, k10, k11, k12, k13, k14, k15, k16, k17, k18, k19, k20]) (by simp [k1, k2, k3, k4, k5, k6, k7, k8, k9, k10, k11, k12, k13, k14, k15, k16, k17, k18, k19, k20]) (by simp [k1, k2, k3, k4, k5, k6, k7, k8, k9, k10, k11, k12, k13, k14, k15, k16, k17, k18, k19, k20])
end Go.Proofs.Ytgbplcelcjffdaa
