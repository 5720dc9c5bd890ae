/- RatchetStarts: part 14 of 50 of its proof. -/
import Derived.Test.YtmkefajojokkfaaGreatC12
set_option linter.unusedVariables false
set_option linter.unusedSimpArgs false
namespace Go.Am
def id_field_Swap : Nat := 122
def af_field_Swap : AFn := ⟨48, [.cell 6 true 5, .cell 7 true 5],
 (.seq none
 (.reg [
 ⟨some 4, .box (.t 1), none, []⟩,
 ⟨some 5, .box (.t 2), none, []⟩,
 ⟨some 6, .alloc [.ints .u64 5 (List.replicate 5 0)], none, []⟩,
 ⟨some 7, .alloc [.ints .u64 5 (List.replicate 5 0)], none, []⟩])
 (.seq none
 (.reg [
 ⟨some 11, .mov (.t 0), none, []⟩,
 ⟨some 12, .bin .and (.t 11) (.c (.int .i64 1)), none, []⟩,
 ⟨some 13, .toInt .u64 (.t 12), none, []⟩,
 ⟨some 14, .un .neg (.t 13), none, []⟩,
 ⟨some 8, .mov (.t 14), none, []⟩])
 (.seq none
 (.seq none
 (.reg [
 ⟨some 15, .mov (.c (.int .i64 0)), none, []⟩])
 (.block 0 none
 (.loop 1000000 none
 (.seq none
 (.reg [
 ⟨some 16, .bin .lss (.t 15) (.c (.int .i64 5)), none, []⟩])
 (.seq none
 (.cond (.t 16)
 .skip
 (.exit 0))
 (.seq none
 (.block 1 none
 (.seq none
 (.reg [
 ⟨some 17, .mov (.t 15), none, []⟩,
 ⟨some 9, .mov (.t 17), none, []⟩])
 (.seq none
 (.draw [
 ⟨some 18, .mov (.t 8), none, []⟩,
 ⟨some 19, .mov (.t 9), none, []⟩,
 ⟨some 20, .faddr 0 (.t 4), none, []⟩,
 ⟨some 21, .iaddrA 5 0 (.t 20) (.t 19), none, [2, 1]⟩,
 ⟨some 22, .load false 1 (.t 21), none, [3]⟩,
 ⟨some 23, .mov (.t 9), none, []⟩,
 ⟨some 24, .faddr 0 (.t 5), none, []⟩,
 ⟨some 25, .iaddrA 5 0 (.t 24) (.t 23), none, [6, 5]⟩,
 ⟨some 26, .load false 1 (.t 25), none, [7]⟩,
 ⟨some 27, .bin .xor (.t 22) (.t 26), none, [4, 8]⟩,
 ⟨some 28, .bin .and (.t 18) (.t 27), none, [0, 9]⟩,
 ⟨some 10, .mov (.t 28), none, [10, 0, 1, 2, 3, 4, 5, 6, 7, 8, 9, 10]⟩])
 (.seq none
 (.reg [
 ⟨some 29, .mov (.t 9), none, []⟩,
 ⟨some 30, .faddr 0 (.t 4), none, []⟩,
 ⟨some 31, .iaddrA 5 0 (.t 30) (.t 29), none, []⟩,
 ⟨some 32, .load false 1 (.t 31), none, []⟩,
 ⟨some 33, .mov (.t 10), none, []⟩,
 ⟨some 34, .bin .xor (.t 32) (.t 33), none, []⟩,
 ⟨some 35, .faddr 0 (.t 4), none, []⟩,
 ⟨some 36, .iaddrA 5 0 (.t 35) (.t 29), none, []⟩,
 ⟨none, .store 1 (.t 36) (.t 34), none, []⟩])
 (.reg [
 ⟨some 37, .mov (.t 9), none, []⟩,
 ⟨some 38, .faddr 0 (.t 5), none, []⟩,
 ⟨some 39, .iaddrA 5 0 (.t 38) (.t 37), none, []⟩,
 ⟨some 40, .load false 1 (.t 39), none, []⟩,
 ⟨some 41, .mov (.t 10), none, []⟩,
 ⟨some 42, .bin .xor (.t 40) (.t 41), none, []⟩,
 ⟨some 43, .faddr 0 (.t 5), none, []⟩,
 ⟨some 44, .iaddrA 5 0 (.t 43) (.t 37), none, []⟩,
 ⟨none, .store 1 (.t 44) (.t 42), none, []⟩])))))
 (.reg [
 ⟨some 45, .bin .add (.t 15) (.c (.int .i64 1)), none, []⟩,
 ⟨some 15, .mov (.t 45), none, []⟩])))))))
 (.seq none
 (.draw [
 ⟨some 46, .load true 5 (.t 4), none, []⟩,
 ⟨some 47, .load true 5 (.t 5), none, []⟩,
 ⟨none, .store 5 (.t 6) (.t 46), none, [0, 0]⟩,
 ⟨none, .store 5 (.t 7) (.t 47), none, [1, 2, 0, 1, 2]⟩])
 .ret))))⟩
def id_curve_ladder_sums : Nat := 123
def af_curve_ladder_sums : AFn := ⟨30, [.cell 2 true 5, .cell 3 true 5, .cell 4 true 5, .cell 5 true 5],
 (.seq none
 (.reg [
 ⟨some 1, .box (.t 0), none, []⟩,
 ⟨some 2, .alloc [.ints .u64 5 (List.replicate 5 0)], none, []⟩,
 ⟨some 3, .alloc [.ints .u64 5 (List.replicate 5 0)], none, []⟩,
 ⟨some 4, .alloc [.ints .u64 5 (List.replicate 5 0)], none, []⟩,
 ⟨some 5, .alloc [.ints .u64 5 (List.replicate 5 0)], none, []⟩])
 (.seq none
 (.draw [
 ⟨some 6, .faddr 0 (.t 1), none, []⟩,
 ⟨some 7, .load true 5 (.t 6), none, [0]⟩,
 ⟨some 8, .faddr 5 (.t 1), none, []⟩,
 ⟨some 9, .load true 5 (.t 8), none, [2]⟩,
 ⟨some 10, .call 126 [(.t 7), (.t 9)], none, [1, 3]⟩,
 ⟨some 11, .faddr 0 (.t 1), none, []⟩,
 ⟨some 12, .load true 5 (.t 11), none, [5]⟩,
 ⟨some 13, .faddr 5 (.t 1), none, []⟩,
 ⟨some 14, .load true 5 (.t 13), none, [7]⟩,
 ⟨some 15, .call 125 [(.t 12), (.t 14)], none, [6, 8, 4]⟩,
 ⟨none, .store 5 (.t 2) (.t 10), none, [4, 9, 0, 1, 2, 3, 4]⟩,
 ⟨none, .store 5 (.t 3) (.t 15), none, [9, 10, 0, 1, 2, 3, 4, 5, 6, 7, 8, 9, 10]⟩])
 (.seq none
 (.draw [
 ⟨some 16, .faddr 10 (.t 1), none, []⟩,
 ⟨some 17, .load true 5 (.t 16), none, [0]⟩,
 ⟨some 18, .faddr 15 (.t 1), none, []⟩,
 ⟨some 19, .load true 5 (.t 18), none, [2]⟩,
 ⟨some 20, .call 126 [(.t 17), (.t 19)], none, [1, 3]⟩,
 ⟨some 21, .faddr 10 (.t 1), none, []⟩,
 ⟨some 22, .load true 5 (.t 21), none, [5]⟩,
 ⟨some 23, .faddr 15 (.t 1), none, []⟩,
 ⟨some 24, .load true 5 (.t 23), none, [7]⟩,
 ⟨some 25, .call 125 [(.t 22), (.t 24)], none, [6, 8, 4]⟩,
 ⟨none, .store 5 (.t 4) (.t 20), none, [4, 9, 0, 1, 2, 3, 4]⟩,
 ⟨none, .store 5 (.t 5) (.t 25), none, [9, 10, 0, 1, 2, 3, 4, 5, 6, 7, 8, 9, 10]⟩])
 (.seq none
 (.draw [
 ⟨some 26, .load true 5 (.t 2), none, []⟩,
 ⟨some 27, .load true 5 (.t 3), none, []⟩,
 ⟨some 28, .load true 5 (.t 4), none, []⟩,
 ⟨some 29, .load true 5 (.t 5), none, []⟩,
 ⟨none, .store 5 (.t 2) (.t 26), none, [0, 0]⟩,
 ⟨none, .store 5 (.t 3) (.t 27), none, [1, 4, 0, 1, 4]⟩,
 ⟨none, .store 5 (.t 4) (.t 28), none, [2, 5, 0, 1, 2, 4, 5]⟩,
 ⟨none, .store 5 (.t 5) (.t 29), none, [3, 6, 0, 1, 2, 3, 4, 5, 6]⟩])
 .ret))))⟩
def id_field_Elem_Square : Nat := 124
def af_field_Elem_Square : AFn := ⟨90, [.cell 2 true 5],
 (.seq none
 (.reg [
 ⟨some 1, .box (.t 0), none, []⟩,
 ⟨some 2, .alloc [.ints .u64 5 (List.replicate 5 0)], none, []⟩])
 (.seq none
 (.draw [
 ⟨some 12, .faddr 0 (.t 1), none, []⟩,
 ⟨some 13, .iaddrA 5 0 (.t 12) (.c (.int .i64 0)), none, [0]⟩,
 ⟨some 14, .load false 1 (.t 13), none, [1]⟩,
 ⟨some 15, .faddr 0 (.t 1), none, []⟩,
 ⟨some 16, .iaddrA 5 0 (.t 15) (.c (.int .i64 1)), none, [3]⟩,
 ⟨some 17, .load false 1 (.t 16), none, [4]⟩,
 ⟨some 18, .faddr 0 (.t 1), none, []⟩,
 ⟨some 19, .iaddrA 5 0 (.t 18) (.c (.int .i64 2)), none, [6]⟩,
 ⟨some 20, .load false 1 (.t 19), none, [7]⟩,
 ⟨some 21, .faddr 0 (.t 1), none, []⟩,
 ⟨some 22, .iaddrA 5 0 (.t 21) (.c (.int .i64 3)), none, [9]⟩,
 ⟨some 23, .load false 1 (.t 22), none, [10]⟩,
 ⟨some 24, .faddr 0 (.t 1), none, []⟩,
 ⟨some 25, .iaddrA 5 0 (.t 24) (.c (.int .i64 4)), none, [12]⟩,
 ⟨some 26, .load false 1 (.t 25), none, [13]⟩,
 ⟨some 3, .mov (.t 14), none, [2, 0, 1, 2]⟩,
 ⟨some 4, .mov (.t 17), none, [5, 15, 0, 1, 2, 3, 4, 5, 15]⟩,
 ⟨some 5, .mov (.t 20), none, [8, 16, 0, 1, 2, 3, 4, 5, 6, 7, 8, 15, 16]⟩,
 ⟨some 6, .mov (.t 23), none, [11, 17, 0, 1, 2, 3, 4, 5, 6, 7, 8, 9, 10, 11, 15, 16, 17]⟩,
 ⟨some 7, .mov (.t 26), none, [14, 18, 0, 1, 2, 3, 4, 5, 6, 7, 8, 9, 10, 11, 12, 13, 14, 15, 16, 17, 18]⟩])
 (.seq none
 (.reg [
 ⟨some 27, .mov (.t 3), none, []⟩,
 ⟨some 28, .bin .mul (.c (.int .u64 2)) (.t 27), none, []⟩,
 ⟨some 29, .mov (.t 4), none, []⟩,
 ⟨some 30, .bin .mul (.c (.int .u64 2)) (.t 29), none, []⟩,
 ⟨some 31, .mov (.t 6), none, []⟩,
 ⟨some 32, .bin .mul (.c (.int .u64 19)) (.t 31), none, []⟩,
 ⟨some 33, .mov (.t 7), none, []⟩,
 ⟨some 34, .bin .mul (.c (.int .u64 19)) (.t 33), none, []⟩,
 ⟨some 8, .mov (.t 28), none, []⟩,
 ⟨some 9, .mov (.t 30), none, []⟩,
 ⟨some 10, .mov (.t 32), none, []⟩,
 ⟨some 11, .mov (.t 34), none, []⟩])
 (.seq none
 (.reg [
 ⟨some 35, .build [.int .u64 0, .int .u64 0] [], none, []⟩,
 ⟨some 36, .mov (.t 3), none, []⟩,
 ⟨some 37, .mov (.t 3), none, []⟩,
 ⟨some 38, .call 129 [(.t 35), (.t 36), (.t 37)], none, []⟩,
 ⟨some 39, .mov (.t 9), none, []⟩,
 ⟨some 40, .mov (.t 11), none, []⟩,
 ⟨some 41, .call 129 [(.t 38), (.t 39), (.t 40)], none, []⟩,
 ⟨some 42, .mov (.t 5), none, []⟩,
 ⟨some 43, .bin .mul (.c (.int .u64 2)) (.t 42), none, []⟩,
 ⟨some 44, .mov (.t 10), none, []⟩,
 ⟨some 45, .call 129 [(.t 41), (.t 43), (.t 44)], none, []⟩,
 ⟨some 46, .build [.int .u64 0, .int .u64 0] [], none, []⟩,
 ⟨some 47, .mov (.t 8), none, []⟩,
 ⟨some 48, .mov (.t 4), none, []⟩,
 ⟨some 49, .call 129 [(.t 46), (.t 47), (.t 48)], none, []⟩,
 ⟨some 50, .mov (.t 5), none, []⟩,
 ⟨some 51, .bin .mul (.c (.int .u64 2)) (.t 50), none, []⟩,
 ⟨some 52, .mov (.t 11), none, []⟩,
 ⟨some 53, .call 129 [(.t 49), (.t 51), (.t 52)], none, []⟩,
 ⟨some 54, .mov (.t 6), none, []⟩,
 ⟨some 55, .mov (.t 10), none, []⟩,
 ⟨some 56, .call 129 [(.t 53), (.t 54), (.t 55)], none, []⟩,
 ⟨some 57, .build [.int .u64 0, .int .u64 0] [], none, []⟩,
 ⟨some 58, .mov (.t 8), none, []⟩,
 ⟨some 59, .mov (.t 5), none, []⟩,
 ⟨some 60, .call 129 [(.t 57), (.t 58), (.t 59)], none, []⟩,
 ⟨some 61, .mov (.t 4), none, []⟩,
 ⟨some 62, .mov (.t 4), none, []⟩,
 ⟨some 63, .call 129 [(.t 60), (.t 61), (.t 62)], none, []⟩,
 ⟨some 64, .mov (.t 6), none, []⟩,
 ⟨some 65, .bin .mul (.c (.int .u64 2)) (.t 64), none, []⟩,
 ⟨some 66, .mov (.t 11), none, []⟩,
 ⟨some 67, .call 129 [(.t 63), (.t 65), (.t 66)], none, []⟩,
 ⟨some 68, .build [.int .u64 0, .int .u64 0] [], none, []⟩,
 ⟨some 69, .mov (.t 8), none, []⟩,
 ⟨some 70, .mov (.t 6), none, []⟩,
 ⟨some 71, .call 129 [(.t 68), (.t 69), (.t 70)], none, []⟩,
 ⟨some 72, .mov (.t 9), none, []⟩,
 ⟨some 73, .mov (.t 5), none, []⟩,
 ⟨some 74, .call 129 [(.t 71), (.t 72), (.t 73)], none, []⟩,
 ⟨some 75, .mov (.t 7), none, []⟩,
 ⟨some 76, .mov (.t 11), none, []⟩,
 ⟨some 77, .call 129 [(.t 74), (.t 75), (.t 76)], none, []⟩,
 ⟨some 78, .build [.int .u64 0, .int .u64 0] [], none, []⟩,
 ⟨some 79, .mov (.t 8), none, []⟩,
 ⟨some 80, .mov (.t 7), none, []⟩,
 ⟨some 81, .call 129 [(.t 78), (.t 79), (.t 80)], none, []⟩,
 ⟨some 82, .mov (.t 9), none, []⟩,
 ⟨some 83, .mov (.t 6), none, []⟩,
 ⟨some 84, .call 129 [(.t 81), (.t 82), (.t 83)], none, []⟩,
 ⟨some 85, .mov (.t 5), none, []⟩,
 ⟨some 86, .mov (.t 5), none, []⟩,
 ⟨some 87, .call 129 [(.t 84), (.t 85), (.t 86)], none, []⟩,
 ⟨some 88, .build [.int .u64 0, .int .u64 0, .int .u64 0, .int .u64 0, .int .u64 0, .int .u64 0, .int .u64 0, .int .u64 0, .int .u64 0, .int .u64 0] [(0, 2, (.t 45)), (2, 2, (.t 56)), (4, 2, (.t 67)), (6, 2, (.t 77)), (8, 2, (.t 87))], none, []⟩,
 ⟨some 89, .call 128 [(.t 88)], none, []⟩,
 ⟨none, .store 5 (.t 2) (.t 89), none, []⟩])
 .ret))))⟩
def id_field_Elem_Sub : Nat := 125
def af_field_Elem_Sub : AFn := ⟨30, [.cell 4 true 5],
 (.seq none
 (.reg [
 ⟨some 2, .box (.t 0), none, []⟩,
 ⟨some 3, .box (.t 1), none, []⟩,
 ⟨some 4, .alloc [.ints .u64 5 (List.replicate 5 0)], none, []⟩])
 (.seq none
 (.seq none
 (.reg [
 ⟨some 7, .mov (.c (.int .i64 0)), none, []⟩])
 (.block 0 none
 (.loop 1000000 none
 (.seq none
 (.reg [
 ⟨some 8, .bin .lss (.t 7) (.c (.int .i64 5)), none, []⟩])
 (.seq none
 (.cond (.t 8)
 .skip
 (.exit 0))
 (.seq none
 (.block 1 none
 (.seq none
 (.reg [
 ⟨some 9, .mov (.t 7), none, []⟩,
 ⟨some 5, .mov (.t 9), none, []⟩])
 (.seq none
 (.reg [
 ⟨some 6, .mov (.c (.int .u64 4503599627370494)), none, []⟩])
 (.seq none
 (.seq none
 (.reg [
 ⟨some 10, .mov (.t 5), none, []⟩,
 ⟨some 11, .bin .eql (.t 10) (.c (.int .i64 0)), none, []⟩])
 (.cond (.t 11)
 (.reg [
 ⟨some 12, .mov (.t 6), none, []⟩,
 ⟨some 13, .bin .sub (.t 12) (.c (.int .u64 36)), none, []⟩,
 ⟨some 6, .mov (.t 13), none, []⟩])
 .skip))
 (.draw [
 ⟨some 14, .mov (.t 5), none, []⟩,
 ⟨some 15, .faddr 0 (.t 2), none, []⟩,
 ⟨some 16, .iaddrA 5 0 (.t 15) (.t 14), none, [1, 0]⟩,
 ⟨some 17, .load false 1 (.t 16), none, [2]⟩,
 ⟨some 18, .mov (.t 6), none, []⟩,
 ⟨some 19, .mov (.t 5), none, []⟩,
 ⟨some 20, .faddr 0 (.t 3), none, []⟩,
 ⟨some 21, .iaddrA 5 0 (.t 20) (.t 19), none, [6, 5]⟩,
 ⟨some 22, .load false 1 (.t 21), none, [7]⟩,
 ⟨some 23, .bin .sub (.t 18) (.t 22), none, [4, 8]⟩,
 ⟨some 24, .bin .add (.t 17) (.t 23), none, [3, 9]⟩,
 ⟨some 25, .faddr 0 (.t 2), none, []⟩,
 ⟨some 26, .iaddrA 5 0 (.t 25) (.t 14), none, [11, 0, 0, 1, 2, 3, 4, 5, 6, 7, 8, 9, 10]⟩,
 ⟨none, .store 1 (.t 26) (.t 24), none, [12, 10, 0, 1, 2, 3, 4, 5, 6, 7, 8, 9, 10]⟩])))))
 (.reg [
 ⟨some 27, .bin .add (.t 7) (.c (.int .i64 1)), none, []⟩,
 ⟨some 7, .mov (.t 27), none, []⟩])))))))
 (.seq none
 (.reg [
 ⟨some 28, .load true 5 (.t 2), none, []⟩,
 ⟨some 29, .call 132 [(.t 28)], none, []⟩,
 ⟨none, .store 5 (.t 4) (.t 29), none, []⟩])
 .ret)))⟩
def id_field_Elem_Add : Nat := 126
def af_field_Elem_Add : AFn := ⟨23, [.cell 4 true 5],
 (.seq none
 (.reg [
 ⟨some 2, .box (.t 0), none, []⟩,
 ⟨some 3, .box (.t 1), none, []⟩,
 ⟨some 4, .alloc [.ints .u64 5 (List.replicate 5 0)], none, []⟩])
 (.seq none
 (.seq none
 (.reg [
 ⟨some 6, .mov (.c (.int .i64 0)), none, []⟩])
 (.block 0 none
 (.loop 1000000 none
 (.seq none
 (.reg [
 ⟨some 7, .bin .lss (.t 6) (.c (.int .i64 5)), none, []⟩])
 (.seq none
 (.cond (.t 7)
 .skip
 (.exit 0))
 (.seq none
 (.block 1 none
 (.seq none
 (.reg [
 ⟨some 8, .mov (.t 6), none, []⟩,
 ⟨some 5, .mov (.t 8), none, []⟩])
 (.draw [
 ⟨some 9, .mov (.t 5), none, []⟩,
 ⟨some 10, .faddr 0 (.t 2), none, []⟩,
 ⟨some 11, .iaddrA 5 0 (.t 10) (.t 9), none, [1, 0]⟩,
 ⟨some 12, .load false 1 (.t 11), none, [2]⟩,
 ⟨some 13, .mov (.t 5), none, []⟩,
 ⟨some 14, .faddr 0 (.t 3), none, []⟩,
 ⟨some 15, .iaddrA 5 0 (.t 14) (.t 13), none, [5, 4]⟩,
 ⟨some 16, .load false 1 (.t 15), none, [6]⟩,
 ⟨some 17, .bin .add (.t 12) (.t 16), none, [3, 7]⟩,
 ⟨some 18, .faddr 0 (.t 2), none, []⟩,
 ⟨some 19, .iaddrA 5 0 (.t 18) (.t 9), none, [9, 0, 0, 1, 2, 3, 4, 5, 6, 7, 8]⟩,
 ⟨none, .store 1 (.t 19) (.t 17), none, [10, 8, 0, 1, 2, 3, 4, 5, 6, 7, 8]⟩])))
 (.reg [
 ⟨some 20, .bin .add (.t 6) (.c (.int .i64 1)), none, []⟩,
 ⟨some 6, .mov (.t 20), none, []⟩])))))))
 (.seq none
 (.reg [
 ⟨some 21, .load true 5 (.t 2), none, []⟩,
 ⟨some 22, .call 132 [(.t 21)], none, []⟩,
 ⟨none, .store 5 (.t 4) (.t 22), none, []⟩])
 .ret)))⟩
def id_field_Elem_Times : Nat := 127
def af_field_Elem_Times : AFn := ⟨10, [.cell 4 true 5],
 (.seq none
 (.reg [
 ⟨some 2, .box (.t 0), none, []⟩,
 ⟨some 4, .alloc [.ints .u64 5 (List.replicate 5 0)], none, []⟩])
 (.seq none
 (.draw [
 ⟨some 5, .load true 5 (.t 2), none, []⟩,
 ⟨some 6, .mov (.t 1), none, []⟩,
 ⟨some 7, .toInt .u64 (.t 6), none, [1]⟩,
 ⟨some 8, .call 98 [(.t 7)], none, [2]⟩,
 ⟨some 9, .call 101 [(.t 5), (.t 8)], none, [0, 3, 3]⟩,
 ⟨none, .store 5 (.t 4) (.t 9), none, [4, 4, 0, 1, 2, 3, 4]⟩])
 .ret))⟩
def id_field_folded : Nat := 128
def af_field_folded : AFn := ⟨45, [.cell 2 true 5],
 (.seq none
 (.reg [
 ⟨some 1, .box (.t 0), none, []⟩,
 ⟨some 2, .alloc [.ints .u64 5 (List.replicate 5 0)], none, []⟩])
 (.seq none
 (.reg [
 ⟨some 3, .alloc [.ints .u64 5 (List.replicate 5 0)], none, []⟩])
 (.seq none
 (.reg [
 ⟨some 4, .mov (.c (.int .u64 0)), none, []⟩])
 (.seq none
 (.seq none
 (.reg [
 ⟨some 9, .load true 10 (.t 1), none, []⟩,
 ⟨some 10, .mov (.c (.int .i64 0)), none, []⟩])
 (.block 0 none
 (.loop 1000000 none
 (.seq none
 (.reg [
 ⟨some 11, .bin .lss (.t 10) (.c (.int .i64 5)), none, []⟩])
 (.seq none
 (.cond (.t 11)
 .skip
 (.exit 0))
 (.seq none
 (.block 1 none
 (.seq none
 (.reg [
 ⟨some 12, .mov (.t 10), none, []⟩,
 ⟨some 13, .idxA true 5 2 (.t 9) (.t 10), none, []⟩,
 ⟨some 6, .alloc [.int .u64 0, .int .u64 0], none, []⟩,
 ⟨some 5, .mov (.t 12), none, []⟩,
 ⟨none, .store 2 (.t 6) (.t 13), none, []⟩])
 (.seq none
 (.reg [
 ⟨some 15, .faddr 1 (.t 6), none, []⟩,
 ⟨some 16, .load false 1 (.t 15), none, []⟩,
 ⟨some 17, .mov (.t 4), none, []⟩,
 ⟨some 18, .call 157 [(.t 16), (.t 17), (.c (.int .u64 0))], none, []⟩,
 ⟨some 14, .mov (.t 18), none, []⟩,
 ⟨some 19, .ext (.t 14) 0, none, []⟩,
 ⟨some 20, .ext (.t 14) 1, none, []⟩,
 ⟨some 7, .mov (.t 19), none, []⟩,
 ⟨some 8, .mov (.t 20), none, []⟩])
 (.seq none
 (.reg [
 ⟨some 21, .mov (.t 5), none, []⟩,
 ⟨some 22, .mov (.t 7), none, []⟩,
 ⟨some 23, .bin .and (.t 22) (.c (.int .u64 2251799813685247)), none, []⟩,
 ⟨some 24, .faddr 0 (.t 3), none, []⟩,
 ⟨some 25, .iaddrA 5 0 (.t 24) (.t 21), none, []⟩,
 ⟨none, .store 1 (.t 25) (.t 23), none, []⟩])
 (.reg [
 ⟨some 26, .faddr 0 (.t 6), none, []⟩,
 ⟨some 27, .load false 1 (.t 26), none, []⟩,
 ⟨some 28, .mov (.t 8), none, []⟩,
 ⟨some 29, .bin .add (.t 27) (.t 28), none, []⟩,
 ⟨some 30, .bin .shl (.t 29) (.c (.int .u64 13)), none, []⟩,
 ⟨some 31, .mov (.t 7), none, []⟩,
 ⟨some 32, .bin .shr (.t 31) (.c (.int .u64 51)), none, []⟩,
 ⟨some 33, .bin .or (.t 30) (.t 32), none, []⟩,
 ⟨some 4, .mov (.t 33), none, []⟩])))))
 (.reg [
 ⟨some 34, .bin .add (.t 10) (.c (.int .i64 1)), none, []⟩,
 ⟨some 10, .mov (.t 34), none, []⟩])))))))
 (.seq none
 (.reg [
 ⟨some 35, .faddr 0 (.t 3), none, []⟩,
 ⟨some 36, .iaddrA 5 0 (.t 35) (.c (.int .i64 0)), none, []⟩,
 ⟨some 37, .load false 1 (.t 36), none, []⟩,
 ⟨some 38, .mov (.t 4), none, []⟩,
 ⟨some 39, .bin .mul (.c (.int .u64 19)) (.t 38), none, []⟩,
 ⟨some 40, .bin .add (.t 37) (.t 39), none, []⟩,
 ⟨some 41, .faddr 0 (.t 3), none, []⟩,
 ⟨some 42, .iaddrA 5 0 (.t 41) (.c (.int .i64 0)), none, []⟩,
 ⟨none, .store 1 (.t 42) (.t 40), none, []⟩])
 (.seq none
 (.reg [
 ⟨some 43, .load true 5 (.t 3), none, []⟩,
 ⟨some 44, .call 132 [(.t 43)], none, []⟩,
 ⟨none, .store 5 (.t 2) (.t 44), none, []⟩])
 .ret))))))⟩
def id_field_wide_plus : Nat := 129
def af_field_wide_plus : AFn := ⟨34, [.cell 6 true 2],
 (.seq none
 (.reg [
 ⟨some 3, .box (.t 0), none, []⟩,
 ⟨some 6, .alloc [.int .u64 0, .int .u64 0], none, []⟩])
 (.seq none
 (.reg [
 ⟨some 11, .mov (.t 1), none, []⟩,
 ⟨some 12, .mov (.t 2), none, []⟩,
 ⟨some 13, .call 158 [(.t 11), (.t 12)], none, []⟩,
 ⟨some 10, .mov (.t 13), none, []⟩,
 ⟨some 14, .ext (.t 10) 0, none, []⟩,
 ⟨some 15, .ext (.t 10) 1, none, []⟩,
 ⟨some 7, .mov (.t 14), none, []⟩,
 ⟨some 8, .mov (.t 15), none, []⟩])
 (.seq none
 (.reg [
 ⟨some 17, .mov (.t 8), none, []⟩,
 ⟨some 18, .faddr 1 (.t 3), none, []⟩,
 ⟨some 19, .load false 1 (.t 18), none, []⟩,
 ⟨some 20, .call 157 [(.t 17), (.t 19), (.c (.int .u64 0))], none, []⟩,
 ⟨some 16, .mov (.t 20), none, []⟩,
 ⟨some 21, .ext (.t 16) 0, none, []⟩,
 ⟨some 22, .ext (.t 16) 1, none, []⟩,
 ⟨some 8, .mov (.t 21), none, []⟩,
 ⟨some 9, .mov (.t 22), none, []⟩])
 (.seq none
 (.reg [
 ⟨some 24, .mov (.t 7), none, []⟩,
 ⟨some 25, .faddr 0 (.t 3), none, []⟩,
 ⟨some 26, .load false 1 (.t 25), none, []⟩,
 ⟨some 27, .mov (.t 9), none, []⟩,
 ⟨some 28, .call 157 [(.t 24), (.t 26), (.t 27)], none, []⟩,
 ⟨some 23, .mov (.t 28), none, []⟩,
 ⟨some 29, .ext (.t 23) 0, none, []⟩,
 ⟨some 30, .ext (.t 23) 1, none, []⟩,
 ⟨some 7, .mov (.t 29), none, []⟩])
 (.seq none
 (.reg [
 ⟨some 31, .mov (.t 7), none, []⟩,
 ⟨some 32, .mov (.t 8), none, []⟩,
 ⟨some 33, .build [.int .u64 0, .int .u64 0] [(0, 1, (.t 31)), (1, 1, (.t 32))], none, []⟩,
 ⟨none, .store 2 (.t 6) (.t 33), none, []⟩])
 .ret)))))⟩
def id_field_Elem_Neg : Nat := 130
def af_field_Elem_Neg : AFn := ⟨6, [.cell 2 true 5],
 (.seq none
 (.reg [
 ⟨some 1, .box (.t 0), none, []⟩,
 ⟨some 2, .alloc [.ints .u64 5 (List.replicate 5 0)], none, []⟩])
 (.seq none
 (.reg [
 ⟨some 3, .build [.ints .u64 5 (List.replicate 5 0)] [], none, []⟩,
 ⟨some 4, .load true 5 (.t 1), none, []⟩,
 ⟨some 5, .call 125 [(.t 3), (.t 4)], none, []⟩,
 ⟨none, .store 5 (.t 2) (.t 5), none, []⟩])
 .ret))⟩
def id_field_Elem_Power : Nat := 131
def af_field_Elem_Power : AFn := ⟨27, [.cell 4 true 5],
 (.seq none
 (.reg [
 ⟨some 2, .box (.t 0), none, []⟩,
 ⟨some 3, .box (.t 1), none, []⟩,
 ⟨some 4, .alloc [.ints .u64 5 (List.replicate 5 0)], none, []⟩])
 (.scope
 (.seq none
 (.reg [
 ⟨some 7, .call 98 [(.c (.int .u64 1))], none, []⟩,
 ⟨some 5, .alloc [.ints .u64 5 (List.replicate 5 0)], none, []⟩,
 ⟨none, .store 5 (.t 5) (.t 7), none, []⟩])
 (.seq none
 (.label 0)
 (.seq none
 (.seq none
 (.reg [
 ⟨some 6, .mov (.c (.int .i64 255)), none, []⟩])
 (.block 0 none
 (.loop 1000000 none
 (.seq none
 (.block 1 none
 (.seq none
 (.seq none
 (.reg [
 ⟨some 10, .mov (.t 6), none, []⟩,
 ⟨some 11, .bin .lss (.t 10) (.c (.int .i64 0)), none, []⟩])
 (.cond (.t 11)
 (.exit 0)
 .skip))
 (.seq none
 (.reg [
 ⟨some 12, .load true 5 (.t 5), none, []⟩,
 ⟨some 13, .call 124 [(.t 12)], none, []⟩,
 ⟨none, .store 5 (.t 5) (.t 13), none, []⟩])
 (.seq none
 (.reg [
 ⟨some 14, .mov (.t 6), none, []⟩,
 ⟨some 15, .bin .shr (.t 14) (.c (.int .u64 3)), none, []⟩,
 ⟨some 16, .iaddrA 32 0 (.t 3) (.t 15), none, []⟩,
 ⟨some 17, .load false 1 (.t 16), none, []⟩,
 ⟨some 18, .mov (.t 6), none, []⟩,
 ⟨some 19, .bin .and (.t 18) (.c (.int .i64 7)), none, []⟩,
 ⟨some 20, .bin .shr (.t 17) (.t 19), none, []⟩,
 ⟨some 21, .bin .and (.t 20) (.c (.int .u8 1)), none, []⟩,
 ⟨some 22, .bin .eql (.t 21) (.c (.int .u8 1)), none, []⟩])
 (.cond (.t 22)
 (.reg [
 ⟨some 23, .load true 5 (.t 5), none, []⟩,
 ⟨some 24, .load true 5 (.t 2), none, []⟩,
 ⟨some 25, .call 101 [(.t 23), (.t 24)], none, []⟩,
 ⟨none, .store 5 (.t 5) (.t 25), none, []⟩])
 .skip)))))
 (.reg [
 ⟨some 8, .mov (.t 6), none, []⟩,
 ⟨some 9, .bin .sub (.t 8) (.c (.int .i64 1)), none, []⟩,
 ⟨some 6, .mov (.t 9), none, []⟩])))))
 (.seq none
 (.reg [
 ⟨some 26, .load true 5 (.t 5), none, []⟩,
 ⟨none, .store 5 (.t 4) (.t 26), none, []⟩])
 .ret))))))⟩
def id_field_Elem_carry : Nat := 132
def af_field_Elem_carry : AFn := ⟨48, [.cell 2 true 5],
 (.seq none
 (.reg [
 ⟨some 1, .box (.t 0), none, []⟩,
 ⟨some 2, .alloc [.ints .u64 5 (List.replicate 5 0)], none, []⟩])
 (.seq none
 (.reg [
 ⟨some 5, .faddr 0 (.t 1), none, []⟩,
 ⟨some 6, .iaddrA 5 0 (.t 5) (.c (.int .i64 4)), none, []⟩,
 ⟨some 7, .load false 1 (.t 6), none, []⟩,
 ⟨some 8, .bin .shr (.t 7) (.c (.int .u64 51)), none, []⟩,
 ⟨some 3, .mov (.t 8), none, []⟩])
 (.seq none
 (.reg [
 ⟨some 9, .faddr 0 (.t 1), none, []⟩,
 ⟨some 10, .iaddrA 5 0 (.t 9) (.c (.int .i64 4)), none, []⟩,
 ⟨some 11, .load false 1 (.t 10), none, []⟩,
 ⟨some 12, .bin .and (.t 11) (.c (.int .u64 2251799813685247)), none, []⟩,
 ⟨some 13, .faddr 0 (.t 1), none, []⟩,
 ⟨some 14, .iaddrA 5 0 (.t 13) (.c (.int .i64 4)), none, []⟩,
 ⟨none, .store 1 (.t 14) (.t 12), none, []⟩])
 (.seq none
 (.reg [
 ⟨some 15, .faddr 0 (.t 1), none, []⟩,
 ⟨some 16, .iaddrA 5 0 (.t 15) (.c (.int .i64 0)), none, []⟩,
 ⟨some 17, .load false 1 (.t 16), none, []⟩,
 ⟨some 18, .mov (.t 3), none, []⟩,
 ⟨some 19, .bin .mul (.c (.int .u64 19)) (.t 18), none, []⟩,
 ⟨some 20, .bin .add (.t 17) (.t 19), none, []⟩,
 ⟨some 21, .faddr 0 (.t 1), none, []⟩,
 ⟨some 22, .iaddrA 5 0 (.t 21) (.c (.int .i64 0)), none, []⟩,
 ⟨none, .store 1 (.t 22) (.t 20), none, []⟩])
 (.seq none
 (.seq none
 (.reg [
 ⟨some 23, .mov (.c (.int .i64 0)), none, []⟩])
 (.block 0 none
 (.loop 1000000 none
 (.seq none
 (.reg [
 ⟨some 24, .bin .lss (.t 23) (.c (.int .i64 4)), none, []⟩])
 (.seq none
 (.cond (.t 24)
 .skip
 (.exit 0))
 (.seq none
 (.block 1 none
 (.seq none
 (.reg [
 ⟨some 25, .mov (.t 23), none, []⟩,
 ⟨some 4, .mov (.t 25), none, []⟩])
 (.seq none
 (.draw [
 ⟨some 26, .mov (.t 4), none, []⟩,
 ⟨some 27, .bin .add (.t 26) (.c (.int .i64 1)), none, [0]⟩,
 ⟨some 28, .faddr 0 (.t 1), none, []⟩,
 ⟨some 29, .iaddrA 5 0 (.t 28) (.t 27), none, [2, 1]⟩,
 ⟨some 30, .load false 1 (.t 29), none, [3]⟩,
 ⟨some 31, .mov (.t 4), none, []⟩,
 ⟨some 32, .faddr 0 (.t 1), none, []⟩,
 ⟨some 33, .iaddrA 5 0 (.t 32) (.t 31), none, [6, 5]⟩,
 ⟨some 34, .load false 1 (.t 33), none, [7]⟩,
 ⟨some 35, .bin .shr (.t 34) (.c (.int .u64 51)), none, [8]⟩,
 ⟨some 36, .bin .add (.t 30) (.t 35), none, [4, 9]⟩,
 ⟨some 37, .faddr 0 (.t 1), none, []⟩,
 ⟨some 38, .iaddrA 5 0 (.t 37) (.t 27), none, [11, 1, 0, 1, 2, 3, 4, 5, 6, 7, 8, 9, 10]⟩,
 ⟨none, .store 1 (.t 38) (.t 36), none, [12, 10, 0, 1, 2, 3, 4, 5, 6, 7, 8, 9, 10]⟩])
 (.reg [
 ⟨some 39, .mov (.t 4), none, []⟩,
 ⟨some 40, .faddr 0 (.t 1), none, []⟩,
 ⟨some 41, .iaddrA 5 0 (.t 40) (.t 39), none, []⟩,
 ⟨some 42, .load false 1 (.t 41), none, []⟩,
 ⟨some 43, .bin .and (.t 42) (.c (.int .u64 2251799813685247)), none, []⟩,
 ⟨some 44, .faddr 0 (.t 1), none, []⟩,
 ⟨some 45, .iaddrA 5 0 (.t 44) (.t 39), none, []⟩,
 ⟨none, .store 1 (.t 45) (.t 43), none, []⟩]))))
 (.reg [
 ⟨some 46, .bin .add (.t 23) (.c (.int .i64 1)), none, []⟩,
 ⟨some 23, .mov (.t 46), none, []⟩])))))))
 (.seq none
 (.reg [
 ⟨some 47, .load true 5 (.t 1), none, []⟩,
 ⟨none, .store 5 (.t 2) (.t 47), none, []⟩])
 .ret))))))⟩
def id_sha_Hash_write : Nat := 133
def af_sha_Hash_write : AFn := ⟨56, [],
 (.seq none
 (.reg [
 ⟨some 6, .mov (.t 0), none, []⟩,
 ⟨some 7, .nilChk (.t 6), none, []⟩,
 ⟨some 8, .faddr 73 (.t 7), none, []⟩,
 ⟨some 9, .load false 1 (.t 8), none, []⟩,
 ⟨some 10, .bin .rem (.t 9) (.c (.int .i64 64)), none, []⟩,
 ⟨some 4, .mov (.t 10), none, []⟩])
 (.seq none
 (.reg [
 ⟨some 11, .mov (.t 0), none, []⟩,
 ⟨some 12, .nilChk (.t 11), none, []⟩,
 ⟨some 13, .faddr 73 (.t 12), none, []⟩,
 ⟨some 14, .load false 1 (.t 13), none, []⟩,
 ⟨some 15, .mov (.t 1), none, []⟩,
 ⟨some 16, .len false (.t 15), none, []⟩,
 ⟨some 17, .bin .add (.t 14) (.t 16), none, []⟩,
 ⟨some 18, .nilChk (.t 11), none, []⟩,
 ⟨some 19, .faddr 73 (.t 18), none, []⟩,
 ⟨none, .store 1 (.t 19) (.t 17), none, []⟩])
 (.seq none
 (.seq none
 (.reg [
 ⟨some 20, .mov (.t 4), none, []⟩,
 ⟨some 21, .bin .gtr (.t 20) (.c (.int .i64 0)), none, []⟩])
 (.cond (.t 21)
 (.seq none
 (.reg [
 ⟨some 22, .mov (.t 0), none, []⟩,
 ⟨some 23, .nilChk (.t 22), none, []⟩,
 ⟨some 24, .faddr 9 (.t 23), none, []⟩,
 ⟨some 25, .mov (.t 4), none, []⟩,
 ⟨some 26, .slArr 64 0 (.t 24) (some (.t 25)) none none, none, []⟩,
 ⟨some 27, .mov (.t 1), none, []⟩,
 ⟨some 28, .copyI (.t 26) (.t 27), none, []⟩,
 ⟨some 5, .mov (.t 28), none, []⟩])
 (.seq none
 (.reg [
 ⟨some 29, .mov (.t 1), none, []⟩,
 ⟨some 30, .mov (.t 5), none, []⟩,
 ⟨some 31, .slSlice 1 (.t 29) (some (.t 30)) none none, none, []⟩,
 ⟨some 1, .mov (.t 31), none, []⟩])
 (.seq none
 (.seq none
 (.reg [
 ⟨some 32, .mov (.t 4), none, []⟩,
 ⟨some 33, .mov (.t 5), none, []⟩,
 ⟨some 34, .bin .add (.t 32) (.t 33), none, []⟩,
 ⟨some 35, .bin .lss (.t 34) (.c (.int .i64 64)), none, []⟩])
 (.cond (.t 35)
 .ret
 .skip))
 (.reg [
 ⟨some 36, .mov (.t 0), none, []⟩,
 ⟨some 37, .mov (.t 0), none, []⟩,
 ⟨some 38, .nilChk (.t 37), none, []⟩,
 ⟨some 39, .faddr 9 (.t 38), none, []⟩,
 ⟨some 40, .slArr 64 0 (.t 39) none none none, none, []⟩,
 ⟨some 41, .call 159 [(.t 36), (.t 40)], none, []⟩]))))
 .skip))
 (.seq none
 (.block 0 none
 (.loop 1000000 none
 (.seq none
 (.seq none
 (.reg [
 ⟨some 42, .mov (.t 1), none, []⟩,
 ⟨some 43, .len false (.t 42), none, []⟩,
 ⟨some 44, .bin .geq (.t 43) (.c (.int .i64 64)), none, []⟩])
 (.cond (.t 44)
 .skip
 (.exit 0)))
 (.seq none
 (.block 1 none
 (.reg [
 ⟨some 47, .mov (.t 0), none, []⟩,
 ⟨some 48, .mov (.t 1), none, []⟩,
 ⟨some 49, .call 159 [(.t 47), (.t 48)], none, []⟩]))
 (.reg [
 ⟨some 45, .mov (.t 1), none, []⟩,
 ⟨some 46, .slSlice 1 (.t 45) (some (.c (.int .i64 64))) none none, none, []⟩,
 ⟨some 1, .mov (.t 46), none, []⟩])))))
 (.reg [
 ⟨some 50, .mov (.t 0), none, []⟩,
 ⟨some 51, .nilChk (.t 50), none, []⟩,
 ⟨some 52, .faddr 9 (.t 51), none, []⟩,
 ⟨some 53, .slArr 64 0 (.t 52) none none none, none, []⟩,
 ⟨some 54, .mov (.t 1), none, []⟩,
 ⟨some 55, .copyI (.t 53) (.t 54), none, []⟩])))))⟩
def id_sha_words : Nat := 134
def af_sha_words : AFn := ⟨41, [.t 2],
 (.seq none
 (.reg [
 ⟨some 2, .mov (.c (.nils)), none, []⟩])
 (.seq none
 (.reg [
 ⟨some 3, .mov (.c (.nils)), none, []⟩])
 (.seq none
 (.seq none
 (.reg [
 ⟨some 7, .mov (.t 0), none, []⟩,
 ⟨some 8, .rangeS (.t 7), none, []⟩])
 (.block 0 none
 (.loop 1000000 none
 (.seq none
 (.reg [
 ⟨some 9, .nextS (.t 8), none, []⟩,
 ⟨some 10, .ext (.t 9) 0, none, []⟩])
 (.seq none
 (.cond (.t 10)
 .skip
 (.exit 0))
 (.block 1 none
 (.seq none
 (.reg [
 ⟨some 11, .ext (.t 9) 1, none, []⟩,
 ⟨some 12, .ext (.t 9) 2, none, []⟩,
 ⟨some 4, .mov (.t 11), none, []⟩,
 ⟨some 5, .mov (.t 12), none, []⟩])
 (.seq none
 (.seq none
 (.reg [
 ⟨some 13, .mov (.t 4), none, []⟩,
 ⟨some 14, .bin .rem (.t 13) (.c (.int .i64 8)), none, []⟩,
 ⟨some 15, .bin .eql (.t 14) (.c (.int .i64 0)), none, []⟩])
 (.cond (.t 15)
 (.reg [
 ⟨some 16, .mov (.t 3), none, []⟩,
 ⟨some 17, .bslice [.ints .u32 1 (List.replicate 1 0)] 1 0 [(0, 1, (.c (.int .u32 0)))], none, []⟩,
 ⟨some 18, .appendI .u32 4 (.t 16) (.t 17), none, []⟩,
 ⟨some 3, .mov (.t 18), none, []⟩])
 .skip))
 (.seq none
 (.reg [
 ⟨some 19, .mov (.t 5), none, []⟩,
 ⟨some 20, .bin .sub (.t 19) (.c (.int .i32 48)), none, []⟩,
 ⟨some 21, .toInt .u32 (.t 20), none, []⟩,
 ⟨some 6, .mov (.t 21), none, []⟩])
 (.seq none
 (.seq none
 (.reg [
 ⟨some 22, .mov (.t 5), none, []⟩,
 ⟨some 23, .bin .geq (.t 22) (.c (.int .i32 97)), none, []⟩])
 (.cond (.t 23)
 (.reg [
 ⟨some 24, .mov (.t 5), none, []⟩,
 ⟨some 25, .bin .sub (.t 24) (.c (.int .i32 97)), none, []⟩,
 ⟨some 26, .toInt .u32 (.t 25), none, []⟩,
 ⟨some 27, .bin .add (.t 26) (.c (.int .u32 10)), none, []⟩,
 ⟨some 6, .mov (.t 27), none, []⟩])
 .skip))
 (.reg [
 ⟨some 28, .mov (.t 3), none, []⟩,
 ⟨some 29, .mov (.t 4), none, []⟩,
 ⟨some 30, .bin .quo (.t 29) (.c (.int .i64 8)), none, []⟩,
 ⟨some 31, .mov (.t 3), none, []⟩,
 ⟨some 32, .mov (.t 4), none, []⟩,
 ⟨some 33, .bin .quo (.t 32) (.c (.int .i64 8)), none, []⟩,
 ⟨some 34, .iaddrS 1 (.t 31) (.t 33), none, []⟩,
 ⟨some 35, .load false 1 (.t 34), none, []⟩,
 ⟨some 36, .bin .shl (.t 35) (.c (.int .u64 4)), none, []⟩,
 ⟨some 37, .mov (.t 6), none, []⟩,
 ⟨some 38, .bin .or (.t 36) (.t 37), none, []⟩,
 ⟨some 39, .iaddrS 1 (.t 28) (.t 30), none, []⟩,
 ⟨none, .store 1 (.t 39) (.t 38), none, []⟩])))))))))))
 (.seq none
 (.reg [
 ⟨some 40, .mov (.t 3), none, []⟩,
 ⟨some 2, .mov (.t 40), none, []⟩])
 .ret))))⟩
def id_sha_Hash_Copy : Nat := 135
def af_sha_Hash_Copy : AFn := ⟨9, [.t 2],
 (.seq none
 (.reg [
 ⟨some 2, .mov (.c (.nilp)), none, []⟩])
 (.seq none
 (.seq none
 (.reg [
 ⟨some 4, .mov (.t 0), none, []⟩,
 ⟨some 5, .eqv false .ptr (.t 4) (.c (.nilp)), none, []⟩])
 (.cond (.t 5)
 (.seq none
 (.reg [
 ⟨some 2, .mov (.c (.nilp)), none, []⟩])
 .ret)
 .skip))
 (.seq none
 (.reg [
 ⟨some 6, .mov (.t 0), none, []⟩,
 ⟨some 7, .nilChk (.t 6), none, []⟩,
 ⟨some 8, .load true 74 (.t 7), none, []⟩,
 ⟨some 3, .alloc [.ints .u32 8 (List.replicate 8 0), .nils, .ints .u8 64 (List.replicate 64 0), .int .i64 0], none, []⟩,
 ⟨none, .store 74 (.t 3) (.t 8), none, []⟩])
 (.seq none
 (.reg [
 ⟨some 2, .mov (.t 3), none, []⟩])
 .ret))))⟩
def id_sha_Pad : Nat := 136
def af_sha_Pad : AFn := ⟨36, [.t 2],
 (.seq none
 (.reg [
 ⟨some 2, .mov (.c (.nils)), none, []⟩])
 (.seq none
 (.seq none
 (.reg [
 ⟨some 6, .mov (.t 0), none, []⟩,
 ⟨some 7, .bin .lss (.t 6) (.c (.int .i64 0)), none, []⟩])
 (.cond (.t 7)
 (.seq none
 (.reg [
 ⟨some 2, .mov (.c (.nils)), none, []⟩])
 .ret)
 .skip))
 (.seq none
 (.reg [
 ⟨some 8, .mov (.t 0), none, []⟩,
 ⟨some 9, .bin .add (.t 8) (.c (.int .i64 8)), none, []⟩,
 ⟨some 10, .bin .rem (.t 9) (.c (.int .i64 64)), none, []⟩,
 ⟨some 11, .bin .sub (.c (.int .i64 64)) (.t 10), none, []⟩,
 ⟨some 12, .bin .add (.t 11) (.c (.int .i64 8)), none, []⟩,
 ⟨some 13, .mksliceI .u8 1 (.t 12) (.t 12), none, []⟩,
 ⟨some 3, .mov (.t 13), none, []⟩])
 (.seq none
 (.reg [
 ⟨some 14, .mov (.t 3), none, []⟩,
 ⟨some 15, .iaddrS 1 (.t 14) (.c (.int .i64 0)), none, []⟩,
 ⟨none, .store 1 (.t 15) (.c (.int .u8 128)), none, []⟩])
 (.seq none
 (.reg [
 ⟨some 16, .mov (.t 0), none, []⟩,
 ⟨some 17, .toInt .u64 (.t 16), none, []⟩,
 ⟨some 18, .bin .shl (.t 17) (.c (.int .u64 3)), none, []⟩,
 ⟨some 4, .mov (.t 18), none, []⟩])
 (.seq none
 (.seq none
 (.reg [
 ⟨some 19, .mov (.c (.int .i64 0)), none, []⟩])
 (.block 0 none
 (.loop 1000000 none
 (.seq none
 (.reg [
 ⟨some 20, .bin .lss (.t 19) (.c (.int .i64 8)), none, []⟩])
 (.seq none
 (.cond (.t 20)
 .skip
 (.exit 0))
 (.seq none
 (.block 1 none
 (.seq none
 (.reg [
 ⟨some 21, .mov (.t 19), none, []⟩,
 ⟨some 5, .mov (.t 21), none, []⟩])
 (.reg [
 ⟨some 22, .mov (.t 3), none, []⟩,
 ⟨some 23, .mov (.t 3), none, []⟩,
 ⟨some 24, .len false (.t 23), none, []⟩,
 ⟨some 25, .bin .sub (.t 24) (.c (.int .i64 1)), none, []⟩,
 ⟨some 26, .mov (.t 5), none, []⟩,
 ⟨some 27, .bin .sub (.t 25) (.t 26), none, []⟩,
 ⟨some 28, .mov (.t 4), none, []⟩,
 ⟨some 29, .mov (.t 5), none, []⟩,
 ⟨some 30, .bin .mul (.c (.int .i64 8)) (.t 29), none, []⟩,
 ⟨some 31, .bin .shr (.t 28) (.t 30), none, []⟩,
 ⟨some 32, .toInt .u8 (.t 31), none, []⟩,
 ⟨some 33, .iaddrS 1 (.t 22) (.t 27), none, []⟩,
 ⟨none, .store 1 (.t 33) (.t 32), none, []⟩])))
 (.reg [
 ⟨some 34, .bin .add (.t 19) (.c (.int .i64 1)), none, []⟩,
 ⟨some 19, .mov (.t 34), none, []⟩])))))))
 (.seq none
 (.reg [
 ⟨some 35, .mov (.t 3), none, []⟩,
 ⟨some 2, .mov (.t 35), none, []⟩])
 .ret)))))))⟩
def id_chacha_state : Nat := 137
def af_chacha_state : AFn := ⟨35, [.cell 6 true 16],
 (.seq none
 (.reg [
 ⟨some 3, .box (.t 0), none, []⟩,
 ⟨some 5, .box (.t 2), none, []⟩,
 ⟨some 6, .alloc [.ints .u32 16 (List.replicate 16 0)], none, []⟩])
 (.seq none
 (.reg [
 ⟨some 10, .mov (.t 1), none, []⟩,
 ⟨some 11, .build [.ints .u32 16 (List.replicate 16 0)] [(0, 1, (.c (.int .u32 1634760805))), (1, 1, (.c (.int .u32 857760878))), (2, 1, (.c (.int .u32 2036477234))), (3, 1, (.c (.int .u32 1797285236))), (12, 1, (.t 10))], none, []⟩,
 ⟨some 7, .alloc [.ints .u32 16 (List.replicate 16 0)], none, []⟩,
 ⟨none, .store 16 (.t 7) (.t 11), none, []⟩])
 (.seq none
 (.seq none
 (.reg [
 ⟨some 12, .mov (.c (.int .i64 0)), none, []⟩])
 (.block 0 none
 (.loop 1000000 none
 (.seq none
 (.reg [
 ⟨some 13, .bin .lss (.t 12) (.c (.int .i64 8)), none, []⟩])
 (.seq none
 (.cond (.t 13)
 .skip
 (.exit 0))
 (.seq none
 (.block 1 none
 (.seq none
 (.reg [
 ⟨some 14, .mov (.t 12), none, []⟩,
 ⟨some 8, .mov (.t 14), none, []⟩])
 (.reg [
 ⟨some 15, .mov (.t 8), none, []⟩,
 ⟨some 16, .bin .add (.c (.int .i64 4)) (.t 15), none, []⟩,
 ⟨some 17, .mov (.t 8), none, []⟩,
 ⟨some 18, .bin .mul (.c (.int .i64 4)) (.t 17), none, []⟩,
 ⟨some 19, .slArr 32 0 (.t 3) (some (.t 18)) none none, none, []⟩,
 ⟨some 20, .call 160 [(.t 19)], none, []⟩,
 ⟨some 21, .iaddrA 16 0 (.t 7) (.t 16), none, []⟩,
 ⟨none, .store 1 (.t 21) (.t 20), none, []⟩])))
 (.reg [
 ⟨some 22, .bin .add (.t 12) (.c (.int .i64 1)), none, []⟩,
 ⟨some 12, .mov (.t 22), none, []⟩])))))))
 (.seq none
 (.seq none
 (.reg [
 ⟨some 23, .mov (.c (.int .i64 0)), none, []⟩])
 (.block 2 none
 (.loop 1000000 none
 (.seq none
 (.reg [
 ⟨some 24, .bin .lss (.t 23) (.c (.int .i64 3)), none, []⟩])
 (.seq none
 (.cond (.t 24)
 .skip
 (.exit 2))
 (.seq none
 (.block 3 none
 (.seq none
 (.reg [
 ⟨some 25, .mov (.t 23), none, []⟩,
 ⟨some 9, .mov (.t 25), none, []⟩])
 (.reg [
 ⟨some 26, .mov (.t 9), none, []⟩,
 ⟨some 27, .bin .add (.c (.int .i64 13)) (.t 26), none, []⟩,
 ⟨some 28, .mov (.t 9), none, []⟩,
 ⟨some 29, .bin .mul (.c (.int .i64 4)) (.t 28), none, []⟩,
 ⟨some 30, .slArr 12 0 (.t 5) (some (.t 29)) none none, none, []⟩,
 ⟨some 31, .call 160 [(.t 30)], none, []⟩,
 ⟨some 32, .iaddrA 16 0 (.t 7) (.t 27), none, []⟩,
 ⟨none, .store 1 (.t 32) (.t 31), none, []⟩])))
 (.reg [
 ⟨some 33, .bin .add (.t 23) (.c (.int .i64 1)), none, []⟩,
 ⟨some 23, .mov (.t 33), none, []⟩])))))))
 (.seq none
 (.reg [
 ⟨some 34, .load true 16 (.t 7), none, []⟩,
 ⟨none, .store 16 (.t 6) (.t 34), none, []⟩])
 .ret)))))⟩
def id_chacha_Block_1 : Nat := 138
def af_chacha_Block_1 : AFn := ⟨35, [],
 (.draw [
 ⟨some 10, .mov (.t 0), none, []⟩,
 ⟨some 11, .mov (.t 1), none, []⟩,
 ⟨some 12, .mov (.t 2), none, []⟩,
 ⟨some 13, .mov (.t 3), none, []⟩,
 ⟨some 14, .mov (.t 0), none, []⟩,
 ⟨some 15, .iaddrA 16 0 (.t 4) (.t 14), none, [4]⟩,
 ⟨some 16, .load false 1 (.t 15), none, [5]⟩,
 ⟨some 17, .mov (.t 1), none, []⟩,
 ⟨some 18, .iaddrA 16 0 (.t 4) (.t 17), none, [7]⟩,
 ⟨some 19, .load false 1 (.t 18), none, [8]⟩,
 ⟨some 20, .mov (.t 2), none, []⟩,
 ⟨some 21, .iaddrA 16 0 (.t 4) (.t 20), none, [10]⟩,
 ⟨some 22, .load false 1 (.t 21), none, [11]⟩,
 ⟨some 23, .mov (.t 3), none, []⟩,
 ⟨some 24, .iaddrA 16 0 (.t 4) (.t 23), none, [13]⟩,
 ⟨some 25, .load false 1 (.t 24), none, [14]⟩,
 ⟨some 26, .call 139 [(.t 16), (.t 19), (.t 22), (.t 25)], none, [6, 9, 12, 15]⟩,
 ⟨some 9, .mov (.t 26), none, [16]⟩,
 ⟨some 27, .ext (.t 9) 0, none, [17]⟩,
 ⟨some 28, .ext (.t 9) 1, none, [17]⟩,
 ⟨some 29, .ext (.t 9) 2, none, [17]⟩,
 ⟨some 30, .ext (.t 9) 3, none, [17]⟩,
 ⟨some 31, .iaddrA 16 0 (.t 4) (.t 10), none, [0, 0, 4, 5, 6, 7, 8, 9, 10, 11, 12, 13, 14, 15, 16, 17, 18]⟩,
 ⟨none, .store 1 (.t 31) (.t 27), none, [22, 18, 16, 0, 4, 5, 6, 7, 8, 9, 10, 11, 12, 13, 14, 15, 16, 17, 18]⟩,
 ⟨some 32, .iaddrA 16 0 (.t 4) (.t 11), none, [1, 0, 1, 4, 5, 6, 7, 8, 9, 10, 11, 12, 13, 14, 15, 16, 17, 18, 19, 22, 23]⟩,
 ⟨none, .store 1 (.t 32) (.t 28), none, [24, 19, 23, 0, 1, 4, 5, 6, 7, 8, 9, 10, 11, 12, 13, 14, 15, 16, 17, 18, 19, 22, 23]⟩,
 ⟨some 33, .iaddrA 16 0 (.t 4) (.t 12), none, [2, 0, 1, 2, 4, 5, 6, 7, 8, 9, 10, 11, 12, 13, 14, 15, 16, 17, 18, 19, 20, 22, 23, 24, 25]⟩,
 ⟨none, .store 1 (.t 33) (.t 29), none, [26, 20, 25, 0, 1, 2, 4, 5, 6, 7, 8, 9, 10, 11, 12, 13, 14, 15, 16, 17, 18, 19, 20, 22, 23, 24, 25]⟩,
 ⟨some 34, .iaddrA 16 0 (.t 4) (.t 13), none, [3, 0, 1, 2, 3, 4, 5, 6, 7, 8, 9, 10, 11, 12, 13, 14, 15, 16, 17, 18, 19, 20, 21, 22, 23, 24, 25, 26, 27]⟩,
 ⟨none, .store 1 (.t 34) (.t 30), none, [28, 21, 27, 0, 1, 2, 3, 4, 5, 6, 7, 8, 9, 10, 11, 12, 13, 14, 15, 16, 17, 18, 19, 20, 21, 22, 23, 24, 25, 26, 27]⟩])⟩
def id_chacha_Quarter : Nat := 139
def af_chacha_Quarter : AFn := ⟨60, [.t 8, .t 9, .t 10, .t 11],
 (.seq none
 (.reg [
 ⟨some 8, .mov (.c (.int .u32 0)), none, []⟩,
 ⟨some 9, .mov (.c (.int .u32 0)), none, []⟩,
 ⟨some 10, .mov (.c (.int .u32 0)), none, []⟩,
 ⟨some 11, .mov (.c (.int .u32 0)), none, []⟩])
 (.seq none
 (.reg [
 ⟨some 12, .mov (.t 0), none, []⟩,
 ⟨some 13, .mov (.t 1), none, []⟩,
 ⟨some 14, .bin .add (.t 12) (.t 13), none, []⟩,
 ⟨some 0, .mov (.t 14), none, []⟩])
 (.seq none
 (.reg [
 ⟨some 15, .mov (.t 3), none, []⟩,
 ⟨some 16, .mov (.t 0), none, []⟩,
 ⟨some 17, .bin .xor (.t 15) (.t 16), none, []⟩,
 ⟨some 3, .mov (.t 17), none, []⟩])
 (.seq none
 (.reg [
 ⟨some 18, .mov (.t 3), none, []⟩,
 ⟨some 19, .bin .shl (.t 18) (.c (.int .u64 16)), none, []⟩,
 ⟨some 20, .mov (.t 3), none, []⟩,
 ⟨some 21, .bin .shr (.t 20) (.c (.int .u64 16)), none, []⟩,
 ⟨some 22, .bin .or (.t 19) (.t 21), none, []⟩,
 ⟨some 3, .mov (.t 22), none, []⟩])
 (.seq none
 (.reg [
 ⟨some 23, .mov (.t 2), none, []⟩,
 ⟨some 24, .mov (.t 3), none, []⟩,
 ⟨some 25, .bin .add (.t 23) (.t 24), none, []⟩,
 ⟨some 2, .mov (.t 25), none, []⟩])
 (.seq none
 (.reg [
 ⟨some 26, .mov (.t 1), none, []⟩,
 ⟨some 27, .mov (.t 2), none, []⟩,
 ⟨some 28, .bin .xor (.t 26) (.t 27), none, []⟩,
 ⟨some 1, .mov (.t 28), none, []⟩])
 (.seq none
 (.reg [
 ⟨some 29, .mov (.t 1), none, []⟩,
 ⟨some 30, .bin .shl (.t 29) (.c (.int .u64 12)), none, []⟩,
 ⟨some 31, .mov (.t 1), none, []⟩,
 ⟨some 32, .bin .shr (.t 31) (.c (.int .u64 20)), none, []⟩,
 ⟨some 33, .bin .or (.t 30) (.t 32), none, []⟩,
 ⟨some 1, .mov (.t 33), none, []⟩])
 (.seq none
 (.reg [
 ⟨some 34, .mov (.t 0), none, []⟩,
 ⟨some 35, .mov (.t 1), none, []⟩,
 ⟨some 36, .bin .add (.t 34) (.t 35), none, []⟩,
 ⟨some 0, .mov (.t 36), none, []⟩])
 (.seq none
 (.reg [
 ⟨some 37, .mov (.t 3), none, []⟩,
 ⟨some 38, .mov (.t 0), none, []⟩,
 ⟨some 39, .bin .xor (.t 37) (.t 38), none, []⟩,
 ⟨some 3, .mov (.t 39), none, []⟩])
 (.seq none
 (.reg [
 ⟨some 40, .mov (.t 3), none, []⟩,
 ⟨some 41, .bin .shl (.t 40) (.c (.int .u64 8)), none, []⟩,
 ⟨some 42, .mov (.t 3), none, []⟩,
 ⟨some 43, .bin .shr (.t 42) (.c (.int .u64 24)), none, []⟩,
 ⟨some 44, .bin .or (.t 41) (.t 43), none, []⟩,
 ⟨some 3, .mov (.t 44), none, []⟩])
 (.seq none
 (.reg [
 ⟨some 45, .mov (.t 2), none, []⟩,
 ⟨some 46, .mov (.t 3), none, []⟩,
 ⟨some 47, .bin .add (.t 45) (.t 46), none, []⟩,
 ⟨some 2, .mov (.t 47), none, []⟩])
 (.seq none
 (.reg [
 ⟨some 48, .mov (.t 1), none, []⟩,
 ⟨some 49, .mov (.t 2), none, []⟩,
 ⟨some 50, .bin .xor (.t 48) (.t 49), none, []⟩,
 ⟨some 1, .mov (.t 50), none, []⟩])
 (.seq none
 (.reg [
 ⟨some 51, .mov (.t 1), none, []⟩,
 ⟨some 52, .bin .shl (.t 51) (.c (.int .u64 7)), none, []⟩,
 ⟨some 53, .mov (.t 1), none, []⟩,
 ⟨some 54, .bin .shr (.t 53) (.c (.int .u64 25)), none, []⟩,
 ⟨some 55, .bin .or (.t 52) (.t 54), none, []⟩,
 ⟨some 1, .mov (.t 55), none, []⟩])
 (.seq none
 (.reg [
 ⟨some 56, .mov (.t 0), none, []⟩,
 ⟨some 57, .mov (.t 1), none, []⟩,
 ⟨some 58, .mov (.t 2), none, []⟩,
 ⟨some 59, .mov (.t 3), none, []⟩,
 ⟨some 8, .mov (.t 56), none, []⟩,
 ⟨some 9, .mov (.t 57), none, []⟩,
 ⟨some 10, .mov (.t 58), none, []⟩,
 ⟨some 11, .mov (.t 59), none, []⟩])
 .ret))))))))))))))⟩
def id_poly_Clamp : Nat := 140
def af_poly_Clamp : AFn := ⟨33, [.cell 2 true 16],
 (.seq none
 (.reg [
 ⟨some 1, .box (.t 0), none, []⟩,
 ⟨some 2, .alloc [.ints .u8 16 (List.replicate 16 0)], none, []⟩])
 (.seq none
 (.reg [
 ⟨some 5, .slArr 32 0 (.t 1) none (some (.c (.int .i64 16))) none, none, []⟩,
 ⟨some 6, .arrPtr 16 (.t 5), none, []⟩,
 ⟨some 7, .load true 16 (.t 6), none, []⟩,
 ⟨some 3, .alloc [.ints .u8 16 (List.replicate 16 0)], none, []⟩,
 ⟨none, .store 16 (.t 3) (.t 7), none, []⟩])
 (.seq none
 (.seq none
 (.reg [
 ⟨some 8, .mov (.c (.int .i64 0)), none, []⟩])
 (.block 0 none
 (.loop 1000000 none
 (.seq none
 (.reg [
 ⟨some 9, .bin .lss (.t 8) (.c (.int .i64 16)), none, []⟩])
 (.seq none
 (.cond (.t 9)
 .skip
 (.exit 0))
 (.seq none
 (.block 1 none
 (.seq none
 (.reg [
 ⟨some 10, .mov (.t 8), none, []⟩,
 ⟨some 4, .mov (.t 10), none, []⟩])
 (.seq none
 (.reg [
 ⟨some 11, .mov (.t 4), none, []⟩])
 (.block 2 none
 (.seq none
 (.seq none
 (.reg [
 ⟨some 13, .bin .eql (.t 11) (.c (.int .i64 3)), none, []⟩,
 ⟨some 12, .mov (.t 13), none, []⟩])
 (.cond (.t 12)
 .skip
 (.seq none
 (.reg [
 ⟨some 14, .bin .eql (.t 11) (.c (.int .i64 7)), none, []⟩,
 ⟨some 12, .mov (.t 14), none, []⟩])
 (.cond (.t 12)
 .skip
 (.seq none
 (.reg [
 ⟨some 15, .bin .eql (.t 11) (.c (.int .i64 11)), none, []⟩,
 ⟨some 12, .mov (.t 15), none, []⟩])
 (.cond (.t 12)
 .skip
 (.reg [
 ⟨some 16, .bin .eql (.t 11) (.c (.int .i64 15)), none, []⟩,
 ⟨some 12, .mov (.t 16), none, []⟩])))))))
 (.cond (.t 12)
 (.reg [
 ⟨some 17, .mov (.t 4), none, []⟩,
 ⟨some 18, .iaddrA 16 0 (.t 3) (.t 17), none, []⟩,
 ⟨some 19, .load false 1 (.t 18), none, []⟩,
 ⟨some 20, .bin .and (.t 19) (.c (.int .u8 15)), none, []⟩,
 ⟨some 21, .iaddrA 16 0 (.t 3) (.t 17), none, []⟩,
 ⟨none, .store 1 (.t 21) (.t 20), none, []⟩])
 (.seq none
 (.seq none
 (.reg [
 ⟨some 23, .bin .eql (.t 11) (.c (.int .i64 4)), none, []⟩,
 ⟨some 22, .mov (.t 23), none, []⟩])
 (.cond (.t 22)
 .skip
 (.seq none
 (.reg [
 ⟨some 24, .bin .eql (.t 11) (.c (.int .i64 8)), none, []⟩,
 ⟨some 22, .mov (.t 24), none, []⟩])
 (.cond (.t 22)
 .skip
 (.reg [
 ⟨some 25, .bin .eql (.t 11) (.c (.int .i64 12)), none, []⟩,
 ⟨some 22, .mov (.t 25), none, []⟩])))))
 (.cond (.t 22)
 (.reg [
 ⟨some 26, .mov (.t 4), none, []⟩,
 ⟨some 27, .iaddrA 16 0 (.t 3) (.t 26), none, []⟩,
 ⟨some 28, .load false 1 (.t 27), none, []⟩,
 ⟨some 29, .bin .and (.t 28) (.c (.int .u8 252)), none, []⟩,
 ⟨some 30, .iaddrA 16 0 (.t 3) (.t 26), none, []⟩,
 ⟨none, .store 1 (.t 30) (.t 29), none, []⟩])
 .skip))))))))
 (.reg [
 ⟨some 31, .bin .add (.t 8) (.c (.int .i64 1)), none, []⟩,
 ⟨some 8, .mov (.t 31), none, []⟩])))))))
 (.seq none
 (.reg [
 ⟨some 32, .load true 16 (.t 3), none, []⟩,
 ⟨none, .store 16 (.t 2) (.t 32), none, []⟩])
 .ret))))⟩
def id_poly_of : Nat := 141
def af_poly_of : AFn := ⟨32, [.cell 4 true 5],
 (.seq none
 (.reg [
 ⟨some 4, .alloc [.ints .u64 5 (List.replicate 5 0)], none, []⟩])
 (.seq none
 (.draw [
 ⟨some 7, .mov (.t 0), none, []⟩,
 ⟨some 8, .call 91 [(.t 7)], none, [0]⟩,
 ⟨some 9, .mov (.t 0), none, []⟩,
 ⟨some 10, .slSlice 1 (.t 9) (some (.c (.int .i64 8))) none none, none, [2]⟩,
 ⟨some 11, .call 91 [(.t 10)], none, [3, 1]⟩,
 ⟨some 5, .mov (.t 8), none, [1, 4, 0, 1]⟩,
 ⟨some 6, .mov (.t 11), none, [4, 5, 0, 1, 2, 3, 4, 5]⟩])
 (.seq none
 (.reg [
 ⟨some 12, .mov (.t 5), none, []⟩,
 ⟨some 13, .bin .and (.t 12) (.c (.int .u64 67108863)), none, []⟩,
 ⟨some 14, .mov (.t 5), none, []⟩,
 ⟨some 15, .bin .shr (.t 14) (.c (.int .u64 26)), none, []⟩,
 ⟨some 16, .bin .and (.t 15) (.c (.int .u64 67108863)), none, []⟩,
 ⟨some 17, .mov (.t 5), none, []⟩,
 ⟨some 18, .bin .shr (.t 17) (.c (.int .u64 52)), none, []⟩,
 ⟨some 19, .mov (.t 6), none, []⟩,
 ⟨some 20, .bin .shl (.t 19) (.c (.int .u64 12)), none, []⟩,
 ⟨some 21, .bin .or (.t 18) (.t 20), none, []⟩,
 ⟨some 22, .bin .and (.t 21) (.c (.int .u64 67108863)), none, []⟩,
 ⟨some 23, .mov (.t 6), none, []⟩,
 ⟨some 24, .bin .shr (.t 23) (.c (.int .u64 14)), none, []⟩,
 ⟨some 25, .bin .and (.t 24) (.c (.int .u64 67108863)), none, []⟩,
 ⟨some 26, .mov (.t 6), none, []⟩,
 ⟨some 27, .bin .shr (.t 26) (.c (.int .u64 40)), none, []⟩,
 ⟨some 28, .mov (.t 1), none, []⟩,
 ⟨some 29, .bin .shl (.t 28) (.c (.int .u64 24)), none, []⟩,
 ⟨some 30, .bin .or (.t 27) (.t 29), none, []⟩,
 ⟨some 31, .build [.ints .u64 5 (List.replicate 5 0)] [(0, 1, (.t 13)), (1, 1, (.t 16)), (2, 1, (.t 22)), (3, 1, (.t 25)), (4, 1, (.t 30))], none, []⟩,
 ⟨none, .store 5 (.t 4) (.t 31), none, []⟩])
 .ret)))⟩
def id_poly_limbs_step : Nat := 142
def af_poly_limbs_step : AFn := ⟨56, [.cell 6 true 5],
 (.seq none
 (.reg [
 ⟨some 3, .box (.t 0), none, []⟩,
 ⟨some 4, .box (.t 1), none, []⟩,
 ⟨some 5, .box (.t 2), none, []⟩,
 ⟨some 6, .alloc [.ints .u64 5 (List.replicate 5 0)], none, []⟩])
 (.seq none
 (.seq none
 (.reg [
 ⟨some 12, .mov (.c (.int .i64 0)), none, []⟩])
 (.block 0 none
 (.loop 1000000 none
 (.seq none
 (.reg [
 ⟨some 13, .bin .lss (.t 12) (.c (.int .i64 5)), none, []⟩])
 (.seq none
 (.cond (.t 13)
 .skip
 (.exit 0))
 (.seq none
 (.block 1 none
 (.seq none
 (.reg [
 ⟨some 14, .mov (.t 12), none, []⟩,
 ⟨some 7, .mov (.t 14), none, []⟩])
 (.draw [
 ⟨some 15, .mov (.t 7), none, []⟩,
 ⟨some 16, .iaddrA 5 0 (.t 3) (.t 15), none, [0]⟩,
 ⟨some 17, .load false 1 (.t 16), none, [1]⟩,
 ⟨some 18, .mov (.t 7), none, []⟩,
 ⟨some 19, .iaddrA 5 0 (.t 4) (.t 18), none, [3]⟩,
 ⟨some 20, .load false 1 (.t 19), none, [4]⟩,
 ⟨some 21, .bin .add (.t 17) (.t 20), none, [2, 5]⟩,
 ⟨some 22, .iaddrA 5 0 (.t 3) (.t 15), none, [0, 0, 1, 2, 3, 4, 5, 6]⟩,
 ⟨none, .store 1 (.t 22) (.t 21), none, [7, 6, 0, 1, 2, 3, 4, 5, 6]⟩])))
 (.reg [
 ⟨some 23, .bin .add (.t 12) (.c (.int .i64 1)), none, []⟩,
 ⟨some 12, .mov (.t 23), none, []⟩])))))))
 (.seq none
 (.reg [
 ⟨some 8, .alloc [.ints .u64 5 (List.replicate 5 0)], none, []⟩])
 (.seq none
 (.seq none
 (.reg [
 ⟨some 24, .mov (.c (.int .i64 0)), none, []⟩])
 (.block 2 none
 (.loop 1000000 none
 (.seq none
 (.reg [
 ⟨some 25, .bin .lss (.t 24) (.c (.int .i64 5)), none, []⟩])
 (.seq none
 (.cond (.t 25)
 .skip
 (.exit 2))
 (.seq none
 (.block 3 none
 (.seq none
 (.reg [
 ⟨some 26, .mov (.t 24), none, []⟩,
 ⟨some 9, .mov (.t 26), none, []⟩])
 (.seq none
 (.reg [
 ⟨some 27, .mov (.c (.int .i64 0)), none, []⟩])
 (.block 4 none
 (.loop 1000000 none
 (.seq none
 (.reg [
 ⟨some 28, .bin .lss (.t 27) (.c (.int .i64 5)), none, []⟩])
 (.seq none
 (.cond (.t 28)
 .skip
 (.exit 4))
 (.seq none
 (.block 5 none
 (.seq none
 (.reg [
 ⟨some 29, .mov (.t 27), none, []⟩,
 ⟨some 10, .mov (.t 29), none, []⟩])
 (.seq none
 (.draw [
 ⟨some 30, .mov (.t 9), none, []⟩,
 ⟨some 31, .iaddrA 5 0 (.t 3) (.t 30), none, [0]⟩,
 ⟨some 32, .load false 1 (.t 31), none, [1]⟩,
 ⟨some 33, .mov (.t 10), none, []⟩,
 ⟨some 34, .iaddrA 5 0 (.t 5) (.t 33), none, [3]⟩,
 ⟨some 35, .load false 1 (.t 34), none, [4]⟩,
 ⟨some 36, .bin .mul (.t 32) (.t 35), none, [2, 5]⟩,
 ⟨some 11, .mov (.t 36), none, [6, 0, 1, 2, 3, 4, 5, 6]⟩])
 (.seq none
 (.seq none
 (.reg [
 ⟨some 37, .mov (.t 9), none, []⟩,
 ⟨some 38, .mov (.t 10), none, []⟩,
 ⟨some 39, .bin .add (.t 37) (.t 38), none, []⟩,
 ⟨some 40, .bin .geq (.t 39) (.c (.int .i64 5)), none, []⟩])
 (.cond (.t 40)
 (.reg [
 ⟨some 41, .mov (.t 11), none, []⟩,
 ⟨some 42, .bin .mul (.t 41) (.c (.int .u64 5)), none, []⟩,
 ⟨some 11, .mov (.t 42), none, []⟩])
 .skip))
 (.reg [
 ⟨some 43, .mov (.t 9), none, []⟩,
 ⟨some 44, .mov (.t 10), none, []⟩,
 ⟨some 45, .bin .add (.t 43) (.t 44), none, []⟩,
 ⟨some 46, .bin .rem (.t 45) (.c (.int .i64 5)), none, []⟩,
 ⟨some 47, .iaddrA 5 0 (.t 8) (.t 46), none, []⟩,
 ⟨some 48, .load false 1 (.t 47), none, []⟩,
 ⟨some 49, .mov (.t 11), none, []⟩,
 ⟨some 50, .bin .add (.t 48) (.t 49), none, []⟩,
 ⟨some 51, .iaddrA 5 0 (.t 8) (.t 46), none, []⟩,
 ⟨none, .store 1 (.t 51) (.t 50), none, []⟩])))))
 (.reg [
 ⟨some 52, .bin .add (.t 27) (.c (.int .i64 1)), none, []⟩,
 ⟨some 27, .mov (.t 52), none, []⟩])))))))))
 (.reg [
 ⟨some 53, .bin .add (.t 24) (.c (.int .i64 1)), none, []⟩,
 ⟨some 24, .mov (.t 53), none, []⟩])))))))
 (.seq none
 (.reg [
 ⟨some 54, .load true 5 (.t 8), none, []⟩,
 ⟨some 55, .call 161 [(.t 54)], none, []⟩,
 ⟨none, .store 5 (.t 6) (.t 55), none, []⟩])
 .ret)))))⟩
def id_poly_limbs_whole : Nat := 143
def af_poly_limbs_whole : AFn := ⟨57, [.t 2, .t 3],
 (.seq none
 (.reg [
 ⟨some 1, .box (.t 0), none, []⟩,
 ⟨some 2, .mov (.c (.int .u64 0)), none, []⟩,
 ⟨some 3, .mov (.c (.int .u64 0)), none, []⟩])
 (.seq none
 (.reg [
 ⟨some 7, .load true 5 (.t 1), none, []⟩,
 ⟨some 8, .call 161 [(.t 7)], none, []⟩,
 ⟨none, .store 5 (.t 1) (.t 8), none, []⟩])
 (.seq none
 (.reg [
 ⟨some 9, .load true 5 (.t 1), none, []⟩,
 ⟨some 4, .alloc [.ints .u64 5 (List.replicate 5 0)], none, []⟩,
 ⟨none, .store 5 (.t 4) (.t 9), none, []⟩])
 (.seq none
 (.reg [
 ⟨some 10, .iaddrA 5 0 (.t 4) (.c (.int .i64 0)), none, []⟩,
 ⟨some 11, .load false 1 (.t 10), none, []⟩,
 ⟨some 12, .bin .add (.t 11) (.c (.int .u64 5)), none, []⟩,
 ⟨some 13, .iaddrA 5 0 (.t 4) (.c (.int .i64 0)), none, []⟩,
 ⟨none, .store 1 (.t 13) (.t 12), none, []⟩])
 (.seq none
 (.reg [
 ⟨some 5, .mov (.c (.int .u64 0)), none, []⟩])
 (.seq none
 (.seq none
 (.reg [
 ⟨some 14, .mov (.c (.int .i64 0)), none, []⟩])
 (.block 0 none
 (.loop 1000000 none
 (.seq none
 (.reg [
 ⟨some 15, .bin .lss (.t 14) (.c (.int .i64 5)), none, []⟩])
 (.seq none
 (.cond (.t 15)
 .skip
 (.exit 0))
 (.seq none
 (.block 1 none
 (.seq none
 (.reg [
 ⟨some 16, .mov (.t 14), none, []⟩,
 ⟨some 6, .mov (.t 16), none, []⟩])
 (.seq none
 (.reg [
 ⟨some 17, .mov (.t 6), none, []⟩,
 ⟨some 18, .iaddrA 5 0 (.t 4) (.t 17), none, []⟩,
 ⟨some 19, .load false 1 (.t 18), none, []⟩,
 ⟨some 20, .mov (.t 5), none, []⟩,
 ⟨some 21, .bin .add (.t 19) (.t 20), none, []⟩,
 ⟨some 22, .iaddrA 5 0 (.t 4) (.t 17), none, []⟩,
 ⟨none, .store 1 (.t 22) (.t 21), none, []⟩])
 (.seq none
 (.reg [
 ⟨some 23, .mov (.t 6), none, []⟩,
 ⟨some 24, .iaddrA 5 0 (.t 4) (.t 23), none, []⟩,
 ⟨some 25, .load false 1 (.t 24), none, []⟩,
 ⟨some 26, .bin .shr (.t 25) (.c (.int .u64 26)), none, []⟩,
 ⟨some 5, .mov (.t 26), none, []⟩])
 (.reg [
 ⟨some 27, .mov (.t 6), none, []⟩,
 ⟨some 28, .iaddrA 5 0 (.t 4) (.t 27), none, []⟩,
 ⟨some 29, .load false 1 (.t 28), none, []⟩,
 ⟨some 30, .bin .and (.t 29) (.c (.int .u64 67108863)), none, []⟩,
 ⟨some 31, .iaddrA 5 0 (.t 4) (.t 27), none, []⟩,
 ⟨none, .store 1 (.t 31) (.t 30), none, []⟩])))))
 (.reg [
 ⟨some 32, .bin .add (.t 14) (.c (.int .i64 1)), none, []⟩,
 ⟨some 14, .mov (.t 32), none, []⟩])))))))
 (.seq none
 (.seq none
 (.reg [
 ⟨some 33, .mov (.t 5), none, []⟩,
 ⟨some 34, .bin .gtr (.t 33) (.c (.int .u64 0)), none, []⟩])
 (.cond (.t 34)
 (.reg [
 ⟨some 35, .load true 5 (.t 4), none, []⟩,
 ⟨none, .store 5 (.t 1) (.t 35), none, []⟩])
 .skip))
 (.seq none
 (.draw [
 ⟨some 36, .iaddrA 5 0 (.t 1) (.c (.int .i64 0)), none, []⟩,
 ⟨some 37, .load false 1 (.t 36), none, [0]⟩,
 ⟨some 38, .iaddrA 5 0 (.t 1) (.c (.int .i64 1)), none, []⟩,
 ⟨some 39, .load false 1 (.t 38), none, [2]⟩,
 ⟨some 40, .bin .shl (.t 39) (.c (.int .u64 26)), none, [3]⟩,
 ⟨some 41, .bin .or (.t 37) (.t 40), none, [1, 4]⟩,
 ⟨some 42, .iaddrA 5 0 (.t 1) (.c (.int .i64 2)), none, []⟩,
 ⟨some 43, .load false 1 (.t 42), none, [6]⟩,
 ⟨some 44, .bin .shl (.t 43) (.c (.int .u64 52)), none, [7]⟩,
 ⟨some 45, .bin .or (.t 41) (.t 44), none, [5, 8]⟩,
 ⟨some 46, .iaddrA 5 0 (.t 1) (.c (.int .i64 2)), none, []⟩,
 ⟨some 47, .load false 1 (.t 46), none, [10]⟩,
 ⟨some 48, .bin .shr (.t 47) (.c (.int .u64 12)), none, [11]⟩,
 ⟨some 49, .iaddrA 5 0 (.t 1) (.c (.int .i64 3)), none, []⟩,
 ⟨some 50, .load false 1 (.t 49), none, [13]⟩,
 ⟨some 51, .bin .shl (.t 50) (.c (.int .u64 14)), none, [14]⟩,
 ⟨some 52, .bin .or (.t 48) (.t 51), none, [12, 15]⟩,
 ⟨some 53, .iaddrA 5 0 (.t 1) (.c (.int .i64 4)), none, []⟩,
 ⟨some 54, .load false 1 (.t 53), none, [17]⟩,
 ⟨some 55, .bin .shl (.t 54) (.c (.int .u64 40)), none, [18]⟩,
 ⟨some 56, .bin .or (.t 52) (.t 55), none, [16, 19]⟩,
 ⟨some 2, .mov (.t 45), none, [9, 0, 1, 2, 3, 4, 5, 6, 7, 8, 9]⟩,
 ⟨some 3, .mov (.t 56), none, [20, 21, 0, 1, 2, 3, 4, 5, 6, 7, 8, 9, 10, 11, 12, 13, 14, 15, 16, 17, 18, 19, 20, 21]⟩])
 .ret))))))))⟩
def id_hollowtreeref04_constants : Nat := 144
def af_hollowtreeref04_constants : AFn := ⟨2, [.cell 0 true 64],
 (.seq none
 (.reg [
 ⟨some 0, .alloc [.ints .u32 64 (List.replicate 64 0)], none, []⟩])
 (.seq none
 (.reg [
 ⟨some 1, .build [.ints .u32 64 (List.replicate 64 0)] [(0, 1, (.c (.int .u32 1116352408))), (1, 1, (.c (.int .u32 1899447441))), (2, 1, (.c (.int .u32 3049323471))), (3, 1, (.c (.int .u32 3921009573))), (4, 1, (.c (.int .u32 961987163))), (5, 1, (.c (.int .u32 1508970993))), (6, 1, (.c (.int .u32 2453635748))), (7, 1, (.c (.int .u32 2870763221))), (8, 1, (.c (.int .u32 3624381080))), (9, 1, (.c (.int .u32 310598401))), (10, 1, (.c (.int .u32 607225278))), (11, 1, (.c (.int .u32 1426881987))), (12, 1, (.c (.int .u32 1925078388))), (13, 1, (.c (.int .u32 2162078206))), (14, 1, (.c (.int .u32 2614888103))), (15, 1, (.c (.int .u32 3248222580))), (16, 1, (.c (.int .u32 3835390401))), (17, 1, (.c (.int .u32 4022224774))), (18, 1, (.c (.int .u32 264347078))), (19, 1, (.c (.int .u32 604807628))), (20, 1, (.c (.int .u32 770255983))), (21, 1, (.c (.int .u32 1249150122))), (22, 1, (.c (.int .u32 1555081692))), (23, 1, (.c (.int .u32 1996064986))), (24, 1, (.c (.int .u32 2554220882))), (25, 1, (.c (.int .u32 2821834349))), (26, 1, (.c (.int .u32 2952996808))), (27, 1, (.c (.int .u32 3210313671))), (28, 1, (.c (.int .u32 3336571891))), (29, 1, (.c (.int .u32 3584528711))), (30, 1, (.c (.int .u32 113926993))), (31, 1, (.c (.int .u32 338241895))), (32, 1, (.c (.int .u32 666307205))), (33, 1, (.c (.int .u32 773529912))), (34, 1, (.c (.int .u32 1294757372))), (35, 1, (.c (.int .u32 1396182291))), (36, 1, (.c (.int .u32 1695183700))), (37, 1, (.c (.int .u32 1986661051))), (38, 1, (.c (.int .u32 2177026350))), (39, 1, (.c (.int .u32 2456956037))), (40, 1, (.c (.int .u32 2730485921))), (41, 1, (.c (.int .u32 2820302411))), (42, 1, (.c (.int .u32 3259730800))), (43, 1, (.c (.int .u32 3345764771))), (44, 1, (.c (.int .u32 3516065817))), (45, 1, (.c (.int .u32 3600352804))), (46, 1, (.c (.int .u32 4094571909))), (47, 1, (.c (.int .u32 275423344))), (48, 1, (.c (.int .u32 430227734))), (49, 1, (.c (.int .u32 506948616))), (50, 1, (.c (.int .u32 659060556))), (51, 1, (.c (.int .u32 883997877))), (52, 1, (.c (.int .u32 958139571))), (53, 1, (.c (.int .u32 1322822218))), (54, 1, (.c (.int .u32 1537002063))), (55, 1, (.c (.int .u32 1747873779))), (56, 1, (.c (.int .u32 1955562222))), (57, 1, (.c (.int .u32 2024104815))), (58, 1, (.c (.int .u32 2227730452))), (59, 1, (.c (.int .u32 2361852424))), (60, 1, (.c (.int .u32 2428436474))), (61, 1, (.c (.int .u32 2756734187))), (62, 1, (.c (.int .u32 3204031479))), (63, 1, (.c (.int .u32 3329325298)))], none, []⟩,
 ⟨none, .store 64 (.t 0) (.t 1), none, []⟩])
 .ret))⟩
def id_hollowtreeref04_Pad : Nat := 145
def af_hollowtreeref04_Pad : AFn := ⟨35, [.t 2],
 (.seq none
 (.reg [
 ⟨some 2, .mov (.c (.nils)), none, []⟩])
 (.seq none
 (.seq none
 (.reg [
 ⟨some 6, .mov (.t 0), none, []⟩,
 ⟨some 7, .bin .lss (.t 6) (.c (.int .i64 0)), none, []⟩])
 (.cond (.t 7)
 (.seq none
 (.reg [
 ⟨some 2, .mov (.c (.nils)), none, []⟩])
 .ret)
 .skip))
 (.seq none
 (.reg [
 ⟨some 8, .bslice [.ints .u8 1 (List.replicate 1 0)] 1 0 [(0, 1, (.c (.int .u8 128)))], none, []⟩,
 ⟨some 3, .mov (.t 8), none, []⟩])
 (.seq none
 (.block 0 none
 (.loop 1000000 none
 (.seq none
 (.seq none
 (.reg [
 ⟨some 9, .mov (.t 0), none, []⟩,
 ⟨some 10, .mov (.t 3), none, []⟩,
 ⟨some 11, .len false (.t 10), none, []⟩,
 ⟨some 12, .bin .add (.t 9) (.t 11), none, []⟩,
 ⟨some 13, .bin .add (.t 12) (.c (.int .i64 8)), none, []⟩,
 ⟨some 14, .bin .rem (.t 13) (.c (.int .i64 64)), none, []⟩,
 ⟨some 15, .bin .neq (.t 14) (.c (.int .i64 0)), none, []⟩])
 (.cond (.t 15)
 .skip
 (.exit 0)))
 (.block 1 none
 (.reg [
 ⟨some 16, .mov (.t 3), none, []⟩,
 ⟨some 17, .bslice [.ints .u8 1 (List.replicate 1 0)] 1 0 [(0, 1, (.c (.int .u8 0)))], none, []⟩,
 ⟨some 18, .appendI .u8 1 (.t 16) (.t 17), none, []⟩,
 ⟨some 3, .mov (.t 18), none, []⟩])))))
 (.seq none
 (.reg [
 ⟨some 19, .mov (.t 0), none, []⟩,
 ⟨some 20, .toInt .u64 (.t 19), none, []⟩,
 ⟨some 21, .bin .mul (.t 20) (.c (.int .u64 8)), none, []⟩,
 ⟨some 4, .mov (.t 21), none, []⟩])
 (.seq none
 (.seq none
 (.reg [
 ⟨some 5, .mov (.c (.int .i64 7)), none, []⟩])
 (.block 2 none
 (.loop 1000000 none
 (.seq none
 (.seq none
 (.reg [
 ⟨some 22, .mov (.t 5), none, []⟩,
 ⟨some 23, .bin .geq (.t 22) (.c (.int .i64 0)), none, []⟩])
 (.cond (.t 23)
 .skip
 (.exit 2)))
 (.seq none
 (.block 3 none
 (.reg [
 ⟨some 26, .mov (.t 3), none, []⟩,
 ⟨some 27, .mov (.t 4), none, []⟩,
 ⟨some 28, .mov (.t 5), none, []⟩,
 ⟨some 29, .bin .mul (.c (.int .i64 8)) (.t 28), none, []⟩,
 ⟨some 30, .bin .shr (.t 27) (.t 29), none, []⟩,
 ⟨some 31, .toInt .u8 (.t 30), none, []⟩,
 ⟨some 32, .bslice [.ints .u8 1 (List.replicate 1 0)] 1 0 [(0, 1, (.t 31))], none, []⟩,
 ⟨some 33, .appendI .u8 1 (.t 26) (.t 32), none, []⟩,
 ⟨some 3, .mov (.t 33), none, []⟩]))
 (.reg [
 ⟨some 24, .mov (.t 5), none, []⟩,
 ⟨some 25, .bin .sub (.t 24) (.c (.int .i64 1)), none, []⟩,
 ⟨some 5, .mov (.t 25), none, []⟩]))))))
 (.seq none
 (.reg [
 ⟨some 34, .mov (.t 3), none, []⟩,
 ⟨some 2, .mov (.t 34), none, []⟩])
 .ret)))))))⟩
def id_hollowtreeref04_begin : Nat := 146
def af_hollowtreeref04_begin : AFn := ⟨2, [.cell 0 true 8],
 (.seq none
 (.reg [
 ⟨some 0, .alloc [.ints .u32 8 (List.replicate 8 0)], none, []⟩])
 (.seq none
 (.reg [
 ⟨some 1, .build [.ints .u32 8 (List.replicate 8 0)] [(0, 1, (.c (.int .u32 1779033703))), (1, 1, (.c (.int .u32 3144134277))), (2, 1, (.c (.int .u32 1013904242))), (3, 1, (.c (.int .u32 2773480762))), (4, 1, (.c (.int .u32 1359893119))), (5, 1, (.c (.int .u32 2600822924))), (6, 1, (.c (.int .u32 528734635))), (7, 1, (.c (.int .u32 1541459225)))], none, []⟩,
 ⟨none, .store 8 (.t 0) (.t 1), none, []⟩])
 .ret))⟩
def id_hollowtreeref04_right : Nat := 147
def af_hollowtreeref04_right : AFn := ⟨13, [.t 4],
 (.seq none
 (.reg [
 ⟨some 4, .mov (.c (.int .u32 0)), none, []⟩])
 (.seq none
 (.draw [
 ⟨some 5, .mov (.t 0), none, []⟩,
 ⟨some 6, .mov (.t 1), none, []⟩,
 ⟨some 7, .bin .shr (.t 5) (.t 6), none, [0, 1]⟩,
 ⟨some 8, .mov (.t 0), none, []⟩,
 ⟨some 9, .mov (.t 1), none, []⟩,
 ⟨some 10, .bin .sub (.c (.int .i64 32)) (.t 9), none, [4]⟩,
 ⟨some 11, .bin .shl (.t 8) (.t 10), none, [3, 5]⟩,
 ⟨some 12, .bin .or (.t 7) (.t 11), none, [2, 6]⟩,
 ⟨some 4, .mov (.t 12), none, [7, 0, 1, 2, 3, 4, 5, 6, 7]⟩])
 .ret))⟩
def id_math_bits_Add64 : Nat := 157
def id_math_bits_Mul64 : Nat := 158
def af_math_bits_Mul64 : AFn := ⟨51, [.t 4, .t 5],
 (.seq none
 (.reg [
 ⟨some 4, .mov (.c (.int .u64 0)), none, []⟩,
 ⟨some 5, .mov (.c (.int .u64 0)), none, []⟩])
 (.seq none
 (.reg [
 ⟨some 14, .mov (.t 0), none, []⟩,
 ⟨some 15, .bin .and (.t 14) (.c (.int .u64 4294967295)), none, []⟩,
 ⟨some 6, .mov (.t 15), none, []⟩])
 (.seq none
 (.reg [
 ⟨some 16, .mov (.t 0), none, []⟩,
 ⟨some 17, .bin .shr (.t 16) (.c (.int .u64 32)), none, []⟩,
 ⟨some 7, .mov (.t 17), none, []⟩])
 (.seq none
 (.reg [
 ⟨some 18, .mov (.t 1), none, []⟩,
 ⟨some 19, .bin .and (.t 18) (.c (.int .u64 4294967295)), none, []⟩,
 ⟨some 8, .mov (.t 19), none, []⟩])
 (.seq none
 (.reg [
 ⟨some 20, .mov (.t 1), none, []⟩,
 ⟨some 21, .bin .shr (.t 20) (.c (.int .u64 32)), none, []⟩,
 ⟨some 9, .mov (.t 21), none, []⟩])
 (.seq none
 (.reg [
 ⟨some 22, .mov (.t 6), none, []⟩,
 ⟨some 23, .mov (.t 8), none, []⟩,
 ⟨some 24, .bin .mul (.t 22) (.t 23), none, []⟩,
 ⟨some 10, .mov (.t 24), none, []⟩])
 (.seq none
 (.reg [
 ⟨some 25, .mov (.t 7), none, []⟩,
 ⟨some 26, .mov (.t 8), none, []⟩,
 ⟨some 27, .bin .mul (.t 25) (.t 26), none, []⟩,
 ⟨some 28, .mov (.t 10), none, []⟩,
 ⟨some 29, .bin .shr (.t 28) (.c (.int .u64 32)), none, []⟩,
 ⟨some 30, .bin .add (.t 27) (.t 29), none, []⟩,
 ⟨some 11, .mov (.t 30), none, []⟩])
 (.seq none
 (.reg [
 ⟨some 31, .mov (.t 11), none, []⟩,
 ⟨some 32, .bin .and (.t 31) (.c (.int .u64 4294967295)), none, []⟩,
 ⟨some 12, .mov (.t 32), none, []⟩])
 (.seq none
 (.reg [
 ⟨some 33, .mov (.t 11), none, []⟩,
 ⟨some 34, .bin .shr (.t 33) (.c (.int .u64 32)), none, []⟩,
 ⟨some 13, .mov (.t 34), none, []⟩])
 (.seq none
 (.reg [
 ⟨some 35, .mov (.t 12), none, []⟩,
 ⟨some 36, .mov (.t 6), none, []⟩,
 ⟨some 37, .mov (.t 9), none, []⟩,
 ⟨some 38, .bin .mul (.t 36) (.t 37), none, []⟩,
 ⟨some 39, .bin .add (.t 35) (.t 38), none, []⟩,
 ⟨some 12, .mov (.t 39), none, []⟩])
 (.seq none
 (.reg [
 ⟨some 40, .mov (.t 7), none, []⟩,
 ⟨some 41, .mov (.t 9), none, []⟩,
 ⟨some 42, .bin .mul (.t 40) (.t 41), none, []⟩,
 ⟨some 43, .mov (.t 13), none, []⟩,
 ⟨some 44, .bin .add (.t 42) (.t 43), none, []⟩,
 ⟨some 45, .mov (.t 12), none, []⟩,
 ⟨some 46, .bin .shr (.t 45) (.c (.int .u64 32)), none, []⟩,
 ⟨some 47, .bin .add (.t 44) (.t 46), none, []⟩,
 ⟨some 4, .mov (.t 47), none, []⟩])
 (.seq none
 (.reg [
 ⟨some 48, .mov (.t 0), none, []⟩,
 ⟨some 49, .mov (.t 1), none, []⟩,
 ⟨some 50, .bin .mul (.t 48) (.t 49), none, []⟩,
 ⟨some 5, .mov (.t 50), none, []⟩])
 .ret))))))))))))⟩
def id_sha_Hash_step : Nat := 159
def af_sha_Hash_step : AFn := ⟨232, [],
 (.seq none
 (.reg [
 ⟨some 4, .alloc [.ints .u32 64 (List.replicate 64 0)], none, []⟩])
 (.seq none
 (.seq none
 (.reg [
 ⟨some 23, .mov (.c (.int .i64 0)), none, []⟩])
 (.block 0 none
 (.loop 1000000 none
 (.seq none
 (.reg [
 ⟨some 24, .bin .lss (.t 23) (.c (.int .i64 16)), none, []⟩])
 (.seq none
 (.cond (.t 24)
 .skip
 (.exit 0))
 (.seq none
 (.block 1 none
 (.seq none
 (.reg [
 ⟨some 25, .mov (.t 23), none, []⟩,
 ⟨some 5, .mov (.t 25), none, []⟩])
 (.draw [
 ⟨some 26, .mov (.t 5), none, []⟩,
 ⟨some 27, .mov (.t 1), none, []⟩,
 ⟨some 28, .mov (.t 5), none, []⟩,
 ⟨some 29, .bin .mul (.c (.int .i64 4)) (.t 28), none, [2]⟩,
 ⟨some 30, .iaddrS 1 (.t 27) (.t 29), none, [1, 3]⟩,
 ⟨some 31, .load false 1 (.t 30), none, [4]⟩,
 ⟨some 32, .toInt .u32 (.t 31), none, [5]⟩,
 ⟨some 33, .bin .shl (.t 32) (.c (.int .u64 24)), none, [6]⟩,
 ⟨some 34, .mov (.t 1), none, []⟩,
 ⟨some 35, .mov (.t 5), none, []⟩,
 ⟨some 36, .bin .mul (.c (.int .i64 4)) (.t 35), none, [9]⟩,
 ⟨some 37, .bin .add (.t 36) (.c (.int .i64 1)), none, [10]⟩,
 ⟨some 38, .iaddrS 1 (.t 34) (.t 37), none, [8, 11]⟩,
 ⟨some 39, .load false 1 (.t 38), none, [12]⟩,
 ⟨some 40, .toInt .u32 (.t 39), none, [13]⟩,
 ⟨some 41, .bin .shl (.t 40) (.c (.int .u64 16)), none, [14]⟩,
 ⟨some 42, .bin .or (.t 33) (.t 41), none, [7, 15]⟩,
 ⟨some 43, .mov (.t 1), none, []⟩,
 ⟨some 44, .mov (.t 5), none, []⟩,
 ⟨some 45, .bin .mul (.c (.int .i64 4)) (.t 44), none, [18]⟩,
 ⟨some 46, .bin .add (.t 45) (.c (.int .i64 2)), none, [19]⟩,
 ⟨some 47, .iaddrS 1 (.t 43) (.t 46), none, [17, 20]⟩,
 ⟨some 48, .load false 1 (.t 47), none, [21]⟩,
 ⟨some 49, .toInt .u32 (.t 48), none, [22]⟩,
 ⟨some 50, .bin .shl (.t 49) (.c (.int .u64 8)), none, [23]⟩,
 ⟨some 51, .bin .or (.t 42) (.t 50), none, [16, 24]⟩,
 ⟨some 52, .mov (.t 1), none, []⟩,
 ⟨some 53, .mov (.t 5), none, []⟩,
 ⟨some 54, .bin .mul (.c (.int .i64 4)) (.t 53), none, [27]⟩,
 ⟨some 55, .bin .add (.t 54) (.c (.int .i64 3)), none, [28]⟩,
 ⟨some 56, .iaddrS 1 (.t 52) (.t 55), none, [26, 29]⟩,
 ⟨some 57, .load false 1 (.t 56), none, [30]⟩,
 ⟨some 58, .toInt .u32 (.t 57), none, [31]⟩,
 ⟨some 59, .bin .or (.t 51) (.t 58), none, [25, 32]⟩,
 ⟨some 60, .iaddrA 64 0 (.t 4) (.t 26), none, [0, 0, 1, 2, 3, 4, 5, 6, 7, 8, 9, 10, 11, 12, 13, 14, 15, 16, 17, 18, 19, 20, 21, 22, 23, 24, 25, 26, 27, 28, 29, 30, 31, 32, 33]⟩,
 ⟨none, .store 1 (.t 60) (.t 59), none, [34, 33, 0, 1, 2, 3, 4, 5, 6, 7, 8, 9, 10, 11, 12, 13, 14, 15, 16, 17, 18, 19, 20, 21, 22, 23, 24, 25, 26, 27, 28, 29, 30, 31, 32, 33]⟩])))
 (.reg [
 ⟨some 61, .bin .add (.t 23) (.c (.int .i64 1)), none, []⟩,
 ⟨some 23, .mov (.t 61), none, []⟩])))))))
 (.seq none
 (.seq none
 (.reg [
 ⟨some 6, .mov (.c (.int .i64 16)), none, []⟩])
 (.block 2 none
 (.loop 1000000 none
 (.seq none
 (.seq none
 (.reg [
 ⟨some 62, .mov (.t 6), none, []⟩,
 ⟨some 63, .bin .lss (.t 62) (.c (.int .i64 64)), none, []⟩])
 (.cond (.t 63)
 .skip
 (.exit 2)))
 (.seq none
 (.block 3 none
 (.seq none
 (.draw [
 ⟨some 66, .mov (.t 6), none, []⟩,
 ⟨some 67, .bin .sub (.t 66) (.c (.int .i64 15)), none, [0]⟩,
 ⟨some 68, .iaddrA 64 0 (.t 4) (.t 67), none, [1]⟩,
 ⟨some 69, .load false 1 (.t 68), none, [2]⟩,
 ⟨some 70, .mov (.t 6), none, []⟩,
 ⟨some 71, .bin .sub (.t 70) (.c (.int .i64 2)), none, [4]⟩,
 ⟨some 72, .iaddrA 64 0 (.t 4) (.t 71), none, [5]⟩,
 ⟨some 73, .load false 1 (.t 72), none, [6]⟩,
 ⟨some 7, .mov (.t 69), none, [3, 0, 1, 2, 3]⟩,
 ⟨some 8, .mov (.t 73), none, [7, 8, 0, 1, 2, 3, 4, 5, 6, 7, 8]⟩])
 (.draw [
 ⟨some 74, .mov (.t 6), none, []⟩,
 ⟨some 75, .mov (.t 6), none, []⟩,
 ⟨some 76, .bin .sub (.t 75) (.c (.int .i64 16)), none, [1]⟩,
 ⟨some 77, .iaddrA 64 0 (.t 4) (.t 76), none, [2]⟩,
 ⟨some 78, .load false 1 (.t 77), none, [3]⟩,
 ⟨some 79, .mov (.t 6), none, []⟩,
 ⟨some 80, .bin .sub (.t 79) (.c (.int .i64 7)), none, [5]⟩,
 ⟨some 81, .iaddrA 64 0 (.t 4) (.t 80), none, [6]⟩,
 ⟨some 82, .load false 1 (.t 81), none, [7]⟩,
 ⟨some 83, .bin .add (.t 78) (.t 82), none, [4, 8]⟩,
 ⟨some 84, .mov (.t 7), none, []⟩,
 ⟨some 85, .call 165 [(.t 84), (.c (.int .i64 7))], none, [10]⟩,
 ⟨some 86, .mov (.t 7), none, []⟩,
 ⟨some 87, .call 165 [(.t 86), (.c (.int .i64 18))], none, [12, 11]⟩,
 ⟨some 88, .bin .xor (.t 85) (.t 87), none, [11, 13]⟩,
 ⟨some 89, .mov (.t 7), none, []⟩,
 ⟨some 90, .bin .shr (.t 89) (.c (.int .u64 3)), none, [15]⟩,
 ⟨some 91, .bin .xor (.t 88) (.t 90), none, [14, 16]⟩,
 ⟨some 92, .bin .add (.t 83) (.t 91), none, [9, 17]⟩,
 ⟨some 93, .mov (.t 8), none, []⟩,
 ⟨some 94, .call 165 [(.t 93), (.c (.int .i64 17))], none, [19, 13]⟩,
 ⟨some 95, .mov (.t 8), none, []⟩,
 ⟨some 96, .call 165 [(.t 95), (.c (.int .i64 19))], none, [21, 20]⟩,
 ⟨some 97, .bin .xor (.t 94) (.t 96), none, [20, 22]⟩,
 ⟨some 98, .mov (.t 8), none, []⟩,
 ⟨some 99, .bin .shr (.t 98) (.c (.int .u64 10)), none, [24]⟩,
 ⟨some 100, .bin .xor (.t 97) (.t 99), none, [23, 25]⟩,
 ⟨some 101, .bin .add (.t 92) (.t 100), none, [18, 26]⟩,
 ⟨some 102, .iaddrA 64 0 (.t 4) (.t 74), none, [0, 0, 1, 2, 3, 4, 5, 6, 7, 8, 9, 10, 11, 12, 13, 14, 15, 16, 17, 18, 19, 20, 21, 22, 23, 24, 25, 26, 27]⟩,
 ⟨none, .store 1 (.t 102) (.t 101), none, [28, 27, 22, 0, 1, 2, 3, 4, 5, 6, 7, 8, 9, 10, 11, 12, 13, 14, 15, 16, 17, 18, 19, 20, 21, 22, 23, 24, 25, 26, 27]⟩])))
 (.reg [
 ⟨some 64, .mov (.t 6), none, []⟩,
 ⟨some 65, .bin .add (.t 64) (.c (.int .i64 1)), none, []⟩,
 ⟨some 6, .mov (.t 65), none, []⟩]))))))
 (.seq none
 (.draw [
 ⟨some 103, .mov (.t 0), none, []⟩,
 ⟨some 104, .nilChk (.t 103), none, [0]⟩,
 ⟨some 105, .faddr 0 (.t 104), none, [1]⟩,
 ⟨some 106, .iaddrA 8 0 (.t 105) (.c (.int .i64 0)), none, [2]⟩,
 ⟨some 107, .load false 1 (.t 106), none, [3]⟩,
 ⟨some 108, .mov (.t 0), none, []⟩,
 ⟨some 109, .nilChk (.t 108), none, [5]⟩,
 ⟨some 110, .faddr 0 (.t 109), none, [6]⟩,
 ⟨some 111, .iaddrA 8 0 (.t 110) (.c (.int .i64 1)), none, [7]⟩,
 ⟨some 112, .load false 1 (.t 111), none, [8]⟩,
 ⟨some 113, .mov (.t 0), none, []⟩,
 ⟨some 114, .nilChk (.t 113), none, [10]⟩,
 ⟨some 115, .faddr 0 (.t 114), none, [11]⟩,
 ⟨some 116, .iaddrA 8 0 (.t 115) (.c (.int .i64 2)), none, [12]⟩,
 ⟨some 117, .load false 1 (.t 116), none, [13]⟩,
 ⟨some 118, .mov (.t 0), none, []⟩,
 ⟨some 119, .nilChk (.t 118), none, [15]⟩,
 ⟨some 120, .faddr 0 (.t 119), none, [16]⟩,
 ⟨some 121, .iaddrA 8 0 (.t 120) (.c (.int .i64 3)), none, [17]⟩,
 ⟨some 122, .load false 1 (.t 121), none, [18]⟩,
 ⟨some 123, .mov (.t 0), none, []⟩,
 ⟨some 124, .nilChk (.t 123), none, [20]⟩,
 ⟨some 125, .faddr 0 (.t 124), none, [21]⟩,
 ⟨some 126, .iaddrA 8 0 (.t 125) (.c (.int .i64 4)), none, [22]⟩,
 ⟨some 127, .load false 1 (.t 126), none, [23]⟩,
 ⟨some 128, .mov (.t 0), none, []⟩,
 ⟨some 129, .nilChk (.t 128), none, [25]⟩,
 ⟨some 130, .faddr 0 (.t 129), none, [26]⟩,
 ⟨some 131, .iaddrA 8 0 (.t 130) (.c (.int .i64 5)), none, [27]⟩,
 ⟨some 132, .load false 1 (.t 131), none, [28]⟩,
 ⟨some 133, .mov (.t 0), none, []⟩,
 ⟨some 134, .nilChk (.t 133), none, [30]⟩,
 ⟨some 135, .faddr 0 (.t 134), none, [31]⟩,
 ⟨some 136, .iaddrA 8 0 (.t 135) (.c (.int .i64 6)), none, [32]⟩,
 ⟨some 137, .load false 1 (.t 136), none, [33]⟩,
 ⟨some 138, .mov (.t 0), none, []⟩,
 ⟨some 139, .nilChk (.t 138), none, [35]⟩,
 ⟨some 140, .faddr 0 (.t 139), none, [36]⟩,
 ⟨some 141, .iaddrA 8 0 (.t 140) (.c (.int .i64 7)), none, [37]⟩,
 ⟨some 142, .load false 1 (.t 141), none, [38]⟩,
 ⟨some 9, .mov (.t 107), none, [4, 0, 1, 2, 3, 4]⟩,
 ⟨some 10, .mov (.t 112), none, [9, 40, 0, 1, 2, 3, 4, 5, 6, 7, 8, 9, 40]⟩,
 ⟨some 11, .mov (.t 117), none, [14, 41, 0, 1, 2, 3, 4, 5, 6, 7, 8, 9, 10, 11, 12, 13, 14, 40, 41]⟩,
 ⟨some 12, .mov (.t 122), none, [19, 42, 0, 1, 2, 3, 4, 5, 6, 7, 8, 9, 10, 11, 12, 13, 14, 15, 16, 17, 18, 19, 40, 41, 42]⟩,
 ⟨some 13, .mov (.t 127), none, [24, 43, 0, 1, 2, 3, 4, 5, 6, 7, 8, 9, 10, 11, 12, 13, 14, 15, 16, 17, 18, 19, 20, 21, 22, 23, 24, 40, 41, 42, 43]⟩,
 ⟨some 14, .mov (.t 132), none, [29, 44, 0, 1, 2, 3, 4, 5, 6, 7, 8, 9, 10, 11, 12, 13, 14, 15, 16, 17, 18, 19, 20, 21, 22, 23, 24, 25, 26, 27, 28, 29, 40, 41, 42, 43, 44]⟩,
 ⟨some 15, .mov (.t 137), none, [34, 45, 0, 1, 2, 3, 4, 5, 6, 7, 8, 9, 10, 11, 12, 13, 14, 15, 16, 17, 18, 19, 20, 21, 22, 23, 24, 25, 26, 27, 28, 29, 30, 31, 32, 33, 34, 40, 41, 42, 43, 44, 45]⟩,
 ⟨some 16, .mov (.t 142), none, [39, 46, 0, 1, 2, 3, 4, 5, 6, 7, 8, 9, 10, 11, 12, 13, 14, 15, 16, 17, 18, 19, 20, 21, 22, 23, 24, 25, 26, 27, 28, 29, 30, 31, 32, 33, 34, 35, 36, 37, 38, 39, 40, 41, 42, 43, 44, 45, 46]⟩])
 (.seq none
 (.seq none
 (.reg [
 ⟨some 143, .load true 64 (.t 4), none, []⟩,
 ⟨some 144, .mov (.c (.int .i64 0)), none, []⟩])
 (.block 4 none
 (.loop 1000000 none
 (.seq none
 (.reg [
 ⟨some 145, .bin .lss (.t 144) (.c (.int .i64 64)), none, []⟩])
 (.seq none
 (.cond (.t 145)
 .skip
 (.exit 4))
 (.seq none
 (.block 5 none
 (.seq none
 (.reg [
 ⟨some 146, .mov (.t 144), none, []⟩,
 ⟨some 147, .idxA false 64 1 (.t 143) (.t 144), none, []⟩,
 ⟨some 17, .mov (.t 146), none, []⟩,
 ⟨some 18, .mov (.t 147), none, []⟩])
 (.seq none
 (.draw [
 ⟨some 148, .mov (.t 16), none, []⟩,
 ⟨some 149, .mov (.t 13), none, []⟩,
 ⟨some 150, .call 165 [(.t 149), (.c (.int .i64 6))], none, [1]⟩,
 ⟨some 151, .mov (.t 13), none, []⟩,
 ⟨some 152, .call 165 [(.t 151), (.c (.int .i64 11))], none, [3, 2]⟩,
 ⟨some 153, .bin .xor (.t 150) (.t 152), none, [2, 4]⟩,
 ⟨some 154, .mov (.t 13), none, []⟩,
 ⟨some 155, .call 165 [(.t 154), (.c (.int .i64 25))], none, [6, 4]⟩,
 ⟨some 156, .bin .xor (.t 153) (.t 155), none, [5, 7]⟩,
 ⟨some 157, .bin .add (.t 148) (.t 156), none, [0, 8]⟩,
 ⟨some 158, .mov (.t 15), none, []⟩,
 ⟨some 159, .mov (.t 13), none, []⟩,
 ⟨some 160, .mov (.t 14), none, []⟩,
 ⟨some 161, .mov (.t 15), none, []⟩,
 ⟨some 162, .bin .xor (.t 160) (.t 161), none, [12, 13]⟩,
 ⟨some 163, .bin .and (.t 159) (.t 162), none, [11, 14]⟩,
 ⟨some 164, .bin .xor (.t 158) (.t 163), none, [10, 15]⟩,
 ⟨some 165, .bin .add (.t 157) (.t 164), none, [9, 16]⟩,
 ⟨some 166, .mov (.t 0), none, []⟩,
 ⟨some 167, .nilChk (.t 166), none, [18]⟩,
 ⟨some 168, .faddr 8 (.t 167), none, [19]⟩,
 ⟨some 169, .load false 1 (.t 168), none, [20]⟩,
 ⟨some 170, .mov (.t 17), none, []⟩,
 ⟨some 171, .iaddrS 1 (.t 169) (.t 170), none, [21, 22]⟩,
 ⟨some 172, .load false 1 (.t 171), none, [23]⟩,
 ⟨some 173, .bin .add (.t 165) (.t 172), none, [17, 24]⟩,
 ⟨some 174, .mov (.t 18), none, []⟩,
 ⟨some 175, .bin .add (.t 173) (.t 174), none, [25, 26]⟩,
 ⟨some 19, .mov (.t 175), none, [27, 7, 0, 1, 2, 3, 4, 5, 6, 7, 8, 9, 10, 11, 12, 13, 14, 15, 16, 17, 18, 19, 20, 21, 22, 23, 24, 25, 26, 27]⟩])
 (.seq none
 (.reg [
 ⟨some 176, .mov (.t 9), none, []⟩,
 ⟨some 177, .call 165 [(.t 176), (.c (.int .i64 2))], none, []⟩,
 ⟨some 178, .mov (.t 9), none, []⟩,
 ⟨some 179, .call 165 [(.t 178), (.c (.int .i64 13))], none, []⟩,
 ⟨some 180, .bin .xor (.t 177) (.t 179), none, []⟩,
 ⟨some 181, .mov (.t 9), none, []⟩,
 ⟨some 182, .call 165 [(.t 181), (.c (.int .i64 22))], none, []⟩,
 ⟨some 183, .bin .xor (.t 180) (.t 182), none, []⟩,
 ⟨some 184, .mov (.t 9), none, []⟩,
 ⟨some 185, .mov (.t 10), none, []⟩,
 ⟨some 186, .bin .and (.t 184) (.t 185), none, []⟩,
 ⟨some 187, .mov (.t 11), none, []⟩,
 ⟨some 188, .mov (.t 9), none, []⟩,
 ⟨some 189, .mov (.t 10), none, []⟩,
 ⟨some 190, .bin .or (.t 188) (.t 189), none, []⟩,
 ⟨some 191, .bin .and (.t 187) (.t 190), none, []⟩,
 ⟨some 192, .bin .or (.t 186) (.t 191), none, []⟩,
 ⟨some 193, .bin .add (.t 183) (.t 192), none, []⟩,
 ⟨some 20, .mov (.t 193), none, []⟩])
 (.reg [
 ⟨some 194, .mov (.t 19), none, []⟩,
 ⟨some 195, .mov (.t 20), none, []⟩,
 ⟨some 196, .bin .add (.t 194) (.t 195), none, []⟩,
 ⟨some 197, .mov (.t 9), none, []⟩,
 ⟨some 198, .mov (.t 10), none, []⟩,
 ⟨some 199, .mov (.t 11), none, []⟩,
 ⟨some 200, .mov (.t 12), none, []⟩,
 ⟨some 201, .mov (.t 19), none, []⟩,
 ⟨some 202, .bin .add (.t 200) (.t 201), none, []⟩,
 ⟨some 203, .mov (.t 13), none, []⟩,
 ⟨some 204, .mov (.t 14), none, []⟩,
 ⟨some 205, .mov (.t 15), none, []⟩,
 ⟨some 9, .mov (.t 196), none, []⟩,
 ⟨some 10, .mov (.t 197), none, []⟩,
 ⟨some 11, .mov (.t 198), none, []⟩,
 ⟨some 12, .mov (.t 199), none, []⟩,
 ⟨some 13, .mov (.t 202), none, []⟩,
 ⟨some 14, .mov (.t 203), none, []⟩,
 ⟨some 15, .mov (.t 204), none, []⟩,
 ⟨some 16, .mov (.t 205), none, []⟩])))))
 (.reg [
 ⟨some 206, .bin .add (.t 144) (.c (.int .i64 1)), none, []⟩,
 ⟨some 144, .mov (.t 206), none, []⟩])))))))
 (.seq none
 (.reg [
 ⟨some 207, .mov (.t 9), none, []⟩,
 ⟨some 208, .mov (.t 10), none, []⟩,
 ⟨some 209, .mov (.t 11), none, []⟩,
 ⟨some 210, .mov (.t 12), none, []⟩,
 ⟨some 211, .mov (.t 13), none, []⟩,
 ⟨some 212, .mov (.t 14), none, []⟩,
 ⟨some 213, .mov (.t 15), none, []⟩,
 ⟨some 214, .mov (.t 16), none, []⟩,
 ⟨some 215, .build [.ints .u32 8 (List.replicate 8 0)] [(0, 1, (.t 207)), (1, 1, (.t 208)), (2, 1, (.t 209)), (3, 1, (.t 210)), (4, 1, (.t 211)), (5, 1, (.t 212)), (6, 1, (.t 213)), (7, 1, (.t 214))], none, []⟩,
 ⟨some 216, .mov (.c (.int .i64 0)), none, []⟩])
 (.block 6 none
 (.loop 1000000 none
 (.seq none
 (.reg [
 ⟨some 217, .bin .lss (.t 216) (.c (.int .i64 8)), none, []⟩])
 (.seq none
 (.cond (.t 217)
 .skip
 (.exit 6))
 (.seq none
 (.block 7 none
 (.seq none
 (.reg [
 ⟨some 218, .mov (.t 216), none, []⟩,
 ⟨some 219, .idxA false 8 1 (.t 215) (.t 216), none, []⟩,
 ⟨some 21, .mov (.t 218), none, []⟩,
 ⟨some 22, .mov (.t 219), none, []⟩])
 (.draw [
 ⟨some 220, .mov (.t 0), none, []⟩,
 ⟨some 221, .mov (.t 21), none, []⟩,
 ⟨some 222, .nilChk (.t 220), none, [0]⟩,
 ⟨some 223, .faddr 0 (.t 222), none, [2]⟩,
 ⟨some 224, .iaddrA 8 0 (.t 223) (.t 221), none, [3, 1]⟩,
 ⟨some 225, .load false 1 (.t 224), none, [4]⟩,
 ⟨some 226, .mov (.t 22), none, []⟩,
 ⟨some 227, .bin .add (.t 225) (.t 226), none, [5, 6]⟩,
 ⟨some 228, .nilChk (.t 220), none, [0]⟩,
 ⟨some 229, .faddr 0 (.t 228), none, [8]⟩,
 ⟨some 230, .iaddrA 8 0 (.t 229) (.t 221), none, [9, 1, 0, 1, 2, 3, 4, 5, 6, 7]⟩,
 ⟨none, .store 1 (.t 230) (.t 227), none, [10, 7, 0, 1, 2, 3, 4, 5, 6, 7]⟩])))
 (.reg [
 ⟨some 231, .bin .add (.t 216) (.c (.int .i64 1)), none, []⟩,
 ⟨some 216, .mov (.t 231), none, []⟩]))))))))))))⟩
def id_chacha_read : Nat := 160
def af_chacha_read : AFn := ⟨18, [.t 2],
 (.seq none
 (.reg [
 ⟨some 2, .mov (.c (.int .u32 0)), none, []⟩])
 (.seq none
 (.reg [
 ⟨some 3, .mov (.c (.int .u32 0)), none, []⟩])
 (.seq none
 (.seq none
 (.reg [
 ⟨some 4, .mov (.c (.int .i64 3)), none, []⟩])
 (.block 0 none
 (.loop 1000000 none
 (.seq none
 (.seq none
 (.reg [
 ⟨some 5, .mov (.t 4), none, []⟩,
 ⟨some 6, .bin .geq (.t 5) (.c (.int .i64 0)), none, []⟩])
 (.cond (.t 6)
 .skip
 (.exit 0)))
 (.seq none
 (.block 1 none
 (.reg [
 ⟨some 9, .mov (.t 3), none, []⟩,
 ⟨some 10, .bin .shl (.t 9) (.c (.int .u64 8)), none, []⟩,
 ⟨some 11, .mov (.t 0), none, []⟩,
 ⟨some 12, .mov (.t 4), none, []⟩,
 ⟨some 13, .iaddrS 1 (.t 11) (.t 12), none, []⟩,
 ⟨some 14, .load false 1 (.t 13), none, []⟩,
 ⟨some 15, .toInt .u32 (.t 14), none, []⟩,
 ⟨some 16, .bin .or (.t 10) (.t 15), none, []⟩,
 ⟨some 3, .mov (.t 16), none, []⟩]))
 (.reg [
 ⟨some 7, .mov (.t 4), none, []⟩,
 ⟨some 8, .bin .sub (.t 7) (.c (.int .i64 1)), none, []⟩,
 ⟨some 4, .mov (.t 8), none, []⟩]))))))
 (.seq none
 (.reg [
 ⟨some 17, .mov (.t 3), none, []⟩,
 ⟨some 2, .mov (.t 17), none, []⟩])
 .ret))))⟩
def id_poly_limbs_carry : Nat := 161
def af_poly_limbs_carry : AFn := ⟨34, [.cell 2 true 5],
 (.seq none
 (.reg [
 ⟨some 1, .box (.t 0), none, []⟩,
 ⟨some 2, .alloc [.ints .u64 5 (List.replicate 5 0)], none, []⟩])
 (.seq none
 (.seq none
 (.reg [
 ⟨some 5, .mov (.c (.int .i64 0)), none, []⟩])
 (.block 0 none
 (.loop 1000000 none
 (.seq none
 (.reg [
 ⟨some 6, .bin .lss (.t 5) (.c (.int .i64 2)), none, []⟩])
 (.seq none
 (.cond (.t 6)
 .skip
 (.exit 0))
 (.seq none
 (.block 1 none
 (.seq none
 (.reg [
 ⟨some 3, .mov (.c (.int .u64 0)), none, []⟩])
 (.seq none
 (.seq none
 (.reg [
 ⟨some 7, .mov (.c (.int .i64 0)), none, []⟩])
 (.block 2 none
 (.loop 1000000 none
 (.seq none
 (.reg [
 ⟨some 8, .bin .lss (.t 7) (.c (.int .i64 5)), none, []⟩])
 (.seq none
 (.cond (.t 8)
 .skip
 (.exit 2))
 (.seq none
 (.block 3 none
 (.seq none
 (.reg [
 ⟨some 9, .mov (.t 7), none, []⟩,
 ⟨some 4, .mov (.t 9), none, []⟩])
 (.seq none
 (.reg [
 ⟨some 10, .mov (.t 4), none, []⟩,
 ⟨some 11, .iaddrA 5 0 (.t 1) (.t 10), none, []⟩,
 ⟨some 12, .load false 1 (.t 11), none, []⟩,
 ⟨some 13, .mov (.t 3), none, []⟩,
 ⟨some 14, .bin .add (.t 12) (.t 13), none, []⟩,
 ⟨some 15, .iaddrA 5 0 (.t 1) (.t 10), none, []⟩,
 ⟨none, .store 1 (.t 15) (.t 14), none, []⟩])
 (.seq none
 (.reg [
 ⟨some 16, .mov (.t 4), none, []⟩,
 ⟨some 17, .iaddrA 5 0 (.t 1) (.t 16), none, []⟩,
 ⟨some 18, .load false 1 (.t 17), none, []⟩,
 ⟨some 19, .bin .shr (.t 18) (.c (.int .u64 26)), none, []⟩,
 ⟨some 3, .mov (.t 19), none, []⟩])
 (.reg [
 ⟨some 20, .mov (.t 4), none, []⟩,
 ⟨some 21, .iaddrA 5 0 (.t 1) (.t 20), none, []⟩,
 ⟨some 22, .load false 1 (.t 21), none, []⟩,
 ⟨some 23, .bin .and (.t 22) (.c (.int .u64 67108863)), none, []⟩,
 ⟨some 24, .iaddrA 5 0 (.t 1) (.t 20), none, []⟩,
 ⟨none, .store 1 (.t 24) (.t 23), none, []⟩])))))
 (.reg [
 ⟨some 25, .bin .add (.t 7) (.c (.int .i64 1)), none, []⟩,
 ⟨some 7, .mov (.t 25), none, []⟩])))))))
 (.reg [
 ⟨some 26, .iaddrA 5 0 (.t 1) (.c (.int .i64 0)), none, []⟩,
 ⟨some 27, .load false 1 (.t 26), none, []⟩,
 ⟨some 28, .mov (.t 3), none, []⟩,
 ⟨some 29, .bin .mul (.c (.int .u64 5)) (.t 28), none, []⟩,
 ⟨some 30, .bin .add (.t 27) (.t 29), none, []⟩,
 ⟨some 31, .iaddrA 5 0 (.t 1) (.c (.int .i64 0)), none, []⟩,
 ⟨none, .store 1 (.t 31) (.t 30), none, []⟩]))))
 (.reg [
 ⟨some 32, .bin .add (.t 5) (.c (.int .i64 1)), none, []⟩,
 ⟨some 5, .mov (.t 32), none, []⟩])))))))
 (.seq none
 (.reg [
 ⟨some 33, .load true 5 (.t 1), none, []⟩,
 ⟨none, .store 5 (.t 2) (.t 33), none, []⟩])
 .ret)))⟩
def id_sha_turn : Nat := 165
def af_sha_turn : AFn := ⟨13, [.t 4],
 (.seq none
 (.reg [
 ⟨some 4, .mov (.c (.int .u32 0)), none, []⟩])
 (.seq none
 (.draw [
 ⟨some 5, .mov (.t 0), none, []⟩,
 ⟨some 6, .mov (.t 1), none, []⟩,
 ⟨some 7, .bin .shr (.t 5) (.t 6), none, [0, 1]⟩,
 ⟨some 8, .mov (.t 0), none, []⟩,
 ⟨some 9, .mov (.t 1), none, []⟩,
 ⟨some 10, .bin .sub (.c (.int .i64 32)) (.t 9), none, [4]⟩,
 ⟨some 11, .bin .shl (.t 8) (.t 10), none, [3, 5]⟩,
 ⟨some 12, .bin .or (.t 7) (.t 11), none, [2, 6]⟩,
 ⟨some 4, .mov (.t 12), none, [7, 0, 1, 2, 3, 4, 5, 6, 7]⟩])
 .ret))⟩
end Go.Am
