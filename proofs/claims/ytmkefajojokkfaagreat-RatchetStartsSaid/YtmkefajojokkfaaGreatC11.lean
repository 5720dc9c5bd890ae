/- RatchetStarts: part 12 of 50 of its proof. -/
import Derived.Test.YtmkefajojokkfaaGreatC10
set_option linter.unusedVariables false
set_option linter.unusedSimpArgs false
namespace Go.Am
def af_hollowtreelaw17_RatchetStarts : AFn := ⟨49, [.t 2],
 (.seq none
 (.reg [
 ⟨some 1, .box (.t 0), none, []⟩,
 ⟨some 2, .mov (.c (.bool false)), none, []⟩])
 (.seq none
 (.seq none
 (.reg [
 ⟨some 5, .call 7 [], none, []⟩,
 ⟨some 6, .un .not (.t 5), none, []⟩])
 (.cond (.t 6)
 (.seq none
 (.reg [
 ⟨some 2, .mov (.c (.bool false)), none, []⟩])
 .ret)
 .skip))
 (.seq none
 (.reg [
 ⟨some 8, .faddr 0 (.t 1), none, []⟩,
 ⟨some 9, .load true 33 (.t 8), none, []⟩,
 ⟨some 10, .faddr 33 (.t 1), none, []⟩,
 ⟨some 11, .load true 32 (.t 10), none, []⟩,
 ⟨some 12, .faddr 65 (.t 1), none, []⟩,
 ⟨some 13, .load true 32 (.t 12), none, []⟩,
 ⟨some 14, .faddr 97 (.t 1), none, []⟩,
 ⟨some 15, .load true 32 (.t 14), none, []⟩,
 ⟨some 16, .call 13 [(.t 9), (.t 11), (.t 13), (.t 15)], none, []⟩,
 ⟨some 7, .mov (.t 16), none, []⟩,
 ⟨some 17, .ext (.t 7) 0, none, []⟩,
 ⟨some 18, .ext (.t 7) 1, none, []⟩,
 ⟨some 3, .alloc [.ints .u8 32 (List.replicate 32 0), .ints .u8 32 (List.replicate 32 0), .ints .u8 32 (List.replicate 32 0), .ints .u8 32 (List.replicate 32 0), .ints .u8 32 (List.replicate 32 0), .int .u32 0, .int .u32 0, .int .u32 0, .nils], none, []⟩,
 ⟨none, .store 164 (.t 3) (.t 17), none, []⟩,
 ⟨some 4, .mov (.t 18), none, []⟩])
 (.seq none
 (.seq none
 (.reg [
 ⟨some 19, .faddr 65 (.t 1), none, []⟩,
 ⟨some 20, .load true 32 (.t 19), none, []⟩,
 ⟨some 21, .call 14 [(.t 20)], none, []⟩])
 (.cond (.t 21)
 (.seq none
 (.reg [
 ⟨some 22, .mov (.t 4), none, []⟩,
 ⟨some 23, .bin .eql (.t 22) (.c (.int .i64 130)), none, []⟩,
 ⟨some 24, .mov (.t 23), none, []⟩,
 ⟨some 25, .load true 164 (.t 3), some (24, true), []⟩,
 ⟨some 26, .build [.ints .u8 32 (List.replicate 32 0), .ints .u8 32 (List.replicate 32 0), .ints .u8 32 (List.replicate 32 0), .ints .u8 32 (List.replicate 32 0), .ints .u8 32 (List.replicate 32 0), .int .u32 0, .int .u32 0, .int .u32 0, .nils] [], some (24, true), []⟩,
 ⟨some 27, .call 15 [(.t 25), (.t 26)], some (24, true), []⟩,
 ⟨some 28, .pick (.t 24) (.t 27) (.c (.bool false)), none, []⟩,
 ⟨some 2, .mov (.t 28), none, []⟩])
 .ret)
 .skip))
 (.seq none
 (.draw [
 ⟨some 29, .mov (.t 4), none, []⟩,
 ⟨some 30, .bin .eql (.t 29) (.c (.int .i64 0)), none, [0]⟩,
 ⟨some 31, .mov (.t 30), none, [1]⟩,
 ⟨some 32, .load true 164 (.t 3), some (31, true), [2]⟩,
 ⟨some 33, .faddr 0 (.t 1), some (31, true), [2]⟩,
 ⟨some 34, .load true 33 (.t 33), some (31, true), [4, 2]⟩,
 ⟨some 35, .faddr 33 (.t 1), some (31, true), [2]⟩,
 ⟨some 36, .load true 32 (.t 35), some (31, true), [6, 2]⟩,
 ⟨some 37, .faddr 65 (.t 1), some (31, true), [2]⟩,
 ⟨some 38, .load true 32 (.t 37), some (31, true), [8, 2]⟩,
 ⟨some 39, .faddr 97 (.t 1), some (31, true), [2]⟩,
 ⟨some 40, .load true 32 (.t 39), some (31, true), [10, 2]⟩,
 ⟨some 41, .call 16 [(.t 34), (.t 36), (.t 38), (.t 40)], some (31, true), [5, 7, 9, 11, 2, 2]⟩,
 ⟨some 42, .call 9 [(.t 32), (.t 41)], some (31, true), [3, 12, 12, 2]⟩,
 ⟨some 43, .pick (.t 31) (.t 42) (.c (.bool false)), none, [2, 13]⟩,
 ⟨some 44, .mov (.t 43), none, [14, 13]⟩,
 ⟨some 45, .load true 164 (.t 3), some (44, true), [15]⟩,
 ⟨some 46, .call 17 [(.t 45)], some (44, true), [16, 15, 15]⟩,
 ⟨some 47, .bin .eql (.t 46) (.c (.int .i64 0)), some (44, true), [17, 15]⟩,
 ⟨some 48, .pick (.t 44) (.t 47) (.c (.bool false)), none, [15, 18]⟩,
 ⟨some 2, .mov (.t 48), none, [19, 17, 0, 1, 2, 3, 4, 5, 6, 7, 8, 9, 10, 11, 12, 13, 14, 15, 16, 17, 18, 19]⟩])
 .ret)))))⟩
def id_hollowtreelaw17_wakes : Nat := 7
def af_hollowtreelaw17_wakes : AFn := ⟨54, [.t 0],
 (.seq none
 (.reg [
 ⟨some 0, .mov (.c (.bool false)), none, []⟩])
 (.seq none
 (.reg [
 ⟨some 9, .build [.ints .u8 32 (List.replicate 32 0)] [(0, 1, (.c (.int .u8 1)))], none, []⟩,
 ⟨some 10, .build [.ints .u8 32 (List.replicate 32 0)] [(0, 1, (.c (.int .u8 8)))], none, []⟩,
 ⟨some 11, .build [.ints .u8 32 (List.replicate 32 0)] [(0, 1, (.c (.int .u8 24)))], none, []⟩,
 ⟨some 12, .build [.ints .u8 32 (List.replicate 32 0)] [(0, 1, (.c (.int .u8 32)))], none, []⟩,
 ⟨some 13, .call 24 [(.t 9), (.t 10), (.t 11), (.t 12)], none, []⟩,
 ⟨some 8, .mov (.t 13), none, []⟩,
 ⟨some 14, .ext (.t 8) 0, none, []⟩,
 ⟨some 15, .ext (.t 8) 1, none, []⟩,
 ⟨some 16, .ext (.t 8) 2, none, []⟩,
 ⟨some 1, .alloc [.ints .u8 32 (List.replicate 32 0), .ints .u8 32 (List.replicate 32 0), .ints .u8 32 (List.replicate 32 0), .ints .u8 32 (List.replicate 32 0), .ints .u8 32 (List.replicate 32 0), .int .u32 0, .int .u32 0, .int .u32 0, .nils], none, []⟩,
 ⟨some 2, .alloc [.ints .u8 32 (List.replicate 32 0), .ints .u8 32 (List.replicate 32 0), .ints .u8 32 (List.replicate 32 0), .ints .u8 32 (List.replicate 32 0), .ints .u8 32 (List.replicate 32 0), .int .u32 0, .int .u32 0, .int .u32 0, .nils], none, []⟩,
 ⟨none, .store 164 (.t 1) (.t 14), none, []⟩,
 ⟨none, .store 164 (.t 2) (.t 15), none, []⟩,
 ⟨some 3, .mov (.t 16), none, []⟩])
 (.seq none
 (.reg [
 ⟨some 18, .load true 164 (.t 1), none, []⟩,
 ⟨some 19, .call 8 [(.t 18), (.c (.str ⟨#[104, 105]⟩))], none, []⟩,
 ⟨some 17, .mov (.t 19), none, []⟩,
 ⟨some 20, .ext (.t 17) 0, none, []⟩,
 ⟨some 21, .ext (.t 17) 1, none, []⟩,
 ⟨some 22, .ext (.t 17) 2, none, []⟩,
 ⟨some 4, .alloc [.ints .u8 32 (List.replicate 32 0), .int .u32 0, .int .u32 0, .ints .u8 65 (List.replicate 65 0)], none, []⟩,
 ⟨none, .store 164 (.t 1) (.t 20), none, []⟩,
 ⟨none, .store 99 (.t 4) (.t 21), none, []⟩,
 ⟨some 5, .mov (.t 22), none, []⟩])
 (.seq none
 (.reg [
 ⟨some 24, .load true 164 (.t 2), none, []⟩,
 ⟨some 25, .load true 99 (.t 4), none, []⟩,
 ⟨some 26, .build [.ints .u8 32 (List.replicate 32 0)] [(0, 1, (.c (.int .u8 40)))], none, []⟩,
 ⟨some 27, .call 25 [(.t 24), (.t 25), (.t 26)], none, []⟩,
 ⟨some 23, .mov (.t 27), none, []⟩,
 ⟨some 28, .ext (.t 23) 0, none, []⟩,
 ⟨some 29, .ext (.t 23) 1, none, []⟩,
 ⟨some 30, .ext (.t 23) 2, none, []⟩,
 ⟨none, .store 164 (.t 2) (.t 28), none, []⟩,
 ⟨some 6, .mov (.t 29), none, []⟩,
 ⟨some 7, .mov (.t 30), none, []⟩])
 (.seq none
 (.reg [
 ⟨some 31, .mov (.t 3), none, []⟩,
 ⟨some 32, .mov (.t 31), none, []⟩,
 ⟨some 33, .mov (.t 5), some (32, true), []⟩,
 ⟨some 34, .bin .eql (.t 33) (.c (.int .i64 0)), some (32, true), []⟩,
 ⟨some 35, .pick (.t 32) (.t 34) (.c (.bool false)), none, []⟩,
 ⟨some 36, .mov (.t 35), none, []⟩,
 ⟨some 37, .mov (.t 7), some (36, true), []⟩,
 ⟨some 38, .bin .eql (.t 37) (.c (.int .i64 0)), some (36, true), []⟩,
 ⟨some 39, .pick (.t 36) (.t 38) (.c (.bool false)), none, []⟩,
 ⟨some 40, .mov (.t 39), none, []⟩,
 ⟨some 41, .mov (.t 6), some (40, true), []⟩,
 ⟨some 42, .bin .eql (.t 41) (.c (.str ⟨#[104, 105]⟩)), some (40, true), []⟩,
 ⟨some 43, .pick (.t 40) (.t 42) (.c (.bool false)), none, []⟩,
 ⟨some 44, .mov (.t 43), none, []⟩,
 ⟨some 45, .faddr 160 (.t 1), some (44, true), []⟩,
 ⟨some 46, .load false 1 (.t 45), some (44, true), []⟩,
 ⟨some 47, .bin .eql (.t 46) (.c (.int .u32 1)), some (44, true), []⟩,
 ⟨some 48, .pick (.t 44) (.t 47) (.c (.bool false)), none, []⟩,
 ⟨some 49, .mov (.t 48), none, []⟩,
 ⟨some 50, .faddr 161 (.t 2), some (49, true), []⟩,
 ⟨some 51, .load false 1 (.t 50), some (49, true), []⟩,
 ⟨some 52, .bin .eql (.t 51) (.c (.int .u32 1)), some (49, true), []⟩,
 ⟨some 53, .pick (.t 49) (.t 52) (.c (.bool false)), none, []⟩,
 ⟨some 0, .mov (.t 53), none, []⟩])
 .ret)))))⟩
def id_ratchet_Seal : Nat := 8
def af_ratchet_Seal : AFn := ⟨78, [.cell 4 true 164, .cell 5 true 99, .t 6],
 (.seq none
 (.reg [
 ⟨some 2, .box (.t 0), none, []⟩,
 ⟨some 4, .alloc [.ints .u8 32 (List.replicate 32 0), .ints .u8 32 (List.replicate 32 0), .ints .u8 32 (List.replicate 32 0), .ints .u8 32 (List.replicate 32 0), .ints .u8 32 (List.replicate 32 0), .int .u32 0, .int .u32 0, .int .u32 0, .nils], none, []⟩,
 ⟨some 5, .alloc [.ints .u8 32 (List.replicate 32 0), .int .u32 0, .int .u32 0, .ints .u8 65 (List.replicate 65 0)], none, []⟩,
 ⟨some 6, .mov (.c (.int .i64 0)), none, []⟩])
 (.seq none
 (.block 0 none
 (.seq none
 (.reg [
 ⟨some 12, .load true 164 (.t 2), none, []⟩,
 ⟨some 13, .call 17 [(.t 12)], none, []⟩,
 ⟨some 14, .bin .neq (.t 13) (.c (.int .i64 0)), none, []⟩,
 ⟨some 11, .mov (.t 14), none, []⟩])
 (.cond (.t 11)
 (.seq none
 (.reg [
 ⟨some 15, .build [.ints .u8 32 (List.replicate 32 0), .ints .u8 32 (List.replicate 32 0), .ints .u8 32 (List.replicate 32 0), .ints .u8 32 (List.replicate 32 0), .ints .u8 32 (List.replicate 32 0), .int .u32 0, .int .u32 0, .int .u32 0, .nils] [], none, []⟩,
 ⟨some 16, .build [.ints .u8 32 (List.replicate 32 0), .int .u32 0, .int .u32 0, .ints .u8 65 (List.replicate 65 0)] [], none, []⟩,
 ⟨none, .store 164 (.t 4) (.t 15), none, []⟩,
 ⟨none, .store 99 (.t 5) (.t 16), none, []⟩,
 ⟨some 6, .mov (.c (.int .i64 270)), none, []⟩])
 .ret)
 (.seq none
 (.reg [
 ⟨some 18, .mov (.t 1), none, []⟩,
 ⟨some 19, .len true (.t 18), none, []⟩,
 ⟨some 20, .bin .lss (.t 19) (.c (.int .i64 1)), none, []⟩,
 ⟨some 21, .mov (.t 20), none, []⟩,
 ⟨some 22, .mov (.t 1), some (21, false), []⟩,
 ⟨some 23, .len true (.t 22), some (21, false), []⟩,
 ⟨some 24, .bin .gtr (.t 23) (.c (.int .i64 48)), some (21, false), []⟩,
 ⟨some 25, .pick (.t 21) (.c (.bool true)) (.t 24), none, []⟩,
 ⟨some 17, .mov (.t 25), none, []⟩])
 (.cond (.t 17)
 (.seq none
 (.reg [
 ⟨some 26, .build [.ints .u8 32 (List.replicate 32 0), .ints .u8 32 (List.replicate 32 0), .ints .u8 32 (List.replicate 32 0), .ints .u8 32 (List.replicate 32 0), .ints .u8 32 (List.replicate 32 0), .int .u32 0, .int .u32 0, .int .u32 0, .nils] [], none, []⟩,
 ⟨some 27, .build [.ints .u8 32 (List.replicate 32 0), .int .u32 0, .int .u32 0, .ints .u8 65 (List.replicate 65 0)] [], none, []⟩,
 ⟨none, .store 164 (.t 4) (.t 26), none, []⟩,
 ⟨none, .store 99 (.t 5) (.t 27), none, []⟩,
 ⟨some 6, .mov (.c (.int .i64 2)), none, []⟩])
 .ret)
 (.seq none
 (.draw [
 ⟨some 29, .faddr 160 (.t 2), none, []⟩,
 ⟨some 30, .load false 1 (.t 29), none, [0]⟩,
 ⟨some 31, .bin .eql (.t 30) (.c (.int .u32 2147483648)), none, [1]⟩,
 ⟨some 32, .mov (.t 31), none, [2]⟩,
 ⟨some 33, .faddr 96 (.t 2), some (32, false), [3]⟩,
 ⟨some 34, .load true 32 (.t 33), some (32, false), [4, 3]⟩,
 ⟨some 35, .call 26 [], some (32, false), [3, 3]⟩,
 ⟨some 36, .eqv false (.agg [true, true, true, true, true, true, true, true, true, true, true, true, true, true, true, true, true, true, true, true, true, true, true, true, true, true, true, true, true, true, true, true]) (.t 34) (.t 35), some (32, false), [5, 6, 3]⟩,
 ⟨some 37, .pick (.t 32) (.c (.bool true)) (.t 36), none, [3, 7]⟩,
 ⟨some 28, .mov (.t 37), none, [8, 6]⟩])
 (.cond (.t 28)
 (.seq none
 (.reg [
 ⟨some 38, .build [.ints .u8 32 (List.replicate 32 0), .ints .u8 32 (List.replicate 32 0), .ints .u8 32 (List.replicate 32 0), .ints .u8 32 (List.replicate 32 0), .ints .u8 32 (List.replicate 32 0), .int .u32 0, .int .u32 0, .int .u32 0, .nils] [], none, []⟩,
 ⟨some 39, .build [.ints .u8 32 (List.replicate 32 0), .int .u32 0, .int .u32 0, .ints .u8 65 (List.replicate 65 0)] [], none, []⟩,
 ⟨none, .store 164 (.t 4) (.t 38), none, []⟩,
 ⟨none, .store 99 (.t 5) (.t 39), none, []⟩,
 ⟨some 6, .mov (.c (.int .i64 3)), none, []⟩])
 .ret)
 .skip)))))))
 (.seq none
 (.draw [
 ⟨some 40, .faddr 32 (.t 2), none, []⟩,
 ⟨some 41, .load true 32 (.t 40), none, [0]⟩,
 ⟨some 42, .call 27 [(.t 41)], none, [1]⟩,
 ⟨some 43, .faddr 162 (.t 2), none, []⟩,
 ⟨some 44, .load false 1 (.t 43), none, [3]⟩,
 ⟨some 45, .faddr 160 (.t 2), none, []⟩,
 ⟨some 46, .load false 1 (.t 45), none, [5]⟩,
 ⟨some 47, .build [.ints .u8 32 (List.replicate 32 0), .int .u32 0, .int .u32 0] [(0, 32, (.t 42)), (32, 1, (.t 44)), (33, 1, (.t 46))], none, [2, 4, 6]⟩,
 ⟨some 7, .alloc [.ints .u8 32 (List.replicate 32 0), .int .u32 0, .int .u32 0], none, []⟩,
 ⟨none, .store 34 (.t 7) (.t 47), none, [8, 7, 2, 0, 1, 2, 3, 4, 5, 6, 7, 8]⟩])
 (.seq none
 (.reg [
 ⟨some 49, .faddr 96 (.t 2), none, []⟩,
 ⟨some 50, .load true 32 (.t 49), none, []⟩,
 ⟨some 51, .call 28 [(.t 50)], none, []⟩,
 ⟨some 48, .mov (.t 51), none, []⟩,
 ⟨some 52, .ext (.t 48) 0, none, []⟩,
 ⟨some 53, .ext (.t 48) 1, none, []⟩,
 ⟨some 8, .alloc [.ints .u8 32 (List.replicate 32 0)], none, []⟩,
 ⟨some 9, .alloc [.ints .u8 32 (List.replicate 32 0)], none, []⟩,
 ⟨none, .store 32 (.t 8) (.t 52), none, []⟩,
 ⟨none, .store 32 (.t 9) (.t 53), none, []⟩])
 (.seq none
 (.reg [
 ⟨some 54, .load true 34 (.t 7), none, []⟩,
 ⟨some 55, .build [.ints .u8 32 (List.replicate 32 0), .int .u32 0, .int .u32 0, .ints .u8 65 (List.replicate 65 0)] [(0, 34, (.t 54))], none, []⟩,
 ⟨some 10, .alloc [.ints .u8 32 (List.replicate 32 0), .int .u32 0, .int .u32 0, .ints .u8 65 (List.replicate 65 0)], none, []⟩,
 ⟨none, .store 99 (.t 10) (.t 55), none, []⟩])
 (.seq none
 (.draw [
 ⟨some 56, .faddr 34 (.t 10), none, []⟩,
 ⟨some 57, .slArr 65 0 (.t 56) none none none, none, [0]⟩,
 ⟨some 58, .load true 32 (.t 9), none, []⟩,
 ⟨some 59, .call 30 [(.c (.int .u64 0))], none, []⟩,
 ⟨some 60, .load true 34 (.t 7), none, []⟩,
 ⟨some 61, .call 31 [(.t 60)], none, [4, 3]⟩,
 ⟨some 62, .mov (.t 1), none, []⟩,
 ⟨some 63, .call 32 [(.t 62)], none, [6, 5]⟩,
 ⟨some 64, .call 29 [(.t 58), (.t 59), (.t 61), (.t 63)], none, [2, 3, 5, 7, 7]⟩,
 ⟨some 65, .copyI (.t 57) (.t 64), none, [1, 8, 8]⟩])
 (.seq none
 (.reg [
 ⟨some 66, .load true 32 (.t 8), none, []⟩,
 ⟨some 67, .faddr 160 (.t 2), none, []⟩,
 ⟨some 68, .load false 1 (.t 67), none, []⟩,
 ⟨some 69, .bin .add (.t 68) (.c (.int .u32 1)), none, []⟩,
 ⟨some 70, .faddr 96 (.t 2), none, []⟩,
 ⟨none, .store 32 (.t 70) (.t 66), none, []⟩,
 ⟨some 71, .faddr 160 (.t 2), none, []⟩,
 ⟨none, .store 1 (.t 71) (.t 69), none, []⟩])
 (.seq none
 (.reg [
 ⟨some 72, .faddr 163 (.t 2), none, []⟩,
 ⟨some 73, .load false 1 (.t 72), none, []⟩,
 ⟨some 74, .call 33 [(.t 73)], none, []⟩,
 ⟨some 75, .faddr 163 (.t 2), none, []⟩,
 ⟨none, .store 1 (.t 75) (.t 74), none, []⟩])
 (.seq none
 (.draw [
 ⟨some 76, .load true 164 (.t 2), none, []⟩,
 ⟨some 77, .load true 99 (.t 10), none, []⟩,
 ⟨none, .store 164 (.t 4) (.t 76), none, [0, 0]⟩,
 ⟨none, .store 99 (.t 5) (.t 77), none, [1, 2, 0, 1, 2]⟩,
 ⟨some 6, .mov (.c (.int .i64 0)), none, [3, 0, 1, 2, 3]⟩])
 .ret)))))))))⟩
def id_hollowtreeref17_Same : Nat := 9
def af_hollowtreeref17_Same : AFn := ⟨85, [.t 4],
 (.seq none
 (.reg [
 ⟨some 2, .box (.t 0), none, []⟩,
 ⟨some 3, .box (.t 1), none, []⟩,
 ⟨some 4, .mov (.c (.bool false)), none, []⟩])
 (.seq none
 (.seq none
 (.reg [
 ⟨some 6, .faddr 163 (.t 2), none, []⟩,
 ⟨some 7, .load false 1 (.t 6), none, []⟩,
 ⟨some 8, .len false (.t 7), none, []⟩,
 ⟨some 9, .faddr 163 (.t 3), none, []⟩,
 ⟨some 10, .load false 1 (.t 9), none, []⟩,
 ⟨some 11, .len false (.t 10), none, []⟩,
 ⟨some 12, .bin .neq (.t 8) (.t 11), none, []⟩])
 (.cond (.t 12)
 (.seq none
 (.reg [
 ⟨some 4, .mov (.c (.bool false)), none, []⟩])
 .ret)
 .skip))
 (.seq none
 (.seq none
 (.reg [
 ⟨some 5, .mov (.c (.int .i64 0)), none, []⟩])
 (.block 0 none
 (.loop 1000000 none
 (.seq none
 (.seq none
 (.reg [
 ⟨some 13, .mov (.t 5), none, []⟩,
 ⟨some 14, .faddr 163 (.t 2), none, []⟩,
 ⟨some 15, .load false 1 (.t 14), none, []⟩,
 ⟨some 16, .len false (.t 15), none, []⟩,
 ⟨some 17, .bin .lss (.t 13) (.t 16), none, []⟩])
 (.cond (.t 17)
 .skip
 (.exit 0)))
 (.seq none
 (.block 1 none
 (.seq none
 (.draw [
 ⟨some 20, .faddr 163 (.t 2), none, []⟩,
 ⟨some 21, .load false 1 (.t 20), none, [0]⟩,
 ⟨some 22, .mov (.t 5), none, []⟩,
 ⟨some 23, .iaddrS 65 (.t 21) (.t 22), none, [1, 2]⟩,
 ⟨some 24, .load true 65 (.t 23), none, [3]⟩,
 ⟨some 25, .faddr 163 (.t 3), none, []⟩,
 ⟨some 26, .load false 1 (.t 25), none, [5]⟩,
 ⟨some 27, .mov (.t 5), none, []⟩,
 ⟨some 28, .iaddrS 65 (.t 26) (.t 27), none, [6, 7]⟩,
 ⟨some 29, .load true 65 (.t 28), none, [8]⟩,
 ⟨some 30, .eqv true (.agg [true, true, true, true, true, true, true, true, true, true, true, true, true, true, true, true, true, true, true, true, true, true, true, true, true, true, true, true, true, true, true, true, true, true, true, true, true, true, true, true, true, true, true, true, true, true, true, true, true, true, true, true, true, true, true, true, true, true, true, true, true, true, true, true, true]) (.t 24) (.t 29), none, [4, 9]⟩])
 (.cond (.t 30)
 (.seq none
 (.reg [
 ⟨some 4, .mov (.c (.bool false)), none, []⟩])
 .ret)
 .skip)))
 (.reg [
 ⟨some 18, .mov (.t 5), none, []⟩,
 ⟨some 19, .bin .add (.t 18) (.c (.int .i64 1)), none, []⟩,
 ⟨some 5, .mov (.t 19), none, []⟩]))))))
 (.seq none
 (.reg [
 ⟨some 31, .faddr 0 (.t 2), none, []⟩,
 ⟨some 32, .load true 32 (.t 31), none, []⟩,
 ⟨some 33, .faddr 0 (.t 3), none, []⟩,
 ⟨some 34, .load true 32 (.t 33), none, []⟩,
 ⟨some 35, .eqv false (.agg [true, true, true, true, true, true, true, true, true, true, true, true, true, true, true, true, true, true, true, true, true, true, true, true, true, true, true, true, true, true, true, true]) (.t 32) (.t 34), none, []⟩,
 ⟨some 36, .mov (.t 35), none, []⟩,
 ⟨some 37, .faddr 32 (.t 2), some (36, true), []⟩,
 ⟨some 38, .load true 32 (.t 37), some (36, true), []⟩,
 ⟨some 39, .faddr 32 (.t 3), some (36, true), []⟩,
 ⟨some 40, .load true 32 (.t 39), some (36, true), []⟩,
 ⟨some 41, .eqv false (.agg [true, true, true, true, true, true, true, true, true, true, true, true, true, true, true, true, true, true, true, true, true, true, true, true, true, true, true, true, true, true, true, true]) (.t 38) (.t 40), some (36, true), []⟩,
 ⟨some 42, .pick (.t 36) (.t 41) (.c (.bool false)), none, []⟩,
 ⟨some 43, .mov (.t 42), none, []⟩,
 ⟨some 44, .faddr 64 (.t 2), some (43, true), []⟩,
 ⟨some 45, .load true 32 (.t 44), some (43, true), []⟩,
 ⟨some 46, .faddr 64 (.t 3), some (43, true), []⟩,
 ⟨some 47, .load true 32 (.t 46), some (43, true), []⟩,
 ⟨some 48, .eqv false (.agg [true, true, true, true, true, true, true, true, true, true, true, true, true, true, true, true, true, true, true, true, true, true, true, true, true, true, true, true, true, true, true, true]) (.t 45) (.t 47), some (43, true), []⟩,
 ⟨some 49, .pick (.t 43) (.t 48) (.c (.bool false)), none, []⟩,
 ⟨some 50, .mov (.t 49), none, []⟩,
 ⟨some 51, .faddr 96 (.t 2), some (50, true), []⟩,
 ⟨some 52, .load true 32 (.t 51), some (50, true), []⟩,
 ⟨some 53, .faddr 96 (.t 3), some (50, true), []⟩,
 ⟨some 54, .load true 32 (.t 53), some (50, true), []⟩,
 ⟨some 55, .eqv false (.agg [true, true, true, true, true, true, true, true, true, true, true, true, true, true, true, true, true, true, true, true, true, true, true, true, true, true, true, true, true, true, true, true]) (.t 52) (.t 54), some (50, true), []⟩,
 ⟨some 56, .pick (.t 50) (.t 55) (.c (.bool false)), none, []⟩,
 ⟨some 57, .mov (.t 56), none, []⟩,
 ⟨some 58, .faddr 128 (.t 2), some (57, true), []⟩,
 ⟨some 59, .load true 32 (.t 58), some (57, true), []⟩,
 ⟨some 60, .faddr 128 (.t 3), some (57, true), []⟩,
 ⟨some 61, .load true 32 (.t 60), some (57, true), []⟩,
 ⟨some 62, .eqv false (.agg [true, true, true, true, true, true, true, true, true, true, true, true, true, true, true, true, true, true, true, true, true, true, true, true, true, true, true, true, true, true, true, true]) (.t 59) (.t 61), some (57, true), []⟩,
 ⟨some 63, .pick (.t 57) (.t 62) (.c (.bool false)), none, []⟩,
 ⟨some 64, .mov (.t 63), none, []⟩,
 ⟨some 65, .faddr 160 (.t 2), some (64, true), []⟩,
 ⟨some 66, .load false 1 (.t 65), some (64, true), []⟩,
 ⟨some 67, .faddr 160 (.t 3), some (64, true), []⟩,
 ⟨some 68, .load false 1 (.t 67), some (64, true), []⟩,
 ⟨some 69, .bin .eql (.t 66) (.t 68), some (64, true), []⟩,
 ⟨some 70, .pick (.t 64) (.t 69) (.c (.bool false)), none, []⟩,
 ⟨some 71, .mov (.t 70), none, []⟩,
 ⟨some 72, .faddr 161 (.t 2), some (71, true), []⟩,
 ⟨some 73, .load false 1 (.t 72), some (71, true), []⟩,
 ⟨some 74, .faddr 161 (.t 3), some (71, true), []⟩,
 ⟨some 75, .load false 1 (.t 74), some (71, true), []⟩,
 ⟨some 76, .bin .eql (.t 73) (.t 75), some (71, true), []⟩,
 ⟨some 77, .pick (.t 71) (.t 76) (.c (.bool false)), none, []⟩,
 ⟨some 78, .mov (.t 77), none, []⟩,
 ⟨some 79, .faddr 162 (.t 2), some (78, true), []⟩,
 ⟨some 80, .load false 1 (.t 79), some (78, true), []⟩,
 ⟨some 81, .faddr 162 (.t 3), some (78, true), []⟩,
 ⟨some 82, .load false 1 (.t 81), some (78, true), []⟩,
 ⟨some 83, .bin .eql (.t 80) (.t 82), some (78, true), []⟩,
 ⟨some 84, .pick (.t 78) (.t 83) (.c (.bool false)), none, []⟩,
 ⟨some 4, .mov (.t 84), none, []⟩])
 .ret))))⟩
def id_ratchet_Start : Nat := 13
def af_ratchet_Start : AFn := ⟨48, [.cell 8 true 164, .t 9],
 (.seq none
 (.reg [
 ⟨some 4, .box (.t 0), none, []⟩,
 ⟨some 5, .box (.t 1), none, []⟩,
 ⟨some 6, .box (.t 2), none, []⟩,
 ⟨some 7, .box (.t 3), none, []⟩,
 ⟨some 8, .alloc [.ints .u8 32 (List.replicate 32 0), .ints .u8 32 (List.replicate 32 0), .ints .u8 32 (List.replicate 32 0), .ints .u8 32 (List.replicate 32 0), .ints .u8 32 (List.replicate 32 0), .int .u32 0, .int .u32 0, .int .u32 0, .nils], none, []⟩,
 ⟨some 9, .mov (.c (.int .i64 0)), none, []⟩])
 (.seq none
 (.seq none
 (.reg [
 ⟨some 14, .load true 32 (.t 6), none, []⟩,
 ⟨some 15, .call 40 [(.t 14)], none, []⟩])
 (.cond (.t 15)
 (.seq none
 (.reg [
 ⟨some 16, .build [.ints .u8 32 (List.replicate 32 0), .ints .u8 32 (List.replicate 32 0), .ints .u8 32 (List.replicate 32 0), .ints .u8 32 (List.replicate 32 0), .ints .u8 32 (List.replicate 32 0), .int .u32 0, .int .u32 0, .int .u32 0, .nils] [], none, []⟩,
 ⟨none, .store 164 (.t 8) (.t 16), none, []⟩,
 ⟨some 9, .mov (.c (.int .i64 130)), none, []⟩])
 .ret)
 .skip))
 (.seq none
 (.reg [
 ⟨some 18, .faddr 0 (.t 4), none, []⟩,
 ⟨some 19, .load true 32 (.t 18), none, []⟩,
 ⟨some 20, .call 41 [(.t 19), (.c (.str ⟨#[114, 97, 116, 99, 104, 101, 116]⟩)), (.c (.nils))], none, []⟩,
 ⟨some 17, .mov (.t 20), none, []⟩,
 ⟨some 21, .ext (.t 17) 0, none, []⟩,
 ⟨some 22, .ext (.t 17) 1, none, []⟩,
 ⟨some 10, .alloc [.ints .u8 32 (List.replicate 32 0)], none, []⟩,
 ⟨some 11, .alloc [.ints .u8 32 (List.replicate 32 0)], none, []⟩,
 ⟨none, .store 32 (.t 10) (.t 21), none, []⟩,
 ⟨none, .store 32 (.t 11) (.t 22), none, []⟩])
 (.seq none
 (.reg [
 ⟨some 23, .faddr 0 (.t 4), none, []⟩,
 ⟨some 24, .load true 32 (.t 23), none, []⟩,
 ⟨some 25, .call 42 [(.t 24), (.c (.str ⟨#[115, 101, 99, 111, 110, 100]⟩)), (.c (.nils))], none, []⟩,
 ⟨some 12, .alloc [.ints .u8 32 (List.replicate 32 0)], none, []⟩,
 ⟨none, .store 32 (.t 12) (.t 25), none, []⟩])
 (.seq none
 (.seq none
 (.reg [
 ⟨some 26, .faddr 32 (.t 4), none, []⟩,
 ⟨some 27, .load false 1 (.t 26), none, []⟩,
 ⟨some 28, .un .not (.t 27), none, []⟩])
 (.cond (.t 28)
 (.seq none
 (.reg [
 ⟨some 29, .load true 32 (.t 10), none, []⟩,
 ⟨some 30, .load true 32 (.t 5), none, []⟩,
 ⟨some 31, .load true 32 (.t 6), none, []⟩,
 ⟨some 32, .load true 32 (.t 12), none, []⟩,
 ⟨some 33, .build [.ints .u8 32 (List.replicate 32 0), .ints .u8 32 (List.replicate 32 0), .ints .u8 32 (List.replicate 32 0), .ints .u8 32 (List.replicate 32 0), .ints .u8 32 (List.replicate 32 0), .int .u32 0, .int .u32 0, .int .u32 0, .nils] [(0, 32, (.t 29)), (32, 32, (.t 30)), (64, 32, (.t 31)), (96, 32, (.t 32))], none, []⟩,
 ⟨none, .store 164 (.t 8) (.t 33), none, []⟩,
 ⟨some 9, .mov (.c (.int .i64 0)), none, []⟩])
 .ret)
 .skip))
 (.seq none
 (.reg [
 ⟨some 34, .load true 32 (.t 7), none, []⟩,
 ⟨some 35, .load true 32 (.t 6), none, []⟩,
 ⟨some 36, .load true 32 (.t 12), none, []⟩,
 ⟨some 37, .build [.ints .u8 32 (List.replicate 32 0), .ints .u8 32 (List.replicate 32 0), .ints .u8 32 (List.replicate 32 0), .ints .u8 32 (List.replicate 32 0), .ints .u8 32 (List.replicate 32 0), .int .u32 0, .int .u32 0, .int .u32 0, .nils] [(32, 32, (.t 34)), (64, 32, (.t 35)), (128, 32, (.t 36))], none, []⟩,
 ⟨some 13, .alloc [.ints .u8 32 (List.replicate 32 0), .ints .u8 32 (List.replicate 32 0), .ints .u8 32 (List.replicate 32 0), .ints .u8 32 (List.replicate 32 0), .ints .u8 32 (List.replicate 32 0), .int .u32 0, .int .u32 0, .int .u32 0, .nils], none, []⟩,
 ⟨none, .store 164 (.t 13) (.t 37), none, []⟩])
 (.seq none
 (.reg [
 ⟨some 39, .load true 32 (.t 10), none, []⟩,
 ⟨some 40, .load true 32 (.t 7), none, []⟩,
 ⟨some 41, .load true 32 (.t 6), none, []⟩,
 ⟨some 42, .call 43 [(.t 39), (.t 40), (.t 41)], none, []⟩,
 ⟨some 38, .mov (.t 42), none, []⟩,
 ⟨some 43, .ext (.t 38) 0, none, []⟩,
 ⟨some 44, .ext (.t 38) 1, none, []⟩,
 ⟨some 45, .faddr 0 (.t 13), none, []⟩,
 ⟨none, .store 32 (.t 45) (.t 43), none, []⟩,
 ⟨some 46, .faddr 96 (.t 13), none, []⟩,
 ⟨none, .store 32 (.t 46) (.t 44), none, []⟩])
 (.seq none
 (.reg [
 ⟨some 47, .load true 164 (.t 13), none, []⟩,
 ⟨none, .store 164 (.t 8) (.t 47), none, []⟩,
 ⟨some 9, .mov (.c (.int .i64 0)), none, []⟩])
 .ret))))))))⟩
def id_hollowtreeref03_Low : Nat := 14
def af_hollowtreeref03_Low : AFn := ⟨41, [.t 2],
 (.seq none
 (.reg [
 ⟨some 1, .box (.t 0), none, []⟩,
 ⟨some 2, .mov (.c (.bool false)), none, []⟩])
 (.seq none
 (.reg [
 ⟨some 4, .load true 32 (.t 1), none, []⟩,
 ⟨some 5, .call 44 [(.t 4)], none, []⟩,
 ⟨some 6, .call 45 [(.t 5)], none, []⟩,
 ⟨some 3, .alloc [.ints .u8 32 (List.replicate 32 0)], none, []⟩,
 ⟨none, .store 32 (.t 3) (.t 6), none, []⟩])
 (.seq none
 (.draw [
 ⟨some 7, .load true 32 (.t 3), none, []⟩,
 ⟨some 8, .build [.ints .u8 32 (List.replicate 32 0)] [], none, []⟩,
 ⟨some 9, .call 44 [(.t 8)], none, [1]⟩,
 ⟨some 10, .call 45 [(.t 9)], none, [2, 2]⟩,
 ⟨some 11, .eqv false (.agg [true, true, true, true, true, true, true, true, true, true, true, true, true, true, true, true, true, true, true, true, true, true, true, true, true, true, true, true, true, true, true, true]) (.t 7) (.t 10), none, [0, 3]⟩,
 ⟨some 12, .mov (.t 11), none, [4, 3]⟩,
 ⟨some 13, .load true 32 (.t 3), some (12, false), [5]⟩,
 ⟨some 14, .build [.ints .u8 32 (List.replicate 32 0)] [(0, 1, (.c (.int .u8 1)))], some (12, false), [5]⟩,
 ⟨some 15, .call 44 [(.t 14)], some (12, false), [7, 5, 5]⟩,
 ⟨some 16, .call 45 [(.t 15)], some (12, false), [8, 8, 5]⟩,
 ⟨some 17, .eqv false (.agg [true, true, true, true, true, true, true, true, true, true, true, true, true, true, true, true, true, true, true, true, true, true, true, true, true, true, true, true, true, true, true, true]) (.t 13) (.t 16), some (12, false), [6, 9, 5]⟩,
 ⟨some 18, .pick (.t 12) (.c (.bool true)) (.t 17), none, [5, 10]⟩,
 ⟨some 19, .mov (.t 18), none, [11, 9]⟩,
 ⟨some 20, .load true 32 (.t 3), some (19, false), [12]⟩,
 ⟨some 21, .build [.ints .u8 32 (List.replicate 32 0)] [], some (19, false), [12]⟩,
 ⟨some 22, .call 44 [(.t 21)], some (19, false), [14, 12, 12]⟩,
 ⟨some 23, .build [.ints .u8 32 (List.replicate 32 0)] [(0, 1, (.c (.int .u8 1)))], some (19, false), [12]⟩,
 ⟨some 24, .call 44 [(.t 23)], some (19, false), [16, 15, 12]⟩,
 ⟨some 25, .call 46 [(.t 22), (.t 24)], some (19, false), [15, 17, 17, 12]⟩,
 ⟨some 26, .call 45 [(.t 25)], some (19, false), [18, 18, 12]⟩,
 ⟨some 27, .eqv false (.agg [true, true, true, true, true, true, true, true, true, true, true, true, true, true, true, true, true, true, true, true, true, true, true, true, true, true, true, true, true, true, true, true]) (.t 20) (.t 26), some (19, false), [13, 19, 12]⟩,
 ⟨some 28, .pick (.t 19) (.c (.bool true)) (.t 27), none, [12, 20]⟩,
 ⟨some 29, .mov (.t 28), none, [21, 19]⟩,
 ⟨some 30, .load true 32 (.t 3), some (29, false), [22]⟩,
 ⟨some 31, .call 47 [(.c (.str ⟨#[51, 50, 53, 54, 48, 54, 50, 53, 48, 57, 49, 54, 53, 53, 55, 52, 51, 49, 55, 57, 53, 57, 56, 51, 54, 50, 54, 51, 53, 54, 49, 49, 48, 54, 51, 49, 50, 57, 52, 48, 48, 56, 49, 49, 53, 55, 50, 55, 56, 52, 56, 56, 48, 53, 53, 54, 48, 48, 50, 51, 51, 56, 55, 49, 54, 55, 57, 50, 55, 50, 51, 51, 53, 48, 52]⟩))], some (29, false), [22, 22]⟩,
 ⟨some 32, .call 45 [(.t 31)], some (29, false), [24, 24, 22]⟩,
 ⟨some 33, .eqv false (.agg [true, true, true, true, true, true, true, true, true, true, true, true, true, true, true, true, true, true, true, true, true, true, true, true, true, true, true, true, true, true, true, true]) (.t 30) (.t 32), some (29, false), [23, 25, 22]⟩,
 ⟨some 34, .pick (.t 29) (.c (.bool true)) (.t 33), none, [22, 26]⟩,
 ⟨some 35, .mov (.t 34), none, [27, 25]⟩,
 ⟨some 36, .load true 32 (.t 3), some (35, false), [28]⟩,
 ⟨some 37, .call 47 [(.c (.str ⟨#[51, 57, 51, 56, 50, 51, 53, 55, 50, 51, 53, 52, 56, 57, 54, 49, 52, 53, 56, 49, 55, 50, 51, 48, 54, 48, 55, 56, 49, 53, 53, 51, 48, 50, 49, 49, 49, 50, 53, 50, 57, 57, 49, 49, 55, 49, 57, 52, 52, 48, 54, 57, 56, 49, 55, 54, 56, 56, 50, 56, 56, 53, 56, 53, 51, 57, 54, 51, 52, 52, 53, 55, 48, 53, 56, 50, 51]⟩))], some (35, false), [28, 28]⟩,
 ⟨some 38, .call 45 [(.t 37)], some (35, false), [30, 30, 28]⟩,
 ⟨some 39, .eqv false (.agg [true, true, true, true, true, true, true, true, true, true, true, true, true, true, true, true, true, true, true, true, true, true, true, true, true, true, true, true, true, true, true, true]) (.t 36) (.t 38), some (35, false), [29, 31, 28]⟩,
 ⟨some 40, .pick (.t 35) (.c (.bool true)) (.t 39), none, [28, 32]⟩,
 ⟨some 2, .mov (.t 40), none, [33, 31, 0, 1, 2, 3, 4, 5, 6, 7, 8, 9, 10, 11, 12, 13, 14, 15, 16, 17, 18, 19, 20, 21, 22, 23, 24, 25, 26, 27, 28, 29, 30, 31, 32, 33]⟩])
 .ret)))⟩
def id_ratchet_Same : Nat := 15
def af_ratchet_Same : AFn := ⟨66, [.t 4],
 (.seq none
 (.reg [
 ⟨some 2, .box (.t 0), none, []⟩,
 ⟨some 3, .box (.t 1), none, []⟩,
 ⟨some 4, .mov (.c (.bool false)), none, []⟩])
 (.seq none
 (.reg [
 ⟨some 5, .faddr 0 (.t 2), none, []⟩,
 ⟨some 6, .load true 32 (.t 5), none, []⟩,
 ⟨some 7, .faddr 0 (.t 3), none, []⟩,
 ⟨some 8, .load true 32 (.t 7), none, []⟩,
 ⟨some 9, .eqv false (.agg [true, true, true, true, true, true, true, true, true, true, true, true, true, true, true, true, true, true, true, true, true, true, true, true, true, true, true, true, true, true, true, true]) (.t 6) (.t 8), none, []⟩,
 ⟨some 10, .mov (.t 9), none, []⟩,
 ⟨some 11, .faddr 32 (.t 2), some (10, true), []⟩,
 ⟨some 12, .load true 32 (.t 11), some (10, true), []⟩,
 ⟨some 13, .faddr 32 (.t 3), some (10, true), []⟩,
 ⟨some 14, .load true 32 (.t 13), some (10, true), []⟩,
 ⟨some 15, .eqv false (.agg [true, true, true, true, true, true, true, true, true, true, true, true, true, true, true, true, true, true, true, true, true, true, true, true, true, true, true, true, true, true, true, true]) (.t 12) (.t 14), some (10, true), []⟩,
 ⟨some 16, .pick (.t 10) (.t 15) (.c (.bool false)), none, []⟩,
 ⟨some 17, .mov (.t 16), none, []⟩,
 ⟨some 18, .faddr 64 (.t 2), some (17, true), []⟩,
 ⟨some 19, .load true 32 (.t 18), some (17, true), []⟩,
 ⟨some 20, .faddr 64 (.t 3), some (17, true), []⟩,
 ⟨some 21, .load true 32 (.t 20), some (17, true), []⟩,
 ⟨some 22, .eqv false (.agg [true, true, true, true, true, true, true, true, true, true, true, true, true, true, true, true, true, true, true, true, true, true, true, true, true, true, true, true, true, true, true, true]) (.t 19) (.t 21), some (17, true), []⟩,
 ⟨some 23, .pick (.t 17) (.t 22) (.c (.bool false)), none, []⟩,
 ⟨some 24, .mov (.t 23), none, []⟩,
 ⟨some 25, .faddr 96 (.t 2), some (24, true), []⟩,
 ⟨some 26, .load true 32 (.t 25), some (24, true), []⟩,
 ⟨some 27, .faddr 96 (.t 3), some (24, true), []⟩,
 ⟨some 28, .load true 32 (.t 27), some (24, true), []⟩,
 ⟨some 29, .eqv false (.agg [true, true, true, true, true, true, true, true, true, true, true, true, true, true, true, true, true, true, true, true, true, true, true, true, true, true, true, true, true, true, true, true]) (.t 26) (.t 28), some (24, true), []⟩,
 ⟨some 30, .pick (.t 24) (.t 29) (.c (.bool false)), none, []⟩,
 ⟨some 31, .mov (.t 30), none, []⟩,
 ⟨some 32, .faddr 128 (.t 2), some (31, true), []⟩,
 ⟨some 33, .load true 32 (.t 32), some (31, true), []⟩,
 ⟨some 34, .faddr 128 (.t 3), some (31, true), []⟩,
 ⟨some 35, .load true 32 (.t 34), some (31, true), []⟩,
 ⟨some 36, .eqv false (.agg [true, true, true, true, true, true, true, true, true, true, true, true, true, true, true, true, true, true, true, true, true, true, true, true, true, true, true, true, true, true, true, true]) (.t 33) (.t 35), some (31, true), []⟩,
 ⟨some 37, .pick (.t 31) (.t 36) (.c (.bool false)), none, []⟩,
 ⟨some 38, .mov (.t 37), none, []⟩,
 ⟨some 39, .faddr 160 (.t 2), some (38, true), []⟩,
 ⟨some 40, .load false 1 (.t 39), some (38, true), []⟩,
 ⟨some 41, .faddr 160 (.t 3), some (38, true), []⟩,
 ⟨some 42, .load false 1 (.t 41), some (38, true), []⟩,
 ⟨some 43, .bin .eql (.t 40) (.t 42), some (38, true), []⟩,
 ⟨some 44, .pick (.t 38) (.t 43) (.c (.bool false)), none, []⟩,
 ⟨some 45, .mov (.t 44), none, []⟩,
 ⟨some 46, .faddr 161 (.t 2), some (45, true), []⟩,
 ⟨some 47, .load false 1 (.t 46), some (45, true), []⟩,
 ⟨some 48, .faddr 161 (.t 3), some (45, true), []⟩,
 ⟨some 49, .load false 1 (.t 48), some (45, true), []⟩,
 ⟨some 50, .bin .eql (.t 47) (.t 49), some (45, true), []⟩,
 ⟨some 51, .pick (.t 45) (.t 50) (.c (.bool false)), none, []⟩,
 ⟨some 52, .mov (.t 51), none, []⟩,
 ⟨some 53, .faddr 162 (.t 2), some (52, true), []⟩,
 ⟨some 54, .load false 1 (.t 53), some (52, true), []⟩,
 ⟨some 55, .faddr 162 (.t 3), some (52, true), []⟩,
 ⟨some 56, .load false 1 (.t 55), some (52, true), []⟩,
 ⟨some 57, .bin .eql (.t 54) (.t 56), some (52, true), []⟩,
 ⟨some 58, .pick (.t 52) (.t 57) (.c (.bool false)), none, []⟩,
 ⟨some 59, .mov (.t 58), none, []⟩,
 ⟨some 60, .faddr 163 (.t 2), some (59, true), []⟩,
 ⟨some 61, .load false 1 (.t 60), some (59, true), []⟩,
 ⟨some 62, .faddr 163 (.t 3), some (59, true), []⟩,
 ⟨some 63, .load false 1 (.t 62), some (59, true), []⟩,
 ⟨some 64, .call 48 [(.t 61), (.t 63)], some (59, true), []⟩,
 ⟨some 65, .pick (.t 59) (.t 64) (.c (.bool false)), none, []⟩,
 ⟨some 4, .mov (.t 65), none, []⟩])
 .ret))⟩
def id_hollowtreeref17_Start : Nat := 16
def af_hollowtreeref17_Start : AFn := ⟨43, [.cell 8 true 164],
 (.seq none
 (.reg [
 ⟨some 4, .box (.t 0), none, []⟩,
 ⟨some 5, .box (.t 1), none, []⟩,
 ⟨some 6, .box (.t 2), none, []⟩,
 ⟨some 7, .box (.t 3), none, []⟩,
 ⟨some 8, .alloc [.ints .u8 32 (List.replicate 32 0), .ints .u8 32 (List.replicate 32 0), .ints .u8 32 (List.replicate 32 0), .ints .u8 32 (List.replicate 32 0), .ints .u8 32 (List.replicate 32 0), .int .u32 0, .int .u32 0, .int .u32 0, .nils], none, []⟩])
 (.seq none
 (.reg [
 ⟨some 15, .faddr 0 (.t 4), none, []⟩,
 ⟨some 16, .load true 32 (.t 15), none, []⟩,
 ⟨some 17, .call 49 [(.t 16), (.c (.str ⟨#[114, 97, 116, 99, 104, 101, 116]⟩)), (.c (.nils))], none, []⟩,
 ⟨some 14, .mov (.t 17), none, []⟩,
 ⟨some 18, .ext (.t 14) 0, none, []⟩,
 ⟨some 19, .ext (.t 14) 1, none, []⟩,
 ⟨some 9, .alloc [.ints .u8 32 (List.replicate 32 0)], none, []⟩,
 ⟨some 10, .alloc [.ints .u8 32 (List.replicate 32 0)], none, []⟩,
 ⟨none, .store 32 (.t 9) (.t 18), none, []⟩,
 ⟨none, .store 32 (.t 10) (.t 19), none, []⟩])
 (.seq none
 (.reg [
 ⟨some 20, .faddr 0 (.t 4), none, []⟩,
 ⟨some 21, .load true 32 (.t 20), none, []⟩,
 ⟨some 22, .call 50 [(.t 21), (.c (.str ⟨#[115, 101, 99, 111, 110, 100]⟩)), (.c (.nils))], none, []⟩,
 ⟨some 11, .alloc [.ints .u8 32 (List.replicate 32 0)], none, []⟩,
 ⟨none, .store 32 (.t 11) (.t 22), none, []⟩])
 (.seq none
 (.seq none
 (.reg [
 ⟨some 23, .faddr 32 (.t 4), none, []⟩,
 ⟨some 24, .load false 1 (.t 23), none, []⟩])
 (.cond (.t 24)
 (.seq none
 (.reg [
 ⟨some 26, .load true 32 (.t 9), none, []⟩,
 ⟨some 27, .load true 32 (.t 7), none, []⟩,
 ⟨some 28, .load true 32 (.t 6), none, []⟩,
 ⟨some 29, .call 51 [(.t 26), (.t 27), (.t 28)], none, []⟩,
 ⟨some 25, .mov (.t 29), none, []⟩,
 ⟨some 30, .ext (.t 25) 0, none, []⟩,
 ⟨some 31, .ext (.t 25) 1, none, []⟩,
 ⟨some 12, .alloc [.ints .u8 32 (List.replicate 32 0)], none, []⟩,
 ⟨some 13, .alloc [.ints .u8 32 (List.replicate 32 0)], none, []⟩,
 ⟨none, .store 32 (.t 12) (.t 30), none, []⟩,
 ⟨none, .store 32 (.t 13) (.t 31), none, []⟩])
 (.seq none
 (.reg [
 ⟨some 32, .load true 32 (.t 12), none, []⟩,
 ⟨some 33, .load true 32 (.t 7), none, []⟩,
 ⟨some 34, .load true 32 (.t 6), none, []⟩,
 ⟨some 35, .load true 32 (.t 13), none, []⟩,
 ⟨some 36, .load true 32 (.t 11), none, []⟩,
 ⟨some 37, .build [.ints .u8 32 (List.replicate 32 0), .ints .u8 32 (List.replicate 32 0), .ints .u8 32 (List.replicate 32 0), .ints .u8 32 (List.replicate 32 0), .ints .u8 32 (List.replicate 32 0), .int .u32 0, .int .u32 0, .int .u32 0, .nils] [(0, 32, (.t 32)), (32, 32, (.t 33)), (64, 32, (.t 34)), (96, 32, (.t 35)), (128, 32, (.t 36))], none, []⟩,
 ⟨none, .store 164 (.t 8) (.t 37), none, []⟩])
 .ret))
 .skip))
 (.seq none
 (.reg [
 ⟨some 38, .load true 32 (.t 9), none, []⟩,
 ⟨some 39, .load true 32 (.t 5), none, []⟩,
 ⟨some 40, .load true 32 (.t 6), none, []⟩,
 ⟨some 41, .load true 32 (.t 11), none, []⟩,
 ⟨some 42, .build [.ints .u8 32 (List.replicate 32 0), .ints .u8 32 (List.replicate 32 0), .ints .u8 32 (List.replicate 32 0), .ints .u8 32 (List.replicate 32 0), .ints .u8 32 (List.replicate 32 0), .int .u32 0, .int .u32 0, .int .u32 0, .nils] [(0, 32, (.t 38)), (32, 32, (.t 39)), (64, 32, (.t 40)), (96, 32, (.t 41))], none, []⟩,
 ⟨none, .store 164 (.t 8) (.t 42), none, []⟩])
 .ret)))))⟩
def id_ratchet_Check : Nat := 17
def af_ratchet_Check : AFn := ⟨43, [.t 2],
 (.seq none
 (.reg [
 ⟨some 1, .box (.t 0), none, []⟩,
 ⟨some 2, .mov (.c (.int .i64 0)), none, []⟩])
 (.seq none
 (.seq none
 (.reg [
 ⟨some 5, .faddr 163 (.t 1), none, []⟩,
 ⟨some 6, .load false 1 (.t 5), none, []⟩,
 ⟨some 7, .len false (.t 6), none, []⟩,
 ⟨some 8, .bin .gtr (.t 7) (.c (.int .i64 8)), none, []⟩,
 ⟨some 9, .mov (.t 8), none, []⟩,
 ⟨some 10, .faddr 160 (.t 1), some (9, false), []⟩,
 ⟨some 11, .load false 1 (.t 10), some (9, false), []⟩,
 ⟨some 12, .bin .gtr (.t 11) (.c (.int .u32 2147483648)), some (9, false), []⟩,
 ⟨some 13, .pick (.t 9) (.c (.bool true)) (.t 12), none, []⟩,
 ⟨some 14, .mov (.t 13), none, []⟩,
 ⟨some 15, .faddr 161 (.t 1), some (14, false), []⟩,
 ⟨some 16, .load false 1 (.t 15), some (14, false), []⟩,
 ⟨some 17, .bin .gtr (.t 16) (.c (.int .u32 2147483648)), some (14, false), []⟩,
 ⟨some 18, .pick (.t 14) (.c (.bool true)) (.t 17), none, []⟩,
 ⟨some 19, .mov (.t 18), none, []⟩,
 ⟨some 20, .faddr 162 (.t 1), some (19, false), []⟩,
 ⟨some 21, .load false 1 (.t 20), some (19, false), []⟩,
 ⟨some 22, .bin .gtr (.t 21) (.c (.int .u32 2147483648)), some (19, false), []⟩,
 ⟨some 23, .pick (.t 19) (.c (.bool true)) (.t 22), none, []⟩])
 (.cond (.t 23)
 (.seq none
 (.reg [
 ⟨some 2, .mov (.c (.int .i64 270)), none, []⟩])
 .ret)
 .skip))
 (.seq none
 (.seq none
 (.reg [
 ⟨some 24, .faddr 163 (.t 1), none, []⟩,
 ⟨some 25, .load false 1 (.t 24), none, []⟩,
 ⟨some 26, .len false (.t 25), none, []⟩,
 ⟨some 27, .mov (.c (.int .i64 0)), none, []⟩])
 (.block 0 none
 (.loop 1000000 none
 (.seq none
 (.reg [
 ⟨some 28, .bin .lss (.t 27) (.t 26), none, []⟩])
 (.seq none
 (.cond (.t 28)
 .skip
 (.exit 0))
 (.seq none
 (.block 1 none
 (.seq none
 (.reg [
 ⟨some 29, .mov (.t 27), none, []⟩,
 ⟨some 30, .iaddrS 65 (.t 25) (.t 27), none, []⟩,
 ⟨some 31, .load true 65 (.t 30), none, []⟩,
 ⟨some 4, .alloc [.ints .u8 32 (List.replicate 32 0), .int .u32 0, .ints .u8 32 (List.replicate 32 0)], none, []⟩,
 ⟨some 3, .mov (.t 29), none, []⟩,
 ⟨none, .store 65 (.t 4) (.t 31), none, []⟩])
 (.seq none
 (.draw [
 ⟨some 32, .faddr 163 (.t 1), none, []⟩,
 ⟨some 33, .load false 1 (.t 32), none, [0]⟩,
 ⟨some 34, .mov (.t 3), none, []⟩,
 ⟨some 35, .slSlice 65 (.t 33) none (some (.t 34)) none, none, [1, 2]⟩,
 ⟨some 36, .faddr 0 (.t 4), none, []⟩,
 ⟨some 37, .load true 32 (.t 36), none, [4]⟩,
 ⟨some 38, .faddr 32 (.t 4), none, []⟩,
 ⟨some 39, .load false 1 (.t 38), none, [6]⟩,
 ⟨some 40, .call 52 [(.t 35), (.t 37), (.t 39)], none, [3, 5, 7]⟩,
 ⟨some 41, .bin .geq (.t 40) (.c (.int .i64 0)), none, [8]⟩])
 (.cond (.t 41)
 (.seq none
 (.reg [
 ⟨some 2, .mov (.c (.int .i64 270)), none, []⟩])
 .ret)
 .skip))))
 (.reg [
 ⟨some 42, .bin .add (.t 27) (.c (.int .i64 1)), none, []⟩,
 ⟨some 27, .mov (.t 42), none, []⟩])))))))
 (.seq none
 (.reg [
 ⟨some 2, .mov (.c (.int .i64 0)), none, []⟩])
 .ret))))⟩
def id_octet_Equal : Nat := 23
def af_octet_Equal : AFn := ⟨31, [.t 4],
 (.seq none
 (.reg [
 ⟨some 4, .mov (.c (.bool false)), none, []⟩])
 (.seq none
 (.seq none
 (.reg [
 ⟨some 7, .mov (.t 0), none, []⟩,
 ⟨some 8, .len false (.t 7), none, []⟩,
 ⟨some 9, .mov (.t 1), none, []⟩,
 ⟨some 10, .len false (.t 9), none, []⟩,
 ⟨some 11, .bin .neq (.t 8) (.t 10), none, []⟩])
 (.cond (.t 11)
 (.seq none
 (.reg [
 ⟨some 4, .mov (.c (.bool false)), none, []⟩])
 .ret)
 .skip))
 (.seq none
 (.reg [
 ⟨some 5, .mov (.c (.int .u8 0)), none, []⟩])
 (.seq none
 (.seq none
 (.reg [
 ⟨some 12, .mov (.t 0), none, []⟩,
 ⟨some 13, .len false (.t 12), none, []⟩,
 ⟨some 14, .mov (.c (.int .i64 0)), none, []⟩])
 (.block 0 none
 (.loop 1000000 none
 (.seq none
 (.reg [
 ⟨some 15, .bin .lss (.t 14) (.t 13), none, []⟩])
 (.seq none
 (.cond (.t 15)
 .skip
 (.exit 0))
 (.seq none
 (.block 1 none
 (.seq none
 (.reg [
 ⟨some 16, .mov (.t 14), none, []⟩,
 ⟨some 6, .mov (.t 16), none, []⟩])
 (.draw [
 ⟨some 17, .mov (.t 5), none, []⟩,
 ⟨some 18, .mov (.t 0), none, []⟩,
 ⟨some 19, .mov (.t 6), none, []⟩,
 ⟨some 20, .iaddrS 1 (.t 18) (.t 19), none, [1, 2]⟩,
 ⟨some 21, .load false 1 (.t 20), none, [3]⟩,
 ⟨some 22, .mov (.t 1), none, []⟩,
 ⟨some 23, .mov (.t 6), none, []⟩,
 ⟨some 24, .iaddrS 1 (.t 22) (.t 23), none, [5, 6]⟩,
 ⟨some 25, .load false 1 (.t 24), none, [7]⟩,
 ⟨some 26, .bin .xor (.t 21) (.t 25), none, [4, 8]⟩,
 ⟨some 27, .bin .or (.t 17) (.t 26), none, [0, 9]⟩,
 ⟨some 5, .mov (.t 27), none, [10, 0, 1, 2, 3, 4, 5, 6, 7, 8, 9, 10]⟩])))
 (.reg [
 ⟨some 28, .bin .add (.t 14) (.c (.int .i64 1)), none, []⟩,
 ⟨some 14, .mov (.t 28), none, []⟩])))))))
 (.seq none
 (.reg [
 ⟨some 29, .mov (.t 5), none, []⟩,
 ⟨some 30, .bin .eql (.t 29) (.c (.int .u8 0)), none, []⟩,
 ⟨some 4, .mov (.t 30), none, []⟩])
 .ret)))))⟩
def id_hollowtreelaw17_begun : Nat := 24
def af_hollowtreelaw17_begun : AFn := ⟨71, [.cell 8 true 164, .cell 9 true 164, .t 10],
 (.seq none
 (.reg [
 ⟨some 4, .box (.t 0), none, []⟩,
 ⟨some 5, .box (.t 1), none, []⟩,
 ⟨some 6, .box (.t 2), none, []⟩,
 ⟨some 7, .box (.t 3), none, []⟩,
 ⟨some 8, .alloc [.ints .u8 32 (List.replicate 32 0), .ints .u8 32 (List.replicate 32 0), .ints .u8 32 (List.replicate 32 0), .ints .u8 32 (List.replicate 32 0), .ints .u8 32 (List.replicate 32 0), .int .u32 0, .int .u32 0, .int .u32 0, .nils], none, []⟩,
 ⟨some 9, .alloc [.ints .u8 32 (List.replicate 32 0), .ints .u8 32 (List.replicate 32 0), .ints .u8 32 (List.replicate 32 0), .ints .u8 32 (List.replicate 32 0), .ints .u8 32 (List.replicate 32 0), .int .u32 0, .int .u32 0, .int .u32 0, .nils], none, []⟩,
 ⟨some 10, .mov (.c (.bool false)), none, []⟩])
 (.seq none
 (.draw [
 ⟨some 18, .load true 32 (.t 4), none, []⟩,
 ⟨some 19, .load true 32 (.t 5), none, []⟩,
 ⟨some 20, .call 27 [(.t 19)], none, [1]⟩,
 ⟨some 21, .call 61 [(.t 18), (.t 20)], none, [0, 2, 2]⟩,
 ⟨some 17, .mov (.t 21), none, [3]⟩,
 ⟨some 22, .ext (.t 17) 0, none, [4]⟩,
 ⟨some 23, .ext (.t 17) 1, none, [4]⟩,
 ⟨some 11, .alloc [.ints .u8 32 (List.replicate 32 0), .bool false], none, []⟩,
 ⟨none, .store 33 (.t 11) (.t 22), none, [7, 5, 3, 0, 1, 2, 3, 4, 5, 7]⟩,
 ⟨some 12, .mov (.t 23), none, [6, 8, 0, 1, 2, 3, 4, 5, 6, 7, 8]⟩])
 (.seq none
 (.draw [
 ⟨some 25, .load true 32 (.t 5), none, []⟩,
 ⟨some 26, .load true 32 (.t 4), none, []⟩,
 ⟨some 27, .call 27 [(.t 26)], none, [1]⟩,
 ⟨some 28, .call 61 [(.t 25), (.t 27)], none, [0, 2, 2]⟩,
 ⟨some 24, .mov (.t 28), none, [3]⟩,
 ⟨some 29, .ext (.t 24) 0, none, [4]⟩,
 ⟨some 30, .ext (.t 24) 1, none, [4]⟩,
 ⟨some 13, .alloc [.ints .u8 32 (List.replicate 32 0), .bool false], none, []⟩,
 ⟨none, .store 33 (.t 13) (.t 29), none, [7, 5, 3, 0, 1, 2, 3, 4, 5, 7]⟩,
 ⟨some 14, .mov (.t 30), none, [6, 8, 0, 1, 2, 3, 4, 5, 6, 7, 8]⟩])
 (.seq none
 (.seq none
 (.reg [
 ⟨some 31, .mov (.t 12), none, []⟩,
 ⟨some 32, .bin .neq (.t 31) (.c (.int .i64 0)), none, []⟩,
 ⟨some 33, .mov (.t 32), none, []⟩,
 ⟨some 34, .mov (.t 14), some (33, false), []⟩,
 ⟨some 35, .bin .neq (.t 34) (.c (.int .i64 0)), some (33, false), []⟩,
 ⟨some 36, .pick (.t 33) (.c (.bool true)) (.t 35), none, []⟩])
 (.cond (.t 36)
 (.seq none
 (.reg [
 ⟨some 37, .build [.ints .u8 32 (List.replicate 32 0), .ints .u8 32 (List.replicate 32 0), .ints .u8 32 (List.replicate 32 0), .ints .u8 32 (List.replicate 32 0), .ints .u8 32 (List.replicate 32 0), .int .u32 0, .int .u32 0, .int .u32 0, .nils] [], none, []⟩,
 ⟨some 38, .build [.ints .u8 32 (List.replicate 32 0), .ints .u8 32 (List.replicate 32 0), .ints .u8 32 (List.replicate 32 0), .ints .u8 32 (List.replicate 32 0), .ints .u8 32 (List.replicate 32 0), .int .u32 0, .int .u32 0, .int .u32 0, .nils] [], none, []⟩,
 ⟨none, .store 164 (.t 8) (.t 37), none, []⟩,
 ⟨none, .store 164 (.t 9) (.t 38), none, []⟩,
 ⟨some 10, .mov (.c (.bool false)), none, []⟩])
 .ret)
 .skip))
 (.seq none
 (.draw [
 ⟨some 40, .load true 33 (.t 11), none, []⟩,
 ⟨some 41, .load true 32 (.t 4), none, []⟩,
 ⟨some 42, .load true 32 (.t 5), none, []⟩,
 ⟨some 43, .call 27 [(.t 42)], none, [2]⟩,
 ⟨some 44, .load true 32 (.t 6), none, []⟩,
 ⟨some 45, .call 13 [(.t 40), (.t 41), (.t 43), (.t 44)], none, [0, 1, 3, 4, 3]⟩,
 ⟨some 39, .mov (.t 45), none, [5]⟩,
 ⟨some 46, .ext (.t 39) 0, none, [6]⟩,
 ⟨some 47, .ext (.t 39) 1, none, [6]⟩,
 ⟨some 15, .alloc [.ints .u8 32 (List.replicate 32 0), .ints .u8 32 (List.replicate 32 0), .ints .u8 32 (List.replicate 32 0), .ints .u8 32 (List.replicate 32 0), .ints .u8 32 (List.replicate 32 0), .int .u32 0, .int .u32 0, .int .u32 0, .nils], none, []⟩,
 ⟨none, .store 164 (.t 15) (.t 46), none, [9, 7, 5, 0, 1, 2, 3, 4, 5, 6, 7, 9]⟩,
 ⟨some 12, .mov (.t 47), none, [8, 10, 0, 1, 2, 3, 4, 5, 6, 7, 8, 9, 10]⟩])
 (.seq none
 (.draw [
 ⟨some 49, .load true 33 (.t 13), none, []⟩,
 ⟨some 50, .load true 32 (.t 5), none, []⟩,
 ⟨some 51, .load true 32 (.t 4), none, []⟩,
 ⟨some 52, .call 27 [(.t 51)], none, [2]⟩,
 ⟨some 53, .load true 32 (.t 7), none, []⟩,
 ⟨some 54, .call 13 [(.t 49), (.t 50), (.t 52), (.t 53)], none, [0, 1, 3, 4, 3]⟩,
 ⟨some 48, .mov (.t 54), none, [5]⟩,
 ⟨some 55, .ext (.t 48) 0, none, [6]⟩,
 ⟨some 56, .ext (.t 48) 1, none, [6]⟩,
 ⟨some 16, .alloc [.ints .u8 32 (List.replicate 32 0), .ints .u8 32 (List.replicate 32 0), .ints .u8 32 (List.replicate 32 0), .ints .u8 32 (List.replicate 32 0), .ints .u8 32 (List.replicate 32 0), .int .u32 0, .int .u32 0, .int .u32 0, .nils], none, []⟩,
 ⟨none, .store 164 (.t 16) (.t 55), none, [9, 7, 5, 0, 1, 2, 3, 4, 5, 6, 7, 9]⟩,
 ⟨some 14, .mov (.t 56), none, [8, 10, 0, 1, 2, 3, 4, 5, 6, 7, 8, 9, 10]⟩])
 (.seq none
 (.seq none
 (.reg [
 ⟨some 57, .mov (.t 12), none, []⟩,
 ⟨some 58, .bin .neq (.t 57) (.c (.int .i64 0)), none, []⟩,
 ⟨some 59, .mov (.t 58), none, []⟩,
 ⟨some 60, .mov (.t 14), some (59, false), []⟩,
 ⟨some 61, .bin .neq (.t 60) (.c (.int .i64 0)), some (59, false), []⟩,
 ⟨some 62, .pick (.t 59) (.c (.bool true)) (.t 61), none, []⟩])
 (.cond (.t 62)
 (.seq none
 (.reg [
 ⟨some 63, .build [.ints .u8 32 (List.replicate 32 0), .ints .u8 32 (List.replicate 32 0), .ints .u8 32 (List.replicate 32 0), .ints .u8 32 (List.replicate 32 0), .ints .u8 32 (List.replicate 32 0), .int .u32 0, .int .u32 0, .int .u32 0, .nils] [], none, []⟩,
 ⟨some 64, .build [.ints .u8 32 (List.replicate 32 0), .ints .u8 32 (List.replicate 32 0), .ints .u8 32 (List.replicate 32 0), .ints .u8 32 (List.replicate 32 0), .ints .u8 32 (List.replicate 32 0), .int .u32 0, .int .u32 0, .int .u32 0, .nils] [], none, []⟩,
 ⟨none, .store 164 (.t 8) (.t 63), none, []⟩,
 ⟨none, .store 164 (.t 9) (.t 64), none, []⟩,
 ⟨some 10, .mov (.c (.bool false)), none, []⟩])
 .ret)
 .skip))
 (.seq none
 (.seq none
 (.reg [
 ⟨some 65, .faddr 32 (.t 13), none, []⟩,
 ⟨some 66, .load false 1 (.t 65), none, []⟩])
 (.cond (.t 66)
 (.reg [
 ⟨some 67, .load true 164 (.t 16), none, []⟩,
 ⟨some 68, .load true 164 (.t 15), none, []⟩,
 ⟨none, .store 164 (.t 15) (.t 67), none, []⟩,
 ⟨none, .store 164 (.t 16) (.t 68), none, []⟩])
 .skip))
 (.seq none
 (.draw [
 ⟨some 69, .load true 164 (.t 15), none, []⟩,
 ⟨some 70, .load true 164 (.t 16), none, []⟩,
 ⟨none, .store 164 (.t 8) (.t 69), none, [0, 0]⟩,
 ⟨none, .store 164 (.t 9) (.t 70), none, [1, 2, 0, 1, 2]⟩,
 ⟨some 10, .mov (.c (.bool true)), none, [3, 0, 1, 2, 3]⟩])
 .ret)))))))))⟩
def id_ratchet_Open : Nat := 25
def af_ratchet_Open : AFn := ⟨188, [.cell 6 true 164, .t 7, .t 8],
 (.seq none
 (.reg [
 ⟨some 3, .box (.t 0), none, []⟩,
 ⟨some 4, .box (.t 1), none, []⟩,
 ⟨some 5, .box (.t 2), none, []⟩,
 ⟨some 6, .alloc [.ints .u8 32 (List.replicate 32 0), .ints .u8 32 (List.replicate 32 0), .ints .u8 32 (List.replicate 32 0), .ints .u8 32 (List.replicate 32 0), .ints .u8 32 (List.replicate 32 0), .int .u32 0, .int .u32 0, .int .u32 0, .nils], none, []⟩,
 ⟨some 7, .mov (.c (.str ⟨#[]⟩)), none, []⟩,
 ⟨some 8, .mov (.c (.int .i64 0)), none, []⟩])
 (.seq none
 (.reg [
 ⟨some 9, .mov (.c (.func 62 [] [])), none, []⟩])
 (.seq none
 (.reg [
 ⟨some 18, .faddr 0 (.t 4), none, []⟩,
 ⟨some 19, .load true 34 (.t 18), none, []⟩,
 ⟨some 10, .alloc [.ints .u8 32 (List.replicate 32 0), .int .u32 0, .int .u32 0], none, []⟩,
 ⟨none, .store 34 (.t 10) (.t 19), none, []⟩])
 (.seq none
 (.seq none
 (.reg [
 ⟨some 20, .load true 164 (.t 3), none, []⟩,
 ⟨some 21, .call 17 [(.t 20)], none, []⟩,
 ⟨some 22, .bin .neq (.t 21) (.c (.int .i64 0)), none, []⟩])
 (.cond (.t 22)
 (.seq none
 (.reg [
 ⟨some 23, .mov (.t 9), none, []⟩,
 ⟨some 24, .callV (.t 23) [(.c (.int .i64 270))], none, []⟩,
 ⟨some 25, .ext (.t 24) 0, none, []⟩,
 ⟨some 26, .ext (.t 24) 1, none, []⟩,
 ⟨some 27, .ext (.t 24) 2, none, []⟩,
 ⟨none, .store 164 (.t 6) (.t 25), none, []⟩,
 ⟨some 7, .mov (.t 26), none, []⟩,
 ⟨some 8, .mov (.t 27), none, []⟩])
 .ret)
 .skip))
 (.seq none
 (.reg [
 ⟨some 28, .faddr 163 (.t 3), none, []⟩,
 ⟨some 29, .load false 1 (.t 28), none, []⟩,
 ⟨some 30, .call 33 [(.t 29)], none, []⟩,
 ⟨some 31, .faddr 163 (.t 3), none, []⟩,
 ⟨none, .store 1 (.t 31) (.t 30), none, []⟩])
 (.seq none
 (.seq none
 (.reg [
 ⟨some 32, .faddr 163 (.t 3), none, []⟩,
 ⟨some 33, .load false 1 (.t 32), none, []⟩,
 ⟨some 34, .faddr 0 (.t 10), none, []⟩,
 ⟨some 35, .load true 32 (.t 34), none, []⟩,
 ⟨some 36, .faddr 33 (.t 10), none, []⟩,
 ⟨some 37, .load false 1 (.t 36), none, []⟩,
 ⟨some 38, .call 52 [(.t 33), (.t 35), (.t 37)], none, []⟩,
 ⟨some 11, .mov (.t 38), none, []⟩])
 (.seq none
 (.reg [
 ⟨some 39, .mov (.t 11), none, []⟩,
 ⟨some 40, .bin .geq (.t 39) (.c (.int .i64 0)), none, []⟩])
 (.cond (.t 40)
 (.seq none
 (.draw [
 ⟨some 42, .faddr 163 (.t 3), none, []⟩,
 ⟨some 43, .load false 1 (.t 42), none, [0]⟩,
 ⟨some 44, .mov (.t 11), none, []⟩,
 ⟨some 45, .iaddrS 65 (.t 43) (.t 44), none, [1, 2]⟩,
 ⟨some 46, .faddr 33 (.t 45), none, [3]⟩,
 ⟨some 47, .load true 32 (.t 46), none, [4]⟩,
 ⟨some 48, .load true 99 (.t 4), none, []⟩,
 ⟨some 49, .call 63 [(.t 47), (.t 48)], none, [5, 6]⟩,
 ⟨some 41, .mov (.t 49), none, [7]⟩,
 ⟨some 50, .ext (.t 41) 0, none, [8]⟩,
 ⟨some 51, .ext (.t 41) 1, none, [8]⟩,
 ⟨some 12, .mov (.t 50), none, [9, 7, 0, 1, 2, 3, 4, 5, 6, 7, 8, 9]⟩,
 ⟨some 13, .mov (.t 51), none, [10, 11, 0, 1, 2, 3, 4, 5, 6, 7, 8, 9, 10, 11]⟩])
 (.seq none
 (.seq none
 (.reg [
 ⟨some 52, .mov (.t 13), none, []⟩,
 ⟨some 53, .un .not (.t 52), none, []⟩])
 (.cond (.t 53)
 (.seq none
 (.reg [
 ⟨some 54, .mov (.t 9), none, []⟩,
 ⟨some 55, .callV (.t 54) [(.c (.int .i64 180))], none, []⟩,
 ⟨some 56, .ext (.t 55) 0, none, []⟩,
 ⟨some 57, .ext (.t 55) 1, none, []⟩,
 ⟨some 58, .ext (.t 55) 2, none, []⟩,
 ⟨none, .store 164 (.t 6) (.t 56), none, []⟩,
 ⟨some 7, .mov (.t 57), none, []⟩,
 ⟨some 8, .mov (.t 58), none, []⟩])
 .ret)
 .skip))
 (.seq none
 (.reg [
 ⟨some 59, .faddr 163 (.t 3), none, []⟩,
 ⟨some 60, .load false 1 (.t 59), none, []⟩,
 ⟨some 61, .mov (.t 11), none, []⟩,
 ⟨some 62, .mov (.t 11), none, []⟩,
 ⟨some 63, .bin .add (.t 62) (.c (.int .i64 1)), none, []⟩,
 ⟨some 64, .call 64 [(.t 60), (.t 61), (.t 63)], none, []⟩,
 ⟨some 65, .faddr 163 (.t 3), none, []⟩,
 ⟨none, .store 1 (.t 65) (.t 64), none, []⟩])
 (.seq none
 (.reg [
 ⟨some 66, .load true 164 (.t 3), none, []⟩,
 ⟨some 67, .mov (.t 12), none, []⟩,
 ⟨none, .store 164 (.t 6) (.t 66), none, []⟩,
 ⟨some 7, .mov (.t 67), none, []⟩,
 ⟨some 8, .mov (.c (.int .i64 0)), none, []⟩])
 .ret))))
 .skip)))
 (.seq none
 (.block 0 none
 (.seq none
 (.reg [
 ⟨some 69, .faddr 0 (.t 10), none, []⟩,
 ⟨some 70, .load true 32 (.t 69), none, []⟩,
 ⟨some 71, .call 40 [(.t 70)], none, []⟩,
 ⟨some 68, .mov (.t 71), none, []⟩])
 (.cond (.t 68)
 (.seq none
 (.reg [
 ⟨some 72, .mov (.t 9), none, []⟩,
 ⟨some 73, .callV (.t 72) [(.c (.int .i64 130))], none, []⟩,
 ⟨some 74, .ext (.t 73) 0, none, []⟩,
 ⟨some 75, .ext (.t 73) 1, none, []⟩,
 ⟨some 76, .ext (.t 73) 2, none, []⟩,
 ⟨none, .store 164 (.t 6) (.t 74), none, []⟩,
 ⟨some 7, .mov (.t 75), none, []⟩,
 ⟨some 8, .mov (.t 76), none, []⟩])
 .ret)
 (.seq none
 (.draw [
 ⟨some 78, .faddr 0 (.t 10), none, []⟩,
 ⟨some 79, .load true 32 (.t 78), none, [0]⟩,
 ⟨some 80, .faddr 64 (.t 3), none, []⟩,
 ⟨some 81, .load true 32 (.t 80), none, [2]⟩,
 ⟨some 82, .eqv false (.agg [true, true, true, true, true, true, true, true, true, true, true, true, true, true, true, true, true, true, true, true, true, true, true, true, true, true, true, true, true, true, true, true]) (.t 79) (.t 81), none, [1, 3]⟩,
 ⟨some 83, .mov (.t 82), none, [4]⟩,
 ⟨some 84, .faddr 128 (.t 3), some (83, true), [5]⟩,
 ⟨some 85, .load true 32 (.t 84), some (83, true), [6, 5]⟩,
 ⟨some 86, .call 26 [], some (83, true), [5, 5]⟩,
 ⟨some 87, .eqv false (.agg [true, true, true, true, true, true, true, true, true, true, true, true, true, true, true, true, true, true, true, true, true, true, true, true, true, true, true, true, true, true, true, true]) (.t 85) (.t 86), some (83, true), [7, 8, 5]⟩,
 ⟨some 88, .mov (.t 87), some (83, true), [9, 8, 5]⟩,
 ⟨some 89, .faddr 33 (.t 10), some (88, false), [10]⟩,
 ⟨some 90, .load false 1 (.t 89), some (88, false), [11, 10]⟩,
 ⟨some 91, .faddr 161 (.t 3), some (88, false), [10]⟩,
 ⟨some 92, .load false 1 (.t 91), some (88, false), [13, 10]⟩,
 ⟨some 93, .bin .lss (.t 90) (.t 92), some (88, false), [12, 14, 10]⟩,
 ⟨some 94, .pick (.t 88) (.c (.bool true)) (.t 93), some (83, true), [10, 15, 5]⟩,
 ⟨some 95, .pick (.t 83) (.t 94) (.c (.bool false)), none, [5, 16]⟩,
 ⟨some 77, .mov (.t 95), none, [17, 10]⟩])
 (.cond (.t 77)
 (.seq none
 (.reg [
 ⟨some 96, .mov (.t 9), none, []⟩,
 ⟨some 97, .callV (.t 96) [(.c (.int .i64 272))], none, []⟩,
 ⟨some 98, .ext (.t 97) 0, none, []⟩,
 ⟨some 99, .ext (.t 97) 1, none, []⟩,
 ⟨some 100, .ext (.t 97) 2, none, []⟩,
 ⟨none, .store 164 (.t 6) (.t 98), none, []⟩,
 ⟨some 7, .mov (.t 99), none, []⟩,
 ⟨some 8, .mov (.t 100), none, []⟩])
 .ret)
 (.seq none
 (.reg [
 ⟨some 102, .load true 164 (.t 3), none, []⟩,
 ⟨some 103, .load true 34 (.t 10), none, []⟩,
 ⟨some 104, .call 65 [(.t 102), (.t 103)], none, []⟩,
 ⟨some 105, .bin .gtr (.t 104) (.c (.int .i64 8)), none, []⟩,
 ⟨some 101, .mov (.t 105), none, []⟩])
 (.cond (.t 101)
 (.seq none
 (.reg [
 ⟨some 106, .mov (.t 9), none, []⟩,
 ⟨some 107, .callV (.t 106) [(.c (.int .i64 271))], none, []⟩,
 ⟨some 108, .ext (.t 107) 0, none, []⟩,
 ⟨some 109, .ext (.t 107) 1, none, []⟩,
 ⟨some 110, .ext (.t 107) 2, none, []⟩,
 ⟨none, .store 164 (.t 6) (.t 108), none, []⟩,
 ⟨some 7, .mov (.t 109), none, []⟩,
 ⟨some 8, .mov (.t 110), none, []⟩])
 .ret)
 .skip)))))))
 (.seq none
 (.seq none
 (.reg [
 ⟨some 111, .faddr 0 (.t 10), none, []⟩,
 ⟨some 112, .load true 32 (.t 111), none, []⟩,
 ⟨some 113, .faddr 64 (.t 3), none, []⟩,
 ⟨some 114, .load true 32 (.t 113), none, []⟩,
 ⟨some 115, .eqv true (.agg [true, true, true, true, true, true, true, true, true, true, true, true, true, true, true, true, true, true, true, true, true, true, true, true, true, true, true, true, true, true, true, true]) (.t 112) (.t 114), none, []⟩])
 (.cond (.t 115)
 (.seq none
 (.reg [
 ⟨some 116, .faddr 32 (.t 10), none, []⟩,
 ⟨some 117, .load false 1 (.t 116), none, []⟩,
 ⟨some 118, .call 66 [(.t 3), (.t 117)], none, []⟩])
 (.seq none
 (.draw [
 ⟨some 119, .faddr 160 (.t 3), none, []⟩,
 ⟨some 120, .load false 1 (.t 119), none, [0]⟩,
 ⟨some 121, .faddr 0 (.t 10), none, []⟩,
 ⟨some 122, .load true 32 (.t 121), none, [2]⟩,
 ⟨some 123, .faddr 162 (.t 3), none, [0, 1]⟩,
 ⟨none, .store 1 (.t 123) (.t 120), none, [4, 1, 0, 1]⟩,
 ⟨some 124, .faddr 160 (.t 3), none, [0, 1, 4, 5]⟩,
 ⟨none, .store 1 (.t 124) (.c (.int .u32 0)), none, [6, 5, 0, 1, 4, 5]⟩,
 ⟨some 125, .faddr 161 (.t 3), none, [0, 1, 4, 5, 6, 7]⟩,
 ⟨none, .store 1 (.t 125) (.c (.int .u32 0)), none, [8, 7, 0, 1, 4, 5, 6, 7]⟩,
 ⟨some 126, .faddr 64 (.t 3), none, [0, 1, 2, 3, 4, 5, 6, 7, 8, 9]⟩,
 ⟨none, .store 32 (.t 126) (.t 122), none, [10, 3, 9, 0, 1, 2, 3, 4, 5, 6, 7, 8, 9]⟩])
 (.seq none
 (.reg [
 ⟨some 128, .faddr 0 (.t 3), none, []⟩,
 ⟨some 129, .load true 32 (.t 128), none, []⟩,
 ⟨some 130, .faddr 32 (.t 3), none, []⟩,
 ⟨some 131, .load true 32 (.t 130), none, []⟩,
 ⟨some 132, .faddr 0 (.t 10), none, []⟩,
 ⟨some 133, .load true 32 (.t 132), none, []⟩,
 ⟨some 134, .call 43 [(.t 129), (.t 131), (.t 133)], none, []⟩,
 ⟨some 127, .mov (.t 134), none, []⟩,
 ⟨some 135, .ext (.t 127) 0, none, []⟩,
 ⟨some 136, .ext (.t 127) 1, none, []⟩,
 ⟨some 137, .faddr 0 (.t 3), none, []⟩,
 ⟨none, .store 32 (.t 137) (.t 135), none, []⟩,
 ⟨some 138, .faddr 128 (.t 3), none, []⟩,
 ⟨none, .store 32 (.t 138) (.t 136), none, []⟩])
 (.seq none
 (.reg [
 ⟨some 139, .load true 32 (.t 5), none, []⟩,
 ⟨some 140, .faddr 32 (.t 3), none, []⟩,
 ⟨none, .store 32 (.t 140) (.t 139), none, []⟩])
 (.reg [
 ⟨some 142, .faddr 0 (.t 3), none, []⟩,
 ⟨some 143, .load true 32 (.t 142), none, []⟩,
 ⟨some 144, .faddr 32 (.t 3), none, []⟩,
 ⟨some 145, .load true 32 (.t 144), none, []⟩,
 ⟨some 146, .faddr 0 (.t 10), none, []⟩,
 ⟨some 147, .load true 32 (.t 146), none, []⟩,
 ⟨some 148, .call 43 [(.t 143), (.t 145), (.t 147)], none, []⟩,
 ⟨some 141, .mov (.t 148), none, []⟩,
 ⟨some 149, .ext (.t 141) 0, none, []⟩,
 ⟨some 150, .ext (.t 141) 1, none, []⟩,
 ⟨some 151, .faddr 0 (.t 3), none, []⟩,
 ⟨none, .store 32 (.t 151) (.t 149), none, []⟩,
 ⟨some 152, .faddr 96 (.t 3), none, []⟩,
 ⟨none, .store 32 (.t 152) (.t 150), none, []⟩])))))
 .skip))
 (.seq none
 (.reg [
 ⟨some 153, .faddr 33 (.t 10), none, []⟩,
 ⟨some 154, .load false 1 (.t 153), none, []⟩,
 ⟨some 155, .call 66 [(.t 3), (.t 154)], none, []⟩])
 (.seq none
 (.reg [
 ⟨some 157, .faddr 128 (.t 3), none, []⟩,
 ⟨some 158, .load true 32 (.t 157), none, []⟩,
 ⟨some 159, .call 28 [(.t 158)], none, []⟩,
 ⟨some 156, .mov (.t 159), none, []⟩,
 ⟨some 160, .ext (.t 156) 0, none, []⟩,
 ⟨some 161, .ext (.t 156) 1, none, []⟩,
 ⟨some 14, .alloc [.ints .u8 32 (List.replicate 32 0)], none, []⟩,
 ⟨some 15, .alloc [.ints .u8 32 (List.replicate 32 0)], none, []⟩,
 ⟨none, .store 32 (.t 14) (.t 160), none, []⟩,
 ⟨none, .store 32 (.t 15) (.t 161), none, []⟩])
 (.seq none
 (.reg [
 ⟨some 162, .load true 32 (.t 14), none, []⟩,
 ⟨some 163, .faddr 161 (.t 3), none, []⟩,
 ⟨some 164, .load false 1 (.t 163), none, []⟩,
 ⟨some 165, .bin .add (.t 164) (.c (.int .u32 1)), none, []⟩,
 ⟨some 166, .faddr 128 (.t 3), none, []⟩,
 ⟨none, .store 32 (.t 166) (.t 162), none, []⟩,
 ⟨some 167, .faddr 161 (.t 3), none, []⟩,
 ⟨none, .store 1 (.t 167) (.t 165), none, []⟩])
 (.seq none
 (.reg [
 ⟨some 169, .load true 32 (.t 15), none, []⟩,
 ⟨some 170, .load true 99 (.t 4), none, []⟩,
 ⟨some 171, .call 63 [(.t 169), (.t 170)], none, []⟩,
 ⟨some 168, .mov (.t 171), none, []⟩,
 ⟨some 172, .ext (.t 168) 0, none, []⟩,
 ⟨some 173, .ext (.t 168) 1, none, []⟩,
 ⟨some 16, .mov (.t 172), none, []⟩,
 ⟨some 17, .mov (.t 173), none, []⟩])
 (.seq none
 (.seq none
 (.reg [
 ⟨some 174, .mov (.t 17), none, []⟩,
 ⟨some 175, .un .not (.t 174), none, []⟩,
 ⟨some 176, .mov (.t 175), none, []⟩,
 ⟨some 177, .load true 164 (.t 3), some (176, false), []⟩,
 ⟨some 178, .call 17 [(.t 177)], some (176, false), []⟩,
 ⟨some 179, .bin .neq (.t 178) (.c (.int .i64 0)), some (176, false), []⟩,
 ⟨some 180, .pick (.t 176) (.c (.bool true)) (.t 179), none, []⟩])
 (.cond (.t 180)
 (.seq none
 (.reg [
 ⟨some 181, .mov (.t 9), none, []⟩,
 ⟨some 182, .callV (.t 181) [(.c (.int .i64 180))], none, []⟩,
 ⟨some 183, .ext (.t 182) 0, none, []⟩,
 ⟨some 184, .ext (.t 182) 1, none, []⟩,
 ⟨some 185, .ext (.t 182) 2, none, []⟩,
 ⟨none, .store 164 (.t 6) (.t 183), none, []⟩,
 ⟨some 7, .mov (.t 184), none, []⟩,
 ⟨some 8, .mov (.t 185), none, []⟩])
 .ret)
 .skip))
 (.seq none
 (.reg [
 ⟨some 186, .load true 164 (.t 3), none, []⟩,
 ⟨some 187, .mov (.t 16), none, []⟩,
 ⟨none, .store 164 (.t 6) (.t 186), none, []⟩,
 ⟨some 7, .mov (.t 187), none, []⟩,
 ⟨some 8, .mov (.c (.int .i64 0)), none, []⟩])
 .ret))))))))))))))⟩
def id_ratchet_none : Nat := 26
def af_ratchet_none : AFn := ⟨3, [.cell 0 true 32],
 (.seq none
 (.reg [
 ⟨some 0, .alloc [.ints .u8 32 (List.replicate 32 0)], none, []⟩])
 (.seq none
 (.reg [
 ⟨some 1, .alloc [.ints .u8 32 (List.replicate 32 0)], none, []⟩])
 (.seq none
 (.reg [
 ⟨some 2, .load true 32 (.t 1), none, []⟩,
 ⟨none, .store 32 (.t 0) (.t 2), none, []⟩])
 .ret)))⟩
def id_curve_Public : Nat := 27
def af_curve_Public : AFn := ⟨6, [.cell 2 true 32],
 (.seq none
 (.reg [
 ⟨some 1, .box (.t 0), none, []⟩,
 ⟨some 2, .alloc [.ints .u8 32 (List.replicate 32 0)], none, []⟩])
 (.seq none
 (.reg [
 ⟨some 3, .load true 32 (.t 1), none, []⟩,
 ⟨some 4, .build [.ints .u8 32 (List.replicate 32 0)] [(0, 1, (.c (.int .u8 9)))], none, []⟩,
 ⟨some 5, .call 67 [(.t 3), (.t 4)], none, []⟩,
 ⟨none, .store 32 (.t 2) (.t 5), none, []⟩])
 .ret))⟩
def id_kdf_Step : Nat := 28
def af_kdf_Step : AFn := ⟨12, [.cell 2 true 32, .cell 3 true 32],
 (.seq none
 (.reg [
 ⟨some 1, .box (.t 0), none, []⟩,
 ⟨some 2, .alloc [.ints .u8 32 (List.replicate 32 0)], none, []⟩,
 ⟨some 3, .alloc [.ints .u8 32 (List.replicate 32 0)], none, []⟩])
 (.seq none
 (.draw [
 ⟨some 4, .slArr 32 0 (.t 1) none none none, none, []⟩,
 ⟨some 5, .bslice [.ints .u8 1 (List.replicate 1 0)] 1 0 [(0, 1, (.c (.int .u8 2)))], none, []⟩,
 ⟨some 6, .bslice [.nils] 1 1 [(0, 1, (.t 5))], none, [1]⟩,
 ⟨some 7, .call 68 [(.t 4), (.t 6)], none, [0, 2]⟩,
 ⟨some 8, .slArr 32 0 (.t 1) none none none, none, []⟩,
 ⟨some 9, .bslice [.ints .u8 1 (List.replicate 1 0)] 1 0 [(0, 1, (.c (.int .u8 1)))], none, []⟩,
 ⟨some 10, .bslice [.nils] 1 1 [(0, 1, (.t 9))], none, [5]⟩,
 ⟨some 11, .call 68 [(.t 8), (.t 10)], none, [4, 6, 3]⟩,
 ⟨none, .store 32 (.t 2) (.t 7), none, [3, 7, 0, 1, 2, 3]⟩,
 ⟨none, .store 32 (.t 3) (.t 11), none, [7, 8, 0, 1, 2, 3, 4, 5, 6, 7, 8]⟩])
 .ret))⟩
def id_aead_Seal : Nat := 29
def af_aead_Seal : AFn := ⟨23, [.t 8],
 (.seq none
 (.reg [
 ⟨some 4, .box (.t 0), none, []⟩,
 ⟨some 5, .box (.t 1), none, []⟩,
 ⟨some 8, .mov (.c (.nils)), none, []⟩])
 (.seq none
 (.reg [
 ⟨some 11, .load true 32 (.t 4), none, []⟩,
 ⟨some 12, .load true 12 (.t 5), none, []⟩,
 ⟨some 13, .mov (.t 3), none, []⟩,
 ⟨some 14, .call 69 [(.t 11), (.c (.int .u32 1)), (.t 12), (.t 13)], none, []⟩,
 ⟨some 9, .mov (.t 14), none, []⟩])
 (.seq none
 (.reg [
 ⟨some 15, .load true 32 (.t 4), none, []⟩,
 ⟨some 16, .load true 12 (.t 5), none, []⟩,
 ⟨some 17, .mov (.t 2), none, []⟩,
 ⟨some 18, .mov (.t 9), none, []⟩,
 ⟨some 19, .call 70 [(.t 15), (.t 16), (.t 17), (.t 18)], none, []⟩,
 ⟨some 10, .alloc [.ints .u8 16 (List.replicate 16 0)], none, []⟩,
 ⟨none, .store 16 (.t 10) (.t 19), none, []⟩])
 (.seq none
 (.reg [
 ⟨some 20, .mov (.t 9), none, []⟩,
 ⟨some 21, .slArr 16 0 (.t 10) none none none, none, []⟩,
 ⟨some 22, .appendI .u8 1 (.t 20) (.t 21), none, []⟩,
 ⟨some 8, .mov (.t 22), none, []⟩])
 .ret))))⟩
def id_aead_Count : Nat := 30
def af_aead_Count : AFn := ⟨8, [.cell 2 true 12],
 (.seq none
 (.reg [
 ⟨some 2, .alloc [.ints .u8 12 (List.replicate 12 0)], none, []⟩])
 (.seq none
 (.reg [
 ⟨some 3, .mksliceI .u8 1 (.c (.int .i64 4)) (.c (.int .i64 4)), none, []⟩,
 ⟨some 4, .mov (.t 0), none, []⟩,
 ⟨some 5, .call 71 [(.t 3), (.t 4)], none, []⟩,
 ⟨some 6, .arrPtr 12 (.t 5), none, []⟩,
 ⟨some 7, .load true 12 (.t 6), none, []⟩,
 ⟨none, .store 12 (.t 2) (.t 7), none, []⟩])
 .ret))⟩
def id_frame_PutHeader : Nat := 31
def af_frame_PutHeader : AFn := ⟨11, [.t 2],
 (.seq none
 (.reg [
 ⟨some 1, .box (.t 0), none, []⟩,
 ⟨some 2, .mov (.c (.nils)), none, []⟩])
 (.seq none
 (.draw [
 ⟨some 3, .faddr 0 (.t 1), none, []⟩,
 ⟨some 4, .slArr 32 0 (.t 3) none none none, none, [0]⟩,
 ⟨some 5, .faddr 32 (.t 1), none, []⟩,
 ⟨some 6, .load false 1 (.t 5), none, [2]⟩,
 ⟨some 7, .call 53 [(.t 4), (.t 6)], none, [1, 3]⟩,
 ⟨some 8, .faddr 33 (.t 1), none, []⟩,
 ⟨some 9, .load false 1 (.t 8), none, [5]⟩,
 ⟨some 10, .call 53 [(.t 7), (.t 9)], none, [4, 6, 4]⟩,
 ⟨some 2, .mov (.t 10), none, [7, 7, 0, 1, 2, 3, 4, 5, 6, 7]⟩])
 .ret))⟩
def id_ratchet_text : Nat := 32
def af_ratchet_text : AFn := ⟨15, [.t 2],
 (.seq none
 (.reg [
 ⟨some 2, .mov (.c (.nils)), none, []⟩])
 (.seq none
 (.reg [
 ⟨some 4, .mksliceI .u8 1 (.c (.int .i64 49)) (.c (.int .i64 49)), none, []⟩,
 ⟨some 3, .mov (.t 4), none, []⟩])
 (.seq none
 (.reg [
 ⟨some 5, .mov (.t 3), none, []⟩,
 ⟨some 6, .mov (.t 0), none, []⟩,
 ⟨some 7, .len true (.t 6), none, []⟩,
 ⟨some 8, .toInt .u8 (.t 7), none, []⟩,
 ⟨some 9, .iaddrS 1 (.t 5) (.c (.int .i64 0)), none, []⟩,
 ⟨none, .store 1 (.t 9) (.t 8), none, []⟩])
 (.seq none
 (.reg [
 ⟨some 10, .mov (.t 3), none, []⟩,
 ⟨some 11, .slSlice 1 (.t 10) (some (.c (.int .i64 1))) none none, none, []⟩,
 ⟨some 12, .mov (.t 0), none, []⟩,
 ⟨some 13, .copyI (.t 11) (.t 12), none, []⟩])
 (.seq none
 (.reg [
 ⟨some 14, .mov (.t 3), none, []⟩,
 ⟨some 2, .mov (.t 14), none, []⟩])
 .ret)))))⟩
def id_slices_Clone_api_Skip : Nat := 33
def af_slices_Clone_api_Skip : AFn := ⟨8, [.t 2],
 (.seq none
 (.reg [
 ⟨some 2, .mov (.c (.nils)), none, []⟩])
 (.seq none
 (.seq none
 (.reg [
 ⟨some 3, .mov (.t 0), none, []⟩,
 ⟨some 4, .eqv false .slice (.t 3) (.c (.nils)), none, []⟩])
 (.cond (.t 4)
 (.seq none
 (.reg [
 ⟨some 2, .mov (.c (.nils)), none, []⟩])
 .ret)
 .skip))
 (.seq none
 (.reg [
 ⟨some 5, .bslice [] 0 65 [], none, []⟩,
 ⟨some 6, .mov (.t 0), none, []⟩,
 ⟨some 7, .appendR 65 68 (.t 5) (.t 6), none, []⟩,
 ⟨some 2, .mov (.t 7), none, []⟩])
 .ret)))⟩
def id_hollowtreeref03_X : Nat := 35
def af_hollowtreeref03_X : AFn := ⟨122, [.cell 4 true 32],
 (.seq none
 (.reg [
 ⟨some 2, .box (.t 0), none, []⟩,
 ⟨some 3, .box (.t 1), none, []⟩,
 ⟨some 4, .alloc [.ints .u8 32 (List.replicate 32 0)], none, []⟩])
 (.seq none
 (.reg [
 ⟨some 25, .load true 32 (.t 2), none, []⟩,
 ⟨some 26, .call 72 [(.t 25)], none, []⟩,
 ⟨some 5, .alloc [.ints .u8 32 (List.replicate 32 0)], none, []⟩,
 ⟨none, .store 32 (.t 5) (.t 26), none, []⟩])
 (.seq none
 (.reg [
 ⟨some 27, .load true 32 (.t 3), none, []⟩,
 ⟨some 28, .call 44 [(.t 27)], none, []⟩,
 ⟨some 6, .alloc [.ints .i64 16 (List.replicate 16 0)], none, []⟩,
 ⟨none, .store 16 (.t 6) (.t 28), none, []⟩])
 (.seq none
 (.draw [
 ⟨some 29, .build [.ints .u8 32 (List.replicate 32 0)] [(0, 1, (.c (.int .u8 1)))], none, []⟩,
 ⟨some 30, .call 44 [(.t 29)], none, [0]⟩,
 ⟨some 31, .build [.ints .u8 32 (List.replicate 32 0)] [], none, []⟩,
 ⟨some 32, .call 44 [(.t 31)], none, [2, 1]⟩,
 ⟨some 33, .load true 16 (.t 6), none, []⟩,
 ⟨some 34, .build [.ints .u8 32 (List.replicate 32 0)] [(0, 1, (.c (.int .u8 1)))], none, []⟩,
 ⟨some 35, .call 44 [(.t 34)], none, [5, 3]⟩,
 ⟨some 7, .alloc [.ints .i64 16 (List.replicate 16 0)], none, []⟩,
 ⟨some 8, .alloc [.ints .i64 16 (List.replicate 16 0)], none, []⟩,
 ⟨some 9, .alloc [.ints .i64 16 (List.replicate 16 0)], none, []⟩,
 ⟨some 10, .alloc [.ints .i64 16 (List.replicate 16 0)], none, []⟩,
 ⟨none, .store 16 (.t 7) (.t 30), none, [7, 1, 6, 0, 1, 7, 8, 9, 10]⟩,
 ⟨none, .store 16 (.t 8) (.t 32), none, [8, 3, 11, 0, 1, 2, 3, 7, 8, 9, 10, 11]⟩,
 ⟨none, .store 16 (.t 9) (.t 33), none, [9, 4, 12, 0, 1, 2, 3, 4, 7, 8, 9, 10, 11, 12]⟩,
 ⟨none, .store 16 (.t 10) (.t 35), none, [10, 6, 13, 0, 1, 2, 3, 4, 5, 6, 7, 8, 9, 10, 11, 12, 13]⟩])
 (.seq none
 (.seq none
 (.reg [
 ⟨some 11, .mov (.c (.int .i64 254)), none, []⟩])
 (.block 0 none
 (.loop 1000000 none
 (.seq none
 (.seq none
 (.reg [
 ⟨some 36, .mov (.t 11), none, []⟩,
 ⟨some 37, .bin .geq (.t 36) (.c (.int .i64 0)), none, []⟩])
 (.cond (.t 37)
 .skip
 (.exit 0)))
 (.seq none
 (.block 1 none
 (.seq none
 (.reg [
 ⟨some 40, .mov (.t 11), none, []⟩,
 ⟨some 41, .bin .quo (.t 40) (.c (.int .i64 8)), none, []⟩,
 ⟨some 42, .iaddrA 32 0 (.t 5) (.t 41), none, []⟩,
 ⟨some 43, .load false 1 (.t 42), none, []⟩,
 ⟨some 44, .toInt .i64 (.t 43), none, []⟩,
 ⟨some 12, .mov (.t 44), none, []⟩])
 (.seq none
 (.seq none
 (.reg [
 ⟨some 13, .mov (.c (.int .i64 0)), none, []⟩])
 (.block 2 none
 (.loop 1000000 none
 (.seq none
 (.seq none
 (.reg [
 ⟨some 45, .mov (.t 13), none, []⟩,
 ⟨some 46, .mov (.t 11), none, []⟩,
 ⟨some 47, .bin .rem (.t 46) (.c (.int .i64 8)), none, []⟩,
 ⟨some 48, .bin .lss (.t 45) (.t 47), none, []⟩])
 (.cond (.t 48)
 .skip
 (.exit 2)))
 (.seq none
 (.block 3 none
 (.reg [
 ⟨some 51, .mov (.t 12), none, []⟩,
 ⟨some 52, .bin .quo (.t 51) (.c (.int .i64 2)), none, []⟩,
 ⟨some 12, .mov (.t 52), none, []⟩]))
 (.reg [
 ⟨some 49, .mov (.t 13), none, []⟩,
 ⟨some 50, .bin .add (.t 49) (.c (.int .i64 1)), none, []⟩,
 ⟨some 13, .mov (.t 50), none, []⟩]))))))
 (.seq none
 (.reg [
 ⟨some 53, .mov (.t 12), none, []⟩,
 ⟨some 54, .bin .rem (.t 53) (.c (.int .i64 2)), none, []⟩,
 ⟨some 12, .mov (.t 54), none, []⟩])
 (.seq none
 (.seq none
 (.reg [
 ⟨some 55, .mov (.t 12), none, []⟩,
 ⟨some 56, .bin .eql (.t 55) (.c (.int .i64 1)), none, []⟩])
 (.cond (.t 56)
 (.seq none
 (.reg [
 ⟨some 57, .load true 16 (.t 9), none, []⟩,
 ⟨some 58, .load true 16 (.t 7), none, []⟩,
 ⟨none, .store 16 (.t 7) (.t 57), none, []⟩,
 ⟨none, .store 16 (.t 9) (.t 58), none, []⟩])
 (.reg [
 ⟨some 59, .load true 16 (.t 10), none, []⟩,
 ⟨some 60, .load true 16 (.t 8), none, []⟩,
 ⟨none, .store 16 (.t 8) (.t 59), none, []⟩,
 ⟨none, .store 16 (.t 10) (.t 60), none, []⟩]))
 .skip))
 (.seq none
 (.draw [
 ⟨some 61, .load true 16 (.t 7), none, []⟩,
 ⟨some 62, .load true 16 (.t 8), none, []⟩,
 ⟨some 63, .call 73 [(.t 61), (.t 62)], none, [0, 1]⟩,
 ⟨some 64, .load true 16 (.t 7), none, []⟩,
 ⟨some 65, .load true 16 (.t 8), none, []⟩,
 ⟨some 66, .call 46 [(.t 64), (.t 65)], none, [3, 4, 2]⟩,
 ⟨some 67, .load true 16 (.t 9), none, []⟩,
 ⟨some 68, .load true 16 (.t 10), none, []⟩,
 ⟨some 69, .call 73 [(.t 67), (.t 68)], none, [6, 7, 5]⟩,
 ⟨some 70, .load true 16 (.t 9), none, []⟩,
 ⟨some 71, .load true 16 (.t 10), none, []⟩,
 ⟨some 72, .call 46 [(.t 70), (.t 71)], none, [9, 10, 8]⟩,
 ⟨some 14, .alloc [.ints .i64 16 (List.replicate 16 0)], none, []⟩,
 ⟨some 15, .alloc [.ints .i64 16 (List.replicate 16 0)], none, []⟩,
 ⟨some 16, .alloc [.ints .i64 16 (List.replicate 16 0)], none, []⟩,
 ⟨some 17, .alloc [.ints .i64 16 (List.replicate 16 0)], none, []⟩,
 ⟨none, .store 16 (.t 14) (.t 63), none, [12, 2, 11, 0, 1, 2, 12, 13, 14, 15]⟩,
 ⟨none, .store 16 (.t 15) (.t 66), none, [13, 5, 16, 0, 1, 2, 3, 4, 5, 12, 13, 14, 15, 16]⟩,
 ⟨none, .store 16 (.t 16) (.t 69), none, [14, 8, 17, 0, 1, 2, 3, 4, 5, 6, 7, 8, 12, 13, 14, 15, 16, 17]⟩,
 ⟨none, .store 16 (.t 17) (.t 72), none, [15, 11, 18, 0, 1, 2, 3, 4, 5, 6, 7, 8, 9, 10, 11, 12, 13, 14, 15, 16, 17, 18]⟩])
 (.seq none
 (.draw [
 ⟨some 73, .load true 16 (.t 14), none, []⟩,
 ⟨some 74, .load true 16 (.t 14), none, []⟩,
 ⟨some 75, .call 74 [(.t 73), (.t 74)], none, [0, 1]⟩,
 ⟨some 76, .load true 16 (.t 15), none, []⟩,
 ⟨some 77, .load true 16 (.t 15), none, []⟩,
 ⟨some 78, .call 74 [(.t 76), (.t 77)], none, [3, 4, 2]⟩,
 ⟨some 18, .alloc [.ints .i64 16 (List.replicate 16 0)], none, []⟩,
 ⟨some 19, .alloc [.ints .i64 16 (List.replicate 16 0)], none, []⟩,
 ⟨none, .store 16 (.t 18) (.t 75), none, [6, 2, 5, 0, 1, 2, 6, 7]⟩,
 ⟨none, .store 16 (.t 19) (.t 78), none, [7, 5, 8, 0, 1, 2, 3, 4, 5, 6, 7, 8]⟩])
 (.seq none
 (.reg [
 ⟨some 79, .load true 16 (.t 18), none, []⟩,
 ⟨some 80, .load true 16 (.t 19), none, []⟩,
 ⟨some 81, .call 46 [(.t 79), (.t 80)], none, []⟩,
 ⟨some 20, .alloc [.ints .i64 16 (List.replicate 16 0)], none, []⟩,
 ⟨none, .store 16 (.t 20) (.t 81), none, []⟩])
 (.seq none
 (.draw [
 ⟨some 82, .load true 16 (.t 17), none, []⟩,
 ⟨some 83, .load true 16 (.t 14), none, []⟩,
 ⟨some 84, .call 74 [(.t 82), (.t 83)], none, [0, 1]⟩,
 ⟨some 85, .load true 16 (.t 16), none, []⟩,
 ⟨some 86, .load true 16 (.t 15), none, []⟩,
 ⟨some 87, .call 74 [(.t 85), (.t 86)], none, [3, 4, 2]⟩,
 ⟨some 21, .alloc [.ints .i64 16 (List.replicate 16 0)], none, []⟩,
 ⟨some 22, .alloc [.ints .i64 16 (List.replicate 16 0)], none, []⟩,
 ⟨none, .store 16 (.t 21) (.t 84), none, [6, 2, 5, 0, 1, 2, 6, 7]⟩,
 ⟨none, .store 16 (.t 22) (.t 87), none, [7, 5, 8, 0, 1, 2, 3, 4, 5, 6, 7, 8]⟩])
 (.seq none
 (.draw [
 ⟨some 88, .load true 16 (.t 21), none, []⟩,
 ⟨some 89, .load true 16 (.t 22), none, []⟩,
 ⟨some 90, .call 73 [(.t 88), (.t 89)], none, [0, 1]⟩,
 ⟨some 91, .load true 16 (.t 21), none, []⟩,
 ⟨some 92, .load true 16 (.t 22), none, []⟩,
 ⟨some 93, .call 46 [(.t 91), (.t 92)], none, [3, 4, 2]⟩,
 ⟨some 23, .alloc [.ints .i64 16 (List.replicate 16 0)], none, []⟩,
 ⟨some 24, .alloc [.ints .i64 16 (List.replicate 16 0)], none, []⟩,
 ⟨none, .store 16 (.t 23) (.t 90), none, [6, 2, 5, 0, 1, 2, 6, 7]⟩,
 ⟨none, .store 16 (.t 24) (.t 93), none, [7, 5, 8, 0, 1, 2, 3, 4, 5, 6, 7, 8]⟩])
 (.seq none
 (.reg [
 ⟨some 94, .load true 16 (.t 23), none, []⟩,
 ⟨some 95, .load true 16 (.t 23), none, []⟩,
 ⟨some 96, .call 74 [(.t 94), (.t 95)], none, []⟩,
 ⟨none, .store 16 (.t 9) (.t 96), none, []⟩])
 (.seq none
 (.draw [
 ⟨some 97, .load true 16 (.t 6), none, []⟩,
 ⟨some 98, .load true 16 (.t 24), none, []⟩,
 ⟨some 99, .load true 16 (.t 24), none, []⟩,
 ⟨some 100, .call 74 [(.t 98), (.t 99)], none, [1, 2]⟩,
 ⟨some 101, .call 74 [(.t 97), (.t 100)], none, [0, 3, 3]⟩,
 ⟨none, .store 16 (.t 10) (.t 101), none, [4, 4, 0, 1, 2, 3, 4]⟩])
 (.seq none
 (.reg [
 ⟨some 102, .load true 16 (.t 18), none, []⟩,
 ⟨some 103, .load true 16 (.t 19), none, []⟩,
 ⟨some 104, .call 74 [(.t 102), (.t 103)], none, []⟩,
 ⟨none, .store 16 (.t 7) (.t 104), none, []⟩])
 (.seq none
 (.draw [
 ⟨some 105, .load true 16 (.t 20), none, []⟩,
 ⟨some 106, .load true 16 (.t 18), none, []⟩,
 ⟨some 107, .load true 16 (.t 20), none, []⟩,
 ⟨some 108, .call 75 [(.t 107), (.c (.int .i64 121665))], none, [2]⟩,
 ⟨some 109, .call 73 [(.t 106), (.t 108)], none, [1, 3, 3]⟩,
 ⟨some 110, .call 74 [(.t 105), (.t 109)], none, [0, 4, 4]⟩,
 ⟨none, .store 16 (.t 8) (.t 110), none, [5, 5, 0, 1, 2, 3, 4, 5]⟩])
 (.seq none
 (.reg [
 ⟨some 111, .mov (.t 12), none, []⟩,
 ⟨some 112, .bin .eql (.t 111) (.c (.int .i64 1)), none, []⟩])
 (.cond (.t 112)
 (.seq none
 (.reg [
 ⟨some 113, .load true 16 (.t 9), none, []⟩,
 ⟨some 114, .load true 16 (.t 7), none, []⟩,
 ⟨none, .store 16 (.t 7) (.t 113), none, []⟩,
 ⟨none, .store 16 (.t 9) (.t 114), none, []⟩])
 (.reg [
 ⟨some 115, .load true 16 (.t 10), none, []⟩,
 ⟨some 116, .load true 16 (.t 8), none, []⟩,
 ⟨none, .store 16 (.t 8) (.t 115), none, []⟩,
 ⟨none, .store 16 (.t 10) (.t 116), none, []⟩]))
 .skip))))))))))))))))
 (.reg [
 ⟨some 38, .mov (.t 11), none, []⟩,
 ⟨some 39, .bin .sub (.t 38) (.c (.int .i64 1)), none, []⟩,
 ⟨some 11, .mov (.t 39), none, []⟩]))))))
 (.seq none
 (.draw [
 ⟨some 117, .load true 16 (.t 7), none, []⟩,
 ⟨some 118, .load true 16 (.t 8), none, []⟩,
 ⟨some 119, .call 76 [(.t 118)], none, [1]⟩,
 ⟨some 120, .call 74 [(.t 117), (.t 119)], none, [0, 2, 2]⟩,
 ⟨some 121, .call 45 [(.t 120)], none, [3, 3]⟩,
 ⟨none, .store 32 (.t 4) (.t 121), none, [4, 4, 0, 1, 2, 3, 4]⟩])
 .ret))))))⟩
def id_curve_Low : Nat := 40
def af_curve_Low : AFn := ⟨24, [.t 2],
 (.seq none
 (.reg [
 ⟨some 1, .box (.t 0), none, []⟩,
 ⟨some 2, .mov (.c (.bool false)), none, []⟩])
 (.seq none
 (.reg [
 ⟨some 7, .load true 32 (.t 1), none, []⟩,
 ⟨some 8, .call 80 [(.t 7)], none, []⟩,
 ⟨some 3, .alloc [.ints .u64 5 (List.replicate 5 0)], none, []⟩,
 ⟨none, .store 5 (.t 3) (.t 8), none, []⟩])
 (.seq none
 (.reg [
 ⟨some 9, .build [.ints .u8 32 (List.replicate 32 0)] [], none, []⟩,
 ⟨some 10, .build [.ints .u8 32 (List.replicate 32 0)] [(0, 1, (.c (.int .u8 1)))], none, []⟩,
 ⟨some 11, .build [.ints .u8 32 (List.replicate 32 0)] [(0, 1, (.c (.int .u8 236))), (1, 1, (.c (.int .u8 255))), (2, 1, (.c (.int .u8 255))), (3, 1, (.c (.int .u8 255))), (4, 1, (.c (.int .u8 255))), (5, 1, (.c (.int .u8 255))), (6, 1, (.c (.int .u8 255))), (7, 1, (.c (.int .u8 255))), (8, 1, (.c (.int .u8 255))), (9, 1, (.c (.int .u8 255))), (10, 1, (.c (.int .u8 255))), (11, 1, (.c (.int .u8 255))), (12, 1, (.c (.int .u8 255))), (13, 1, (.c (.int .u8 255))), (14, 1, (.c (.int .u8 255))), (15, 1, (.c (.int .u8 255))), (16, 1, (.c (.int .u8 255))), (17, 1, (.c (.int .u8 255))), (18, 1, (.c (.int .u8 255))), (19, 1, (.c (.int .u8 255))), (20, 1, (.c (.int .u8 255))), (21, 1, (.c (.int .u8 255))), (22, 1, (.c (.int .u8 255))), (23, 1, (.c (.int .u8 255))), (24, 1, (.c (.int .u8 255))), (25, 1, (.c (.int .u8 255))), (26, 1, (.c (.int .u8 255))), (27, 1, (.c (.int .u8 255))), (28, 1, (.c (.int .u8 255))), (29, 1, (.c (.int .u8 255))), (30, 1, (.c (.int .u8 255))), (31, 1, (.c (.int .u8 127)))], none, []⟩,
 ⟨some 12, .build [.ints .u8 32 (List.replicate 32 0)] [(0, 1, (.c (.int .u8 224))), (1, 1, (.c (.int .u8 235))), (2, 1, (.c (.int .u8 122))), (3, 1, (.c (.int .u8 124))), (4, 1, (.c (.int .u8 59))), (5, 1, (.c (.int .u8 65))), (6, 1, (.c (.int .u8 184))), (7, 1, (.c (.int .u8 174))), (8, 1, (.c (.int .u8 22))), (9, 1, (.c (.int .u8 86))), (10, 1, (.c (.int .u8 227))), (11, 1, (.c (.int .u8 250))), (12, 1, (.c (.int .u8 241))), (13, 1, (.c (.int .u8 159))), (14, 1, (.c (.int .u8 196))), (15, 1, (.c (.int .u8 106))), (16, 1, (.c (.int .u8 218))), (17, 1, (.c (.int .u8 9))), (18, 1, (.c (.int .u8 141))), (19, 1, (.c (.int .u8 235))), (20, 1, (.c (.int .u8 156))), (21, 1, (.c (.int .u8 50))), (22, 1, (.c (.int .u8 177))), (23, 1, (.c (.int .u8 253))), (24, 1, (.c (.int .u8 134))), (25, 1, (.c (.int .u8 98))), (26, 1, (.c (.int .u8 5))), (27, 1, (.c (.int .u8 22))), (28, 1, (.c (.int .u8 95))), (29, 1, (.c (.int .u8 73))), (30, 1, (.c (.int .u8 184))), (31, 1, (.c (.int .u8 0)))], none, []⟩,
 ⟨some 13, .build [.ints .u8 32 (List.replicate 32 0)] [(0, 1, (.c (.int .u8 95))), (1, 1, (.c (.int .u8 156))), (2, 1, (.c (.int .u8 149))), (3, 1, (.c (.int .u8 188))), (4, 1, (.c (.int .u8 163))), (5, 1, (.c (.int .u8 80))), (6, 1, (.c (.int .u8 140))), (7, 1, (.c (.int .u8 36))), (8, 1, (.c (.int .u8 177))), (9, 1, (.c (.int .u8 208))), (10, 1, (.c (.int .u8 177))), (11, 1, (.c (.int .u8 85))), (12, 1, (.c (.int .u8 156))), (13, 1, (.c (.int .u8 131))), (14, 1, (.c (.int .u8 239))), (15, 1, (.c (.int .u8 91))), (16, 1, (.c (.int .u8 4))), (17, 1, (.c (.int .u8 68))), (18, 1, (.c (.int .u8 92))), (19, 1, (.c (.int .u8 196))), (20, 1, (.c (.int .u8 88))), (21, 1, (.c (.int .u8 28))), (22, 1, (.c (.int .u8 142))), (23, 1, (.c (.int .u8 134))), (24, 1, (.c (.int .u8 216))), (25, 1, (.c (.int .u8 34))), (26, 1, (.c (.int .u8 78))), (27, 1, (.c (.int .u8 221))), (28, 1, (.c (.int .u8 208))), (29, 1, (.c (.int .u8 159))), (30, 1, (.c (.int .u8 17))), (31, 1, (.c (.int .u8 87)))], none, []⟩,
 ⟨some 14, .build [.ints .u8 32 (List.replicate 32 0), .ints .u8 32 (List.replicate 32 0), .ints .u8 32 (List.replicate 32 0), .ints .u8 32 (List.replicate 32 0), .ints .u8 32 (List.replicate 32 0)] [(0, 32, (.t 9)), (32, 32, (.t 10)), (64, 32, (.t 11)), (96, 32, (.t 12)), (128, 32, (.t 13))], none, []⟩,
 ⟨some 4, .alloc [.ints .u8 32 (List.replicate 32 0), .ints .u8 32 (List.replicate 32 0), .ints .u8 32 (List.replicate 32 0), .ints .u8 32 (List.replicate 32 0), .ints .u8 32 (List.replicate 32 0)], none, []⟩,
 ⟨none, .store 160 (.t 4) (.t 14), none, []⟩])
 (.seq none
 (.seq none
 (.reg [
 ⟨some 15, .load true 160 (.t 4), none, []⟩,
 ⟨some 16, .mov (.c (.int .i64 0)), none, []⟩])
 (.block 0 none
 (.loop 1000000 none
 (.seq none
 (.reg [
 ⟨some 17, .bin .lss (.t 16) (.c (.int .i64 5)), none, []⟩])
 (.seq none
 (.cond (.t 17)
 .skip
 (.exit 0))
 (.seq none
 (.block 1 none
 (.seq none
 (.reg [
 ⟨some 18, .idxA true 5 32 (.t 15) (.t 16), none, []⟩,
 ⟨some 6, .alloc [.ints .u8 32 (List.replicate 32 0)], none, []⟩,
 ⟨none, .store 32 (.t 6) (.t 18), none, []⟩])
 (.seq none
 (.draw [
 ⟨some 19, .load true 32 (.t 6), none, []⟩,
 ⟨some 20, .call 80 [(.t 19)], none, [0]⟩,
 ⟨some 21, .load true 5 (.t 3), none, []⟩,
 ⟨some 22, .call 81 [(.t 20), (.t 21)], none, [1, 2, 1]⟩])
 (.cond (.t 22)
 (.seq none
 (.reg [
 ⟨some 2, .mov (.c (.bool true)), none, []⟩])
 .ret)
 .skip))))
 (.reg [
 ⟨some 23, .bin .add (.t 16) (.c (.int .i64 1)), none, []⟩,
 ⟨some 16, .mov (.t 23), none, []⟩])))))))
 (.seq none
 (.reg [
 ⟨some 2, .mov (.c (.bool false)), none, []⟩])
 .ret)))))⟩
def id_kdf_Two : Nat := 41
def af_kdf_Two : AFn := ⟨26, [.cell 6 true 32, .cell 7 true 32],
 (.seq none
 (.reg [
 ⟨some 3, .box (.t 0), none, []⟩,
 ⟨some 6, .alloc [.ints .u8 32 (List.replicate 32 0)], none, []⟩,
 ⟨some 7, .alloc [.ints .u8 32 (List.replicate 32 0)], none, []⟩])
 (.seq none
 (.draw [
 ⟨some 11, .load true 32 (.t 3), none, []⟩,
 ⟨some 12, .mov (.t 1), none, []⟩,
 ⟨some 13, .mov (.t 2), none, []⟩,
 ⟨some 14, .call 83 [(.t 12), (.t 13)], none, [1, 2]⟩,
 ⟨some 15, .call 82 [(.t 11), (.t 14), (.c (.int .i64 64))], none, [0, 3, 3]⟩,
 ⟨some 10, .mov (.t 15), none, [4]⟩,
 ⟨some 16, .ext (.t 10) 0, none, [5]⟩,
 ⟨some 17, .ext (.t 10) 1, none, [5]⟩,
 ⟨some 8, .mov (.t 16), none, [6, 4, 0, 1, 2, 3, 4, 5, 6]⟩,
 ⟨some 9, .mov (.t 17), none, [7, 8, 0, 1, 2, 3, 4, 5, 6, 7, 8]⟩])
 (.seq none
 (.draw [
 ⟨some 18, .mov (.t 8), none, []⟩,
 ⟨some 19, .slSlice 1 (.t 18) none (some (.c (.int .i64 32))) none, none, [0]⟩,
 ⟨some 20, .arrPtr 32 (.t 19), none, [1]⟩,
 ⟨some 21, .load true 32 (.t 20), none, [2]⟩,
 ⟨some 22, .mov (.t 8), none, []⟩,
 ⟨some 23, .slSlice 1 (.t 22) (some (.c (.int .i64 32))) none none, none, [4]⟩,
 ⟨some 24, .arrPtr 32 (.t 23), none, [5]⟩,
 ⟨some 25, .load true 32 (.t 24), none, [6]⟩,
 ⟨none, .store 32 (.t 6) (.t 21), none, [3, 0, 1, 2, 3]⟩,
 ⟨none, .store 32 (.t 7) (.t 25), none, [7, 8, 0, 1, 2, 3, 4, 5, 6, 7, 8]⟩])
 .ret)))⟩
def id_kdf_Derive : Nat := 42
def af_kdf_Derive : AFn := ⟨17, [.cell 6 true 32],
 (.seq none
 (.reg [
 ⟨some 3, .box (.t 0), none, []⟩,
 ⟨some 6, .alloc [.ints .u8 32 (List.replicate 32 0)], none, []⟩])
 (.seq none
 (.reg [
 ⟨some 10, .load true 32 (.t 3), none, []⟩,
 ⟨some 11, .mov (.t 1), none, []⟩,
 ⟨some 12, .mov (.t 2), none, []⟩,
 ⟨some 13, .call 41 [(.t 10), (.t 11), (.t 12)], none, []⟩,
 ⟨some 9, .mov (.t 13), none, []⟩,
 ⟨some 14, .ext (.t 9) 0, none, []⟩,
 ⟨some 15, .ext (.t 9) 1, none, []⟩,
 ⟨some 7, .alloc [.ints .u8 32 (List.replicate 32 0)], none, []⟩,
 ⟨some 8, .alloc [.ints .u8 32 (List.replicate 32 0)], none, []⟩,
 ⟨none, .store 32 (.t 7) (.t 14), none, []⟩,
 ⟨none, .store 32 (.t 8) (.t 15), none, []⟩])
 (.seq none
 (.reg [
 ⟨some 16, .load true 32 (.t 7), none, []⟩,
 ⟨none, .store 32 (.t 6) (.t 16), none, []⟩])
 .ret)))⟩
def id_ratchet_turn : Nat := 43
def af_ratchet_turn : AFn := ⟨18, [.cell 6 true 32, .cell 7 true 32],
 (.seq none
 (.reg [
 ⟨some 3, .box (.t 0), none, []⟩,
 ⟨some 4, .box (.t 1), none, []⟩,
 ⟨some 5, .box (.t 2), none, []⟩,
 ⟨some 6, .alloc [.ints .u8 32 (List.replicate 32 0)], none, []⟩,
 ⟨some 7, .alloc [.ints .u8 32 (List.replicate 32 0)], none, []⟩])
 (.seq none
 (.reg [
 ⟨some 9, .load true 32 (.t 4), none, []⟩,
 ⟨some 10, .load true 32 (.t 5), none, []⟩,
 ⟨some 11, .call 67 [(.t 9), (.t 10)], none, []⟩,
 ⟨some 8, .alloc [.ints .u8 32 (List.replicate 32 0)], none, []⟩,
 ⟨none, .store 32 (.t 8) (.t 11), none, []⟩])
 (.seq none
 (.draw [
 ⟨some 12, .load true 32 (.t 3), none, []⟩,
 ⟨some 13, .slArr 32 0 (.t 8) none none none, none, []⟩,
 ⟨some 14, .bslice [.nils] 1 1 [(0, 1, (.t 13))], none, [1]⟩,
 ⟨some 15, .call 41 [(.t 12), (.c (.str ⟨#[116, 117, 114, 110]⟩)), (.t 14)], none, [0, 2]⟩,
 ⟨some 16, .ext (.t 15) 0, none, [3]⟩,
 ⟨some 17, .ext (.t 15) 1, none, [3]⟩,
 ⟨none, .store 32 (.t 6) (.t 16), none, [4, 3, 0, 1, 2, 3, 4, 5]⟩,
 ⟨none, .store 32 (.t 7) (.t 17), none, [5, 6, 0, 1, 2, 3, 4, 5, 6]⟩])
 .ret)))⟩
def id_hollowtreeref03_From : Nat := 44
def af_hollowtreeref03_From : AFn := ⟨29, [.cell 2 true 16],
 (.seq none
 (.reg [
 ⟨some 1, .box (.t 0), none, []⟩,
 ⟨some 2, .alloc [.ints .i64 16 (List.replicate 16 0)], none, []⟩])
 (.seq none
 (.reg [
 ⟨some 3, .alloc [.ints .i64 16 (List.replicate 16 0)], none, []⟩])
 (.seq none
 (.seq none
 (.reg [
 ⟨some 4, .mov (.c (.int .i64 0)), none, []⟩])
 (.block 0 none
 (.loop 1000000 none
 (.seq none
 (.seq none
 (.reg [
 ⟨some 5, .mov (.t 4), none, []⟩,
 ⟨some 6, .bin .lss (.t 5) (.c (.int .i64 16)), none, []⟩])
 (.cond (.t 6)
 .skip
 (.exit 0)))
 (.seq none
 (.block 1 none
 (.draw [
 ⟨some 9, .mov (.t 4), none, []⟩,
 ⟨some 10, .mov (.t 4), none, []⟩,
 ⟨some 11, .bin .mul (.c (.int .i64 2)) (.t 10), none, [1]⟩,
 ⟨some 12, .iaddrA 32 0 (.t 1) (.t 11), none, [2]⟩,
 ⟨some 13, .load false 1 (.t 12), none, [3]⟩,
 ⟨some 14, .toInt .i64 (.t 13), none, [4]⟩,
 ⟨some 15, .mov (.t 4), none, []⟩,
 ⟨some 16, .bin .mul (.c (.int .i64 2)) (.t 15), none, [6]⟩,
 ⟨some 17, .bin .add (.t 16) (.c (.int .i64 1)), none, [7]⟩,
 ⟨some 18, .iaddrA 32 0 (.t 1) (.t 17), none, [8]⟩,
 ⟨some 19, .load false 1 (.t 18), none, [9]⟩,
 ⟨some 20, .toInt .i64 (.t 19), none, [10]⟩,
 ⟨some 21, .bin .mul (.c (.int .i64 256)) (.t 20), none, [11]⟩,
 ⟨some 22, .bin .add (.t 14) (.t 21), none, [5, 12]⟩,
 ⟨some 23, .iaddrA 16 0 (.t 3) (.t 9), none, [0, 0, 1, 2, 3, 4, 5, 6, 7, 8, 9, 10, 11, 12, 13]⟩,
 ⟨none, .store 1 (.t 23) (.t 22), none, [14, 13, 0, 1, 2, 3, 4, 5, 6, 7, 8, 9, 10, 11, 12, 13]⟩]))
 (.reg [
 ⟨some 7, .mov (.t 4), none, []⟩,
 ⟨some 8, .bin .add (.t 7) (.c (.int .i64 1)), none, []⟩,
 ⟨some 4, .mov (.t 8), none, []⟩]))))))
 (.seq none
 (.reg [
 ⟨some 24, .iaddrA 16 0 (.t 3) (.c (.int .i64 15)), none, []⟩,
 ⟨some 25, .load false 1 (.t 24), none, []⟩,
 ⟨some 26, .bin .rem (.t 25) (.c (.int .i64 32768)), none, []⟩,
 ⟨some 27, .iaddrA 16 0 (.t 3) (.c (.int .i64 15)), none, []⟩,
 ⟨none, .store 1 (.t 27) (.t 26), none, []⟩])
 (.seq none
 (.reg [
 ⟨some 28, .load true 16 (.t 3), none, []⟩,
 ⟨none, .store 16 (.t 2) (.t 28), none, []⟩])
 .ret)))))⟩
def id_hollowtreeref03_Num_Bytes : Nat := 45
def af_hollowtreeref03_Num_Bytes : AFn := ⟨79, [.cell 2 true 32],
 (.seq none
 (.reg [
 ⟨some 1, .box (.t 0), none, []⟩,
 ⟨some 2, .alloc [.ints .u8 32 (List.replicate 32 0)], none, []⟩])
 (.seq none
 (.reg [
 ⟨some 11, .load true 16 (.t 1), none, []⟩,
 ⟨some 12, .call 84 [(.t 11)], none, []⟩,
 ⟨none, .store 16 (.t 1) (.t 12), none, []⟩])
 (.seq none
 (.seq none
 (.reg [
 ⟨some 3, .mov (.c (.int .i64 0)), none, []⟩])
 (.block 0 none
 (.loop 1000000 none
 (.seq none
 (.seq none
 (.reg [
 ⟨some 13, .mov (.t 3), none, []⟩,
 ⟨some 14, .bin .lss (.t 13) (.c (.int .i64 3)), none, []⟩])
 (.cond (.t 14)
 .skip
 (.exit 0)))
 (.seq none
 (.block 1 none
 (.seq none
 (.reg [
 ⟨some 17, .load true 16 (.t 1), none, []⟩,
 ⟨some 4, .alloc [.ints .i64 16 (List.replicate 16 0)], none, []⟩,
 ⟨none, .store 16 (.t 4) (.t 17), none, []⟩])
 (.seq none
 (.reg [
 ⟨some 18, .iaddrA 16 0 (.t 4) (.c (.int .i64 0)), none, []⟩,
 ⟨some 19, .load false 1 (.t 18), none, []⟩,
 ⟨some 20, .bin .sub (.t 19) (.c (.int .i64 65517)), none, []⟩,
 ⟨some 21, .iaddrA 16 0 (.t 4) (.c (.int .i64 0)), none, []⟩,
 ⟨none, .store 1 (.t 21) (.t 20), none, []⟩])
 (.seq none
 (.seq none
 (.reg [
 ⟨some 5, .mov (.c (.int .i64 1)), none, []⟩])
 (.block 2 none
 (.loop 1000000 none
 (.seq none
 (.seq none
 (.reg [
 ⟨some 22, .mov (.t 5), none, []⟩,
 ⟨some 23, .bin .lss (.t 22) (.c (.int .i64 15)), none, []⟩])
 (.cond (.t 23)
 .skip
 (.exit 2)))
 (.seq none
 (.block 3 none
 (.reg [
 ⟨some 26, .mov (.t 5), none, []⟩,
 ⟨some 27, .mov (.t 5), none, []⟩,
 ⟨some 28, .iaddrA 16 0 (.t 4) (.t 27), none, []⟩,
 ⟨some 29, .load false 1 (.t 28), none, []⟩,
 ⟨some 30, .bin .sub (.t 29) (.c (.int .i64 65535)), none, []⟩,
 ⟨some 31, .iaddrA 16 0 (.t 4) (.t 26), none, []⟩,
 ⟨none, .store 1 (.t 31) (.t 30), none, []⟩]))
 (.reg [
 ⟨some 24, .mov (.t 5), none, []⟩,
 ⟨some 25, .bin .add (.t 24) (.c (.int .i64 1)), none, []⟩,
 ⟨some 5, .mov (.t 25), none, []⟩]))))))
 (.seq none
 (.reg [
 ⟨some 32, .iaddrA 16 0 (.t 4) (.c (.int .i64 15)), none, []⟩,
 ⟨some 33, .load false 1 (.t 32), none, []⟩,
 ⟨some 34, .bin .sub (.t 33) (.c (.int .i64 32767)), none, []⟩,
 ⟨some 35, .iaddrA 16 0 (.t 4) (.c (.int .i64 15)), none, []⟩,
 ⟨none, .store 1 (.t 35) (.t 34), none, []⟩])
 (.seq none
 (.reg [
 ⟨some 6, .mov (.c (.int .i64 0)), none, []⟩])
 (.seq none
 (.seq none
 (.reg [
 ⟨some 7, .mov (.c (.int .i64 0)), none, []⟩])
 (.block 4 none
 (.loop 1000000 none
 (.seq none
 (.seq none
 (.reg [
 ⟨some 36, .mov (.t 7), none, []⟩,
 ⟨some 37, .bin .lss (.t 36) (.c (.int .i64 16)), none, []⟩])
 (.cond (.t 37)
 .skip
 (.exit 4)))
 (.seq none
 (.block 5 none
 (.seq none
 (.reg [
 ⟨some 40, .mov (.t 7), none, []⟩,
 ⟨some 41, .iaddrA 16 0 (.t 4) (.t 40), none, []⟩,
 ⟨some 42, .load false 1 (.t 41), none, []⟩,
 ⟨some 43, .mov (.t 6), none, []⟩,
 ⟨some 44, .bin .add (.t 42) (.t 43), none, []⟩,
 ⟨some 8, .mov (.t 44), none, []⟩])
 (.seq none
 (.reg [
 ⟨some 6, .mov (.c (.int .i64 0)), none, []⟩])
 (.seq none
 (.block 6 none
 (.loop 1000000 none
 (.seq none
 (.seq none
 (.reg [
 ⟨some 45, .mov (.t 8), none, []⟩,
 ⟨some 46, .bin .lss (.t 45) (.c (.int .i64 0)), none, []⟩])
 (.cond (.t 46)
 .skip
 (.exit 6)))
 (.block 7 none
 (.seq none
 (.reg [
 ⟨some 47, .mov (.t 8), none, []⟩,
 ⟨some 48, .bin .add (.t 47) (.c (.int .i64 65536)), none, []⟩,
 ⟨some 8, .mov (.t 48), none, []⟩])
 (.reg [
 ⟨some 49, .mov (.t 6), none, []⟩,
 ⟨some 50, .bin .sub (.t 49) (.c (.int .i64 1)), none, []⟩,
 ⟨some 6, .mov (.t 50), none, []⟩]))))))
 (.reg [
 ⟨some 51, .mov (.t 7), none, []⟩,
 ⟨some 52, .mov (.t 8), none, []⟩,
 ⟨some 53, .iaddrA 16 0 (.t 4) (.t 51), none, []⟩,
 ⟨none, .store 1 (.t 53) (.t 52), none, []⟩])))))
 (.reg [
 ⟨some 38, .mov (.t 7), none, []⟩,
 ⟨some 39, .bin .add (.t 38) (.c (.int .i64 1)), none, []⟩,
 ⟨some 7, .mov (.t 39), none, []⟩]))))))
 (.seq none
 (.reg [
 ⟨some 54, .mov (.t 6), none, []⟩,
 ⟨some 55, .bin .eql (.t 54) (.c (.int .i64 0)), none, []⟩])
 (.cond (.t 55)
 (.reg [
 ⟨some 56, .load true 16 (.t 4), none, []⟩,
 ⟨none, .store 16 (.t 1) (.t 56), none, []⟩])
 .skip)))))))))
 (.reg [
 ⟨some 15, .mov (.t 3), none, []⟩,
 ⟨some 16, .bin .add (.t 15) (.c (.int .i64 1)), none, []⟩,
 ⟨some 3, .mov (.t 16), none, []⟩]))))))
 (.seq none
 (.reg [
 ⟨some 9, .alloc [.ints .u8 32 (List.replicate 32 0)], none, []⟩])
 (.seq none
 (.seq none
 (.reg [
 ⟨some 10, .mov (.c (.int .i64 0)), none, []⟩])
 (.block 8 none
 (.loop 1000000 none
 (.seq none
 (.seq none
 (.reg [
 ⟨some 57, .mov (.t 10), none, []⟩,
 ⟨some 58, .bin .lss (.t 57) (.c (.int .i64 16)), none, []⟩])
 (.cond (.t 58)
 .skip
 (.exit 8)))
 (.seq none
 (.block 9 none
 (.seq none
 (.reg [
 ⟨some 61, .mov (.t 10), none, []⟩,
 ⟨some 62, .bin .mul (.c (.int .i64 2)) (.t 61), none, []⟩,
 ⟨some 63, .mov (.t 10), none, []⟩,
 ⟨some 64, .iaddrA 16 0 (.t 1) (.t 63), none, []⟩,
 ⟨some 65, .load false 1 (.t 64), none, []⟩,
 ⟨some 66, .bin .rem (.t 65) (.c (.int .i64 256)), none, []⟩,
 ⟨some 67, .toInt .u8 (.t 66), none, []⟩,
 ⟨some 68, .iaddrA 32 0 (.t 9) (.t 62), none, []⟩,
 ⟨none, .store 1 (.t 68) (.t 67), none, []⟩])
 (.reg [
 ⟨some 69, .mov (.t 10), none, []⟩,
 ⟨some 70, .bin .mul (.c (.int .i64 2)) (.t 69), none, []⟩,
 ⟨some 71, .bin .add (.t 70) (.c (.int .i64 1)), none, []⟩,
 ⟨some 72, .mov (.t 10), none, []⟩,
 ⟨some 73, .iaddrA 16 0 (.t 1) (.t 72), none, []⟩,
 ⟨some 74, .load false 1 (.t 73), none, []⟩,
 ⟨some 75, .bin .quo (.t 74) (.c (.int .i64 256)), none, []⟩,
 ⟨some 76, .toInt .u8 (.t 75), none, []⟩,
 ⟨some 77, .iaddrA 32 0 (.t 9) (.t 71), none, []⟩,
 ⟨none, .store 1 (.t 77) (.t 76), none, []⟩])))
 (.reg [
 ⟨some 59, .mov (.t 10), none, []⟩,
 ⟨some 60, .bin .add (.t 59) (.c (.int .i64 1)), none, []⟩,
 ⟨some 10, .mov (.t 60), none, []⟩]))))))
 (.seq none
 (.reg [
 ⟨some 78, .load true 32 (.t 9), none, []⟩,
 ⟨none, .store 32 (.t 2) (.t 78), none, []⟩])
 .ret))))))⟩
def id_hollowtreeref03_Num_Sub : Nat := 46
def af_hollowtreeref03_Num_Sub : AFn := ⟨21, [.cell 4 true 16],
 (.seq none
 (.reg [
 ⟨some 2, .box (.t 0), none, []⟩,
 ⟨some 3, .box (.t 1), none, []⟩,
 ⟨some 4, .alloc [.ints .i64 16 (List.replicate 16 0)], none, []⟩])
 (.seq none
 (.seq none
 (.reg [
 ⟨some 5, .mov (.c (.int .i64 0)), none, []⟩])
 (.block 0 none
 (.loop 1000000 none
 (.seq none
 (.seq none
 (.reg [
 ⟨some 6, .mov (.t 5), none, []⟩,
 ⟨some 7, .bin .lss (.t 6) (.c (.int .i64 16)), none, []⟩])
 (.cond (.t 7)
 .skip
 (.exit 0)))
 (.seq none
 (.block 1 none
 (.draw [
 ⟨some 10, .mov (.t 5), none, []⟩,
 ⟨some 11, .mov (.t 5), none, []⟩,
 ⟨some 12, .iaddrA 16 0 (.t 2) (.t 11), none, [1]⟩,
 ⟨some 13, .load false 1 (.t 12), none, [2]⟩,
 ⟨some 14, .mov (.t 5), none, []⟩,
 ⟨some 15, .iaddrA 16 0 (.t 3) (.t 14), none, [4]⟩,
 ⟨some 16, .load false 1 (.t 15), none, [5]⟩,
 ⟨some 17, .bin .sub (.t 13) (.t 16), none, [3, 6]⟩,
 ⟨some 18, .iaddrA 16 0 (.t 2) (.t 10), none, [0, 0, 1, 2, 3, 4, 5, 6, 7]⟩,
 ⟨none, .store 1 (.t 18) (.t 17), none, [8, 7, 0, 1, 2, 3, 4, 5, 6, 7]⟩]))
 (.reg [
 ⟨some 8, .mov (.t 5), none, []⟩,
 ⟨some 9, .bin .add (.t 8) (.c (.int .i64 1)), none, []⟩,
 ⟨some 5, .mov (.t 9), none, []⟩]))))))
 (.seq none
 (.reg [
 ⟨some 19, .load true 16 (.t 2), none, []⟩,
 ⟨some 20, .call 84 [(.t 19)], none, []⟩,
 ⟨none, .store 16 (.t 4) (.t 20), none, []⟩])
 .ret)))⟩
def id_hollowtreeref03_digits : Nat := 47
def af_hollowtreeref03_digits : AFn := ⟨24, [.cell 2 true 16],
 (.seq none
 (.reg [
 ⟨some 2, .alloc [.ints .i64 16 (List.replicate 16 0)], none, []⟩])
 (.seq none
 (.reg [
 ⟨some 3, .alloc [.ints .i64 16 (List.replicate 16 0)], none, []⟩])
 (.seq none
 (.seq none
 (.reg [
 ⟨some 4, .mov (.c (.int .i64 0)), none, []⟩])
 (.block 0 none
 (.loop 1000000 none
 (.seq none
 (.seq none
 (.reg [
 ⟨some 5, .mov (.t 4), none, []⟩,
 ⟨some 6, .mov (.t 0), none, []⟩,
 ⟨some 7, .len true (.t 6), none, []⟩,
 ⟨some 8, .bin .lss (.t 5) (.t 7), none, []⟩])
 (.cond (.t 8)
 .skip
 (.exit 0)))
 (.seq none
 (.block 1 none
 (.seq none
 (.reg [
 ⟨some 11, .load true 16 (.t 3), none, []⟩,
 ⟨some 12, .call 75 [(.t 11), (.c (.int .i64 10))], none, []⟩,
 ⟨none, .store 16 (.t 3) (.t 12), none, []⟩])
 (.draw [
 ⟨some 13, .iaddrA 16 0 (.t 3) (.c (.int .i64 0)), none, []⟩,
 ⟨some 14, .load false 1 (.t 13), none, [0]⟩,
 ⟨some 15, .mov (.t 0), none, []⟩,
 ⟨some 16, .mov (.t 4), none, []⟩,
 ⟨some 17, .idxS (.t 15) (.t 16), none, [2, 3]⟩,
 ⟨some 18, .bin .sub (.t 17) (.c (.int .u8 48)), none, [4]⟩,
 ⟨some 19, .toInt .i64 (.t 18), none, [5]⟩,
 ⟨some 20, .bin .add (.t 14) (.t 19), none, [1, 6]⟩,
 ⟨some 21, .iaddrA 16 0 (.t 3) (.c (.int .i64 0)), none, [0, 1, 2, 3, 4, 5, 6, 7]⟩,
 ⟨none, .store 1 (.t 21) (.t 20), none, [8, 7, 0, 1, 2, 3, 4, 5, 6, 7]⟩])))
 (.reg [
 ⟨some 9, .mov (.t 4), none, []⟩,
 ⟨some 10, .bin .add (.t 9) (.c (.int .i64 1)), none, []⟩,
 ⟨some 4, .mov (.t 10), none, []⟩]))))))
 (.seq none
 (.reg [
 ⟨some 22, .load true 16 (.t 3), none, []⟩,
 ⟨some 23, .call 84 [(.t 22)], none, []⟩,
 ⟨none, .store 16 (.t 2) (.t 23), none, []⟩])
 .ret))))⟩
def id_slices_Equal_api_Skip : Nat := 48
def af_slices_Equal_api_Skip : AFn := ⟨26, [.t 4],
 (.seq none
 (.reg [
 ⟨some 4, .mov (.c (.bool false)), none, []⟩])
 (.seq none
 (.seq none
 (.reg [
 ⟨some 6, .mov (.t 0), none, []⟩,
 ⟨some 7, .len false (.t 6), none, []⟩,
 ⟨some 8, .mov (.t 1), none, []⟩,
 ⟨some 9, .len false (.t 8), none, []⟩,
 ⟨some 10, .bin .neq (.t 7) (.t 9), none, []⟩])
 (.cond (.t 10)
 (.seq none
 (.reg [
 ⟨some 4, .mov (.c (.bool false)), none, []⟩])
 .ret)
 .skip))
 (.seq none
 (.seq none
 (.reg [
 ⟨some 11, .mov (.t 0), none, []⟩,
 ⟨some 12, .len false (.t 11), none, []⟩,
 ⟨some 13, .mov (.c (.int .i64 0)), none, []⟩])
 (.block 0 none
 (.loop 1000000 none
 (.seq none
 (.reg [
 ⟨some 14, .bin .lss (.t 13) (.t 12), none, []⟩])
 (.seq none
 (.cond (.t 14)
 .skip
 (.exit 0))
 (.seq none
 (.block 1 none
 (.seq none
 (.reg [
 ⟨some 15, .mov (.t 13), none, []⟩,
 ⟨some 5, .mov (.t 15), none, []⟩])
 (.seq none
 (.draw [
 ⟨some 16, .mov (.t 0), none, []⟩,
 ⟨some 17, .mov (.t 5), none, []⟩,
 ⟨some 18, .iaddrS 65 (.t 16) (.t 17), none, [0, 1]⟩,
 ⟨some 19, .load true 65 (.t 18), none, [2]⟩,
 ⟨some 20, .mov (.t 1), none, []⟩,
 ⟨some 21, .mov (.t 5), none, []⟩,
 ⟨some 22, .iaddrS 65 (.t 20) (.t 21), none, [4, 5]⟩,
 ⟨some 23, .load true 65 (.t 22), none, [6]⟩,
 ⟨some 24, .eqv true (.agg [true, true, true, true, true, true, true, true, true, true, true, true, true, true, true, true, true, true, true, true, true, true, true, true, true, true, true, true, true, true, true, true, true, true, true, true, true, true, true, true, true, true, true, true, true, true, true, true, true, true, true, true, true, true, true, true, true, true, true, true, true, true, true, true, true]) (.t 19) (.t 23), none, [3, 7]⟩])
 (.cond (.t 24)
 (.seq none
 (.reg [
 ⟨some 4, .mov (.c (.bool false)), none, []⟩])
 .ret)
 .skip))))
 (.reg [
 ⟨some 25, .bin .add (.t 13) (.c (.int .i64 1)), none, []⟩,
 ⟨some 13, .mov (.t 25), none, []⟩])))))))
 (.seq none
 (.reg [
 ⟨some 4, .mov (.c (.bool true)), none, []⟩])
 .ret))))⟩
def id_hollowtreeref05_Two : Nat := 49
def af_hollowtreeref05_Two : AFn := ⟨26, [.cell 6 true 32, .cell 7 true 32],
 (.seq none
 (.reg [
 ⟨some 3, .box (.t 0), none, []⟩,
 ⟨some 6, .alloc [.ints .u8 32 (List.replicate 32 0)], none, []⟩,
 ⟨some 7, .alloc [.ints .u8 32 (List.replicate 32 0)], none, []⟩])
 (.seq none
 (.draw [
 ⟨some 11, .load true 32 (.t 3), none, []⟩,
 ⟨some 12, .mov (.t 1), none, []⟩,
 ⟨some 13, .mov (.t 2), none, []⟩,
 ⟨some 14, .call 86 [(.t 12), (.t 13)], none, [1, 2]⟩,
 ⟨some 15, .call 85 [(.t 11), (.t 14), (.c (.int .i64 64))], none, [0, 3, 3]⟩,
 ⟨some 8, .mov (.t 15), none, [4, 4, 0, 1, 2, 3, 4]⟩])
 (.seq none
 (.reg [
 ⟨some 9, .alloc [.ints .u8 32 (List.replicate 32 0)], none, []⟩,
 ⟨some 10, .alloc [.ints .u8 32 (List.replicate 32 0)], none, []⟩])
 (.seq none
 (.draw [
 ⟨some 16, .slArr 32 0 (.t 9) none none none, none, []⟩,
 ⟨some 17, .mov (.t 8), none, []⟩,
 ⟨some 18, .slSlice 1 (.t 17) none (some (.c (.int .i64 32))) none, none, [1]⟩,
 ⟨some 19, .copyI (.t 16) (.t 18), none, [0, 2]⟩])
 (.seq none
 (.draw [
 ⟨some 20, .slArr 32 0 (.t 10) none none none, none, []⟩,
 ⟨some 21, .mov (.t 8), none, []⟩,
 ⟨some 22, .slSlice 1 (.t 21) (some (.c (.int .i64 32))) none none, none, [1]⟩,
 ⟨some 23, .copyI (.t 20) (.t 22), none, [0, 2]⟩])
 (.seq none
 (.draw [
 ⟨some 24, .load true 32 (.t 9), none, []⟩,
 ⟨some 25, .load true 32 (.t 10), none, []⟩,
 ⟨none, .store 32 (.t 6) (.t 24), none, [0, 0]⟩,
 ⟨none, .store 32 (.t 7) (.t 25), none, [1, 2, 0, 1, 2]⟩])
 .ret))))))⟩
def id_hollowtreeref05_Derive : Nat := 50
def af_hollowtreeref05_Derive : AFn := ⟨17, [.cell 6 true 32],
 (.seq none
 (.reg [
 ⟨some 3, .box (.t 0), none, []⟩,
 ⟨some 6, .alloc [.ints .u8 32 (List.replicate 32 0)], none, []⟩])
 (.seq none
 (.reg [
 ⟨some 10, .load true 32 (.t 3), none, []⟩,
 ⟨some 11, .mov (.t 1), none, []⟩,
 ⟨some 12, .mov (.t 2), none, []⟩,
 ⟨some 13, .call 49 [(.t 10), (.t 11), (.t 12)], none, []⟩,
 ⟨some 9, .mov (.t 13), none, []⟩,
 ⟨some 14, .ext (.t 9) 0, none, []⟩,
 ⟨some 15, .ext (.t 9) 1, none, []⟩,
 ⟨some 7, .alloc [.ints .u8 32 (List.replicate 32 0)], none, []⟩,
 ⟨some 8, .alloc [.ints .u8 32 (List.replicate 32 0)], none, []⟩,
 ⟨none, .store 32 (.t 7) (.t 14), none, []⟩,
 ⟨none, .store 32 (.t 8) (.t 15), none, []⟩])
 (.seq none
 (.reg [
 ⟨some 16, .load true 32 (.t 7), none, []⟩,
 ⟨none, .store 32 (.t 6) (.t 16), none, []⟩])
 .ret)))⟩
def id_hollowtreeref17_Turn : Nat := 51
def af_hollowtreeref17_Turn : AFn := ⟨18, [.cell 6 true 32, .cell 7 true 32],
 (.seq none
 (.reg [
 ⟨some 3, .box (.t 0), none, []⟩,
 ⟨some 4, .box (.t 1), none, []⟩,
 ⟨some 5, .box (.t 2), none, []⟩,
 ⟨some 6, .alloc [.ints .u8 32 (List.replicate 32 0)], none, []⟩,
 ⟨some 7, .alloc [.ints .u8 32 (List.replicate 32 0)], none, []⟩])
 (.seq none
 (.reg [
 ⟨some 9, .load true 32 (.t 4), none, []⟩,
 ⟨some 10, .load true 32 (.t 5), none, []⟩,
 ⟨some 11, .call 35 [(.t 9), (.t 10)], none, []⟩,
 ⟨some 8, .alloc [.ints .u8 32 (List.replicate 32 0)], none, []⟩,
 ⟨none, .store 32 (.t 8) (.t 11), none, []⟩])
 (.seq none
 (.draw [
 ⟨some 12, .load true 32 (.t 3), none, []⟩,
 ⟨some 13, .slArr 32 0 (.t 8) none none none, none, []⟩,
 ⟨some 14, .bslice [.nils] 1 1 [(0, 1, (.t 13))], none, [1]⟩,
 ⟨some 15, .call 49 [(.t 12), (.c (.str ⟨#[116, 117, 114, 110]⟩)), (.t 14)], none, [0, 2]⟩,
 ⟨some 16, .ext (.t 15) 0, none, [3]⟩,
 ⟨some 17, .ext (.t 15) 1, none, [3]⟩,
 ⟨none, .store 32 (.t 6) (.t 16), none, [4, 3, 0, 1, 2, 3, 4, 5]⟩,
 ⟨none, .store 32 (.t 7) (.t 17), none, [5, 6, 0, 1, 2, 3, 4, 5, 6]⟩])
 .ret)))⟩
def id_ratchet_find : Nat := 52
def af_ratchet_find : AFn := ⟨10, [.t 6],
 (.seq none
 (.reg [
 ⟨some 4, .box (.t 1), none, []⟩,
 ⟨some 5, .box (.t 2), none, []⟩,
 ⟨some 6, .mov (.c (.int .i64 0)), none, []⟩])
 (.seq none
 (.reg [
 ⟨some 7, .mov (.t 0), none, []⟩,
 ⟨some 8, .mkf 88 [] [(.t 4), (.t 5)], none, []⟩,
 ⟨some 9, .call 87 [(.t 7), (.t 8)], none, []⟩,
 ⟨some 6, .mov (.t 9), none, []⟩])
 .ret))⟩
def id_octet_Put32 : Nat := 53
def af_octet_Put32 : AFn := ⟨9, [.t 4],
 (.seq none
 (.reg [
 ⟨some 4, .mov (.c (.nils)), none, []⟩])
 (.seq none
 (.reg [
 ⟨some 5, .mov (.t 0), none, []⟩,
 ⟨some 6, .mov (.t 1), none, []⟩,
 ⟨some 7, .toInt .u64 (.t 6), none, []⟩,
 ⟨some 8, .call 89 [(.t 5), (.t 7), (.c (.int .i64 4))], none, []⟩,
 ⟨some 4, .mov (.t 8), none, []⟩])
 .ret))⟩
def id_hollowtreeref01_Both : Nat := 54
def af_hollowtreeref01_Both : AFn := ⟨41, [.t 4],
 (.seq none
 (.reg [
 ⟨some 4, .mov (.c (.nils)), none, []⟩])
 (.seq none
 (.reg [
 ⟨some 8, .mov (.t 0), none, []⟩,
 ⟨some 9, .len false (.t 8), none, []⟩,
 ⟨some 10, .mov (.t 1), none, []⟩,
 ⟨some 11, .len false (.t 10), none, []⟩,
 ⟨some 12, .bin .add (.t 9) (.t 11), none, []⟩,
 ⟨some 13, .mksliceI .u8 1 (.c (.int .i64 0)) (.t 12), none, []⟩,
 ⟨some 5, .mov (.t 13), none, []⟩])
 (.seq none
 (.seq none
 (.reg [
 ⟨some 6, .mov (.c (.int .i64 0)), none, []⟩])
 (.block 0 none
 (.loop 1000000 none
 (.seq none
 (.seq none
 (.reg [
 ⟨some 14, .mov (.t 6), none, []⟩,
 ⟨some 15, .mov (.t 0), none, []⟩,
 ⟨some 16, .len false (.t 15), none, []⟩,
 ⟨some 17, .bin .lss (.t 14) (.t 16), none, []⟩])
 (.cond (.t 17)
 .skip
 (.exit 0)))
 (.seq none
 (.block 1 none
 (.reg [
 ⟨some 20, .mov (.t 5), none, []⟩,
 ⟨some 21, .mov (.t 0), none, []⟩,
 ⟨some 22, .mov (.t 6), none, []⟩,
 ⟨some 23, .iaddrS 1 (.t 21) (.t 22), none, []⟩,
 ⟨some 24, .load false 1 (.t 23), none, []⟩,
 ⟨some 25, .bslice [.ints .u8 1 (List.replicate 1 0)] 1 0 [(0, 1, (.t 24))], none, []⟩,
 ⟨some 26, .appendI .u8 1 (.t 20) (.t 25), none, []⟩,
 ⟨some 5, .mov (.t 26), none, []⟩]))
 (.reg [
 ⟨some 18, .mov (.t 6), none, []⟩,
 ⟨some 19, .bin .add (.t 18) (.c (.int .i64 1)), none, []⟩,
 ⟨some 6, .mov (.t 19), none, []⟩]))))))
 (.seq none
 (.seq none
 (.reg [
 ⟨some 7, .mov (.c (.int .i64 0)), none, []⟩])
 (.block 2 none
 (.loop 1000000 none
 (.seq none
 (.seq none
 (.reg [
 ⟨some 27, .mov (.t 7), none, []⟩,
 ⟨some 28, .mov (.t 1), none, []⟩,
 ⟨some 29, .len false (.t 28), none, []⟩,
 ⟨some 30, .bin .lss (.t 27) (.t 29), none, []⟩])
 (.cond (.t 30)
 .skip
 (.exit 2)))
 (.seq none
 (.block 3 none
 (.reg [
 ⟨some 33, .mov (.t 5), none, []⟩,
 ⟨some 34, .mov (.t 1), none, []⟩,
 ⟨some 35, .mov (.t 7), none, []⟩,
 ⟨some 36, .iaddrS 1 (.t 34) (.t 35), none, []⟩,
 ⟨some 37, .load false 1 (.t 36), none, []⟩,
 ⟨some 38, .bslice [.ints .u8 1 (List.replicate 1 0)] 1 0 [(0, 1, (.t 37))], none, []⟩,
 ⟨some 39, .appendI .u8 1 (.t 33) (.t 38), none, []⟩,
 ⟨some 5, .mov (.t 39), none, []⟩]))
 (.reg [
 ⟨some 31, .mov (.t 7), none, []⟩,
 ⟨some 32, .bin .add (.t 31) (.c (.int .i64 1)), none, []⟩,
 ⟨some 7, .mov (.t 32), none, []⟩]))))))
 (.seq none
 (.reg [
 ⟨some 40, .mov (.t 5), none, []⟩,
 ⟨some 4, .mov (.t 40), none, []⟩])
 .ret)))))⟩
def id_hollowtreeref01_Low : Nat := 55
def af_hollowtreeref01_Low : AFn := ⟨23, [.t 4],
 (.seq none
 (.reg [
 ⟨some 4, .mov (.c (.nils)), none, []⟩])
 (.seq none
 (.reg [
 ⟨some 7, .mov (.t 1), none, []⟩,
 ⟨some 8, .mksliceI .u8 1 (.t 7) (.t 7), none, []⟩,
 ⟨some 5, .mov (.t 8), none, []⟩])
 (.seq none
 (.seq none
 (.reg [
 ⟨some 6, .mov (.c (.int .i64 0)), none, []⟩])
 (.block 0 none
 (.loop 1000000 none
 (.seq none
 (.seq none
 (.reg [
 ⟨some 9, .mov (.t 6), none, []⟩,
 ⟨some 10, .mov (.t 1), none, []⟩,
 ⟨some 11, .bin .lss (.t 9) (.t 10), none, []⟩])
 (.cond (.t 11)
 .skip
 (.exit 0)))
 (.seq none
 (.block 1 none
 (.seq none
 (.reg [
 ⟨some 14, .mov (.t 5), none, []⟩,
 ⟨some 15, .mov (.t 6), none, []⟩,
 ⟨some 16, .mov (.t 0), none, []⟩,
 ⟨some 17, .bin .rem (.t 16) (.c (.int .u64 256)), none, []⟩,
 ⟨some 18, .toInt .u8 (.t 17), none, []⟩,
 ⟨some 19, .iaddrS 1 (.t 14) (.t 15), none, []⟩,
 ⟨none, .store 1 (.t 19) (.t 18), none, []⟩])
 (.reg [
 ⟨some 20, .mov (.t 0), none, []⟩,
 ⟨some 21, .bin .quo (.t 20) (.c (.int .u64 256)), none, []⟩,
 ⟨some 0, .mov (.t 21), none, []⟩])))
 (.reg [
 ⟨some 12, .mov (.t 6), none, []⟩,
 ⟨some 13, .bin .add (.t 12) (.c (.int .i64 1)), none, []⟩,
 ⟨some 6, .mov (.t 13), none, []⟩]))))))
 (.seq none
 (.reg [
 ⟨some 22, .mov (.t 5), none, []⟩,
 ⟨some 4, .mov (.t 22), none, []⟩])
 .ret))))⟩
end Go.Am
