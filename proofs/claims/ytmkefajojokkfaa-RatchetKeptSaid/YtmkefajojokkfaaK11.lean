/- RatchetKept: part 12 of 39 of its proof. -/
import Derived.Test.YtmkefajojokkfaaK10
set_option linter.unusedVariables false
set_option linter.unusedSimpArgs false
/- The functions, as the abstract machine has them. Printed. -/
namespace Go.Am
def af_hollowtreelaw17_RatchetKept : AFn := ⟨98, [.t 6],
 (.seq none
 (.reg [
 ⟨some 3, .box (.t 0), none, []⟩,
 ⟨some 4, .box (.t 1), none, []⟩,
 ⟨some 5, .box (.t 2), none, []⟩,
 ⟨some 6, .mov (.c (.bool false)), none, []⟩])
 (.seq none
 (.seq none
 (.reg [
 ⟨some 23, .call 4 [], none, []⟩,
 ⟨some 24, .un .not (.t 23), none, []⟩])
 (.cond (.t 24)
 (.seq none
 (.reg [
 ⟨some 6, .mov (.c (.bool false)), none, []⟩])
 .ret)
 .skip))
 (.seq none
 (.reg [
 ⟨some 26, .load true 164 (.t 3), none, []⟩,
 ⟨some 27, .call 5 [(.t 26)], none, []⟩,
 ⟨some 25, .mov (.t 27), none, []⟩,
 ⟨some 28, .ext (.t 25) 0, none, []⟩,
 ⟨some 29, .ext (.t 25) 1, none, []⟩,
 ⟨some 7, .mov (.t 28), none, []⟩,
 ⟨some 8, .mov (.t 29), none, []⟩])
 (.seq none
 (.seq none
 (.reg [
 ⟨some 30, .mov (.t 8), none, []⟩,
 ⟨some 31, .bin .neq (.t 30) (.c (.int .i64 0)), none, []⟩])
 (.cond (.t 31)
 (.seq none
 (.reg [
 ⟨some 6, .mov (.c (.bool true)), none, []⟩])
 .ret)
 .skip))
 (.seq none
 (.reg [
 ⟨some 33, .load true 164 (.t 3), none, []⟩,
 ⟨some 34, .load true 99 (.t 4), none, []⟩,
 ⟨some 35, .load true 32 (.t 5), none, []⟩,
 ⟨some 36, .call 6 [(.t 33), (.t 34), (.t 35)], none, []⟩,
 ⟨some 32, .mov (.t 36), none, []⟩,
 ⟨some 37, .ext (.t 32) 0, none, []⟩,
 ⟨some 38, .ext (.t 32) 1, none, []⟩,
 ⟨some 39, .ext (.t 32) 2, none, []⟩,
 ⟨some 9, .alloc [.ints .u8 32 (List.replicate 32 0), .ints .u8 32 (List.replicate 32 0), .ints .u8 32 (List.replicate 32 0), .ints .u8 32 (List.replicate 32 0), .ints .u8 32 (List.replicate 32 0), .int .u32 0, .int .u32 0, .int .u32 0, .nils], none, []⟩,
 ⟨none, .store 164 (.t 9) (.t 37), none, []⟩,
 ⟨some 10, .mov (.t 38), none, []⟩,
 ⟨some 11, .mov (.t 39), none, []⟩])
 (.seq none
 (.reg [
 ⟨some 41, .load true 164 (.t 3), none, []⟩,
 ⟨some 42, .call 7 [(.t 41), (.c (.str ⟨#[116, 101, 120, 116]⟩))], none, []⟩,
 ⟨some 40, .mov (.t 42), none, []⟩,
 ⟨some 43, .ext (.t 40) 0, none, []⟩,
 ⟨some 44, .ext (.t 40) 1, none, []⟩,
 ⟨some 45, .ext (.t 40) 2, none, []⟩,
 ⟨some 12, .alloc [.ints .u8 32 (List.replicate 32 0), .ints .u8 32 (List.replicate 32 0), .ints .u8 32 (List.replicate 32 0), .ints .u8 32 (List.replicate 32 0), .ints .u8 32 (List.replicate 32 0), .int .u32 0, .int .u32 0, .int .u32 0, .nils], none, []⟩,
 ⟨some 13, .alloc [.ints .u8 32 (List.replicate 32 0), .int .u32 0, .int .u32 0, .ints .u8 65 (List.replicate 65 0)], none, []⟩,
 ⟨none, .store 164 (.t 12) (.t 43), none, []⟩,
 ⟨none, .store 99 (.t 13) (.t 44), none, []⟩,
 ⟨some 14, .mov (.t 45), none, []⟩])
 (.seq none
 (.reg [
 ⟨some 47, .load true 164 (.t 3), none, []⟩,
 ⟨some 48, .load true 99 (.t 4), none, []⟩,
 ⟨some 49, .load true 32 (.t 5), none, []⟩,
 ⟨some 50, .call 6 [(.t 47), (.t 48), (.t 49)], none, []⟩,
 ⟨some 46, .mov (.t 50), none, []⟩,
 ⟨some 51, .ext (.t 46) 0, none, []⟩,
 ⟨some 52, .ext (.t 46) 1, none, []⟩,
 ⟨some 53, .ext (.t 46) 2, none, []⟩,
 ⟨some 15, .alloc [.ints .u8 32 (List.replicate 32 0), .ints .u8 32 (List.replicate 32 0), .ints .u8 32 (List.replicate 32 0), .ints .u8 32 (List.replicate 32 0), .ints .u8 32 (List.replicate 32 0), .int .u32 0, .int .u32 0, .int .u32 0, .nils], none, []⟩,
 ⟨none, .store 164 (.t 15) (.t 51), none, []⟩,
 ⟨some 16, .mov (.t 52), none, []⟩,
 ⟨some 17, .mov (.t 53), none, []⟩])
 (.seq none
 (.reg [
 ⟨some 55, .load true 164 (.t 3), none, []⟩,
 ⟨some 56, .call 7 [(.t 55), (.c (.str ⟨#[116, 101, 120, 116]⟩))], none, []⟩,
 ⟨some 54, .mov (.t 56), none, []⟩,
 ⟨some 57, .ext (.t 54) 0, none, []⟩,
 ⟨some 58, .ext (.t 54) 1, none, []⟩,
 ⟨some 59, .ext (.t 54) 2, none, []⟩,
 ⟨some 18, .alloc [.ints .u8 32 (List.replicate 32 0), .ints .u8 32 (List.replicate 32 0), .ints .u8 32 (List.replicate 32 0), .ints .u8 32 (List.replicate 32 0), .ints .u8 32 (List.replicate 32 0), .int .u32 0, .int .u32 0, .int .u32 0, .nils], none, []⟩,
 ⟨some 19, .alloc [.ints .u8 32 (List.replicate 32 0), .int .u32 0, .int .u32 0, .ints .u8 65 (List.replicate 65 0)], none, []⟩,
 ⟨none, .store 164 (.t 18) (.t 57), none, []⟩,
 ⟨none, .store 99 (.t 19) (.t 58), none, []⟩,
 ⟨some 20, .mov (.t 59), none, []⟩])
 (.seq none
 (.reg [
 ⟨some 61, .load true 164 (.t 3), none, []⟩,
 ⟨some 62, .call 5 [(.t 61)], none, []⟩,
 ⟨some 60, .mov (.t 62), none, []⟩,
 ⟨some 63, .ext (.t 60) 0, none, []⟩,
 ⟨some 64, .ext (.t 60) 1, none, []⟩,
 ⟨some 21, .mov (.t 63), none, []⟩,
 ⟨some 22, .mov (.t 64), none, []⟩])
 (.seq none
 (.reg [
 ⟨some 65, .mov (.t 7), none, []⟩,
 ⟨some 66, .mov (.t 21), none, []⟩,
 ⟨some 67, .call 8 [(.t 65), (.t 66)], none, []⟩,
 ⟨some 68, .mov (.t 67), none, []⟩,
 ⟨some 69, .load true 164 (.t 9), some (68, true), []⟩,
 ⟨some 70, .load true 164 (.t 15), some (68, true), []⟩,
 ⟨some 71, .call 9 [(.t 69), (.t 70)], some (68, true), []⟩,
 ⟨some 72, .pick (.t 68) (.t 71) (.c (.bool false)), none, []⟩,
 ⟨some 73, .mov (.t 72), none, []⟩,
 ⟨some 74, .mov (.t 10), some (73, true), []⟩,
 ⟨some 75, .mov (.t 16), some (73, true), []⟩,
 ⟨some 76, .bin .eql (.t 74) (.t 75), some (73, true), []⟩,
 ⟨some 77, .pick (.t 73) (.t 76) (.c (.bool false)), none, []⟩,
 ⟨some 78, .mov (.t 77), none, []⟩,
 ⟨some 79, .mov (.t 11), some (78, true), []⟩,
 ⟨some 80, .mov (.t 17), some (78, true), []⟩,
 ⟨some 81, .bin .eql (.t 79) (.t 80), some (78, true), []⟩,
 ⟨some 82, .pick (.t 78) (.t 81) (.c (.bool false)), none, []⟩,
 ⟨some 83, .mov (.t 82), none, []⟩,
 ⟨some 84, .load true 164 (.t 12), some (83, true), []⟩,
 ⟨some 85, .load true 164 (.t 18), some (83, true), []⟩,
 ⟨some 86, .call 9 [(.t 84), (.t 85)], some (83, true), []⟩,
 ⟨some 87, .pick (.t 83) (.t 86) (.c (.bool false)), none, []⟩,
 ⟨some 88, .mov (.t 87), none, []⟩,
 ⟨some 89, .load true 99 (.t 13), some (88, true), []⟩,
 ⟨some 90, .load true 99 (.t 19), some (88, true), []⟩,
 ⟨some 91, .eqv false (.agg [true, true, true, true, true, true, true, true, true, true, true, true, true, true, true, true, true, true, true, true, true, true, true, true, true, true, true, true, true, true, true, true, true, true, true, true, true, true, true, true, true, true, true, true, true, true, true, true, true, true, true, true, true, true, true, true, true, true, true, true, true, true, true, true, true, true, true, true, true, true, true, true, true, true, true, true, true, true, true, true, true, true, true, true, true, true, true, true, true, true, true, true, true, true, true, true, true, true, true]) (.t 89) (.t 90), some (88, true), []⟩,
 ⟨some 92, .pick (.t 88) (.t 91) (.c (.bool false)), none, []⟩,
 ⟨some 93, .mov (.t 92), none, []⟩,
 ⟨some 94, .mov (.t 14), some (93, true), []⟩,
 ⟨some 95, .mov (.t 20), some (93, true), []⟩,
 ⟨some 96, .bin .eql (.t 94) (.t 95), some (93, true), []⟩,
 ⟨some 97, .pick (.t 93) (.t 96) (.c (.bool false)), none, []⟩,
 ⟨some 6, .mov (.t 97), none, []⟩])
 .ret))))))))))⟩
def id_hollowtreelaw17_wakes : Nat := 4
def af_hollowtreelaw17_wakes : AFn := ⟨54, [.t 0],
 (.seq none
 (.reg [
 ⟨some 0, .mov (.c (.bool false)), none, []⟩])
 (.seq none
 (.reg [
 ⟨some 9, .build [.ints .u8 32 (List.replicate 32 0)] [(0, 1, (.c (.int .u8 1)))], none, []⟩,
 ⟨some 10, .build [.ints .u8 32 (List.replicate 32 0)] [(0, 1, (.c (.int .u8 8)))], none, []⟩,
 ⟨some 11, .build [.ints .u8 32 (List.replicate 32 0)] [(0, 1, (.c (.int .u8 24)))], none, []⟩,
 ⟨some 12, .build [.ints .u8 32 (List.replicate 32 0)] [(0, 1, (.c (.int .u8 32)))], none, []⟩,
 ⟨some 13, .call 10 [(.t 9), (.t 10), (.t 11), (.t 12)], none, []⟩,
 ⟨some 8, .mov (.t 13), none, []⟩,
 ⟨some 14, .ext (.t 8) 0, none, []⟩,
 ⟨some 15, .ext (.t 8) 1, none, []⟩,
 ⟨some 16, .ext (.t 8) 2, none, []⟩,
 ⟨some 1, .alloc [.ints .u8 32 (List.replicate 32 0), .ints .u8 32 (List.replicate 32 0), .ints .u8 32 (List.replicate 32 0), .ints .u8 32 (List.replicate 32 0), .ints .u8 32 (List.replicate 32 0), .int .u32 0, .int .u32 0, .int .u32 0, .nils], none, []⟩,
 ⟨some 2, .alloc [.ints .u8 32 (List.replicate 32 0), .ints .u8 32 (List.replicate 32 0), .ints .u8 32 (List.replicate 32 0), .ints .u8 32 (List.replicate 32 0), .ints .u8 32 (List.replicate 32 0), .int .u32 0, .int .u32 0, .int .u32 0, .nils], none, []⟩,
 ⟨none, .store 164 (.t 1) (.t 14), none, []⟩,
 ⟨none, .store 164 (.t 2) (.t 15), none, []⟩,
 ⟨some 3, .mov (.t 16), none, []⟩])
 (.seq none
 (.reg [
 ⟨some 18, .load true 164 (.t 1), none, []⟩,
 ⟨some 19, .call 7 [(.t 18), (.c (.str ⟨#[104, 105]⟩))], none, []⟩,
 ⟨some 17, .mov (.t 19), none, []⟩,
 ⟨some 20, .ext (.t 17) 0, none, []⟩,
 ⟨some 21, .ext (.t 17) 1, none, []⟩,
 ⟨some 22, .ext (.t 17) 2, none, []⟩,
 ⟨some 4, .alloc [.ints .u8 32 (List.replicate 32 0), .int .u32 0, .int .u32 0, .ints .u8 65 (List.replicate 65 0)], none, []⟩,
 ⟨none, .store 164 (.t 1) (.t 20), none, []⟩,
 ⟨none, .store 99 (.t 4) (.t 21), none, []⟩,
 ⟨some 5, .mov (.t 22), none, []⟩])
 (.seq none
 (.reg [
 ⟨some 24, .load true 164 (.t 2), none, []⟩,
 ⟨some 25, .load true 99 (.t 4), none, []⟩,
 ⟨some 26, .build [.ints .u8 32 (List.replicate 32 0)] [(0, 1, (.c (.int .u8 40)))], none, []⟩,
 ⟨some 27, .call 6 [(.t 24), (.t 25), (.t 26)], none, []⟩,
 ⟨some 23, .mov (.t 27), none, []⟩,
 ⟨some 28, .ext (.t 23) 0, none, []⟩,
 ⟨some 29, .ext (.t 23) 1, none, []⟩,
 ⟨some 30, .ext (.t 23) 2, none, []⟩,
 ⟨none, .store 164 (.t 2) (.t 28), none, []⟩,
 ⟨some 6, .mov (.t 29), none, []⟩,
 ⟨some 7, .mov (.t 30), none, []⟩])
 (.seq none
 (.reg [
 ⟨some 31, .mov (.t 3), none, []⟩,
 ⟨some 32, .mov (.t 31), none, []⟩,
 ⟨some 33, .mov (.t 5), some (32, true), []⟩,
 ⟨some 34, .bin .eql (.t 33) (.c (.int .i64 0)), some (32, true), []⟩,
 ⟨some 35, .pick (.t 32) (.t 34) (.c (.bool false)), none, []⟩,
 ⟨some 36, .mov (.t 35), none, []⟩,
 ⟨some 37, .mov (.t 7), some (36, true), []⟩,
 ⟨some 38, .bin .eql (.t 37) (.c (.int .i64 0)), some (36, true), []⟩,
 ⟨some 39, .pick (.t 36) (.t 38) (.c (.bool false)), none, []⟩,
 ⟨some 40, .mov (.t 39), none, []⟩,
 ⟨some 41, .mov (.t 6), some (40, true), []⟩,
 ⟨some 42, .bin .eql (.t 41) (.c (.str ⟨#[104, 105]⟩)), some (40, true), []⟩,
 ⟨some 43, .pick (.t 40) (.t 42) (.c (.bool false)), none, []⟩,
 ⟨some 44, .mov (.t 43), none, []⟩,
 ⟨some 45, .faddr 160 (.t 1), some (44, true), []⟩,
 ⟨some 46, .load false 1 (.t 45), some (44, true), []⟩,
 ⟨some 47, .bin .eql (.t 46) (.c (.int .u32 1)), some (44, true), []⟩,
 ⟨some 48, .pick (.t 44) (.t 47) (.c (.bool false)), none, []⟩,
 ⟨some 49, .mov (.t 48), none, []⟩,
 ⟨some 50, .faddr 161 (.t 2), some (49, true), []⟩,
 ⟨some 51, .load false 1 (.t 50), some (49, true), []⟩,
 ⟨some 52, .bin .eql (.t 51) (.c (.int .u32 1)), some (49, true), []⟩,
 ⟨some 53, .pick (.t 49) (.t 52) (.c (.bool false)), none, []⟩,
 ⟨some 0, .mov (.t 53), none, []⟩])
 .ret)))))⟩
def id_ratchet_Put : Nat := 5
def af_ratchet_Put : AFn := ⟨79, [.t 2, .t 3],
 (.seq none
 (.reg [
 ⟨some 1, .box (.t 0), none, []⟩,
 ⟨some 2, .mov (.c (.nils)), none, []⟩,
 ⟨some 3, .mov (.c (.int .i64 0)), none, []⟩])
 (.seq none
 (.seq none
 (.reg [
 ⟨some 11, .load true 164 (.t 1), none, []⟩,
 ⟨some 12, .call 11 [(.t 11)], none, []⟩,
 ⟨some 13, .bin .neq (.t 12) (.c (.int .i64 0)), none, []⟩])
 (.cond (.t 13)
 (.seq none
 (.reg [
 ⟨some 2, .mov (.c (.nils)), none, []⟩,
 ⟨some 3, .mov (.c (.int .i64 270)), none, []⟩])
 .ret)
 .skip))
 (.seq none
 (.reg [
 ⟨some 4, .mov (.c (.nils)), none, []⟩])
 (.seq none
 (.seq none
 (.reg [
 ⟨some 14, .faddr 0 (.t 1), none, []⟩,
 ⟨some 15, .load true 32 (.t 14), none, []⟩,
 ⟨some 16, .faddr 32 (.t 1), none, []⟩,
 ⟨some 17, .load true 32 (.t 16), none, []⟩,
 ⟨some 18, .faddr 64 (.t 1), none, []⟩,
 ⟨some 19, .load true 32 (.t 18), none, []⟩,
 ⟨some 20, .faddr 96 (.t 1), none, []⟩,
 ⟨some 21, .load true 32 (.t 20), none, []⟩,
 ⟨some 22, .faddr 128 (.t 1), none, []⟩,
 ⟨some 23, .load true 32 (.t 22), none, []⟩,
 ⟨some 24, .build [.ints .u8 32 (List.replicate 32 0), .ints .u8 32 (List.replicate 32 0), .ints .u8 32 (List.replicate 32 0), .ints .u8 32 (List.replicate 32 0), .ints .u8 32 (List.replicate 32 0)] [(0, 32, (.t 15)), (32, 32, (.t 17)), (64, 32, (.t 19)), (96, 32, (.t 21)), (128, 32, (.t 23))], none, []⟩,
 ⟨some 25, .mov (.c (.int .i64 0)), none, []⟩])
 (.block 0 none
 (.loop 1000000 none
 (.seq none
 (.reg [
 ⟨some 26, .bin .lss (.t 25) (.c (.int .i64 5)), none, []⟩])
 (.seq none
 (.cond (.t 26)
 .skip
 (.exit 0))
 (.seq none
 (.block 1 none
 (.seq none
 (.reg [
 ⟨some 27, .idxA true 5 32 (.t 24) (.t 25), none, []⟩,
 ⟨some 6, .alloc [.ints .u8 32 (List.replicate 32 0)], none, []⟩,
 ⟨none, .store 32 (.t 6) (.t 27), none, []⟩])
 (.reg [
 ⟨some 28, .mov (.t 4), none, []⟩,
 ⟨some 29, .slArr 32 0 (.t 6) none none none, none, []⟩,
 ⟨some 30, .appendI .u8 1 (.t 28) (.t 29), none, []⟩,
 ⟨some 4, .mov (.t 30), none, []⟩])))
 (.reg [
 ⟨some 31, .bin .add (.t 25) (.c (.int .i64 1)), none, []⟩,
 ⟨some 25, .mov (.t 31), none, []⟩])))))))
 (.seq none
 (.seq none
 (.reg [
 ⟨some 32, .faddr 160 (.t 1), none, []⟩,
 ⟨some 33, .load false 1 (.t 32), none, []⟩,
 ⟨some 34, .faddr 161 (.t 1), none, []⟩,
 ⟨some 35, .load false 1 (.t 34), none, []⟩,
 ⟨some 36, .faddr 162 (.t 1), none, []⟩,
 ⟨some 37, .load false 1 (.t 36), none, []⟩,
 ⟨some 38, .build [.ints .u32 3 (List.replicate 3 0)] [(0, 1, (.t 33)), (1, 1, (.t 35)), (2, 1, (.t 37))], none, []⟩,
 ⟨some 39, .mov (.c (.int .i64 0)), none, []⟩])
 (.block 2 none
 (.loop 1000000 none
 (.seq none
 (.reg [
 ⟨some 40, .bin .lss (.t 39) (.c (.int .i64 3)), none, []⟩])
 (.seq none
 (.cond (.t 40)
 .skip
 (.exit 2))
 (.seq none
 (.block 3 none
 (.seq none
 (.reg [
 ⟨some 41, .idxA false 3 1 (.t 38) (.t 39), none, []⟩,
 ⟨some 8, .mov (.t 41), none, []⟩])
 (.reg [
 ⟨some 42, .mov (.t 4), none, []⟩,
 ⟨some 43, .mov (.t 8), none, []⟩,
 ⟨some 44, .call 12 [(.t 42), (.t 43)], none, []⟩,
 ⟨some 4, .mov (.t 44), none, []⟩])))
 (.reg [
 ⟨some 45, .bin .add (.t 39) (.c (.int .i64 1)), none, []⟩,
 ⟨some 39, .mov (.t 45), none, []⟩])))))))
 (.seq none
 (.reg [
 ⟨some 46, .mov (.t 4), none, []⟩,
 ⟨some 47, .faddr 163 (.t 1), none, []⟩,
 ⟨some 48, .load false 1 (.t 47), none, []⟩,
 ⟨some 49, .len false (.t 48), none, []⟩,
 ⟨some 50, .toInt .u8 (.t 49), none, []⟩,
 ⟨some 51, .bslice [.ints .u8 1 (List.replicate 1 0)] 1 0 [(0, 1, (.t 50))], none, []⟩,
 ⟨some 52, .appendI .u8 1 (.t 46) (.t 51), none, []⟩,
 ⟨some 4, .mov (.t 52), none, []⟩])
 (.seq none
 (.seq none
 (.reg [
 ⟨some 53, .mov (.c (.int .i64 0)), none, []⟩])
 (.block 4 none
 (.loop 1000000 none
 (.seq none
 (.reg [
 ⟨some 54, .bin .lss (.t 53) (.c (.int .i64 8)), none, []⟩])
 (.seq none
 (.cond (.t 54)
 .skip
 (.exit 4))
 (.seq none
 (.block 5 none
 (.seq none
 (.reg [
 ⟨some 55, .mov (.t 53), none, []⟩,
 ⟨some 9, .mov (.t 55), none, []⟩])
 (.seq none
 (.reg [
 ⟨some 10, .alloc [.ints .u8 32 (List.replicate 32 0), .int .u32 0, .ints .u8 32 (List.replicate 32 0)], none, []⟩])
 (.seq none
 (.seq none
 (.reg [
 ⟨some 56, .mov (.t 9), none, []⟩,
 ⟨some 57, .faddr 163 (.t 1), none, []⟩,
 ⟨some 58, .load false 1 (.t 57), none, []⟩,
 ⟨some 59, .len false (.t 58), none, []⟩,
 ⟨some 60, .bin .lss (.t 56) (.t 59), none, []⟩])
 (.cond (.t 60)
 (.reg [
 ⟨some 61, .faddr 163 (.t 1), none, []⟩,
 ⟨some 62, .load false 1 (.t 61), none, []⟩,
 ⟨some 63, .mov (.t 9), none, []⟩,
 ⟨some 64, .iaddrS 65 (.t 62) (.t 63), none, []⟩,
 ⟨some 65, .load true 65 (.t 64), none, []⟩,
 ⟨none, .store 65 (.t 10) (.t 65), none, []⟩])
 .skip))
 (.seq none
 (.draw [
 ⟨some 66, .mov (.t 4), none, []⟩,
 ⟨some 67, .faddr 0 (.t 10), none, []⟩,
 ⟨some 68, .slArr 32 0 (.t 67) none none none, none, [1]⟩,
 ⟨some 69, .appendI .u8 1 (.t 66) (.t 68), none, [0, 2]⟩,
 ⟨some 70, .faddr 32 (.t 10), none, []⟩,
 ⟨some 71, .load false 1 (.t 70), none, [4]⟩,
 ⟨some 72, .call 12 [(.t 69), (.t 71)], none, [3, 5, 3]⟩,
 ⟨some 4, .mov (.t 72), none, [6, 6, 0, 1, 2, 3, 4, 5, 6]⟩])
 (.reg [
 ⟨some 73, .mov (.t 4), none, []⟩,
 ⟨some 74, .faddr 33 (.t 10), none, []⟩,
 ⟨some 75, .slArr 32 0 (.t 74) none none none, none, []⟩,
 ⟨some 76, .appendI .u8 1 (.t 73) (.t 75), none, []⟩,
 ⟨some 4, .mov (.t 76), none, []⟩]))))))
 (.reg [
 ⟨some 77, .bin .add (.t 53) (.c (.int .i64 1)), none, []⟩,
 ⟨some 53, .mov (.t 77), none, []⟩])))))))
 (.seq none
 (.reg [
 ⟨some 78, .mov (.t 4), none, []⟩,
 ⟨some 2, .mov (.t 78), none, []⟩,
 ⟨some 3, .mov (.c (.int .i64 0)), none, []⟩])
 .ret))))))))⟩
def id_ratchet_Open : Nat := 6
def af_ratchet_Open : AFn := ⟨188, [.cell 6 true 164, .t 7, .t 8],
 (.seq none
 (.reg [
 ⟨some 3, .box (.t 0), none, []⟩,
 ⟨some 4, .box (.t 1), none, []⟩,
 ⟨some 5, .box (.t 2), none, []⟩,
 ⟨some 6, .alloc [.ints .u8 32 (List.replicate 32 0), .ints .u8 32 (List.replicate 32 0), .ints .u8 32 (List.replicate 32 0), .ints .u8 32 (List.replicate 32 0), .ints .u8 32 (List.replicate 32 0), .int .u32 0, .int .u32 0, .int .u32 0, .nils], none, []⟩,
 ⟨some 7, .mov (.c (.str ⟨#[]⟩)), none, []⟩,
 ⟨some 8, .mov (.c (.int .i64 0)), none, []⟩])
 (.seq none
 (.reg [
 ⟨some 9, .mov (.c (.func 13 [] [])), none, []⟩])
 (.seq none
 (.reg [
 ⟨some 18, .faddr 0 (.t 4), none, []⟩,
 ⟨some 19, .load true 34 (.t 18), none, []⟩,
 ⟨some 10, .alloc [.ints .u8 32 (List.replicate 32 0), .int .u32 0, .int .u32 0], none, []⟩,
 ⟨none, .store 34 (.t 10) (.t 19), none, []⟩])
 (.seq none
 (.seq none
 (.reg [
 ⟨some 20, .load true 164 (.t 3), none, []⟩,
 ⟨some 21, .call 11 [(.t 20)], none, []⟩,
 ⟨some 22, .bin .neq (.t 21) (.c (.int .i64 0)), none, []⟩])
 (.cond (.t 22)
 (.seq none
 (.reg [
 ⟨some 23, .mov (.t 9), none, []⟩,
 ⟨some 24, .callV (.t 23) [(.c (.int .i64 270))], none, []⟩,
 ⟨some 25, .ext (.t 24) 0, none, []⟩,
 ⟨some 26, .ext (.t 24) 1, none, []⟩,
 ⟨some 27, .ext (.t 24) 2, none, []⟩,
 ⟨none, .store 164 (.t 6) (.t 25), none, []⟩,
 ⟨some 7, .mov (.t 26), none, []⟩,
 ⟨some 8, .mov (.t 27), none, []⟩])
 .ret)
 .skip))
 (.seq none
 (.reg [
 ⟨some 28, .faddr 163 (.t 3), none, []⟩,
 ⟨some 29, .load false 1 (.t 28), none, []⟩,
 ⟨some 30, .call 14 [(.t 29)], none, []⟩,
 ⟨some 31, .faddr 163 (.t 3), none, []⟩,
 ⟨none, .store 1 (.t 31) (.t 30), none, []⟩])
 (.seq none
 (.seq none
 (.reg [
 ⟨some 32, .faddr 163 (.t 3), none, []⟩,
 ⟨some 33, .load false 1 (.t 32), none, []⟩,
 ⟨some 34, .faddr 0 (.t 10), none, []⟩,
 ⟨some 35, .load true 32 (.t 34), none, []⟩,
 ⟨some 36, .faddr 33 (.t 10), none, []⟩,
 ⟨some 37, .load false 1 (.t 36), none, []⟩,
 ⟨some 38, .call 15 [(.t 33), (.t 35), (.t 37)], none, []⟩,
 ⟨some 11, .mov (.t 38), none, []⟩])
 (.seq none
 (.reg [
 ⟨some 39, .mov (.t 11), none, []⟩,
 ⟨some 40, .bin .geq (.t 39) (.c (.int .i64 0)), none, []⟩])
 (.cond (.t 40)
 (.seq none
 (.draw [
 ⟨some 42, .faddr 163 (.t 3), none, []⟩,
 ⟨some 43, .load false 1 (.t 42), none, [0]⟩,
 ⟨some 44, .mov (.t 11), none, []⟩,
 ⟨some 45, .iaddrS 65 (.t 43) (.t 44), none, [1, 2]⟩,
 ⟨some 46, .faddr 33 (.t 45), none, [3]⟩,
 ⟨some 47, .load true 32 (.t 46), none, [4]⟩,
 ⟨some 48, .load true 99 (.t 4), none, []⟩,
 ⟨some 49, .call 16 [(.t 47), (.t 48)], none, [5, 6]⟩,
 ⟨some 41, .mov (.t 49), none, [7]⟩,
 ⟨some 50, .ext (.t 41) 0, none, [8]⟩,
 ⟨some 51, .ext (.t 41) 1, none, [8]⟩,
 ⟨some 12, .mov (.t 50), none, [9, 7, 0, 1, 2, 3, 4, 5, 6, 7, 8, 9]⟩,
 ⟨some 13, .mov (.t 51), none, [10, 11, 0, 1, 2, 3, 4, 5, 6, 7, 8, 9, 10, 11]⟩])
 (.seq none
 (.seq none
 (.reg [
 ⟨some 52, .mov (.t 13), none, []⟩,
 ⟨some 53, .un .not (.t 52), none, []⟩])
 (.cond (.t 53)
 (.seq none
 (.reg [
 ⟨some 54, .mov (.t 9), none, []⟩,
 ⟨some 55, .callV (.t 54) [(.c (.int .i64 180))], none, []⟩,
 ⟨some 56, .ext (.t 55) 0, none, []⟩,
 ⟨some 57, .ext (.t 55) 1, none, []⟩,
 ⟨some 58, .ext (.t 55) 2, none, []⟩,
 ⟨none, .store 164 (.t 6) (.t 56), none, []⟩,
 ⟨some 7, .mov (.t 57), none, []⟩,
 ⟨some 8, .mov (.t 58), none, []⟩])
 .ret)
 .skip))
 (.seq none
 (.reg [
 ⟨some 59, .faddr 163 (.t 3), none, []⟩,
 ⟨some 60, .load false 1 (.t 59), none, []⟩,
 ⟨some 61, .mov (.t 11), none, []⟩,
 ⟨some 62, .mov (.t 11), none, []⟩,
 ⟨some 63, .bin .add (.t 62) (.c (.int .i64 1)), none, []⟩,
 ⟨some 64, .call 17 [(.t 60), (.t 61), (.t 63)], none, []⟩,
 ⟨some 65, .faddr 163 (.t 3), none, []⟩,
 ⟨none, .store 1 (.t 65) (.t 64), none, []⟩])
 (.seq none
 (.reg [
 ⟨some 66, .load true 164 (.t 3), none, []⟩,
 ⟨some 67, .mov (.t 12), none, []⟩,
 ⟨none, .store 164 (.t 6) (.t 66), none, []⟩,
 ⟨some 7, .mov (.t 67), none, []⟩,
 ⟨some 8, .mov (.c (.int .i64 0)), none, []⟩])
 .ret))))
 .skip)))
 (.seq none
 (.block 0 none
 (.seq none
 (.reg [
 ⟨some 69, .faddr 0 (.t 10), none, []⟩,
 ⟨some 70, .load true 32 (.t 69), none, []⟩,
 ⟨some 71, .call 18 [(.t 70)], none, []⟩,
 ⟨some 68, .mov (.t 71), none, []⟩])
 (.cond (.t 68)
 (.seq none
 (.reg [
 ⟨some 72, .mov (.t 9), none, []⟩,
 ⟨some 73, .callV (.t 72) [(.c (.int .i64 130))], none, []⟩,
 ⟨some 74, .ext (.t 73) 0, none, []⟩,
 ⟨some 75, .ext (.t 73) 1, none, []⟩,
 ⟨some 76, .ext (.t 73) 2, none, []⟩,
 ⟨none, .store 164 (.t 6) (.t 74), none, []⟩,
 ⟨some 7, .mov (.t 75), none, []⟩,
 ⟨some 8, .mov (.t 76), none, []⟩])
 .ret)
 (.seq none
 (.draw [
 ⟨some 78, .faddr 0 (.t 10), none, []⟩,
 ⟨some 79, .load true 32 (.t 78), none, [0]⟩,
 ⟨some 80, .faddr 64 (.t 3), none, []⟩,
 ⟨some 81, .load true 32 (.t 80), none, [2]⟩,
 ⟨some 82, .eqv false (.agg [true, true, true, true, true, true, true, true, true, true, true, true, true, true, true, true, true, true, true, true, true, true, true, true, true, true, true, true, true, true, true, true]) (.t 79) (.t 81), none, [1, 3]⟩,
 ⟨some 83, .mov (.t 82), none, [4]⟩,
 ⟨some 84, .faddr 128 (.t 3), some (83, true), [5]⟩,
 ⟨some 85, .load true 32 (.t 84), some (83, true), [6, 5]⟩,
 ⟨some 86, .call 19 [], some (83, true), [5, 5]⟩,
 ⟨some 87, .eqv false (.agg [true, true, true, true, true, true, true, true, true, true, true, true, true, true, true, true, true, true, true, true, true, true, true, true, true, true, true, true, true, true, true, true]) (.t 85) (.t 86), some (83, true), [7, 8, 5]⟩,
 ⟨some 88, .mov (.t 87), some (83, true), [9, 8, 5]⟩,
 ⟨some 89, .faddr 33 (.t 10), some (88, false), [10]⟩,
 ⟨some 90, .load false 1 (.t 89), some (88, false), [11, 10]⟩,
 ⟨some 91, .faddr 161 (.t 3), some (88, false), [10]⟩,
 ⟨some 92, .load false 1 (.t 91), some (88, false), [13, 10]⟩,
 ⟨some 93, .bin .lss (.t 90) (.t 92), some (88, false), [12, 14, 10]⟩,
 ⟨some 94, .pick (.t 88) (.c (.bool true)) (.t 93), some (83, true), [10, 15, 5]⟩,
 ⟨some 95, .pick (.t 83) (.t 94) (.c (.bool false)), none, [5, 16]⟩,
 ⟨some 77, .mov (.t 95), none, [17, 10]⟩])
 (.cond (.t 77)
 (.seq none
 (.reg [
 ⟨some 96, .mov (.t 9), none, []⟩,
 ⟨some 97, .callV (.t 96) [(.c (.int .i64 272))], none, []⟩,
 ⟨some 98, .ext (.t 97) 0, none, []⟩,
 ⟨some 99, .ext (.t 97) 1, none, []⟩,
 ⟨some 100, .ext (.t 97) 2, none, []⟩,
 ⟨none, .store 164 (.t 6) (.t 98), none, []⟩,
 ⟨some 7, .mov (.t 99), none, []⟩,
 ⟨some 8, .mov (.t 100), none, []⟩])
 .ret)
 (.seq none
 (.reg [
 ⟨some 102, .load true 164 (.t 3), none, []⟩,
 ⟨some 103, .load true 34 (.t 10), none, []⟩,
 ⟨some 104, .call 20 [(.t 102), (.t 103)], none, []⟩,
 ⟨some 105, .bin .gtr (.t 104) (.c (.int .i64 8)), none, []⟩,
 ⟨some 101, .mov (.t 105), none, []⟩])
 (.cond (.t 101)
 (.seq none
 (.reg [
 ⟨some 106, .mov (.t 9), none, []⟩,
 ⟨some 107, .callV (.t 106) [(.c (.int .i64 271))], none, []⟩,
 ⟨some 108, .ext (.t 107) 0, none, []⟩,
 ⟨some 109, .ext (.t 107) 1, none, []⟩,
 ⟨some 110, .ext (.t 107) 2, none, []⟩,
 ⟨none, .store 164 (.t 6) (.t 108), none, []⟩,
 ⟨some 7, .mov (.t 109), none, []⟩,
 ⟨some 8, .mov (.t 110), none, []⟩])
 .ret)
 .skip)))))))
 (.seq none
 (.seq none
 (.reg [
 ⟨some 111, .faddr 0 (.t 10), none, []⟩,
 ⟨some 112, .load true 32 (.t 111), none, []⟩,
 ⟨some 113, .faddr 64 (.t 3), none, []⟩,
 ⟨some 114, .load true 32 (.t 113), none, []⟩,
 ⟨some 115, .eqv true (.agg [true, true, true, true, true, true, true, true, true, true, true, true, true, true, true, true, true, true, true, true, true, true, true, true, true, true, true, true, true, true, true, true]) (.t 112) (.t 114), none, []⟩])
 (.cond (.t 115)
 (.seq none
 (.reg [
 ⟨some 116, .faddr 32 (.t 10), none, []⟩,
 ⟨some 117, .load false 1 (.t 116), none, []⟩,
 ⟨some 118, .call 21 [(.t 3), (.t 117)], none, []⟩])
 (.seq none
 (.draw [
 ⟨some 119, .faddr 160 (.t 3), none, []⟩,
 ⟨some 120, .load false 1 (.t 119), none, [0]⟩,
 ⟨some 121, .faddr 0 (.t 10), none, []⟩,
 ⟨some 122, .load true 32 (.t 121), none, [2]⟩,
 ⟨some 123, .faddr 162 (.t 3), none, [0, 1]⟩,
 ⟨none, .store 1 (.t 123) (.t 120), none, [4, 1, 0, 1]⟩,
 ⟨some 124, .faddr 160 (.t 3), none, [0, 1, 4, 5]⟩,
 ⟨none, .store 1 (.t 124) (.c (.int .u32 0)), none, [6, 5, 0, 1, 4, 5]⟩,
 ⟨some 125, .faddr 161 (.t 3), none, [0, 1, 4, 5, 6, 7]⟩,
 ⟨none, .store 1 (.t 125) (.c (.int .u32 0)), none, [8, 7, 0, 1, 4, 5, 6, 7]⟩,
 ⟨some 126, .faddr 64 (.t 3), none, [0, 1, 2, 3, 4, 5, 6, 7, 8, 9]⟩,
 ⟨none, .store 32 (.t 126) (.t 122), none, [10, 3, 9, 0, 1, 2, 3, 4, 5, 6, 7, 8, 9]⟩])
 (.seq none
 (.reg [
 ⟨some 128, .faddr 0 (.t 3), none, []⟩,
 ⟨some 129, .load true 32 (.t 128), none, []⟩,
 ⟨some 130, .faddr 32 (.t 3), none, []⟩,
 ⟨some 131, .load true 32 (.t 130), none, []⟩,
 ⟨some 132, .faddr 0 (.t 10), none, []⟩,
 ⟨some 133, .load true 32 (.t 132), none, []⟩,
 ⟨some 134, .call 22 [(.t 129), (.t 131), (.t 133)], none, []⟩,
 ⟨some 127, .mov (.t 134), none, []⟩,
 ⟨some 135, .ext (.t 127) 0, none, []⟩,
 ⟨some 136, .ext (.t 127) 1, none, []⟩,
 ⟨some 137, .faddr 0 (.t 3), none, []⟩,
 ⟨none, .store 32 (.t 137) (.t 135), none, []⟩,
 ⟨some 138, .faddr 128 (.t 3), none, []⟩,
 ⟨none, .store 32 (.t 138) (.t 136), none, []⟩])
 (.seq none
 (.reg [
 ⟨some 139, .load true 32 (.t 5), none, []⟩,
 ⟨some 140, .faddr 32 (.t 3), none, []⟩,
 ⟨none, .store 32 (.t 140) (.t 139), none, []⟩])
 (.reg [
 ⟨some 142, .faddr 0 (.t 3), none, []⟩,
 ⟨some 143, .load true 32 (.t 142), none, []⟩,
 ⟨some 144, .faddr 32 (.t 3), none, []⟩,
 ⟨some 145, .load true 32 (.t 144), none, []⟩,
 ⟨some 146, .faddr 0 (.t 10), none, []⟩,
 ⟨some 147, .load true 32 (.t 146), none, []⟩,
 ⟨some 148, .call 22 [(.t 143), (.t 145), (.t 147)], none, []⟩,
 ⟨some 141, .mov (.t 148), none, []⟩,
 ⟨some 149, .ext (.t 141) 0, none, []⟩,
 ⟨some 150, .ext (.t 141) 1, none, []⟩,
 ⟨some 151, .faddr 0 (.t 3), none, []⟩,
 ⟨none, .store 32 (.t 151) (.t 149), none, []⟩,
 ⟨some 152, .faddr 96 (.t 3), none, []⟩,
 ⟨none, .store 32 (.t 152) (.t 150), none, []⟩])))))
 .skip))
 (.seq none
 (.reg [
 ⟨some 153, .faddr 33 (.t 10), none, []⟩,
 ⟨some 154, .load false 1 (.t 153), none, []⟩,
 ⟨some 155, .call 21 [(.t 3), (.t 154)], none, []⟩])
 (.seq none
 (.reg [
 ⟨some 157, .faddr 128 (.t 3), none, []⟩,
 ⟨some 158, .load true 32 (.t 157), none, []⟩,
 ⟨some 159, .call 23 [(.t 158)], none, []⟩,
 ⟨some 156, .mov (.t 159), none, []⟩,
 ⟨some 160, .ext (.t 156) 0, none, []⟩,
 ⟨some 161, .ext (.t 156) 1, none, []⟩,
 ⟨some 14, .alloc [.ints .u8 32 (List.replicate 32 0)], none, []⟩,
 ⟨some 15, .alloc [.ints .u8 32 (List.replicate 32 0)], none, []⟩,
 ⟨none, .store 32 (.t 14) (.t 160), none, []⟩,
 ⟨none, .store 32 (.t 15) (.t 161), none, []⟩])
 (.seq none
 (.reg [
 ⟨some 162, .load true 32 (.t 14), none, []⟩,
 ⟨some 163, .faddr 161 (.t 3), none, []⟩,
 ⟨some 164, .load false 1 (.t 163), none, []⟩,
 ⟨some 165, .bin .add (.t 164) (.c (.int .u32 1)), none, []⟩,
 ⟨some 166, .faddr 128 (.t 3), none, []⟩,
 ⟨none, .store 32 (.t 166) (.t 162), none, []⟩,
 ⟨some 167, .faddr 161 (.t 3), none, []⟩,
 ⟨none, .store 1 (.t 167) (.t 165), none, []⟩])
 (.seq none
 (.reg [
 ⟨some 169, .load true 32 (.t 15), none, []⟩,
 ⟨some 170, .load true 99 (.t 4), none, []⟩,
 ⟨some 171, .call 16 [(.t 169), (.t 170)], none, []⟩,
 ⟨some 168, .mov (.t 171), none, []⟩,
 ⟨some 172, .ext (.t 168) 0, none, []⟩,
 ⟨some 173, .ext (.t 168) 1, none, []⟩,
 ⟨some 16, .mov (.t 172), none, []⟩,
 ⟨some 17, .mov (.t 173), none, []⟩])
 (.seq none
 (.seq none
 (.reg [
 ⟨some 174, .mov (.t 17), none, []⟩,
 ⟨some 175, .un .not (.t 174), none, []⟩,
 ⟨some 176, .mov (.t 175), none, []⟩,
 ⟨some 177, .load true 164 (.t 3), some (176, false), []⟩,
 ⟨some 178, .call 11 [(.t 177)], some (176, false), []⟩,
 ⟨some 179, .bin .neq (.t 178) (.c (.int .i64 0)), some (176, false), []⟩,
 ⟨some 180, .pick (.t 176) (.c (.bool true)) (.t 179), none, []⟩])
 (.cond (.t 180)
 (.seq none
 (.reg [
 ⟨some 181, .mov (.t 9), none, []⟩,
 ⟨some 182, .callV (.t 181) [(.c (.int .i64 180))], none, []⟩,
 ⟨some 183, .ext (.t 182) 0, none, []⟩,
 ⟨some 184, .ext (.t 182) 1, none, []⟩,
 ⟨some 185, .ext (.t 182) 2, none, []⟩,
 ⟨none, .store 164 (.t 6) (.t 183), none, []⟩,
 ⟨some 7, .mov (.t 184), none, []⟩,
 ⟨some 8, .mov (.t 185), none, []⟩])
 .ret)
 .skip))
 (.seq none
 (.reg [
 ⟨some 186, .load true 164 (.t 3), none, []⟩,
 ⟨some 187, .mov (.t 16), none, []⟩,
 ⟨none, .store 164 (.t 6) (.t 186), none, []⟩,
 ⟨some 7, .mov (.t 187), none, []⟩,
 ⟨some 8, .mov (.c (.int .i64 0)), none, []⟩])
 .ret))))))))))))))⟩
def id_ratchet_Seal : Nat := 7
def af_ratchet_Seal : AFn := ⟨78, [.cell 4 true 164, .cell 5 true 99, .t 6],
 (.seq none
 (.reg [
 ⟨some 2, .box (.t 0), none, []⟩,
 ⟨some 4, .alloc [.ints .u8 32 (List.replicate 32 0), .ints .u8 32 (List.replicate 32 0), .ints .u8 32 (List.replicate 32 0), .ints .u8 32 (List.replicate 32 0), .ints .u8 32 (List.replicate 32 0), .int .u32 0, .int .u32 0, .int .u32 0, .nils], none, []⟩,
 ⟨some 5, .alloc [.ints .u8 32 (List.replicate 32 0), .int .u32 0, .int .u32 0, .ints .u8 65 (List.replicate 65 0)], none, []⟩,
 ⟨some 6, .mov (.c (.int .i64 0)), none, []⟩])
 (.seq none
 (.block 0 none
 (.seq none
 (.reg [
 ⟨some 12, .load true 164 (.t 2), none, []⟩,
 ⟨some 13, .call 11 [(.t 12)], none, []⟩,
 ⟨some 14, .bin .neq (.t 13) (.c (.int .i64 0)), none, []⟩,
 ⟨some 11, .mov (.t 14), none, []⟩])
 (.cond (.t 11)
 (.seq none
 (.reg [
 ⟨some 15, .build [.ints .u8 32 (List.replicate 32 0), .ints .u8 32 (List.replicate 32 0), .ints .u8 32 (List.replicate 32 0), .ints .u8 32 (List.replicate 32 0), .ints .u8 32 (List.replicate 32 0), .int .u32 0, .int .u32 0, .int .u32 0, .nils] [], none, []⟩,
 ⟨some 16, .build [.ints .u8 32 (List.replicate 32 0), .int .u32 0, .int .u32 0, .ints .u8 65 (List.replicate 65 0)] [], none, []⟩,
 ⟨none, .store 164 (.t 4) (.t 15), none, []⟩,
 ⟨none, .store 99 (.t 5) (.t 16), none, []⟩,
 ⟨some 6, .mov (.c (.int .i64 270)), none, []⟩])
 .ret)
 (.seq none
 (.reg [
 ⟨some 18, .mov (.t 1), none, []⟩,
 ⟨some 19, .len true (.t 18), none, []⟩,
 ⟨some 20, .bin .lss (.t 19) (.c (.int .i64 1)), none, []⟩,
 ⟨some 21, .mov (.t 20), none, []⟩,
 ⟨some 22, .mov (.t 1), some (21, false), []⟩,
 ⟨some 23, .len true (.t 22), some (21, false), []⟩,
 ⟨some 24, .bin .gtr (.t 23) (.c (.int .i64 48)), some (21, false), []⟩,
 ⟨some 25, .pick (.t 21) (.c (.bool true)) (.t 24), none, []⟩,
 ⟨some 17, .mov (.t 25), none, []⟩])
 (.cond (.t 17)
 (.seq none
 (.reg [
 ⟨some 26, .build [.ints .u8 32 (List.replicate 32 0), .ints .u8 32 (List.replicate 32 0), .ints .u8 32 (List.replicate 32 0), .ints .u8 32 (List.replicate 32 0), .ints .u8 32 (List.replicate 32 0), .int .u32 0, .int .u32 0, .int .u32 0, .nils] [], none, []⟩,
 ⟨some 27, .build [.ints .u8 32 (List.replicate 32 0), .int .u32 0, .int .u32 0, .ints .u8 65 (List.replicate 65 0)] [], none, []⟩,
 ⟨none, .store 164 (.t 4) (.t 26), none, []⟩,
 ⟨none, .store 99 (.t 5) (.t 27), none, []⟩,
 ⟨some 6, .mov (.c (.int .i64 2)), none, []⟩])
 .ret)
 (.seq none
 (.draw [
 ⟨some 29, .faddr 160 (.t 2), none, []⟩,
 ⟨some 30, .load false 1 (.t 29), none, [0]⟩,
 ⟨some 31, .bin .eql (.t 30) (.c (.int .u32 2147483648)), none, [1]⟩,
 ⟨some 32, .mov (.t 31), none, [2]⟩,
 ⟨some 33, .faddr 96 (.t 2), some (32, false), [3]⟩,
 ⟨some 34, .load true 32 (.t 33), some (32, false), [4, 3]⟩,
 ⟨some 35, .call 19 [], some (32, false), [3, 3]⟩,
 ⟨some 36, .eqv false (.agg [true, true, true, true, true, true, true, true, true, true, true, true, true, true, true, true, true, true, true, true, true, true, true, true, true, true, true, true, true, true, true, true]) (.t 34) (.t 35), some (32, false), [5, 6, 3]⟩,
 ⟨some 37, .pick (.t 32) (.c (.bool true)) (.t 36), none, [3, 7]⟩,
 ⟨some 28, .mov (.t 37), none, [8, 6]⟩])
 (.cond (.t 28)
 (.seq none
 (.reg [
 ⟨some 38, .build [.ints .u8 32 (List.replicate 32 0), .ints .u8 32 (List.replicate 32 0), .ints .u8 32 (List.replicate 32 0), .ints .u8 32 (List.replicate 32 0), .ints .u8 32 (List.replicate 32 0), .int .u32 0, .int .u32 0, .int .u32 0, .nils] [], none, []⟩,
 ⟨some 39, .build [.ints .u8 32 (List.replicate 32 0), .int .u32 0, .int .u32 0, .ints .u8 65 (List.replicate 65 0)] [], none, []⟩,
 ⟨none, .store 164 (.t 4) (.t 38), none, []⟩,
 ⟨none, .store 99 (.t 5) (.t 39), none, []⟩,
 ⟨some 6, .mov (.c (.int .i64 3)), none, []⟩])
 .ret)
 .skip)))))))
 (.seq none
 (.draw [
 ⟨some 40, .faddr 32 (.t 2), none, []⟩,
 ⟨some 41, .load true 32 (.t 40), none, [0]⟩,
 ⟨some 42, .call 24 [(.t 41)], none, [1]⟩,
 ⟨some 43, .faddr 162 (.t 2), none, []⟩,
 ⟨some 44, .load false 1 (.t 43), none, [3]⟩,
 ⟨some 45, .faddr 160 (.t 2), none, []⟩,
 ⟨some 46, .load false 1 (.t 45), none, [5]⟩,
 ⟨some 47, .build [.ints .u8 32 (List.replicate 32 0), .int .u32 0, .int .u32 0] [(0, 32, (.t 42)), (32, 1, (.t 44)), (33, 1, (.t 46))], none, [2, 4, 6]⟩,
 ⟨some 7, .alloc [.ints .u8 32 (List.replicate 32 0), .int .u32 0, .int .u32 0], none, []⟩,
 ⟨none, .store 34 (.t 7) (.t 47), none, [8, 7, 2, 0, 1, 2, 3, 4, 5, 6, 7, 8]⟩])
 (.seq none
 (.reg [
 ⟨some 49, .faddr 96 (.t 2), none, []⟩,
 ⟨some 50, .load true 32 (.t 49), none, []⟩,
 ⟨some 51, .call 23 [(.t 50)], none, []⟩,
 ⟨some 48, .mov (.t 51), none, []⟩,
 ⟨some 52, .ext (.t 48) 0, none, []⟩,
 ⟨some 53, .ext (.t 48) 1, none, []⟩,
 ⟨some 8, .alloc [.ints .u8 32 (List.replicate 32 0)], none, []⟩,
 ⟨some 9, .alloc [.ints .u8 32 (List.replicate 32 0)], none, []⟩,
 ⟨none, .store 32 (.t 8) (.t 52), none, []⟩,
 ⟨none, .store 32 (.t 9) (.t 53), none, []⟩])
 (.seq none
 (.reg [
 ⟨some 54, .load true 34 (.t 7), none, []⟩,
 ⟨some 55, .build [.ints .u8 32 (List.replicate 32 0), .int .u32 0, .int .u32 0, .ints .u8 65 (List.replicate 65 0)] [(0, 34, (.t 54))], none, []⟩,
 ⟨some 10, .alloc [.ints .u8 32 (List.replicate 32 0), .int .u32 0, .int .u32 0, .ints .u8 65 (List.replicate 65 0)], none, []⟩,
 ⟨none, .store 99 (.t 10) (.t 55), none, []⟩])
 (.seq none
 (.draw [
 ⟨some 56, .faddr 34 (.t 10), none, []⟩,
 ⟨some 57, .slArr 65 0 (.t 56) none none none, none, [0]⟩,
 ⟨some 58, .load true 32 (.t 9), none, []⟩,
 ⟨some 59, .call 26 [(.c (.int .u64 0))], none, []⟩,
 ⟨some 60, .load true 34 (.t 7), none, []⟩,
 ⟨some 61, .call 27 [(.t 60)], none, [4, 3]⟩,
 ⟨some 62, .mov (.t 1), none, []⟩,
 ⟨some 63, .call 28 [(.t 62)], none, [6, 5]⟩,
 ⟨some 64, .call 25 [(.t 58), (.t 59), (.t 61), (.t 63)], none, [2, 3, 5, 7, 7]⟩,
 ⟨some 65, .copyI (.t 57) (.t 64), none, [1, 8, 8]⟩])
 (.seq none
 (.reg [
 ⟨some 66, .load true 32 (.t 8), none, []⟩,
 ⟨some 67, .faddr 160 (.t 2), none, []⟩,
 ⟨some 68, .load false 1 (.t 67), none, []⟩,
 ⟨some 69, .bin .add (.t 68) (.c (.int .u32 1)), none, []⟩,
 ⟨some 70, .faddr 96 (.t 2), none, []⟩,
 ⟨none, .store 32 (.t 70) (.t 66), none, []⟩,
 ⟨some 71, .faddr 160 (.t 2), none, []⟩,
 ⟨none, .store 1 (.t 71) (.t 69), none, []⟩])
 (.seq none
 (.reg [
 ⟨some 72, .faddr 163 (.t 2), none, []⟩,
 ⟨some 73, .load false 1 (.t 72), none, []⟩,
 ⟨some 74, .call 14 [(.t 73)], none, []⟩,
 ⟨some 75, .faddr 163 (.t 2), none, []⟩,
 ⟨none, .store 1 (.t 75) (.t 74), none, []⟩])
 (.seq none
 (.draw [
 ⟨some 76, .load true 164 (.t 2), none, []⟩,
 ⟨some 77, .load true 99 (.t 10), none, []⟩,
 ⟨none, .store 164 (.t 4) (.t 76), none, [0, 0]⟩,
 ⟨none, .store 99 (.t 5) (.t 77), none, [1, 2, 0, 1, 2]⟩,
 ⟨some 6, .mov (.c (.int .i64 0)), none, [3, 0, 1, 2, 3]⟩])
 .ret)))))))))⟩
def id_octet_Equal : Nat := 8
def af_octet_Equal : AFn := ⟨31, [.t 4],
 (.seq none
 (.reg [
 ⟨some 4, .mov (.c (.bool false)), none, []⟩])
 (.seq none
 (.seq none
 (.reg [
 ⟨some 7, .mov (.t 0), none, []⟩,
 ⟨some 8, .len false (.t 7), none, []⟩,
 ⟨some 9, .mov (.t 1), none, []⟩,
 ⟨some 10, .len false (.t 9), none, []⟩,
 ⟨some 11, .bin .neq (.t 8) (.t 10), none, []⟩])
 (.cond (.t 11)
 (.seq none
 (.reg [
 ⟨some 4, .mov (.c (.bool false)), none, []⟩])
 .ret)
 .skip))
 (.seq none
 (.reg [
 ⟨some 5, .mov (.c (.int .u8 0)), none, []⟩])
 (.seq none
 (.seq none
 (.reg [
 ⟨some 12, .mov (.t 0), none, []⟩,
 ⟨some 13, .len false (.t 12), none, []⟩,
 ⟨some 14, .mov (.c (.int .i64 0)), none, []⟩])
 (.block 0 none
 (.loop 1000000 none
 (.seq none
 (.reg [
 ⟨some 15, .bin .lss (.t 14) (.t 13), none, []⟩])
 (.seq none
 (.cond (.t 15)
 .skip
 (.exit 0))
 (.seq none
 (.block 1 none
 (.seq none
 (.reg [
 ⟨some 16, .mov (.t 14), none, []⟩,
 ⟨some 6, .mov (.t 16), none, []⟩])
 (.draw [
 ⟨some 17, .mov (.t 5), none, []⟩,
 ⟨some 18, .mov (.t 0), none, []⟩,
 ⟨some 19, .mov (.t 6), none, []⟩,
 ⟨some 20, .iaddrS 1 (.t 18) (.t 19), none, [1, 2]⟩,
 ⟨some 21, .load false 1 (.t 20), none, [3]⟩,
 ⟨some 22, .mov (.t 1), none, []⟩,
 ⟨some 23, .mov (.t 6), none, []⟩,
 ⟨some 24, .iaddrS 1 (.t 22) (.t 23), none, [5, 6]⟩,
 ⟨some 25, .load false 1 (.t 24), none, [7]⟩,
 ⟨some 26, .bin .xor (.t 21) (.t 25), none, [4, 8]⟩,
 ⟨some 27, .bin .or (.t 17) (.t 26), none, [0, 9]⟩,
 ⟨some 5, .mov (.t 27), none, [10, 0, 1, 2, 3, 4, 5, 6, 7, 8, 9, 10]⟩])))
 (.reg [
 ⟨some 28, .bin .add (.t 14) (.c (.int .i64 1)), none, []⟩,
 ⟨some 14, .mov (.t 28), none, []⟩])))))))
 (.seq none
 (.reg [
 ⟨some 29, .mov (.t 5), none, []⟩,
 ⟨some 30, .bin .eql (.t 29) (.c (.int .u8 0)), none, []⟩,
 ⟨some 4, .mov (.t 30), none, []⟩])
 .ret)))))⟩
def id_ratchet_Same : Nat := 9
def af_ratchet_Same : AFn := ⟨66, [.t 4],
 (.seq none
 (.reg [
 ⟨some 2, .box (.t 0), none, []⟩,
 ⟨some 3, .box (.t 1), none, []⟩,
 ⟨some 4, .mov (.c (.bool false)), none, []⟩])
 (.seq none
 (.reg [
 ⟨some 5, .faddr 0 (.t 2), none, []⟩,
 ⟨some 6, .load true 32 (.t 5), none, []⟩,
 ⟨some 7, .faddr 0 (.t 3), none, []⟩,
 ⟨some 8, .load true 32 (.t 7), none, []⟩,
 ⟨some 9, .eqv false (.agg [true, true, true, true, true, true, true, true, true, true, true, true, true, true, true, true, true, true, true, true, true, true, true, true, true, true, true, true, true, true, true, true]) (.t 6) (.t 8), none, []⟩,
 ⟨some 10, .mov (.t 9), none, []⟩,
 ⟨some 11, .faddr 32 (.t 2), some (10, true), []⟩,
 ⟨some 12, .load true 32 (.t 11), some (10, true), []⟩,
 ⟨some 13, .faddr 32 (.t 3), some (10, true), []⟩,
 ⟨some 14, .load true 32 (.t 13), some (10, true), []⟩,
 ⟨some 15, .eqv false (.agg [true, true, true, true, true, true, true, true, true, true, true, true, true, true, true, true, true, true, true, true, true, true, true, true, true, true, true, true, true, true, true, true]) (.t 12) (.t 14), some (10, true), []⟩,
 ⟨some 16, .pick (.t 10) (.t 15) (.c (.bool false)), none, []⟩,
 ⟨some 17, .mov (.t 16), none, []⟩,
 ⟨some 18, .faddr 64 (.t 2), some (17, true), []⟩,
 ⟨some 19, .load true 32 (.t 18), some (17, true), []⟩,
 ⟨some 20, .faddr 64 (.t 3), some (17, true), []⟩,
 ⟨some 21, .load true 32 (.t 20), some (17, true), []⟩,
 ⟨some 22, .eqv false (.agg [true, true, true, true, true, true, true, true, true, true, true, true, true, true, true, true, true, true, true, true, true, true, true, true, true, true, true, true, true, true, true, true]) (.t 19) (.t 21), some (17, true), []⟩,
 ⟨some 23, .pick (.t 17) (.t 22) (.c (.bool false)), none, []⟩,
 ⟨some 24, .mov (.t 23), none, []⟩,
 ⟨some 25, .faddr 96 (.t 2), some (24, true), []⟩,
 ⟨some 26, .load true 32 (.t 25), some (24, true), []⟩,
 ⟨some 27, .faddr 96 (.t 3), some (24, true), []⟩,
 ⟨some 28, .load true 32 (.t 27), some (24, true), []⟩,
 ⟨some 29, .eqv false (.agg [true, true, true, true, true, true, true, true, true, true, true, true, true, true, true, true, true, true, true, true, true, true, true, true, true, true, true, true, true, true, true, true]) (.t 26) (.t 28), some (24, true), []⟩,
 ⟨some 30, .pick (.t 24) (.t 29) (.c (.bool false)), none, []⟩,
 ⟨some 31, .mov (.t 30), none, []⟩,
 ⟨some 32, .faddr 128 (.t 2), some (31, true), []⟩,
 ⟨some 33, .load true 32 (.t 32), some (31, true), []⟩,
 ⟨some 34, .faddr 128 (.t 3), some (31, true), []⟩,
 ⟨some 35, .load true 32 (.t 34), some (31, true), []⟩,
 ⟨some 36, .eqv false (.agg [true, true, true, true, true, true, true, true, true, true, true, true, true, true, true, true, true, true, true, true, true, true, true, true, true, true, true, true, true, true, true, true]) (.t 33) (.t 35), some (31, true), []⟩,
 ⟨some 37, .pick (.t 31) (.t 36) (.c (.bool false)), none, []⟩,
 ⟨some 38, .mov (.t 37), none, []⟩,
 ⟨some 39, .faddr 160 (.t 2), some (38, true), []⟩,
 ⟨some 40, .load false 1 (.t 39), some (38, true), []⟩,
 ⟨some 41, .faddr 160 (.t 3), some (38, true), []⟩,
 ⟨some 42, .load false 1 (.t 41), some (38, true), []⟩,
 ⟨some 43, .bin .eql (.t 40) (.t 42), some (38, true), []⟩,
 ⟨some 44, .pick (.t 38) (.t 43) (.c (.bool false)), none, []⟩,
 ⟨some 45, .mov (.t 44), none, []⟩,
 ⟨some 46, .faddr 161 (.t 2), some (45, true), []⟩,
 ⟨some 47, .load false 1 (.t 46), some (45, true), []⟩,
 ⟨some 48, .faddr 161 (.t 3), some (45, true), []⟩,
 ⟨some 49, .load false 1 (.t 48), some (45, true), []⟩,
 ⟨some 50, .bin .eql (.t 47) (.t 49), some (45, true), []⟩,
 ⟨some 51, .pick (.t 45) (.t 50) (.c (.bool false)), none, []⟩,
 ⟨some 52, .mov (.t 51), none, []⟩,
 ⟨some 53, .faddr 162 (.t 2), some (52, true), []⟩,
 ⟨some 54, .load false 1 (.t 53), some (52, true), []⟩,
 ⟨some 55, .faddr 162 (.t 3), some (52, true), []⟩,
 ⟨some 56, .load false 1 (.t 55), some (52, true), []⟩,
 ⟨some 57, .bin .eql (.t 54) (.t 56), some (52, true), []⟩,
 ⟨some 58, .pick (.t 52) (.t 57) (.c (.bool false)), none, []⟩,
 ⟨some 59, .mov (.t 58), none, []⟩,
 ⟨some 60, .faddr 163 (.t 2), some (59, true), []⟩,
 ⟨some 61, .load false 1 (.t 60), some (59, true), []⟩,
 ⟨some 62, .faddr 163 (.t 3), some (59, true), []⟩,
 ⟨some 63, .load false 1 (.t 62), some (59, true), []⟩,
 ⟨some 64, .call 29 [(.t 61), (.t 63)], some (59, true), []⟩,
 ⟨some 65, .pick (.t 59) (.t 64) (.c (.bool false)), none, []⟩,
 ⟨some 4, .mov (.t 65), none, []⟩])
 .ret))⟩
def id_hollowtreelaw17_begun : Nat := 10
def af_hollowtreelaw17_begun : AFn := ⟨71, [.cell 8 true 164, .cell 9 true 164, .t 10],
 (.seq none
 (.reg [
 ⟨some 4, .box (.t 0), none, []⟩,
 ⟨some 5, .box (.t 1), none, []⟩,
 ⟨some 6, .box (.t 2), none, []⟩,
 ⟨some 7, .box (.t 3), none, []⟩,
 ⟨some 8, .alloc [.ints .u8 32 (List.replicate 32 0), .ints .u8 32 (List.replicate 32 0), .ints .u8 32 (List.replicate 32 0), .ints .u8 32 (List.replicate 32 0), .ints .u8 32 (List.replicate 32 0), .int .u32 0, .int .u32 0, .int .u32 0, .nils], none, []⟩,
 ⟨some 9, .alloc [.ints .u8 32 (List.replicate 32 0), .ints .u8 32 (List.replicate 32 0), .ints .u8 32 (List.replicate 32 0), .ints .u8 32 (List.replicate 32 0), .ints .u8 32 (List.replicate 32 0), .int .u32 0, .int .u32 0, .int .u32 0, .nils], none, []⟩,
 ⟨some 10, .mov (.c (.bool false)), none, []⟩])
 (.seq none
 (.draw [
 ⟨some 18, .load true 32 (.t 4), none, []⟩,
 ⟨some 19, .load true 32 (.t 5), none, []⟩,
 ⟨some 20, .call 24 [(.t 19)], none, [1]⟩,
 ⟨some 21, .call 30 [(.t 18), (.t 20)], none, [0, 2, 2]⟩,
 ⟨some 17, .mov (.t 21), none, [3]⟩,
 ⟨some 22, .ext (.t 17) 0, none, [4]⟩,
 ⟨some 23, .ext (.t 17) 1, none, [4]⟩,
 ⟨some 11, .alloc [.ints .u8 32 (List.replicate 32 0), .bool false], none, []⟩,
 ⟨none, .store 33 (.t 11) (.t 22), none, [7, 5, 3, 0, 1, 2, 3, 4, 5, 7]⟩,
 ⟨some 12, .mov (.t 23), none, [6, 8, 0, 1, 2, 3, 4, 5, 6, 7, 8]⟩])
 (.seq none
 (.draw [
 ⟨some 25, .load true 32 (.t 5), none, []⟩,
 ⟨some 26, .load true 32 (.t 4), none, []⟩,
 ⟨some 27, .call 24 [(.t 26)], none, [1]⟩,
 ⟨some 28, .call 30 [(.t 25), (.t 27)], none, [0, 2, 2]⟩,
 ⟨some 24, .mov (.t 28), none, [3]⟩,
 ⟨some 29, .ext (.t 24) 0, none, [4]⟩,
 ⟨some 30, .ext (.t 24) 1, none, [4]⟩,
 ⟨some 13, .alloc [.ints .u8 32 (List.replicate 32 0), .bool false], none, []⟩,
 ⟨none, .store 33 (.t 13) (.t 29), none, [7, 5, 3, 0, 1, 2, 3, 4, 5, 7]⟩,
 ⟨some 14, .mov (.t 30), none, [6, 8, 0, 1, 2, 3, 4, 5, 6, 7, 8]⟩])
 (.seq none
 (.seq none
 (.reg [
 ⟨some 31, .mov (.t 12), none, []⟩,
 ⟨some 32, .bin .neq (.t 31) (.c (.int .i64 0)), none, []⟩,
 ⟨some 33, .mov (.t 32), none, []⟩,
 ⟨some 34, .mov (.t 14), some (33, false), []⟩,
 ⟨some 35, .bin .neq (.t 34) (.c (.int .i64 0)), some (33, false), []⟩,
 ⟨some 36, .pick (.t 33) (.c (.bool true)) (.t 35), none, []⟩])
 (.cond (.t 36)
 (.seq none
 (.reg [
 ⟨some 37, .build [.ints .u8 32 (List.replicate 32 0), .ints .u8 32 (List.replicate 32 0), .ints .u8 32 (List.replicate 32 0), .ints .u8 32 (List.replicate 32 0), .ints .u8 32 (List.replicate 32 0), .int .u32 0, .int .u32 0, .int .u32 0, .nils] [], none, []⟩,
 ⟨some 38, .build [.ints .u8 32 (List.replicate 32 0), .ints .u8 32 (List.replicate 32 0), .ints .u8 32 (List.replicate 32 0), .ints .u8 32 (List.replicate 32 0), .ints .u8 32 (List.replicate 32 0), .int .u32 0, .int .u32 0, .int .u32 0, .nils] [], none, []⟩,
 ⟨none, .store 164 (.t 8) (.t 37), none, []⟩,
 ⟨none, .store 164 (.t 9) (.t 38), none, []⟩,
 ⟨some 10, .mov (.c (.bool false)), none, []⟩])
 .ret)
 .skip))
 (.seq none
 (.draw [
 ⟨some 40, .load true 33 (.t 11), none, []⟩,
 ⟨some 41, .load true 32 (.t 4), none, []⟩,
 ⟨some 42, .load true 32 (.t 5), none, []⟩,
 ⟨some 43, .call 24 [(.t 42)], none, [2]⟩,
 ⟨some 44, .load true 32 (.t 6), none, []⟩,
 ⟨some 45, .call 31 [(.t 40), (.t 41), (.t 43), (.t 44)], none, [0, 1, 3, 4, 3]⟩,
 ⟨some 39, .mov (.t 45), none, [5]⟩,
 ⟨some 46, .ext (.t 39) 0, none, [6]⟩,
 ⟨some 47, .ext (.t 39) 1, none, [6]⟩,
 ⟨some 15, .alloc [.ints .u8 32 (List.replicate 32 0), .ints .u8 32 (List.replicate 32 0), .ints .u8 32 (List.replicate 32 0), .ints .u8 32 (List.replicate 32 0), .ints .u8 32 (List.replicate 32 0), .int .u32 0, .int .u32 0, .int .u32 0, .nils], none, []⟩,
 ⟨none, .store 164 (.t 15) (.t 46), none, [9, 7, 5, 0, 1, 2, 3, 4, 5, 6, 7, 9]⟩,
 ⟨some 12, .mov (.t 47), none, [8, 10, 0, 1, 2, 3, 4, 5, 6, 7, 8, 9, 10]⟩])
 (.seq none
 (.draw [
 ⟨some 49, .load true 33 (.t 13), none, []⟩,
 ⟨some 50, .load true 32 (.t 5), none, []⟩,
 ⟨some 51, .load true 32 (.t 4), none, []⟩,
 ⟨some 52, .call 24 [(.t 51)], none, [2]⟩,
 ⟨some 53, .load true 32 (.t 7), none, []⟩,
 ⟨some 54, .call 31 [(.t 49), (.t 50), (.t 52), (.t 53)], none, [0, 1, 3, 4, 3]⟩,
 ⟨some 48, .mov (.t 54), none, [5]⟩,
 ⟨some 55, .ext (.t 48) 0, none, [6]⟩,
 ⟨some 56, .ext (.t 48) 1, none, [6]⟩,
 ⟨some 16, .alloc [.ints .u8 32 (List.replicate 32 0), .ints .u8 32 (List.replicate 32 0), .ints .u8 32 (List.replicate 32 0), .ints .u8 32 (List.replicate 32 0), .ints .u8 32 (List.replicate 32 0), .int .u32 0, .int .u32 0, .int .u32 0, .nils], none, []⟩,
 ⟨none, .store 164 (.t 16) (.t 55), none, [9, 7, 5, 0, 1, 2, 3, 4, 5, 6, 7, 9]⟩,
 ⟨some 14, .mov (.t 56), none, [8, 10, 0, 1, 2, 3, 4, 5, 6, 7, 8, 9, 10]⟩])
 (.seq none
 (.seq none
 (.reg [
 ⟨some 57, .mov (.t 12), none, []⟩,
 ⟨some 58, .bin .neq (.t 57) (.c (.int .i64 0)), none, []⟩,
 ⟨some 59, .mov (.t 58), none, []⟩,
 ⟨some 60, .mov (.t 14), some (59, false), []⟩,
 ⟨some 61, .bin .neq (.t 60) (.c (.int .i64 0)), some (59, false), []⟩,
 ⟨some 62, .pick (.t 59) (.c (.bool true)) (.t 61), none, []⟩])
 (.cond (.t 62)
 (.seq none
 (.reg [
 ⟨some 63, .build [.ints .u8 32 (List.replicate 32 0), .ints .u8 32 (List.replicate 32 0), .ints .u8 32 (List.replicate 32 0), .ints .u8 32 (List.replicate 32 0), .ints .u8 32 (List.replicate 32 0), .int .u32 0, .int .u32 0, .int .u32 0, .nils] [], none, []⟩,
 ⟨some 64, .build [.ints .u8 32 (List.replicate 32 0), .ints .u8 32 (List.replicate 32 0), .ints .u8 32 (List.replicate 32 0), .ints .u8 32 (List.replicate 32 0), .ints .u8 32 (List.replicate 32 0), .int .u32 0, .int .u32 0, .int .u32 0, .nils] [], none, []⟩,
 ⟨none, .store 164 (.t 8) (.t 63), none, []⟩,
 ⟨none, .store 164 (.t 9) (.t 64), none, []⟩,
 ⟨some 10, .mov (.c (.bool false)), none, []⟩])
 .ret)
 .skip))
 (.seq none
 (.seq none
 (.reg [
 ⟨some 65, .faddr 32 (.t 13), none, []⟩,
 ⟨some 66, .load false 1 (.t 65), none, []⟩])
 (.cond (.t 66)
 (.reg [
 ⟨some 67, .load true 164 (.t 16), none, []⟩,
 ⟨some 68, .load true 164 (.t 15), none, []⟩,
 ⟨none, .store 164 (.t 15) (.t 67), none, []⟩,
 ⟨none, .store 164 (.t 16) (.t 68), none, []⟩])
 .skip))
 (.seq none
 (.draw [
 ⟨some 69, .load true 164 (.t 15), none, []⟩,
 ⟨some 70, .load true 164 (.t 16), none, []⟩,
 ⟨none, .store 164 (.t 8) (.t 69), none, [0, 0]⟩,
 ⟨none, .store 164 (.t 9) (.t 70), none, [1, 2, 0, 1, 2]⟩,
 ⟨some 10, .mov (.c (.bool true)), none, [3, 0, 1, 2, 3]⟩])
 .ret)))))))))⟩
def id_ratchet_Check : Nat := 11
def af_ratchet_Check : AFn := ⟨43, [.t 2],
 (.seq none
 (.reg [
 ⟨some 1, .box (.t 0), none, []⟩,
 ⟨some 2, .mov (.c (.int .i64 0)), none, []⟩])
 (.seq none
 (.seq none
 (.reg [
 ⟨some 5, .faddr 163 (.t 1), none, []⟩,
 ⟨some 6, .load false 1 (.t 5), none, []⟩,
 ⟨some 7, .len false (.t 6), none, []⟩,
 ⟨some 8, .bin .gtr (.t 7) (.c (.int .i64 8)), none, []⟩,
 ⟨some 9, .mov (.t 8), none, []⟩,
 ⟨some 10, .faddr 160 (.t 1), some (9, false), []⟩,
 ⟨some 11, .load false 1 (.t 10), some (9, false), []⟩,
 ⟨some 12, .bin .gtr (.t 11) (.c (.int .u32 2147483648)), some (9, false), []⟩,
 ⟨some 13, .pick (.t 9) (.c (.bool true)) (.t 12), none, []⟩,
 ⟨some 14, .mov (.t 13), none, []⟩,
 ⟨some 15, .faddr 161 (.t 1), some (14, false), []⟩,
 ⟨some 16, .load false 1 (.t 15), some (14, false), []⟩,
 ⟨some 17, .bin .gtr (.t 16) (.c (.int .u32 2147483648)), some (14, false), []⟩,
 ⟨some 18, .pick (.t 14) (.c (.bool true)) (.t 17), none, []⟩,
 ⟨some 19, .mov (.t 18), none, []⟩,
 ⟨some 20, .faddr 162 (.t 1), some (19, false), []⟩,
 ⟨some 21, .load false 1 (.t 20), some (19, false), []⟩,
 ⟨some 22, .bin .gtr (.t 21) (.c (.int .u32 2147483648)), some (19, false), []⟩,
 ⟨some 23, .pick (.t 19) (.c (.bool true)) (.t 22), none, []⟩])
 (.cond (.t 23)
 (.seq none
 (.reg [
 ⟨some 2, .mov (.c (.int .i64 270)), none, []⟩])
 .ret)
 .skip))
 (.seq none
 (.seq none
 (.reg [
 ⟨some 24, .faddr 163 (.t 1), none, []⟩,
 ⟨some 25, .load false 1 (.t 24), none, []⟩,
 ⟨some 26, .len false (.t 25), none, []⟩,
 ⟨some 27, .mov (.c (.int .i64 0)), none, []⟩])
 (.block 0 none
 (.loop 1000000 none
 (.seq none
 (.reg [
 ⟨some 28, .bin .lss (.t 27) (.t 26), none, []⟩])
 (.seq none
 (.cond (.t 28)
 .skip
 (.exit 0))
 (.seq none
 (.block 1 none
 (.seq none
 (.reg [
 ⟨some 29, .mov (.t 27), none, []⟩,
 ⟨some 30, .iaddrS 65 (.t 25) (.t 27), none, []⟩,
 ⟨some 31, .load true 65 (.t 30), none, []⟩,
 ⟨some 4, .alloc [.ints .u8 32 (List.replicate 32 0), .int .u32 0, .ints .u8 32 (List.replicate 32 0)], none, []⟩,
 ⟨some 3, .mov (.t 29), none, []⟩,
 ⟨none, .store 65 (.t 4) (.t 31), none, []⟩])
 (.seq none
 (.draw [
 ⟨some 32, .faddr 163 (.t 1), none, []⟩,
 ⟨some 33, .load false 1 (.t 32), none, [0]⟩,
 ⟨some 34, .mov (.t 3), none, []⟩,
 ⟨some 35, .slSlice 65 (.t 33) none (some (.t 34)) none, none, [1, 2]⟩,
 ⟨some 36, .faddr 0 (.t 4), none, []⟩,
 ⟨some 37, .load true 32 (.t 36), none, [4]⟩,
 ⟨some 38, .faddr 32 (.t 4), none, []⟩,
 ⟨some 39, .load false 1 (.t 38), none, [6]⟩,
 ⟨some 40, .call 15 [(.t 35), (.t 37), (.t 39)], none, [3, 5, 7]⟩,
 ⟨some 41, .bin .geq (.t 40) (.c (.int .i64 0)), none, [8]⟩])
 (.cond (.t 41)
 (.seq none
 (.reg [
 ⟨some 2, .mov (.c (.int .i64 270)), none, []⟩])
 .ret)
 .skip))))
 (.reg [
 ⟨some 42, .bin .add (.t 27) (.c (.int .i64 1)), none, []⟩,
 ⟨some 27, .mov (.t 42), none, []⟩])))))))
 (.seq none
 (.reg [
 ⟨some 2, .mov (.c (.int .i64 0)), none, []⟩])
 .ret))))⟩
def id_octet_Put32 : Nat := 12
def af_octet_Put32 : AFn := ⟨9, [.t 4],
 (.seq none
 (.reg [
 ⟨some 4, .mov (.c (.nils)), none, []⟩])
 (.seq none
 (.reg [
 ⟨some 5, .mov (.t 0), none, []⟩,
 ⟨some 6, .mov (.t 1), none, []⟩,
 ⟨some 7, .toInt .u64 (.t 6), none, []⟩,
 ⟨some 8, .call 32 [(.t 5), (.t 7), (.c (.int .i64 4))], none, []⟩,
 ⟨some 4, .mov (.t 8), none, []⟩])
 .ret))⟩
def id_ratchet_Open_1 : Nat := 13
def af_ratchet_Open_1 : AFn := ⟨7, [.cell 2 true 164, .t 3, .t 4],
 (.seq none
 (.reg [
 ⟨some 2, .alloc [.ints .u8 32 (List.replicate 32 0), .ints .u8 32 (List.replicate 32 0), .ints .u8 32 (List.replicate 32 0), .ints .u8 32 (List.replicate 32 0), .ints .u8 32 (List.replicate 32 0), .int .u32 0, .int .u32 0, .int .u32 0, .nils], none, []⟩,
 ⟨some 3, .mov (.c (.str ⟨#[]⟩)), none, []⟩,
 ⟨some 4, .mov (.c (.int .i64 0)), none, []⟩])
 (.seq none
 (.reg [
 ⟨some 5, .build [.ints .u8 32 (List.replicate 32 0), .ints .u8 32 (List.replicate 32 0), .ints .u8 32 (List.replicate 32 0), .ints .u8 32 (List.replicate 32 0), .ints .u8 32 (List.replicate 32 0), .int .u32 0, .int .u32 0, .int .u32 0, .nils] [], none, []⟩,
 ⟨some 6, .mov (.t 0), none, []⟩,
 ⟨none, .store 164 (.t 2) (.t 5), none, []⟩,
 ⟨some 3, .mov (.c (.str ⟨#[]⟩)), none, []⟩,
 ⟨some 4, .mov (.t 6), none, []⟩])
 .ret))⟩
def id_slices_Clone_api_Skip : Nat := 14
def af_slices_Clone_api_Skip : AFn := ⟨8, [.t 2],
 (.seq none
 (.reg [
 ⟨some 2, .mov (.c (.nils)), none, []⟩])
 (.seq none
 (.seq none
 (.reg [
 ⟨some 3, .mov (.t 0), none, []⟩,
 ⟨some 4, .eqv false .slice (.t 3) (.c (.nils)), none, []⟩])
 (.cond (.t 4)
 (.seq none
 (.reg [
 ⟨some 2, .mov (.c (.nils)), none, []⟩])
 .ret)
 .skip))
 (.seq none
 (.reg [
 ⟨some 5, .bslice [] 0 65 [], none, []⟩,
 ⟨some 6, .mov (.t 0), none, []⟩,
 ⟨some 7, .appendR 65 68 (.t 5) (.t 6), none, []⟩,
 ⟨some 2, .mov (.t 7), none, []⟩])
 .ret)))⟩
def id_ratchet_find : Nat := 15
def af_ratchet_find : AFn := ⟨10, [.t 6],
 (.seq none
 (.reg [
 ⟨some 4, .box (.t 1), none, []⟩,
 ⟨some 5, .box (.t 2), none, []⟩,
 ⟨some 6, .mov (.c (.int .i64 0)), none, []⟩])
 (.seq none
 (.reg [
 ⟨some 7, .mov (.t 0), none, []⟩,
 ⟨some 8, .mkf 34 [] [(.t 4), (.t 5)], none, []⟩,
 ⟨some 9, .call 33 [(.t 7), (.t 8)], none, []⟩,
 ⟨some 6, .mov (.t 9), none, []⟩])
 .ret))⟩
def id_ratchet_open : Nat := 16
def af_ratchet_open : AFn := ⟨25, [.t 4, .t 5],
 (.seq none
 (.reg [
 ⟨some 2, .box (.t 0), none, []⟩,
 ⟨some 3, .box (.t 1), none, []⟩,
 ⟨some 4, .mov (.c (.str ⟨#[]⟩)), none, []⟩,
 ⟨some 5, .mov (.c (.bool false)), none, []⟩])
 (.seq none
 (.draw [
 ⟨some 9, .load true 32 (.t 2), none, []⟩,
 ⟨some 10, .call 26 [(.c (.int .u64 0))], none, []⟩,
 ⟨some 11, .faddr 0 (.t 3), none, []⟩,
 ⟨some 12, .load true 34 (.t 11), none, [2]⟩,
 ⟨some 13, .call 27 [(.t 12)], none, [3, 1]⟩,
 ⟨some 14, .faddr 34 (.t 3), none, []⟩,
 ⟨some 15, .slArr 65 0 (.t 14) none none none, none, [5]⟩,
 ⟨some 16, .call 35 [(.t 9), (.t 10), (.t 13), (.t 15)], none, [0, 1, 4, 6, 4]⟩,
 ⟨some 8, .mov (.t 16), none, [7]⟩,
 ⟨some 17, .ext (.t 8) 0, none, [8]⟩,
 ⟨some 18, .ext (.t 8) 1, none, [8]⟩,
 ⟨some 6, .mov (.t 17), none, [9, 7, 0, 1, 2, 3, 4, 5, 6, 7, 8, 9]⟩,
 ⟨some 7, .mov (.t 18), none, [10, 11, 0, 1, 2, 3, 4, 5, 6, 7, 8, 9, 10, 11]⟩])
 (.seq none
 (.seq none
 (.reg [
 ⟨some 19, .mov (.t 7), none, []⟩,
 ⟨some 20, .bin .neq (.t 19) (.c (.int .i64 0)), none, []⟩])
 (.cond (.t 20)
 (.seq none
 (.reg [
 ⟨some 4, .mov (.c (.str ⟨#[]⟩)), none, []⟩,
 ⟨some 5, .mov (.c (.bool false)), none, []⟩])
 .ret)
 .skip))
 (.seq none
 (.reg [
 ⟨some 21, .mov (.t 6), none, []⟩,
 ⟨some 22, .call 36 [(.t 21)], none, []⟩,
 ⟨some 23, .ext (.t 22) 0, none, []⟩,
 ⟨some 24, .ext (.t 22) 1, none, []⟩,
 ⟨some 4, .mov (.t 23), none, []⟩,
 ⟨some 5, .mov (.t 24), none, []⟩])
 .ret))))⟩
def id_slices_Delete_api_Skip_slices_go_233 : Nat := 17
def id_curve_Low : Nat := 18
def af_curve_Low : AFn := ⟨24, [.t 2],
 (.seq none
 (.reg [
 ⟨some 1, .box (.t 0), none, []⟩,
 ⟨some 2, .mov (.c (.bool false)), none, []⟩])
 (.seq none
 (.reg [
 ⟨some 7, .load true 32 (.t 1), none, []⟩,
 ⟨some 8, .call 37 [(.t 7)], none, []⟩,
 ⟨some 3, .alloc [.ints .u64 5 (List.replicate 5 0)], none, []⟩,
 ⟨none, .store 5 (.t 3) (.t 8), none, []⟩])
 (.seq none
 (.reg [
 ⟨some 9, .build [.ints .u8 32 (List.replicate 32 0)] [], none, []⟩,
 ⟨some 10, .build [.ints .u8 32 (List.replicate 32 0)] [(0, 1, (.c (.int .u8 1)))], none, []⟩,
 ⟨some 11, .build [.ints .u8 32 (List.replicate 32 0)] [(0, 1, (.c (.int .u8 236))), (1, 1, (.c (.int .u8 255))), (2, 1, (.c (.int .u8 255))), (3, 1, (.c (.int .u8 255))), (4, 1, (.c (.int .u8 255))), (5, 1, (.c (.int .u8 255))), (6, 1, (.c (.int .u8 255))), (7, 1, (.c (.int .u8 255))), (8, 1, (.c (.int .u8 255))), (9, 1, (.c (.int .u8 255))), (10, 1, (.c (.int .u8 255))), (11, 1, (.c (.int .u8 255))), (12, 1, (.c (.int .u8 255))), (13, 1, (.c (.int .u8 255))), (14, 1, (.c (.int .u8 255))), (15, 1, (.c (.int .u8 255))), (16, 1, (.c (.int .u8 255))), (17, 1, (.c (.int .u8 255))), (18, 1, (.c (.int .u8 255))), (19, 1, (.c (.int .u8 255))), (20, 1, (.c (.int .u8 255))), (21, 1, (.c (.int .u8 255))), (22, 1, (.c (.int .u8 255))), (23, 1, (.c (.int .u8 255))), (24, 1, (.c (.int .u8 255))), (25, 1, (.c (.int .u8 255))), (26, 1, (.c (.int .u8 255))), (27, 1, (.c (.int .u8 255))), (28, 1, (.c (.int .u8 255))), (29, 1, (.c (.int .u8 255))), (30, 1, (.c (.int .u8 255))), (31, 1, (.c (.int .u8 127)))], none, []⟩,
 ⟨some 12, .build [.ints .u8 32 (List.replicate 32 0)] [(0, 1, (.c (.int .u8 224))), (1, 1, (.c (.int .u8 235))), (2, 1, (.c (.int .u8 122))), (3, 1, (.c (.int .u8 124))), (4, 1, (.c (.int .u8 59))), (5, 1, (.c (.int .u8 65))), (6, 1, (.c (.int .u8 184))), (7, 1, (.c (.int .u8 174))), (8, 1, (.c (.int .u8 22))), (9, 1, (.c (.int .u8 86))), (10, 1, (.c (.int .u8 227))), (11, 1, (.c (.int .u8 250))), (12, 1, (.c (.int .u8 241))), (13, 1, (.c (.int .u8 159))), (14, 1, (.c (.int .u8 196))), (15, 1, (.c (.int .u8 106))), (16, 1, (.c (.int .u8 218))), (17, 1, (.c (.int .u8 9))), (18, 1, (.c (.int .u8 141))), (19, 1, (.c (.int .u8 235))), (20, 1, (.c (.int .u8 156))), (21, 1, (.c (.int .u8 50))), (22, 1, (.c (.int .u8 177))), (23, 1, (.c (.int .u8 253))), (24, 1, (.c (.int .u8 134))), (25, 1, (.c (.int .u8 98))), (26, 1, (.c (.int .u8 5))), (27, 1, (.c (.int .u8 22))), (28, 1, (.c (.int .u8 95))), (29, 1, (.c (.int .u8 73))), (30, 1, (.c (.int .u8 184))), (31, 1, (.c (.int .u8 0)))], none, []⟩,
 ⟨some 13, .build [.ints .u8 32 (List.replicate 32 0)] [(0, 1, (.c (.int .u8 95))), (1, 1, (.c (.int .u8 156))), (2, 1, (.c (.int .u8 149))), (3, 1, (.c (.int .u8 188))), (4, 1, (.c (.int .u8 163))), (5, 1, (.c (.int .u8 80))), (6, 1, (.c (.int .u8 140))), (7, 1, (.c (.int .u8 36))), (8, 1, (.c (.int .u8 177))), (9, 1, (.c (.int .u8 208))), (10, 1, (.c (.int .u8 177))), (11, 1, (.c (.int .u8 85))), (12, 1, (.c (.int .u8 156))), (13, 1, (.c (.int .u8 131))), (14, 1, (.c (.int .u8 239))), (15, 1, (.c (.int .u8 91))), (16, 1, (.c (.int .u8 4))), (17, 1, (.c (.int .u8 68))), (18, 1, (.c (.int .u8 92))), (19, 1, (.c (.int .u8 196))), (20, 1, (.c (.int .u8 88))), (21, 1, (.c (.int .u8 28))), (22, 1, (.c (.int .u8 142))), (23, 1, (.c (.int .u8 134))), (24, 1, (.c (.int .u8 216))), (25, 1, (.c (.int .u8 34))), (26, 1, (.c (.int .u8 78))), (27, 1, (.c (.int .u8 221))), (28, 1, (.c (.int .u8 208))), (29, 1, (.c (.int .u8 159))), (30, 1, (.c (.int .u8 17))), (31, 1, (.c (.int .u8 87)))], none, []⟩,
 ⟨some 14, .build [.ints .u8 32 (List.replicate 32 0), .ints .u8 32 (List.replicate 32 0), .ints .u8 32 (List.replicate 32 0), .ints .u8 32 (List.replicate 32 0), .ints .u8 32 (List.replicate 32 0)] [(0, 32, (.t 9)), (32, 32, (.t 10)), (64, 32, (.t 11)), (96, 32, (.t 12)), (128, 32, (.t 13))], none, []⟩,
 ⟨some 4, .alloc [.ints .u8 32 (List.replicate 32 0), .ints .u8 32 (List.replicate 32 0), .ints .u8 32 (List.replicate 32 0), .ints .u8 32 (List.replicate 32 0), .ints .u8 32 (List.replicate 32 0)], none, []⟩,
 ⟨none, .store 160 (.t 4) (.t 14), none, []⟩])
 (.seq none
 (.seq none
 (.reg [
 ⟨some 15, .load true 160 (.t 4), none, []⟩,
 ⟨some 16, .mov (.c (.int .i64 0)), none, []⟩])
 (.block 0 none
 (.loop 1000000 none
 (.seq none
 (.reg [
 ⟨some 17, .bin .lss (.t 16) (.c (.int .i64 5)), none, []⟩])
 (.seq none
 (.cond (.t 17)
 .skip
 (.exit 0))
 (.seq none
 (.block 1 none
 (.seq none
 (.reg [
 ⟨some 18, .idxA true 5 32 (.t 15) (.t 16), none, []⟩,
 ⟨some 6, .alloc [.ints .u8 32 (List.replicate 32 0)], none, []⟩,
 ⟨none, .store 32 (.t 6) (.t 18), none, []⟩])
 (.seq none
 (.draw [
 ⟨some 19, .load true 32 (.t 6), none, []⟩,
 ⟨some 20, .call 37 [(.t 19)], none, [0]⟩,
 ⟨some 21, .load true 5 (.t 3), none, []⟩,
 ⟨some 22, .call 38 [(.t 20), (.t 21)], none, [1, 2, 1]⟩])
 (.cond (.t 22)
 (.seq none
 (.reg [
 ⟨some 2, .mov (.c (.bool true)), none, []⟩])
 .ret)
 .skip))))
 (.reg [
 ⟨some 23, .bin .add (.t 16) (.c (.int .i64 1)), none, []⟩,
 ⟨some 16, .mov (.t 23), none, []⟩])))))))
 (.seq none
 (.reg [
 ⟨some 2, .mov (.c (.bool false)), none, []⟩])
 .ret)))))⟩
def id_ratchet_none : Nat := 19
def af_ratchet_none : AFn := ⟨3, [.cell 0 true 32],
 (.seq none
 (.reg [
 ⟨some 0, .alloc [.ints .u8 32 (List.replicate 32 0)], none, []⟩])
 (.seq none
 (.reg [
 ⟨some 1, .alloc [.ints .u8 32 (List.replicate 32 0)], none, []⟩])
 (.seq none
 (.reg [
 ⟨some 2, .load true 32 (.t 1), none, []⟩,
 ⟨none, .store 32 (.t 0) (.t 2), none, []⟩])
 .ret)))⟩
def id_ratchet_over : Nat := 20
def af_ratchet_over : AFn := ⟨46, [.t 4],
 (.seq none
 (.reg [
 ⟨some 2, .box (.t 0), none, []⟩,
 ⟨some 3, .box (.t 1), none, []⟩,
 ⟨some 4, .mov (.c (.int .i64 0)), none, []⟩])
 (.seq none
 (.reg [
 ⟨some 6, .faddr 163 (.t 2), none, []⟩,
 ⟨some 7, .load false 1 (.t 6), none, []⟩,
 ⟨some 8, .len false (.t 7), none, []⟩,
 ⟨some 5, .mov (.t 8), none, []⟩])
 (.seq none
 (.seq none
 (.reg [
 ⟨some 9, .faddr 0 (.t 3), none, []⟩,
 ⟨some 10, .load true 32 (.t 9), none, []⟩,
 ⟨some 11, .faddr 64 (.t 2), none, []⟩,
 ⟨some 12, .load true 32 (.t 11), none, []⟩,
 ⟨some 13, .eqv true (.agg [true, true, true, true, true, true, true, true, true, true, true, true, true, true, true, true, true, true, true, true, true, true, true, true, true, true, true, true, true, true, true, true]) (.t 10) (.t 12), none, []⟩])
 (.cond (.t 13)
 (.seq none
 (.seq none
 (.draw [
 ⟨some 14, .faddr 128 (.t 2), none, []⟩,
 ⟨some 15, .load true 32 (.t 14), none, [0]⟩,
 ⟨some 16, .call 19 [], none, []⟩,
 ⟨some 17, .eqv true (.agg [true, true, true, true, true, true, true, true, true, true, true, true, true, true, true, true, true, true, true, true, true, true, true, true, true, true, true, true, true, true, true, true]) (.t 15) (.t 16), none, [1, 2]⟩,
 ⟨some 18, .mov (.t 17), none, [3, 2]⟩,
 ⟨some 19, .faddr 32 (.t 3), some (18, true), [4]⟩,
 ⟨some 20, .load false 1 (.t 19), some (18, true), [5, 4]⟩,
 ⟨some 21, .faddr 161 (.t 2), some (18, true), [4]⟩,
 ⟨some 22, .load false 1 (.t 21), some (18, true), [7, 4]⟩,
 ⟨some 23, .bin .gtr (.t 20) (.t 22), some (18, true), [6, 8, 4]⟩,
 ⟨some 24, .pick (.t 18) (.t 23) (.c (.bool false)), none, [4, 9]⟩])
 (.cond (.t 24)
 (.reg [
 ⟨some 25, .mov (.t 5), none, []⟩,
 ⟨some 26, .faddr 32 (.t 3), none, []⟩,
 ⟨some 27, .load false 1 (.t 26), none, []⟩,
 ⟨some 28, .faddr 161 (.t 2), none, []⟩,
 ⟨some 29, .load false 1 (.t 28), none, []⟩,
 ⟨some 30, .bin .sub (.t 27) (.t 29), none, []⟩,
 ⟨some 31, .toInt .i64 (.t 30), none, []⟩,
 ⟨some 32, .bin .add (.t 25) (.t 31), none, []⟩,
 ⟨some 5, .mov (.t 32), none, []⟩])
 .skip))
 (.seq none
 (.reg [
 ⟨some 33, .mov (.t 5), none, []⟩,
 ⟨some 34, .faddr 33 (.t 3), none, []⟩,
 ⟨some 35, .load false 1 (.t 34), none, []⟩,
 ⟨some 36, .toInt .i64 (.t 35), none, []⟩,
 ⟨some 37, .bin .add (.t 33) (.t 36), none, []⟩,
 ⟨some 4, .mov (.t 37), none, []⟩])
 .ret))
 .skip))
 (.seq none
 (.reg [
 ⟨some 38, .mov (.t 5), none, []⟩,
 ⟨some 39, .faddr 33 (.t 3), none, []⟩,
 ⟨some 40, .load false 1 (.t 39), none, []⟩,
 ⟨some 41, .faddr 161 (.t 2), none, []⟩,
 ⟨some 42, .load false 1 (.t 41), none, []⟩,
 ⟨some 43, .bin .sub (.t 40) (.t 42), none, []⟩,
 ⟨some 44, .toInt .i64 (.t 43), none, []⟩,
 ⟨some 45, .bin .add (.t 38) (.t 44), none, []⟩,
 ⟨some 4, .mov (.t 45), none, []⟩])
 .ret))))⟩
def id_ratchet_pass : Nat := 21
def af_ratchet_pass : AFn := ⟨57, [],
 (.jumps 1000000 0 none
 (.seq none
 (.seq none
 (.draw [
 ⟨some 6, .mov (.t 0), none, []⟩,
 ⟨some 7, .nilChk (.t 6), none, [0]⟩,
 ⟨some 8, .faddr 128 (.t 7), none, [1]⟩,
 ⟨some 9, .load true 32 (.t 8), none, [2]⟩,
 ⟨some 10, .call 19 [], none, []⟩,
 ⟨some 11, .eqv false (.agg [true, true, true, true, true, true, true, true, true, true, true, true, true, true, true, true, true, true, true, true, true, true, true, true, true, true, true, true, true, true, true, true]) (.t 9) (.t 10), none, [3, 4]⟩])
 (.cond (.t 11)
 .ret
 .skip))
 (.seq none
 (.label 0)
 (.seq none
 (.seq none
 (.reg [
 ⟨some 12, .mov (.t 0), none, []⟩,
 ⟨some 13, .nilChk (.t 12), none, []⟩,
 ⟨some 14, .faddr 161 (.t 13), none, []⟩,
 ⟨some 15, .load false 1 (.t 14), none, []⟩,
 ⟨some 16, .mov (.t 1), none, []⟩,
 ⟨some 17, .bin .geq (.t 15) (.t 16), none, []⟩])
 (.cond (.t 17)
 .ret
 .skip))
 (.seq none
 (.reg [
 ⟨some 19, .mov (.t 0), none, []⟩,
 ⟨some 20, .nilChk (.t 19), none, []⟩,
 ⟨some 21, .faddr 128 (.t 20), none, []⟩,
 ⟨some 22, .load true 32 (.t 21), none, []⟩,
 ⟨some 23, .call 23 [(.t 22)], none, []⟩,
 ⟨some 18, .mov (.t 23), none, []⟩,
 ⟨some 24, .ext (.t 18) 0, none, []⟩,
 ⟨some 25, .ext (.t 18) 1, none, []⟩,
 ⟨some 4, .alloc [.ints .u8 32 (List.replicate 32 0)], none, []⟩,
 ⟨some 5, .alloc [.ints .u8 32 (List.replicate 32 0)], none, []⟩,
 ⟨none, .store 32 (.t 4) (.t 24), none, []⟩,
 ⟨none, .store 32 (.t 5) (.t 25), none, []⟩])
 (.seq none
 (.draw [
 ⟨some 26, .mov (.t 0), none, []⟩,
 ⟨some 27, .mov (.t 0), none, []⟩,
 ⟨some 28, .nilChk (.t 27), none, [1]⟩,
 ⟨some 29, .faddr 163 (.t 28), none, [2]⟩,
 ⟨some 30, .load false 1 (.t 29), none, [3]⟩,
 ⟨some 31, .mov (.t 0), none, []⟩,
 ⟨some 32, .nilChk (.t 31), none, [5]⟩,
 ⟨some 33, .faddr 64 (.t 32), none, [6]⟩,
 ⟨some 34, .load true 32 (.t 33), none, [7]⟩,
 ⟨some 35, .mov (.t 0), none, []⟩,
 ⟨some 36, .nilChk (.t 35), none, [9]⟩,
 ⟨some 37, .faddr 161 (.t 36), none, [10]⟩,
 ⟨some 38, .load false 1 (.t 37), none, [11]⟩,
 ⟨some 39, .load true 32 (.t 5), none, []⟩,
 ⟨some 40, .build [.ints .u8 32 (List.replicate 32 0), .int .u32 0, .ints .u8 32 (List.replicate 32 0)] [(0, 32, (.t 34)), (32, 1, (.t 38)), (33, 32, (.t 39))], none, [8, 12, 13]⟩,
 ⟨some 41, .bslice [.ints .u8 32 (List.replicate 32 0), .int .u32 0, .ints .u8 32 (List.replicate 32 0)] 1 65 [(0, 65, (.t 40))], none, [14]⟩,
 ⟨some 42, .appendR 65 68 (.t 30) (.t 41), none, [4, 15]⟩,
 ⟨some 43, .nilChk (.t 26), none, [0, 0, 1, 2, 3, 4, 5, 6, 7, 8, 9, 10, 11, 12, 13, 14, 15, 16]⟩,
 ⟨some 44, .faddr 163 (.t 43), none, [17, 0, 1, 2, 3, 4, 5, 6, 7, 8, 9, 10, 11, 12, 13, 14, 15, 16]⟩,
 ⟨none, .store 1 (.t 44) (.t 42), none, [18, 16, 16, 0, 1, 2, 3, 4, 5, 6, 7, 8, 9, 10, 11, 12, 13, 14, 15, 16]⟩])
 (.seq none
 (.draw [
 ⟨some 45, .mov (.t 0), none, []⟩,
 ⟨some 46, .mov (.t 0), none, []⟩,
 ⟨some 47, .load true 32 (.t 4), none, []⟩,
 ⟨some 48, .mov (.t 0), none, []⟩,
 ⟨some 49, .nilChk (.t 48), none, [3]⟩,
 ⟨some 50, .faddr 161 (.t 49), none, [4]⟩,
 ⟨some 51, .load false 1 (.t 50), none, [5]⟩,
 ⟨some 52, .bin .add (.t 51) (.c (.int .u32 1)), none, [6]⟩,
 ⟨some 53, .nilChk (.t 45), none, [0, 0, 2, 6]⟩,
 ⟨some 54, .faddr 128 (.t 53), none, [8, 0, 2, 6]⟩,
 ⟨none, .store 32 (.t 54) (.t 47), none, [9, 2, 0, 2, 6]⟩,
 ⟨some 55, .nilChk (.t 46), none, [1, 0, 1, 2, 3, 4, 5, 6, 7, 8, 9, 10]⟩,
 ⟨some 56, .faddr 161 (.t 55), none, [11, 0, 1, 2, 3, 4, 5, 6, 7, 8, 9, 10]⟩,
 ⟨none, .store 1 (.t 56) (.t 52), none, [12, 7, 10, 0, 1, 2, 3, 4, 5, 6, 7, 8, 9, 10]⟩])
 (.goto 0)))))))
 (.seq none
 .skip
 (.seq none
 (.seq none
 (.reg [
 ⟨some 12, .mov (.t 0), none, []⟩,
 ⟨some 13, .nilChk (.t 12), none, []⟩,
 ⟨some 14, .faddr 161 (.t 13), none, []⟩,
 ⟨some 15, .load false 1 (.t 14), none, []⟩,
 ⟨some 16, .mov (.t 1), none, []⟩,
 ⟨some 17, .bin .geq (.t 15) (.t 16), none, []⟩])
 (.cond (.t 17)
 .ret
 .skip))
 (.seq none
 (.reg [
 ⟨some 19, .mov (.t 0), none, []⟩,
 ⟨some 20, .nilChk (.t 19), none, []⟩,
 ⟨some 21, .faddr 128 (.t 20), none, []⟩,
 ⟨some 22, .load true 32 (.t 21), none, []⟩,
 ⟨some 23, .call 23 [(.t 22)], none, []⟩,
 ⟨some 18, .mov (.t 23), none, []⟩,
 ⟨some 24, .ext (.t 18) 0, none, []⟩,
 ⟨some 25, .ext (.t 18) 1, none, []⟩,
 ⟨some 4, .alloc [.ints .u8 32 (List.replicate 32 0)], none, []⟩,
 ⟨some 5, .alloc [.ints .u8 32 (List.replicate 32 0)], none, []⟩,
 ⟨none, .store 32 (.t 4) (.t 24), none, []⟩,
 ⟨none, .store 32 (.t 5) (.t 25), none, []⟩])
 (.seq none
 (.draw [
 ⟨some 26, .mov (.t 0), none, []⟩,
 ⟨some 27, .mov (.t 0), none, []⟩,
 ⟨some 28, .nilChk (.t 27), none, [1]⟩,
 ⟨some 29, .faddr 163 (.t 28), none, [2]⟩,
 ⟨some 30, .load false 1 (.t 29), none, [3]⟩,
 ⟨some 31, .mov (.t 0), none, []⟩,
 ⟨some 32, .nilChk (.t 31), none, [5]⟩,
 ⟨some 33, .faddr 64 (.t 32), none, [6]⟩,
 ⟨some 34, .load true 32 (.t 33), none, [7]⟩,
 ⟨some 35, .mov (.t 0), none, []⟩,
 ⟨some 36, .nilChk (.t 35), none, [9]⟩,
 ⟨some 37, .faddr 161 (.t 36), none, [10]⟩,
 ⟨some 38, .load false 1 (.t 37), none, [11]⟩,
 ⟨some 39, .load true 32 (.t 5), none, []⟩,
 ⟨some 40, .build [.ints .u8 32 (List.replicate 32 0), .int .u32 0, .ints .u8 32 (List.replicate 32 0)] [(0, 32, (.t 34)), (32, 1, (.t 38)), (33, 32, (.t 39))], none, [8, 12, 13]⟩,
 ⟨some 41, .bslice [.ints .u8 32 (List.replicate 32 0), .int .u32 0, .ints .u8 32 (List.replicate 32 0)] 1 65 [(0, 65, (.t 40))], none, [14]⟩,
 ⟨some 42, .appendR 65 68 (.t 30) (.t 41), none, [4, 15]⟩,
 ⟨some 43, .nilChk (.t 26), none, [0, 0, 1, 2, 3, 4, 5, 6, 7, 8, 9, 10, 11, 12, 13, 14, 15, 16]⟩,
 ⟨some 44, .faddr 163 (.t 43), none, [17, 0, 1, 2, 3, 4, 5, 6, 7, 8, 9, 10, 11, 12, 13, 14, 15, 16]⟩,
 ⟨none, .store 1 (.t 44) (.t 42), none, [18, 16, 16, 0, 1, 2, 3, 4, 5, 6, 7, 8, 9, 10, 11, 12, 13, 14, 15, 16]⟩])
 (.seq none
 (.draw [
 ⟨some 45, .mov (.t 0), none, []⟩,
 ⟨some 46, .mov (.t 0), none, []⟩,
 ⟨some 47, .load true 32 (.t 4), none, []⟩,
 ⟨some 48, .mov (.t 0), none, []⟩,
 ⟨some 49, .nilChk (.t 48), none, [3]⟩,
 ⟨some 50, .faddr 161 (.t 49), none, [4]⟩,
 ⟨some 51, .load false 1 (.t 50), none, [5]⟩,
 ⟨some 52, .bin .add (.t 51) (.c (.int .u32 1)), none, [6]⟩,
 ⟨some 53, .nilChk (.t 45), none, [0, 0, 2, 6]⟩,
 ⟨some 54, .faddr 128 (.t 53), none, [8, 0, 2, 6]⟩,
 ⟨none, .store 32 (.t 54) (.t 47), none, [9, 2, 0, 2, 6]⟩,
 ⟨some 55, .nilChk (.t 46), none, [1, 0, 1, 2, 3, 4, 5, 6, 7, 8, 9, 10]⟩,
 ⟨some 56, .faddr 161 (.t 55), none, [11, 0, 1, 2, 3, 4, 5, 6, 7, 8, 9, 10]⟩,
 ⟨none, .store 1 (.t 56) (.t 52), none, [12, 7, 10, 0, 1, 2, 3, 4, 5, 6, 7, 8, 9, 10]⟩])
 (.goto 0)))))))⟩
def id_ratchet_turn : Nat := 22
def af_ratchet_turn : AFn := ⟨18, [.cell 6 true 32, .cell 7 true 32],
 (.seq none
 (.reg [
 ⟨some 3, .box (.t 0), none, []⟩,
 ⟨some 4, .box (.t 1), none, []⟩,
 ⟨some 5, .box (.t 2), none, []⟩,
 ⟨some 6, .alloc [.ints .u8 32 (List.replicate 32 0)], none, []⟩,
 ⟨some 7, .alloc [.ints .u8 32 (List.replicate 32 0)], none, []⟩])
 (.seq none
 (.reg [
 ⟨some 9, .load true 32 (.t 4), none, []⟩,
 ⟨some 10, .load true 32 (.t 5), none, []⟩,
 ⟨some 11, .call 39 [(.t 9), (.t 10)], none, []⟩,
 ⟨some 8, .alloc [.ints .u8 32 (List.replicate 32 0)], none, []⟩,
 ⟨none, .store 32 (.t 8) (.t 11), none, []⟩])
 (.seq none
 (.draw [
 ⟨some 12, .load true 32 (.t 3), none, []⟩,
 ⟨some 13, .slArr 32 0 (.t 8) none none none, none, []⟩,
 ⟨some 14, .bslice [.nils] 1 1 [(0, 1, (.t 13))], none, [1]⟩,
 ⟨some 15, .call 40 [(.t 12), (.c (.str ⟨#[116, 117, 114, 110]⟩)), (.t 14)], none, [0, 2]⟩,
 ⟨some 16, .ext (.t 15) 0, none, [3]⟩,
 ⟨some 17, .ext (.t 15) 1, none, [3]⟩,
 ⟨none, .store 32 (.t 6) (.t 16), none, [4, 3, 0, 1, 2, 3, 4, 5]⟩,
 ⟨none, .store 32 (.t 7) (.t 17), none, [5, 6, 0, 1, 2, 3, 4, 5, 6]⟩])
 .ret)))⟩
def id_kdf_Step : Nat := 23
def af_kdf_Step : AFn := ⟨12, [.cell 2 true 32, .cell 3 true 32],
 (.seq none
 (.reg [
 ⟨some 1, .box (.t 0), none, []⟩,
 ⟨some 2, .alloc [.ints .u8 32 (List.replicate 32 0)], none, []⟩,
 ⟨some 3, .alloc [.ints .u8 32 (List.replicate 32 0)], none, []⟩])
 (.seq none
 (.draw [
 ⟨some 4, .slArr 32 0 (.t 1) none none none, none, []⟩,
 ⟨some 5, .bslice [.ints .u8 1 (List.replicate 1 0)] 1 0 [(0, 1, (.c (.int .u8 2)))], none, []⟩,
 ⟨some 6, .bslice [.nils] 1 1 [(0, 1, (.t 5))], none, [1]⟩,
 ⟨some 7, .call 41 [(.t 4), (.t 6)], none, [0, 2]⟩,
 ⟨some 8, .slArr 32 0 (.t 1) none none none, none, []⟩,
 ⟨some 9, .bslice [.ints .u8 1 (List.replicate 1 0)] 1 0 [(0, 1, (.c (.int .u8 1)))], none, []⟩,
 ⟨some 10, .bslice [.nils] 1 1 [(0, 1, (.t 9))], none, [5]⟩,
 ⟨some 11, .call 41 [(.t 8), (.t 10)], none, [4, 6, 3]⟩,
 ⟨none, .store 32 (.t 2) (.t 7), none, [3, 7, 0, 1, 2, 3]⟩,
 ⟨none, .store 32 (.t 3) (.t 11), none, [7, 8, 0, 1, 2, 3, 4, 5, 6, 7, 8]⟩])
 .ret))⟩
def id_curve_Public : Nat := 24
def af_curve_Public : AFn := ⟨6, [.cell 2 true 32],
 (.seq none
 (.reg [
 ⟨some 1, .box (.t 0), none, []⟩,
 ⟨some 2, .alloc [.ints .u8 32 (List.replicate 32 0)], none, []⟩])
 (.seq none
 (.reg [
 ⟨some 3, .load true 32 (.t 1), none, []⟩,
 ⟨some 4, .build [.ints .u8 32 (List.replicate 32 0)] [(0, 1, (.c (.int .u8 9)))], none, []⟩,
 ⟨some 5, .call 39 [(.t 3), (.t 4)], none, []⟩,
 ⟨none, .store 32 (.t 2) (.t 5), none, []⟩])
 .ret))⟩
def id_aead_Seal : Nat := 25
def af_aead_Seal : AFn := ⟨23, [.t 8],
 (.seq none
 (.reg [
 ⟨some 4, .box (.t 0), none, []⟩,
 ⟨some 5, .box (.t 1), none, []⟩,
 ⟨some 8, .mov (.c (.nils)), none, []⟩])
 (.seq none
 (.reg [
 ⟨some 11, .load true 32 (.t 4), none, []⟩,
 ⟨some 12, .load true 12 (.t 5), none, []⟩,
 ⟨some 13, .mov (.t 3), none, []⟩,
 ⟨some 14, .call 42 [(.t 11), (.c (.int .u32 1)), (.t 12), (.t 13)], none, []⟩,
 ⟨some 9, .mov (.t 14), none, []⟩])
 (.seq none
 (.reg [
 ⟨some 15, .load true 32 (.t 4), none, []⟩,
 ⟨some 16, .load true 12 (.t 5), none, []⟩,
 ⟨some 17, .mov (.t 2), none, []⟩,
 ⟨some 18, .mov (.t 9), none, []⟩,
 ⟨some 19, .call 43 [(.t 15), (.t 16), (.t 17), (.t 18)], none, []⟩,
 ⟨some 10, .alloc [.ints .u8 16 (List.replicate 16 0)], none, []⟩,
 ⟨none, .store 16 (.t 10) (.t 19), none, []⟩])
 (.seq none
 (.reg [
 ⟨some 20, .mov (.t 9), none, []⟩,
 ⟨some 21, .slArr 16 0 (.t 10) none none none, none, []⟩,
 ⟨some 22, .appendI .u8 1 (.t 20) (.t 21), none, []⟩,
 ⟨some 8, .mov (.t 22), none, []⟩])
 .ret))))⟩
def id_aead_Count : Nat := 26
def af_aead_Count : AFn := ⟨8, [.cell 2 true 12],
 (.seq none
 (.reg [
 ⟨some 2, .alloc [.ints .u8 12 (List.replicate 12 0)], none, []⟩])
 (.seq none
 (.reg [
 ⟨some 3, .mksliceI .u8 1 (.c (.int .i64 4)) (.c (.int .i64 4)), none, []⟩,
 ⟨some 4, .mov (.t 0), none, []⟩,
 ⟨some 5, .call 44 [(.t 3), (.t 4)], none, []⟩,
 ⟨some 6, .arrPtr 12 (.t 5), none, []⟩,
 ⟨some 7, .load true 12 (.t 6), none, []⟩,
 ⟨none, .store 12 (.t 2) (.t 7), none, []⟩])
 .ret))⟩
def id_frame_PutHeader : Nat := 27
def af_frame_PutHeader : AFn := ⟨11, [.t 2],
 (.seq none
 (.reg [
 ⟨some 1, .box (.t 0), none, []⟩,
 ⟨some 2, .mov (.c (.nils)), none, []⟩])
 (.seq none
 (.draw [
 ⟨some 3, .faddr 0 (.t 1), none, []⟩,
 ⟨some 4, .slArr 32 0 (.t 3) none none none, none, [0]⟩,
 ⟨some 5, .faddr 32 (.t 1), none, []⟩,
 ⟨some 6, .load false 1 (.t 5), none, [2]⟩,
 ⟨some 7, .call 12 [(.t 4), (.t 6)], none, [1, 3]⟩,
 ⟨some 8, .faddr 33 (.t 1), none, []⟩,
 ⟨some 9, .load false 1 (.t 8), none, [5]⟩,
 ⟨some 10, .call 12 [(.t 7), (.t 9)], none, [4, 6, 4]⟩,
 ⟨some 2, .mov (.t 10), none, [7, 7, 0, 1, 2, 3, 4, 5, 6, 7]⟩])
 .ret))⟩
def id_ratchet_text : Nat := 28
def af_ratchet_text : AFn := ⟨15, [.t 2],
 (.seq none
 (.reg [
 ⟨some 2, .mov (.c (.nils)), none, []⟩])
 (.seq none
 (.reg [
 ⟨some 4, .mksliceI .u8 1 (.c (.int .i64 49)) (.c (.int .i64 49)), none, []⟩,
 ⟨some 3, .mov (.t 4), none, []⟩])
 (.seq none
 (.reg [
 ⟨some 5, .mov (.t 3), none, []⟩,
 ⟨some 6, .mov (.t 0), none, []⟩,
 ⟨some 7, .len true (.t 6), none, []⟩,
 ⟨some 8, .toInt .u8 (.t 7), none, []⟩,
 ⟨some 9, .iaddrS 1 (.t 5) (.c (.int .i64 0)), none, []⟩,
 ⟨none, .store 1 (.t 9) (.t 8), none, []⟩])
 (.seq none
 (.reg [
 ⟨some 10, .mov (.t 3), none, []⟩,
 ⟨some 11, .slSlice 1 (.t 10) (some (.c (.int .i64 1))) none none, none, []⟩,
 ⟨some 12, .mov (.t 0), none, []⟩,
 ⟨some 13, .copyI (.t 11) (.t 12), none, []⟩])
 (.seq none
 (.reg [
 ⟨some 14, .mov (.t 3), none, []⟩,
 ⟨some 2, .mov (.t 14), none, []⟩])
 .ret)))))⟩
def id_slices_Equal_api_Skip : Nat := 29
def af_slices_Equal_api_Skip : AFn := ⟨26, [.t 4],
 (.seq none
 (.reg [
 ⟨some 4, .mov (.c (.bool false)), none, []⟩])
 (.seq none
 (.seq none
 (.reg [
 ⟨some 6, .mov (.t 0), none, []⟩,
 ⟨some 7, .len false (.t 6), none, []⟩,
 ⟨some 8, .mov (.t 1), none, []⟩,
 ⟨some 9, .len false (.t 8), none, []⟩,
 ⟨some 10, .bin .neq (.t 7) (.t 9), none, []⟩])
 (.cond (.t 10)
 (.seq none
 (.reg [
 ⟨some 4, .mov (.c (.bool false)), none, []⟩])
 .ret)
 .skip))
 (.seq none
 (.seq none
 (.reg [
 ⟨some 11, .mov (.t 0), none, []⟩,
 ⟨some 12, .len false (.t 11), none, []⟩,
 ⟨some 13, .mov (.c (.int .i64 0)), none, []⟩])
 (.block 0 none
 (.loop 1000000 none
 (.seq none
 (.reg [
 ⟨some 14, .bin .lss (.t 13) (.t 12), none, []⟩])
 (.seq none
 (.cond (.t 14)
 .skip
 (.exit 0))
 (.seq none
 (.block 1 none
 (.seq none
 (.reg [
 ⟨some 15, .mov (.t 13), none, []⟩,
 ⟨some 5, .mov (.t 15), none, []⟩])
 (.seq none
 (.draw [
 ⟨some 16, .mov (.t 0), none, []⟩,
 ⟨some 17, .mov (.t 5), none, []⟩,
 ⟨some 18, .iaddrS 65 (.t 16) (.t 17), none, [0, 1]⟩,
 ⟨some 19, .load true 65 (.t 18), none, [2]⟩,
 ⟨some 20, .mov (.t 1), none, []⟩,
 ⟨some 21, .mov (.t 5), none, []⟩,
 ⟨some 22, .iaddrS 65 (.t 20) (.t 21), none, [4, 5]⟩,
 ⟨some 23, .load true 65 (.t 22), none, [6]⟩,
 ⟨some 24, .eqv true (.agg [true, true, true, true, true, true, true, true, true, true, true, true, true, true, true, true, true, true, true, true, true, true, true, true, true, true, true, true, true, true, true, true, true, true, true, true, true, true, true, true, true, true, true, true, true, true, true, true, true, true, true, true, true, true, true, true, true, true, true, true, true, true, true, true, true]) (.t 19) (.t 23), none, [3, 7]⟩])
 (.cond (.t 24)
 (.seq none
 (.reg [
 ⟨some 4, .mov (.c (.bool false)), none, []⟩])
 .ret)
 .skip))))
 (.reg [
 ⟨some 25, .bin .add (.t 13) (.c (.int .i64 1)), none, []⟩,
 ⟨some 13, .mov (.t 25), none, []⟩])))))))
 (.seq none
 (.reg [
 ⟨some 4, .mov (.c (.bool true)), none, []⟩])
 .ret))))⟩
def id_ident_Pair : Nat := 30
def af_ident_Pair : AFn := ⟨46, [.cell 4 true 33, .t 5],
 (.seq none
 (.reg [
 ⟨some 2, .box (.t 0), none, []⟩,
 ⟨some 3, .box (.t 1), none, []⟩,
 ⟨some 4, .alloc [.ints .u8 32 (List.replicate 32 0), .bool false], none, []⟩,
 ⟨some 5, .mov (.c (.int .i64 0)), none, []⟩])
 (.seq none
 (.reg [
 ⟨some 12, .load true 32 (.t 2), none, []⟩,
 ⟨some 13, .call 24 [(.t 12)], none, []⟩,
 ⟨some 6, .alloc [.ints .u8 32 (List.replicate 32 0)], none, []⟩,
 ⟨none, .store 32 (.t 6) (.t 13), none, []⟩])
 (.seq none
 (.seq none
 (.reg [
 ⟨some 14, .load true 32 (.t 6), none, []⟩,
 ⟨some 15, .load true 32 (.t 3), none, []⟩,
 ⟨some 16, .eqv false (.agg [true, true, true, true, true, true, true, true, true, true, true, true, true, true, true, true, true, true, true, true, true, true, true, true, true, true, true, true, true, true, true, true]) (.t 14) (.t 15), none, []⟩])
 (.cond (.t 16)
 (.seq none
 (.reg [
 ⟨some 17, .build [.ints .u8 32 (List.replicate 32 0), .bool false] [], none, []⟩,
 ⟨none, .store 33 (.t 4) (.t 17), none, []⟩,
 ⟨some 5, .mov (.c (.int .i64 262)), none, []⟩])
 .ret)
 .skip))
 (.seq none
 (.reg [
 ⟨some 19, .load true 32 (.t 2), none, []⟩,
 ⟨some 20, .load true 32 (.t 3), none, []⟩,
 ⟨some 21, .call 45 [(.t 19), (.t 20)], none, []⟩,
 ⟨some 18, .mov (.t 21), none, []⟩,
 ⟨some 22, .ext (.t 18) 0, none, []⟩,
 ⟨some 23, .ext (.t 18) 1, none, []⟩,
 ⟨some 7, .alloc [.ints .u8 32 (List.replicate 32 0)], none, []⟩,
 ⟨none, .store 32 (.t 7) (.t 22), none, []⟩,
 ⟨some 8, .mov (.t 23), none, []⟩])
 (.seq none
 (.seq none
 (.reg [
 ⟨some 24, .mov (.t 8), none, []⟩,
 ⟨some 25, .bin .neq (.t 24) (.c (.int .i64 0)), none, []⟩])
 (.cond (.t 25)
 (.seq none
 (.reg [
 ⟨some 26, .build [.ints .u8 32 (List.replicate 32 0), .bool false] [], none, []⟩,
 ⟨some 27, .mov (.t 8), none, []⟩,
 ⟨none, .store 33 (.t 4) (.t 26), none, []⟩,
 ⟨some 5, .mov (.t 27), none, []⟩])
 .ret)
 .skip))
 (.seq none
 (.reg [
 ⟨some 28, .load true 32 (.t 6), none, []⟩,
 ⟨some 29, .load true 32 (.t 3), none, []⟩,
 ⟨some 30, .call 46 [(.t 28), (.t 29)], none, []⟩,
 ⟨some 31, .build [.ints .u8 32 (List.replicate 32 0), .bool false] [(32, 1, (.t 30))], none, []⟩,
 ⟨some 9, .alloc [.ints .u8 32 (List.replicate 32 0), .bool false], none, []⟩,
 ⟨none, .store 33 (.t 9) (.t 31), none, []⟩])
 (.seq none
 (.draw [
 ⟨some 32, .load true 32 (.t 6), none, []⟩,
 ⟨some 33, .load true 32 (.t 3), none, []⟩,
 ⟨some 10, .alloc [.ints .u8 32 (List.replicate 32 0)], none, []⟩,
 ⟨some 11, .alloc [.ints .u8 32 (List.replicate 32 0)], none, []⟩,
 ⟨none, .store 32 (.t 10) (.t 32), none, [2, 0, 0, 2, 3]⟩,
 ⟨none, .store 32 (.t 11) (.t 33), none, [3, 1, 4, 0, 1, 2, 3, 4]⟩])
 (.seq none
 (.seq none
 (.reg [
 ⟨some 34, .faddr 32 (.t 9), none, []⟩,
 ⟨some 35, .load false 1 (.t 34), none, []⟩,
 ⟨some 36, .un .not (.t 35), none, []⟩])
 (.cond (.t 36)
 (.reg [
 ⟨some 37, .load true 32 (.t 11), none, []⟩,
 ⟨some 38, .load true 32 (.t 10), none, []⟩,
 ⟨none, .store 32 (.t 10) (.t 37), none, []⟩,
 ⟨none, .store 32 (.t 11) (.t 38), none, []⟩])
 .skip))
 (.seq none
 (.draw [
 ⟨some 39, .load true 32 (.t 7), none, []⟩,
 ⟨some 40, .slArr 32 0 (.t 10) none none none, none, []⟩,
 ⟨some 41, .slArr 32 0 (.t 11) none none none, none, []⟩,
 ⟨some 42, .bslice [.nils, .nils] 2 1 [(0, 1, (.t 40)), (1, 1, (.t 41))], none, [1, 2]⟩,
 ⟨some 43, .call 47 [(.t 39), (.c (.str ⟨#[112, 97, 105, 114]⟩)), (.t 42)], none, [0, 3]⟩,
 ⟨some 44, .faddr 0 (.t 9), none, [0, 1, 2, 3, 4]⟩,
 ⟨none, .store 32 (.t 44) (.t 43), none, [5, 4, 4, 0, 1, 2, 3, 4]⟩])
 (.seq none
 (.reg [
 ⟨some 45, .load true 33 (.t 9), none, []⟩,
 ⟨none, .store 33 (.t 4) (.t 45), none, []⟩,
 ⟨some 5, .mov (.c (.int .i64 0)), none, []⟩])
 .ret))))))))))⟩
def id_ratchet_Start : Nat := 31
def af_ratchet_Start : AFn := ⟨48, [.cell 8 true 164, .t 9],
 (.seq none
 (.reg [
 ⟨some 4, .box (.t 0), none, []⟩,
 ⟨some 5, .box (.t 1), none, []⟩,
 ⟨some 6, .box (.t 2), none, []⟩,
 ⟨some 7, .box (.t 3), none, []⟩,
 ⟨some 8, .alloc [.ints .u8 32 (List.replicate 32 0), .ints .u8 32 (List.replicate 32 0), .ints .u8 32 (List.replicate 32 0), .ints .u8 32 (List.replicate 32 0), .ints .u8 32 (List.replicate 32 0), .int .u32 0, .int .u32 0, .int .u32 0, .nils], none, []⟩,
 ⟨some 9, .mov (.c (.int .i64 0)), none, []⟩])
 (.seq none
 (.seq none
 (.reg [
 ⟨some 14, .load true 32 (.t 6), none, []⟩,
 ⟨some 15, .call 18 [(.t 14)], none, []⟩])
 (.cond (.t 15)
 (.seq none
 (.reg [
 ⟨some 16, .build [.ints .u8 32 (List.replicate 32 0), .ints .u8 32 (List.replicate 32 0), .ints .u8 32 (List.replicate 32 0), .ints .u8 32 (List.replicate 32 0), .ints .u8 32 (List.replicate 32 0), .int .u32 0, .int .u32 0, .int .u32 0, .nils] [], none, []⟩,
 ⟨none, .store 164 (.t 8) (.t 16), none, []⟩,
 ⟨some 9, .mov (.c (.int .i64 130)), none, []⟩])
 .ret)
 .skip))
 (.seq none
 (.reg [
 ⟨some 18, .faddr 0 (.t 4), none, []⟩,
 ⟨some 19, .load true 32 (.t 18), none, []⟩,
 ⟨some 20, .call 40 [(.t 19), (.c (.str ⟨#[114, 97, 116, 99, 104, 101, 116]⟩)), (.c (.nils))], none, []⟩,
 ⟨some 17, .mov (.t 20), none, []⟩,
 ⟨some 21, .ext (.t 17) 0, none, []⟩,
 ⟨some 22, .ext (.t 17) 1, none, []⟩,
 ⟨some 10, .alloc [.ints .u8 32 (List.replicate 32 0)], none, []⟩,
 ⟨some 11, .alloc [.ints .u8 32 (List.replicate 32 0)], none, []⟩,
 ⟨none, .store 32 (.t 10) (.t 21), none, []⟩,
 ⟨none, .store 32 (.t 11) (.t 22), none, []⟩])
 (.seq none
 (.reg [
 ⟨some 23, .faddr 0 (.t 4), none, []⟩,
 ⟨some 24, .load true 32 (.t 23), none, []⟩,
 ⟨some 25, .call 47 [(.t 24), (.c (.str ⟨#[115, 101, 99, 111, 110, 100]⟩)), (.c (.nils))], none, []⟩,
 ⟨some 12, .alloc [.ints .u8 32 (List.replicate 32 0)], none, []⟩,
 ⟨none, .store 32 (.t 12) (.t 25), none, []⟩])
 (.seq none
 (.seq none
 (.reg [
 ⟨some 26, .faddr 32 (.t 4), none, []⟩,
 ⟨some 27, .load false 1 (.t 26), none, []⟩,
 ⟨some 28, .un .not (.t 27), none, []⟩])
 (.cond (.t 28)
 (.seq none
 (.reg [
 ⟨some 29, .load true 32 (.t 10), none, []⟩,
 ⟨some 30, .load true 32 (.t 5), none, []⟩,
 ⟨some 31, .load true 32 (.t 6), none, []⟩,
 ⟨some 32, .load true 32 (.t 12), none, []⟩,
 ⟨some 33, .build [.ints .u8 32 (List.replicate 32 0), .ints .u8 32 (List.replicate 32 0), .ints .u8 32 (List.replicate 32 0), .ints .u8 32 (List.replicate 32 0), .ints .u8 32 (List.replicate 32 0), .int .u32 0, .int .u32 0, .int .u32 0, .nils] [(0, 32, (.t 29)), (32, 32, (.t 30)), (64, 32, (.t 31)), (96, 32, (.t 32))], none, []⟩,
 ⟨none, .store 164 (.t 8) (.t 33), none, []⟩,
 ⟨some 9, .mov (.c (.int .i64 0)), none, []⟩])
 .ret)
 .skip))
 (.seq none
 (.reg [
 ⟨some 34, .load true 32 (.t 7), none, []⟩,
 ⟨some 35, .load true 32 (.t 6), none, []⟩,
 ⟨some 36, .load true 32 (.t 12), none, []⟩,
 ⟨some 37, .build [.ints .u8 32 (List.replicate 32 0), .ints .u8 32 (List.replicate 32 0), .ints .u8 32 (List.replicate 32 0), .ints .u8 32 (List.replicate 32 0), .ints .u8 32 (List.replicate 32 0), .int .u32 0, .int .u32 0, .int .u32 0, .nils] [(32, 32, (.t 34)), (64, 32, (.t 35)), (128, 32, (.t 36))], none, []⟩,
 ⟨some 13, .alloc [.ints .u8 32 (List.replicate 32 0), .ints .u8 32 (List.replicate 32 0), .ints .u8 32 (List.replicate 32 0), .ints .u8 32 (List.replicate 32 0), .ints .u8 32 (List.replicate 32 0), .int .u32 0, .int .u32 0, .int .u32 0, .nils], none, []⟩,
 ⟨none, .store 164 (.t 13) (.t 37), none, []⟩])
 (.seq none
 (.reg [
 ⟨some 39, .load true 32 (.t 10), none, []⟩,
 ⟨some 40, .load true 32 (.t 7), none, []⟩,
 ⟨some 41, .load true 32 (.t 6), none, []⟩,
 ⟨some 42, .call 22 [(.t 39), (.t 40), (.t 41)], none, []⟩,
 ⟨some 38, .mov (.t 42), none, []⟩,
 ⟨some 43, .ext (.t 38) 0, none, []⟩,
 ⟨some 44, .ext (.t 38) 1, none, []⟩,
 ⟨some 45, .faddr 0 (.t 13), none, []⟩,
 ⟨none, .store 32 (.t 45) (.t 43), none, []⟩,
 ⟨some 46, .faddr 96 (.t 13), none, []⟩,
 ⟨none, .store 32 (.t 46) (.t 44), none, []⟩])
 (.seq none
 (.reg [
 ⟨some 47, .load true 164 (.t 13), none, []⟩,
 ⟨none, .store 164 (.t 8) (.t 47), none, []⟩,
 ⟨some 9, .mov (.c (.int .i64 0)), none, []⟩])
 .ret))))))))⟩
def id_octet_put : Nat := 32
def af_octet_put : AFn := ⟨21, [.t 6],
 (.seq none
 (.reg [
 ⟨some 6, .mov (.c (.nils)), none, []⟩])
 (.seq none
 (.reg [
 ⟨some 7, .mov (.t 0), none, []⟩,
 ⟨some 8, .call 48 [(.t 7)], none, []⟩,
 ⟨some 0, .mov (.t 8), none, []⟩])
 (.seq none
 (.seq none
 (.reg [
 ⟨some 9, .mov (.t 2), none, []⟩,
 ⟨some 10, .mov (.c (.int .i64 0)), none, []⟩])
 (.block 0 none
 (.loop 1000000 none
 (.seq none
 (.reg [
 ⟨some 11, .bin .lss (.t 10) (.t 9), none, []⟩])
 (.seq none
 (.cond (.t 11)
 .skip
 (.exit 0))
 (.seq none
 (.block 1 none
 (.seq none
 (.reg [
 ⟨some 12, .mov (.t 0), none, []⟩,
 ⟨some 13, .mov (.t 1), none, []⟩,
 ⟨some 14, .toInt .u8 (.t 13), none, []⟩,
 ⟨some 15, .bslice [.ints .u8 1 (List.replicate 1 0)] 1 0 [(0, 1, (.t 14))], none, []⟩,
 ⟨some 16, .appendI .u8 1 (.t 12) (.t 15), none, []⟩,
 ⟨some 0, .mov (.t 16), none, []⟩])
 (.reg [
 ⟨some 17, .mov (.t 1), none, []⟩,
 ⟨some 18, .bin .shr (.t 17) (.c (.int .u64 8)), none, []⟩,
 ⟨some 1, .mov (.t 18), none, []⟩])))
 (.reg [
 ⟨some 19, .bin .add (.t 10) (.c (.int .i64 1)), none, []⟩,
 ⟨some 10, .mov (.t 19), none, []⟩])))))))
 (.seq none
 (.reg [
 ⟨some 20, .mov (.t 0), none, []⟩,
 ⟨some 6, .mov (.t 20), none, []⟩])
 .ret))))⟩
def id_slices_IndexFunc_api_Skip : Nat := 33
def af_slices_IndexFunc_api_Skip : AFn := ⟨19, [.t 4],
 (.seq none
 (.reg [
 ⟨some 4, .mov (.c (.int .i64 0)), none, []⟩])
 (.seq none
 (.seq none
 (.reg [
 ⟨some 6, .mov (.t 0), none, []⟩,
 ⟨some 7, .len false (.t 6), none, []⟩,
 ⟨some 8, .mov (.c (.int .i64 0)), none, []⟩])
 (.block 0 none
 (.loop 1000000 none
 (.seq none
 (.reg [
 ⟨some 9, .bin .lss (.t 8) (.t 7), none, []⟩])
 (.seq none
 (.cond (.t 9)
 .skip
 (.exit 0))
 (.seq none
 (.block 1 none
 (.seq none
 (.reg [
 ⟨some 10, .mov (.t 8), none, []⟩,
 ⟨some 5, .mov (.t 10), none, []⟩])
 (.seq none
 (.reg [
 ⟨some 11, .mov (.t 1), none, []⟩,
 ⟨some 12, .mov (.t 0), none, []⟩,
 ⟨some 13, .mov (.t 5), none, []⟩,
 ⟨some 14, .iaddrS 65 (.t 12) (.t 13), none, []⟩,
 ⟨some 15, .load true 65 (.t 14), none, []⟩,
 ⟨some 16, .callV (.t 11) [(.t 15)], none, []⟩])
 (.cond (.t 16)
 (.seq none
 (.reg [
 ⟨some 17, .mov (.t 5), none, []⟩,
 ⟨some 4, .mov (.t 17), none, []⟩])
 .ret)
 .skip))))
 (.reg [
 ⟨some 18, .bin .add (.t 8) (.c (.int .i64 1)), none, []⟩,
 ⟨some 8, .mov (.t 18), none, []⟩])))))))
 (.seq none
 (.reg [
 ⟨some 4, .mov (.c (.int .i64 (-1))), none, []⟩])
 .ret)))⟩
def id_ratchet_find_1 : Nat := 34
def af_ratchet_find_1 : AFn := ⟨15, [.t 4],
 (.seq none
 (.reg [
 ⟨some 3, .box (.t 0), none, []⟩,
 ⟨some 4, .mov (.c (.bool false)), none, []⟩])
 (.seq none
 (.reg [
 ⟨some 5, .faddr 0 (.t 3), none, []⟩,
 ⟨some 6, .load true 32 (.t 5), none, []⟩,
 ⟨some 7, .load true 32 (.t 1), none, []⟩,
 ⟨some 8, .eqv false (.agg [true, true, true, true, true, true, true, true, true, true, true, true, true, true, true, true, true, true, true, true, true, true, true, true, true, true, true, true, true, true, true, true]) (.t 6) (.t 7), none, []⟩,
 ⟨some 9, .mov (.t 8), none, []⟩,
 ⟨some 10, .faddr 32 (.t 3), some (9, true), []⟩,
 ⟨some 11, .load false 1 (.t 10), some (9, true), []⟩,
 ⟨some 12, .load false 1 (.t 2), some (9, true), []⟩,
 ⟨some 13, .bin .eql (.t 11) (.t 12), some (9, true), []⟩,
 ⟨some 14, .pick (.t 9) (.t 13) (.c (.bool false)), none, []⟩,
 ⟨some 4, .mov (.t 14), none, []⟩])
 .ret))⟩
def id_aead_Open : Nat := 35
def af_aead_Open : AFn := ⟨36, [.t 8, .t 9],
 (.seq none
 (.reg [
 ⟨some 4, .box (.t 0), none, []⟩,
 ⟨some 5, .box (.t 1), none, []⟩,
 ⟨some 8, .mov (.c (.nils)), none, []⟩,
 ⟨some 9, .mov (.c (.int .i64 0)), none, []⟩])
 (.seq none
 (.reg [
 ⟨some 13, .mov (.t 3), none, []⟩,
 ⟨some 14, .len false (.t 13), none, []⟩,
 ⟨some 15, .bin .sub (.t 14) (.c (.int .i64 16)), none, []⟩,
 ⟨some 10, .mov (.t 15), none, []⟩])
 (.seq none
 (.seq none
 (.reg [
 ⟨some 16, .mov (.t 10), none, []⟩,
 ⟨some 17, .bin .lss (.t 16) (.c (.int .i64 0)), none, []⟩])
 (.cond (.t 17)
 (.seq none
 (.reg [
 ⟨some 8, .mov (.c (.nils)), none, []⟩,
 ⟨some 9, .mov (.c (.int .i64 180)), none, []⟩])
 .ret)
 .skip))
 (.seq none
 (.reg [
 ⟨some 18, .mov (.t 3), none, []⟩,
 ⟨some 19, .mov (.t 10), none, []⟩,
 ⟨some 20, .slSlice 1 (.t 18) none (some (.t 19)) none, none, []⟩,
 ⟨some 11, .mov (.t 20), none, []⟩])
 (.seq none
 (.seq none
 (.reg [
 ⟨some 21, .load true 32 (.t 4), none, []⟩,
 ⟨some 22, .load true 12 (.t 5), none, []⟩,
 ⟨some 23, .mov (.t 2), none, []⟩,
 ⟨some 24, .mov (.t 11), none, []⟩,
 ⟨some 25, .call 43 [(.t 21), (.t 22), (.t 23), (.t 24)], none, []⟩,
 ⟨some 12, .alloc [.ints .u8 16 (List.replicate 16 0)], none, []⟩,
 ⟨none, .store 16 (.t 12) (.t 25), none, []⟩])
 (.seq none
 (.draw [
 ⟨some 26, .slArr 16 0 (.t 12) none none none, none, []⟩,
 ⟨some 27, .mov (.t 3), none, []⟩,
 ⟨some 28, .mov (.t 10), none, []⟩,
 ⟨some 29, .slSlice 1 (.t 27) (some (.t 28)) none none, none, [1, 2]⟩,
 ⟨some 30, .call 8 [(.t 26), (.t 29)], none, [0, 3]⟩,
 ⟨some 31, .un .not (.t 30), none, [4]⟩])
 (.cond (.t 31)
 (.seq none
 (.reg [
 ⟨some 8, .mov (.c (.nils)), none, []⟩,
 ⟨some 9, .mov (.c (.int .i64 180)), none, []⟩])
 .ret)
 .skip)))
 (.seq none
 (.reg [
 ⟨some 32, .load true 32 (.t 4), none, []⟩,
 ⟨some 33, .load true 12 (.t 5), none, []⟩,
 ⟨some 34, .mov (.t 11), none, []⟩,
 ⟨some 35, .call 42 [(.t 32), (.c (.int .u32 1)), (.t 33), (.t 34)], none, []⟩,
 ⟨some 8, .mov (.t 35), none, []⟩,
 ⟨some 9, .mov (.c (.int .i64 0)), none, []⟩])
 .ret))))))⟩
def id_ratchet_read : Nat := 36
def af_ratchet_read : AFn := ⟨28, [.t 2, .t 3],
 (.seq none
 (.reg [
 ⟨some 2, .mov (.c (.str ⟨#[]⟩)), none, []⟩,
 ⟨some 3, .mov (.c (.bool false)), none, []⟩])
 (.seq none
 (.reg [
 ⟨some 5, .mov (.t 0), none, []⟩,
 ⟨some 6, .iaddrS 1 (.t 5) (.c (.int .i64 0)), none, []⟩,
 ⟨some 7, .load false 1 (.t 6), none, []⟩,
 ⟨some 8, .toInt .i64 (.t 7), none, []⟩,
 ⟨some 4, .mov (.t 8), none, []⟩])
 (.seq none
 (.seq none
 (.reg [
 ⟨some 9, .mov (.t 4), none, []⟩,
 ⟨some 10, .bin .lss (.t 9) (.c (.int .i64 1)), none, []⟩,
 ⟨some 11, .mov (.t 10), none, []⟩,
 ⟨some 12, .mov (.t 4), some (11, false), []⟩,
 ⟨some 13, .bin .gtr (.t 12) (.c (.int .i64 48)), some (11, false), []⟩,
 ⟨some 14, .pick (.t 11) (.c (.bool true)) (.t 13), none, []⟩,
 ⟨some 15, .mov (.t 14), none, []⟩,
 ⟨some 16, .mov (.t 0), some (15, false), []⟩,
 ⟨some 17, .mov (.t 4), some (15, false), []⟩,
 ⟨some 18, .bin .add (.c (.int .i64 1)) (.t 17), some (15, false), []⟩,
 ⟨some 19, .slSlice 1 (.t 16) (some (.t 18)) none none, some (15, false), []⟩,
 ⟨some 20, .call 49 [(.t 19)], some (15, false), []⟩,
 ⟨some 21, .un .not (.t 20), some (15, false), []⟩,
 ⟨some 22, .pick (.t 15) (.c (.bool true)) (.t 21), none, []⟩])
 (.cond (.t 22)
 (.seq none
 (.reg [
 ⟨some 2, .mov (.c (.str ⟨#[]⟩)), none, []⟩,
 ⟨some 3, .mov (.c (.bool false)), none, []⟩])
 .ret)
 .skip))
 (.seq none
 (.reg [
 ⟨some 23, .mov (.t 0), none, []⟩,
 ⟨some 24, .mov (.t 4), none, []⟩,
 ⟨some 25, .bin .add (.c (.int .i64 1)) (.t 24), none, []⟩,
 ⟨some 26, .slSlice 1 (.t 23) (some (.c (.int .i64 1))) (some (.t 25)) none, none, []⟩,
 ⟨some 27, .b2s (.t 26), none, []⟩,
 ⟨some 2, .mov (.t 27), none, []⟩,
 ⟨some 3, .mov (.c (.bool true)), none, []⟩])
 .ret))))⟩
def id_field_From : Nat := 37
def af_field_From : AFn := ⟨41, [.cell 2 true 5],
 (.seq none
 (.reg [
 ⟨some 1, .box (.t 0), none, []⟩,
 ⟨some 2, .alloc [.ints .u64 5 (List.replicate 5 0)], none, []⟩])
 (.seq none
 (.draw [
 ⟨some 7, .slArr 32 0 (.t 1) none none none, none, []⟩,
 ⟨some 8, .call 50 [(.t 7)], none, [0]⟩,
 ⟨some 9, .slArr 32 0 (.t 1) (some (.c (.int .i64 8))) none none, none, []⟩,
 ⟨some 10, .call 50 [(.t 9)], none, [2, 1]⟩,
 ⟨some 11, .slArr 32 0 (.t 1) (some (.c (.int .i64 16))) none none, none, []⟩,
 ⟨some 12, .call 50 [(.t 11)], none, [4, 3]⟩,
 ⟨some 13, .slArr 32 0 (.t 1) (some (.c (.int .i64 24))) none none, none, []⟩,
 ⟨some 14, .call 50 [(.t 13)], none, [6, 5]⟩,
 ⟨some 3, .mov (.t 8), none, [1, 7, 0, 1]⟩,
 ⟨some 4, .mov (.t 10), none, [3, 8, 0, 1, 2, 3, 8]⟩,
 ⟨some 5, .mov (.t 12), none, [5, 9, 0, 1, 2, 3, 4, 5, 8, 9]⟩,
 ⟨some 6, .mov (.t 14), none, [7, 10, 0, 1, 2, 3, 4, 5, 6, 7, 8, 9, 10]⟩])
 (.seq none
 (.reg [
 ⟨some 15, .mov (.t 6), none, []⟩,
 ⟨some 16, .bin .and (.t 15) (.c (.int .u64 9223372036854775807)), none, []⟩,
 ⟨some 6, .mov (.t 16), none, []⟩])
 (.seq none
 (.reg [
 ⟨some 17, .mov (.t 3), none, []⟩,
 ⟨some 18, .bin .and (.t 17) (.c (.int .u64 2251799813685247)), none, []⟩,
 ⟨some 19, .mov (.t 3), none, []⟩,
 ⟨some 20, .bin .shr (.t 19) (.c (.int .u64 51)), none, []⟩,
 ⟨some 21, .mov (.t 4), none, []⟩,
 ⟨some 22, .bin .shl (.t 21) (.c (.int .u64 13)), none, []⟩,
 ⟨some 23, .bin .or (.t 20) (.t 22), none, []⟩,
 ⟨some 24, .bin .and (.t 23) (.c (.int .u64 2251799813685247)), none, []⟩,
 ⟨some 25, .mov (.t 4), none, []⟩,
 ⟨some 26, .bin .shr (.t 25) (.c (.int .u64 38)), none, []⟩,
 ⟨some 27, .mov (.t 5), none, []⟩,
 ⟨some 28, .bin .shl (.t 27) (.c (.int .u64 26)), none, []⟩,
 ⟨some 29, .bin .or (.t 26) (.t 28), none, []⟩,
 ⟨some 30, .bin .and (.t 29) (.c (.int .u64 2251799813685247)), none, []⟩,
 ⟨some 31, .mov (.t 5), none, []⟩,
 ⟨some 32, .bin .shr (.t 31) (.c (.int .u64 25)), none, []⟩,
 ⟨some 33, .mov (.t 6), none, []⟩,
 ⟨some 34, .bin .shl (.t 33) (.c (.int .u64 39)), none, []⟩,
 ⟨some 35, .bin .or (.t 32) (.t 34), none, []⟩,
 ⟨some 36, .bin .and (.t 35) (.c (.int .u64 2251799813685247)), none, []⟩,
 ⟨some 37, .mov (.t 6), none, []⟩,
 ⟨some 38, .bin .shr (.t 37) (.c (.int .u64 12)), none, []⟩,
 ⟨some 39, .build [.ints .u64 5 (List.replicate 5 0)] [(0, 1, (.t 18)), (1, 1, (.t 24)), (2, 1, (.t 30)), (3, 1, (.t 36)), (4, 1, (.t 38))], none, []⟩,
 ⟨some 40, .build [.ints .u64 5 (List.replicate 5 0)] [(0, 5, (.t 39))], none, []⟩,
 ⟨none, .store 5 (.t 2) (.t 40), none, []⟩])
 .ret))))⟩
def id_field_Elem_Same : Nat := 38
def af_field_Elem_Same : AFn := ⟨10, [.t 4],
 (.seq none
 (.reg [
 ⟨some 2, .box (.t 0), none, []⟩,
 ⟨some 3, .box (.t 1), none, []⟩,
 ⟨some 4, .mov (.c (.bool false)), none, []⟩])
 (.seq none
 (.draw [
 ⟨some 5, .load true 5 (.t 2), none, []⟩,
 ⟨some 6, .call 51 [(.t 5)], none, [0]⟩,
 ⟨some 7, .load true 5 (.t 3), none, []⟩,
 ⟨some 8, .call 51 [(.t 7)], none, [2, 1]⟩,
 ⟨some 9, .eqv false (.agg [true, true, true, true, true, true, true, true, true, true, true, true, true, true, true, true, true, true, true, true, true, true, true, true, true, true, true, true, true, true, true, true]) (.t 6) (.t 8), none, [1, 3]⟩,
 ⟨some 4, .mov (.t 9), none, [4, 3, 0, 1, 2, 3, 4]⟩])
 .ret))⟩
def id_curve_X : Nat := 39
def af_curve_X : AFn := ⟨52, [.cell 4 true 32],
 (.seq none
 (.reg [
 ⟨some 2, .box (.t 0), none, []⟩,
 ⟨some 3, .box (.t 1), none, []⟩,
 ⟨some 4, .alloc [.ints .u8 32 (List.replicate 32 0)], none, []⟩])
 (.jumps 1000000 0 none
 (.seq none
 (.reg [
 ⟨some 9, .load true 32 (.t 2), none, []⟩,
 ⟨some 10, .call 52 [(.t 9)], none, []⟩,
 ⟨none, .store 32 (.t 2) (.t 10), none, []⟩])
 (.seq none
 (.reg [
 ⟨some 11, .load true 32 (.t 3), none, []⟩,
 ⟨some 12, .call 37 [(.t 11)], none, []⟩,
 ⟨some 5, .alloc [.ints .u64 5 (List.replicate 5 0)], none, []⟩,
 ⟨none, .store 5 (.t 5) (.t 12), none, []⟩])
 (.seq none
 (.draw [
 ⟨some 13, .call 53 [(.c (.int .u64 1))], none, []⟩,
 ⟨some 14, .call 53 [(.c (.int .u64 0))], none, [0]⟩,
 ⟨some 15, .load true 5 (.t 5), none, []⟩,
 ⟨some 16, .call 53 [(.c (.int .u64 1))], none, [1]⟩,
 ⟨some 17, .build [.ints .u64 5 (List.replicate 5 0), .ints .u64 5 (List.replicate 5 0), .ints .u64 5 (List.replicate 5 0), .ints .u64 5 (List.replicate 5 0)] [(0, 5, (.t 13)), (5, 5, (.t 14)), (10, 5, (.t 15)), (15, 5, (.t 16))], none, [0, 1, 2, 3]⟩,
 ⟨some 18, .box (.t 17), none, [4]⟩,
 ⟨some 6, .mov (.t 18), none, [5, 3, 0, 1, 2, 3, 4, 5]⟩])
 (.seq none
 (.reg [
 ⟨some 7, .mov (.c (.int .i64 254)), none, []⟩])
 (.seq none
 (.label 0)
 (.seq none
 (.reg [
 ⟨some 19, .mov (.t 7), none, []⟩,
 ⟨some 20, .bin .quo (.t 19) (.c (.int .i64 8)), none, []⟩,
 ⟨some 21, .iaddrA 32 0 (.t 2) (.t 20), none, []⟩,
 ⟨some 22, .load false 1 (.t 21), none, []⟩,
 ⟨some 23, .mov (.t 7), none, []⟩,
 ⟨some 24, .bin .rem (.t 23) (.c (.int .i64 8)), none, []⟩,
 ⟨some 25, .bin .shr (.t 22) (.t 24), none, []⟩,
 ⟨some 26, .bin .and (.t 25) (.c (.int .u8 1)), none, []⟩,
 ⟨some 27, .toInt .i64 (.t 26), none, []⟩,
 ⟨some 8, .mov (.t 27), none, []⟩])
 (.seq none
 (.reg [
 ⟨some 28, .mov (.t 6), none, []⟩,
 ⟨some 29, .mov (.t 8), none, []⟩,
 ⟨some 30, .call 54 [(.t 28), (.t 29)], none, []⟩])
 (.seq none
 (.reg [
 ⟨some 31, .mov (.t 6), none, []⟩,
 ⟨some 32, .load true 5 (.t 5), none, []⟩,
 ⟨some 33, .call 55 [(.t 31), (.t 32)], none, []⟩])
 (.seq none
 (.reg [
 ⟨some 34, .mov (.t 6), none, []⟩,
 ⟨some 35, .mov (.t 8), none, []⟩,
 ⟨some 36, .call 54 [(.t 34), (.t 35)], none, []⟩])
 (.seq none
 (.seq none
 (.reg [
 ⟨some 37, .mov (.t 7), none, []⟩,
 ⟨some 38, .bin .sub (.t 37) (.c (.int .i64 1)), none, []⟩,
 ⟨some 7, .mov (.t 38), none, []⟩])
 (.seq none
 (.reg [
 ⟨some 39, .mov (.t 7), none, []⟩,
 ⟨some 40, .bin .geq (.t 39) (.c (.int .i64 0)), none, []⟩])
 (.cond (.t 40)
 (.goto 0)
 .skip)))
 (.seq none
 (.draw [
 ⟨some 41, .mov (.t 6), none, []⟩,
 ⟨some 42, .nilChk (.t 41), none, [0]⟩,
 ⟨some 43, .faddr 0 (.t 42), none, [1]⟩,
 ⟨some 44, .load true 5 (.t 43), none, [2]⟩,
 ⟨some 45, .mov (.t 6), none, []⟩,
 ⟨some 46, .nilChk (.t 45), none, [4]⟩,
 ⟨some 47, .faddr 5 (.t 46), none, [5]⟩,
 ⟨some 48, .load true 5 (.t 47), none, [6]⟩,
 ⟨some 49, .call 57 [(.t 48)], none, [7]⟩,
 ⟨some 50, .call 56 [(.t 44), (.t 49)], none, [3, 8, 8]⟩,
 ⟨some 51, .call 51 [(.t 50)], none, [9, 9]⟩,
 ⟨none, .store 32 (.t 4) (.t 51), none, [10, 10, 0, 1, 2, 3, 4, 5, 6, 7, 8, 9, 10]⟩])
 .ret)))))))))))
 (.seq none
 .skip
 (.seq none
 (.reg [
 ⟨some 19, .mov (.t 7), none, []⟩,
 ⟨some 20, .bin .quo (.t 19) (.c (.int .i64 8)), none, []⟩,
 ⟨some 21, .iaddrA 32 0 (.t 2) (.t 20), none, []⟩,
 ⟨some 22, .load false 1 (.t 21), none, []⟩,
 ⟨some 23, .mov (.t 7), none, []⟩,
 ⟨some 24, .bin .rem (.t 23) (.c (.int .i64 8)), none, []⟩,
 ⟨some 25, .bin .shr (.t 22) (.t 24), none, []⟩,
 ⟨some 26, .bin .and (.t 25) (.c (.int .u8 1)), none, []⟩,
 ⟨some 27, .toInt .i64 (.t 26), none, []⟩,
 ⟨some 8, .mov (.t 27), none, []⟩])
 (.seq none
 (.reg [
 ⟨some 28, .mov (.t 6), none, []⟩,
 ⟨some 29, .mov (.t 8), none, []⟩,
 ⟨some 30, .call 54 [(.t 28), (.t 29)], none, []⟩])
 (.seq none
 (.reg [
 ⟨some 31, .mov (.t 6), none, []⟩,
 ⟨some 32, .load true 5 (.t 5), none, []⟩,
 ⟨some 33, .call 55 [(.t 31), (.t 32)], none, []⟩])
 (.seq none
 (.reg [
 ⟨some 34, .mov (.t 6), none, []⟩,
 ⟨some 35, .mov (.t 8), none, []⟩,
 ⟨some 36, .call 54 [(.t 34), (.t 35)], none, []⟩])
 (.seq none
 (.seq none
 (.reg [
 ⟨some 37, .mov (.t 7), none, []⟩,
 ⟨some 38, .bin .sub (.t 37) (.c (.int .i64 1)), none, []⟩,
 ⟨some 7, .mov (.t 38), none, []⟩])
 (.seq none
 (.reg [
 ⟨some 39, .mov (.t 7), none, []⟩,
 ⟨some 40, .bin .geq (.t 39) (.c (.int .i64 0)), none, []⟩])
 (.cond (.t 40)
 (.goto 0)
 .skip)))
 (.seq none
 (.draw [
 ⟨some 41, .mov (.t 6), none, []⟩,
 ⟨some 42, .nilChk (.t 41), none, [0]⟩,
 ⟨some 43, .faddr 0 (.t 42), none, [1]⟩,
 ⟨some 44, .load true 5 (.t 43), none, [2]⟩,
 ⟨some 45, .mov (.t 6), none, []⟩,
 ⟨some 46, .nilChk (.t 45), none, [4]⟩,
 ⟨some 47, .faddr 5 (.t 46), none, [5]⟩,
 ⟨some 48, .load true 5 (.t 47), none, [6]⟩,
 ⟨some 49, .call 57 [(.t 48)], none, [7]⟩,
 ⟨some 50, .call 56 [(.t 44), (.t 49)], none, [3, 8, 8]⟩,
 ⟨some 51, .call 51 [(.t 50)], none, [9, 9]⟩,
 ⟨none, .store 32 (.t 4) (.t 51), none, [10, 10, 0, 1, 2, 3, 4, 5, 6, 7, 8, 9, 10]⟩])
 .ret)))))))))⟩
def id_kdf_Two : Nat := 40
def af_kdf_Two : AFn := ⟨26, [.cell 6 true 32, .cell 7 true 32],
 (.seq none
 (.reg [
 ⟨some 3, .box (.t 0), none, []⟩,
 ⟨some 6, .alloc [.ints .u8 32 (List.replicate 32 0)], none, []⟩,
 ⟨some 7, .alloc [.ints .u8 32 (List.replicate 32 0)], none, []⟩])
 (.seq none
 (.draw [
 ⟨some 11, .load true 32 (.t 3), none, []⟩,
 ⟨some 12, .mov (.t 1), none, []⟩,
 ⟨some 13, .mov (.t 2), none, []⟩,
 ⟨some 14, .call 59 [(.t 12), (.t 13)], none, [1, 2]⟩,
 ⟨some 15, .call 58 [(.t 11), (.t 14), (.c (.int .i64 64))], none, [0, 3, 3]⟩,
 ⟨some 10, .mov (.t 15), none, [4]⟩,
 ⟨some 16, .ext (.t 10) 0, none, [5]⟩,
 ⟨some 17, .ext (.t 10) 1, none, [5]⟩,
 ⟨some 8, .mov (.t 16), none, [6, 4, 0, 1, 2, 3, 4, 5, 6]⟩,
 ⟨some 9, .mov (.t 17), none, [7, 8, 0, 1, 2, 3, 4, 5, 6, 7, 8]⟩])
 (.seq none
 (.draw [
 ⟨some 18, .mov (.t 8), none, []⟩,
 ⟨some 19, .slSlice 1 (.t 18) none (some (.c (.int .i64 32))) none, none, [0]⟩,
 ⟨some 20, .arrPtr 32 (.t 19), none, [1]⟩,
 ⟨some 21, .load true 32 (.t 20), none, [2]⟩,
 ⟨some 22, .mov (.t 8), none, []⟩,
 ⟨some 23, .slSlice 1 (.t 22) (some (.c (.int .i64 32))) none none, none, [4]⟩,
 ⟨some 24, .arrPtr 32 (.t 23), none, [5]⟩,
 ⟨some 25, .load true 32 (.t 24), none, [6]⟩,
 ⟨none, .store 32 (.t 6) (.t 21), none, [3, 0, 1, 2, 3]⟩,
 ⟨none, .store 32 (.t 7) (.t 25), none, [7, 8, 0, 1, 2, 3, 4, 5, 6, 7, 8]⟩])
 .ret)))⟩
def id_kdf_Hmac : Nat := 41
def af_kdf_Hmac : AFn := ⟨48, [.cell 4 true 32],
 (.seq none
 (.reg [
 ⟨some 4, .alloc [.ints .u8 32 (List.replicate 32 0)], none, []⟩])
 (.seq none
 (.reg [
 ⟨some 14, .mksliceI .u8 1 (.c (.int .i64 64)) (.c (.int .i64 64)), none, []⟩,
 ⟨some 5, .alloc [.nils], none, []⟩,
 ⟨none, .store 1 (.t 5) (.t 14), none, []⟩])
 (.seq none
 (.seq none
 (.reg [
 ⟨some 15, .mov (.t 0), none, []⟩,
 ⟨some 16, .len false (.t 15), none, []⟩,
 ⟨some 17, .bin .gtr (.t 16) (.c (.int .i64 64)), none, []⟩])
 (.cond (.t 17)
 (.seq none
 (.reg [
 ⟨some 18, .mov (.t 0), none, []⟩,
 ⟨some 19, .call 60 [(.t 18)], none, []⟩,
 ⟨some 6, .alloc [.ints .u8 32 (List.replicate 32 0)], none, []⟩,
 ⟨none, .store 32 (.t 6) (.t 19), none, []⟩])
 (.reg [
 ⟨some 20, .slArr 32 0 (.t 6) none none none, none, []⟩,
 ⟨some 0, .mov (.t 20), none, []⟩]))
 .skip))
 (.seq none
 (.reg [
 ⟨some 21, .load false 1 (.t 5), none, []⟩,
 ⟨some 22, .mov (.t 0), none, []⟩,
 ⟨some 23, .copyI (.t 21) (.t 22), none, []⟩])
 (.seq none
 (.reg [
 ⟨some 24, .mkf 61 [] [(.t 5)], none, []⟩,
 ⟨some 7, .mov (.t 24), none, []⟩])
 (.seq none
 (.reg [
 ⟨some 25, .mov (.t 7), none, []⟩,
 ⟨some 26, .callV (.t 25) [(.c (.int .u8 54))], none, []⟩,
 ⟨some 27, .mov (.t 7), none, []⟩,
 ⟨some 28, .callV (.t 27) [(.c (.int .u8 92))], none, []⟩,
 ⟨some 8, .mov (.t 26), none, []⟩,
 ⟨some 9, .mov (.t 28), none, []⟩])
 (.seq none
 (.reg [
 ⟨some 29, .mov (.t 8), none, []⟩,
 ⟨some 30, .mkf 63 [(.t 29)] [], none, []⟩,
 ⟨some 10, .mov (.t 30), none, []⟩])
 (.seq none
 (.seq none
 (.reg [
 ⟨some 31, .mov (.t 1), none, []⟩,
 ⟨some 32, .len false (.t 31), none, []⟩,
 ⟨some 33, .mov (.c (.int .i64 0)), none, []⟩])
 (.block 0 none
 (.loop 1000000 none
 (.seq none
 (.reg [
 ⟨some 34, .bin .lss (.t 33) (.t 32), none, []⟩])
 (.seq none
 (.cond (.t 34)
 .skip
 (.exit 0))
 (.seq none
 (.block 1 none
 (.seq none
 (.reg [
 ⟨some 35, .iaddrS 1 (.t 31) (.t 33), none, []⟩,
 ⟨some 36, .load false 1 (.t 35), none, []⟩,
 ⟨some 12, .mov (.t 36), none, []⟩])
 (.reg [
 ⟨some 37, .mov (.t 10), none, []⟩,
 ⟨some 38, .mov (.t 12), none, []⟩,
 ⟨some 39, .callV (.t 37) [(.t 38)], none, []⟩])))
 (.reg [
 ⟨some 40, .bin .add (.t 33) (.c (.int .i64 1)), none, []⟩,
 ⟨some 33, .mov (.t 40), none, []⟩])))))))
 (.seq none
 (.reg [
 ⟨some 41, .mov (.t 8), none, []⟩,
 ⟨some 42, .call 64 [(.t 41)], none, []⟩,
 ⟨some 13, .alloc [.ints .u8 32 (List.replicate 32 0)], none, []⟩,
 ⟨none, .store 32 (.t 13) (.t 42), none, []⟩])
 (.seq none
 (.reg [
 ⟨some 43, .mov (.t 9), none, []⟩,
 ⟨some 44, .slArr 32 0 (.t 13) none none none, none, []⟩,
 ⟨some 45, .call 63 [(.t 43), (.t 44)], none, []⟩])
 (.seq none
 (.reg [
 ⟨some 46, .mov (.t 9), none, []⟩,
 ⟨some 47, .call 64 [(.t 46)], none, []⟩,
 ⟨none, .store 32 (.t 4) (.t 47), none, []⟩])
 .ret)))))))))))⟩
def id_chacha_Xor : Nat := 42
def af_chacha_Xor : AFn := ⟨55, [.t 8],
 (.seq none
 (.reg [
 ⟨some 4, .box (.t 0), none, []⟩,
 ⟨some 6, .box (.t 2), none, []⟩,
 ⟨some 8, .mov (.c (.nils)), none, []⟩])
 (.seq none
 (.reg [
 ⟨some 14, .mov (.t 3), none, []⟩,
 ⟨some 15, .len false (.t 14), none, []⟩,
 ⟨some 16, .mksliceI .u8 1 (.t 15) (.t 15), none, []⟩,
 ⟨some 9, .mov (.t 16), none, []⟩])
 (.seq none
 (.seq none
 (.reg [
 ⟨some 17, .mov (.t 1), none, []⟩,
 ⟨some 10, .mov (.c (.int .i64 0)), none, []⟩,
 ⟨some 11, .mov (.t 17), none, []⟩])
 (.block 0 none
 (.loop 1000000 none
 (.seq none
 (.seq none
 (.reg [
 ⟨some 18, .mov (.t 10), none, []⟩,
 ⟨some 19, .mov (.t 3), none, []⟩,
 ⟨some 20, .len false (.t 19), none, []⟩,
 ⟨some 21, .bin .lss (.t 18) (.t 20), none, []⟩])
 (.cond (.t 21)
 .skip
 (.exit 0)))
 (.seq none
 (.block 1 none
 (.seq none
 (.reg [
 ⟨some 26, .load true 32 (.t 4), none, []⟩,
 ⟨some 27, .mov (.t 11), none, []⟩,
 ⟨some 28, .load true 12 (.t 6), none, []⟩,
 ⟨some 29, .call 65 [(.t 26), (.t 27), (.t 28)], none, []⟩,
 ⟨some 12, .alloc [.ints .u8 64 (List.replicate 64 0)], none, []⟩,
 ⟨none, .store 64 (.t 12) (.t 29), none, []⟩])
 (.seq none
 (.reg [
 ⟨some 30, .mov (.t 3), none, []⟩,
 ⟨some 31, .len false (.t 30), none, []⟩,
 ⟨some 32, .mov (.t 10), none, []⟩,
 ⟨some 33, .bin .sub (.t 31) (.t 32), none, []⟩,
 ⟨some 34, .minI (.c (.int .i64 64)) (.t 33), none, []⟩,
 ⟨some 35, .mov (.c (.int .i64 0)), none, []⟩])
 (.block 2 none
 (.loop 1000000 none
 (.seq none
 (.reg [
 ⟨some 36, .bin .lss (.t 35) (.t 34), none, []⟩])
 (.seq none
 (.cond (.t 36)
 .skip
 (.exit 2))
 (.seq none
 (.block 3 none
 (.seq none
 (.reg [
 ⟨some 37, .mov (.t 35), none, []⟩,
 ⟨some 13, .mov (.t 37), none, []⟩])
 (.draw [
 ⟨some 38, .mov (.t 9), none, []⟩,
 ⟨some 39, .mov (.t 10), none, []⟩,
 ⟨some 40, .mov (.t 13), none, []⟩,
 ⟨some 41, .bin .add (.t 39) (.t 40), none, [1, 2]⟩,
 ⟨some 42, .mov (.t 3), none, []⟩,
 ⟨some 43, .mov (.t 10), none, []⟩,
 ⟨some 44, .mov (.t 13), none, []⟩,
 ⟨some 45, .bin .add (.t 43) (.t 44), none, [5, 6]⟩,
 ⟨some 46, .iaddrS 1 (.t 42) (.t 45), none, [4, 7]⟩,
 ⟨some 47, .load false 1 (.t 46), none, [8]⟩,
 ⟨some 48, .mov (.t 13), none, []⟩,
 ⟨some 49, .iaddrA 64 0 (.t 12) (.t 48), none, [10]⟩,
 ⟨some 50, .load false 1 (.t 49), none, [11]⟩,
 ⟨some 51, .bin .xor (.t 47) (.t 50), none, [9, 12]⟩,
 ⟨some 52, .iaddrS 1 (.t 38) (.t 41), none, [0, 3, 0, 1, 2, 3, 4, 5, 6, 7, 8, 9, 10, 11, 12, 13]⟩,
 ⟨none, .store 1 (.t 52) (.t 51), none, [14, 13, 0, 1, 2, 3, 4, 5, 6, 7, 8, 9, 10, 11, 12, 13]⟩])))
 (.reg [
 ⟨some 53, .bin .add (.t 35) (.c (.int .i64 1)), none, []⟩,
 ⟨some 35, .mov (.t 53), none, []⟩])))))))))
 (.reg [
 ⟨some 22, .mov (.t 10), none, []⟩,
 ⟨some 23, .bin .add (.t 22) (.c (.int .i64 64)), none, []⟩,
 ⟨some 24, .mov (.t 11), none, []⟩,
 ⟨some 25, .bin .add (.t 24) (.c (.int .u32 1)), none, []⟩,
 ⟨some 10, .mov (.t 23), none, []⟩,
 ⟨some 11, .mov (.t 25), none, []⟩]))))))
 (.seq none
 (.reg [
 ⟨some 54, .mov (.t 9), none, []⟩,
 ⟨some 8, .mov (.t 54), none, []⟩])
 .ret))))⟩
def id_aead_Tag : Nat := 43
def af_aead_Tag : AFn := ⟨39, [.cell 8 true 16],
 (.seq none
 (.reg [
 ⟨some 4, .box (.t 0), none, []⟩,
 ⟨some 5, .box (.t 1), none, []⟩,
 ⟨some 8, .alloc [.ints .u8 16 (List.replicate 16 0)], none, []⟩])
 (.seq none
 (.reg [
 ⟨some 13, .load true 32 (.t 4), none, []⟩,
 ⟨some 14, .load true 12 (.t 5), none, []⟩,
 ⟨some 15, .call 65 [(.t 13), (.c (.int .u32 0)), (.t 14)], none, []⟩,
 ⟨some 9, .alloc [.ints .u8 64 (List.replicate 64 0)], none, []⟩,
 ⟨none, .store 64 (.t 9) (.t 15), none, []⟩])
 (.seq none
 (.reg [
 ⟨some 16, .slArr 64 0 (.t 9) none (some (.c (.int .i64 32))) none, none, []⟩,
 ⟨some 17, .arrPtr 32 (.t 16), none, []⟩,
 ⟨some 18, .load true 32 (.t 17), none, []⟩,
 ⟨some 19, .call 66 [(.t 18)], none, []⟩,
 ⟨some 10, .alloc [.nilp], none, []⟩,
 ⟨none, .store 1 (.t 10) (.t 19), none, []⟩])
 (.seq none
 (.reg [
 ⟨some 11, .alloc [.ints .u8 16 (List.replicate 16 0)], none, []⟩])
 (.seq none
 (.reg [
 ⟨some 20, .mkf 67 [] [(.t 10), (.t 11)], none, []⟩,
 ⟨some 12, .mov (.t 20), none, []⟩])
 (.seq none
 (.reg [
 ⟨some 21, .mov (.t 12), none, []⟩,
 ⟨some 22, .mov (.t 2), none, []⟩,
 ⟨some 23, .callV (.t 21) [(.t 22)], none, []⟩])
 (.seq none
 (.reg [
 ⟨some 24, .mov (.t 12), none, []⟩,
 ⟨some 25, .mov (.t 3), none, []⟩,
 ⟨some 26, .callV (.t 24) [(.t 25)], none, []⟩])
 (.seq none
 (.draw [
 ⟨some 27, .load false 1 (.t 10), none, []⟩,
 ⟨some 28, .mov (.t 2), none, []⟩,
 ⟨some 29, .len false (.t 28), none, [1]⟩,
 ⟨some 30, .toInt .u64 (.t 29), none, [2]⟩,
 ⟨some 31, .call 44 [(.c (.nils)), (.t 30)], none, [3]⟩,
 ⟨some 32, .mov (.t 3), none, []⟩,
 ⟨some 33, .len false (.t 32), none, [5]⟩,
 ⟨some 34, .toInt .u64 (.t 33), none, [6]⟩,
 ⟨some 35, .call 44 [(.t 31), (.t 34)], none, [4, 7, 4]⟩,
 ⟨some 36, .call 68 [(.t 27), (.t 35)], none, [0, 8, 8]⟩])
 (.seq none
 (.reg [
 ⟨some 37, .load false 1 (.t 10), none, []⟩,
 ⟨some 38, .call 69 [(.t 37)], none, []⟩,
 ⟨none, .store 16 (.t 8) (.t 38), none, []⟩])
 .ret)))))))))⟩
def id_octet_Put64 : Nat := 44
def af_octet_Put64 : AFn := ⟨8, [.t 4],
 (.seq none
 (.reg [
 ⟨some 4, .mov (.c (.nils)), none, []⟩])
 (.seq none
 (.reg [
 ⟨some 5, .mov (.t 0), none, []⟩,
 ⟨some 6, .mov (.t 1), none, []⟩,
 ⟨some 7, .call 32 [(.t 5), (.t 6), (.c (.int .i64 8))], none, []⟩,
 ⟨some 4, .mov (.t 7), none, []⟩])
 .ret))⟩
def id_curve_Agree : Nat := 45
def af_curve_Agree : AFn := ⟨14, [.cell 4 true 32, .t 5],
 (.seq none
 (.reg [
 ⟨some 2, .box (.t 0), none, []⟩,
 ⟨some 3, .box (.t 1), none, []⟩,
 ⟨some 4, .alloc [.ints .u8 32 (List.replicate 32 0)], none, []⟩,
 ⟨some 5, .mov (.c (.int .i64 0)), none, []⟩])
 (.seq none
 (.reg [
 ⟨some 7, .load true 32 (.t 2), none, []⟩,
 ⟨some 8, .load true 32 (.t 3), none, []⟩,
 ⟨some 9, .call 39 [(.t 7), (.t 8)], none, []⟩,
 ⟨some 6, .alloc [.ints .u8 32 (List.replicate 32 0)], none, []⟩,
 ⟨none, .store 32 (.t 6) (.t 9), none, []⟩])
 (.seq none
 (.seq none
 (.reg [
 ⟨some 10, .slArr 32 0 (.t 6) none none none, none, []⟩,
 ⟨some 11, .call 49 [(.t 10)], none, []⟩])
 (.cond (.t 11)
 (.seq none
 (.reg [
 ⟨some 12, .build [.ints .u8 32 (List.replicate 32 0)] [], none, []⟩,
 ⟨none, .store 32 (.t 4) (.t 12), none, []⟩,
 ⟨some 5, .mov (.c (.int .i64 130)), none, []⟩])
 .ret)
 .skip))
 (.seq none
 (.reg [
 ⟨some 13, .load true 32 (.t 6), none, []⟩,
 ⟨none, .store 32 (.t 4) (.t 13), none, []⟩,
 ⟨some 5, .mov (.c (.int .i64 0)), none, []⟩])
 .ret))))⟩
def id_ident_Less : Nat := 46
def af_ident_Less : AFn := ⟨10, [.t 4],
 (.seq none
 (.reg [
 ⟨some 2, .box (.t 0), none, []⟩,
 ⟨some 3, .box (.t 1), none, []⟩,
 ⟨some 4, .mov (.c (.bool false)), none, []⟩])
 (.seq none
 (.draw [
 ⟨some 5, .slArr 32 0 (.t 2) none none none, none, []⟩,
 ⟨some 6, .b2s (.t 5), none, [0]⟩,
 ⟨some 7, .slArr 32 0 (.t 3) none none none, none, []⟩,
 ⟨some 8, .b2s (.t 7), none, [2]⟩,
 ⟨some 9, .bin .lss (.t 6) (.t 8), none, [1, 3]⟩,
 ⟨some 4, .mov (.t 9), none, [4, 0, 1, 2, 3, 4]⟩])
 .ret))⟩
def id_kdf_Derive : Nat := 47
def af_kdf_Derive : AFn := ⟨17, [.cell 6 true 32],
 (.seq none
 (.reg [
 ⟨some 3, .box (.t 0), none, []⟩,
 ⟨some 6, .alloc [.ints .u8 32 (List.replicate 32 0)], none, []⟩])
 (.seq none
 (.reg [
 ⟨some 10, .load true 32 (.t 3), none, []⟩,
 ⟨some 11, .mov (.t 1), none, []⟩,
 ⟨some 12, .mov (.t 2), none, []⟩,
 ⟨some 13, .call 40 [(.t 10), (.t 11), (.t 12)], none, []⟩,
 ⟨some 9, .mov (.t 13), none, []⟩,
 ⟨some 14, .ext (.t 9) 0, none, []⟩,
 ⟨some 15, .ext (.t 9) 1, none, []⟩,
 ⟨some 7, .alloc [.ints .u8 32 (List.replicate 32 0)], none, []⟩,
 ⟨some 8, .alloc [.ints .u8 32 (List.replicate 32 0)], none, []⟩,
 ⟨none, .store 32 (.t 7) (.t 14), none, []⟩,
 ⟨none, .store 32 (.t 8) (.t 15), none, []⟩])
 (.seq none
 (.reg [
 ⟨some 16, .load true 32 (.t 7), none, []⟩,
 ⟨none, .store 32 (.t 6) (.t 16), none, []⟩])
 .ret)))⟩
def id_slices_Clone_byte : Nat := 48
def af_slices_Clone_byte : AFn := ⟨8, [.t 2],
 (.seq none
 (.reg [
 ⟨some 2, .mov (.c (.nils)), none, []⟩])
 (.seq none
 (.seq none
 (.reg [
 ⟨some 3, .mov (.t 0), none, []⟩,
 ⟨some 4, .eqv false .slice (.t 3) (.c (.nils)), none, []⟩])
 (.cond (.t 4)
 (.seq none
 (.reg [
 ⟨some 2, .mov (.c (.nils)), none, []⟩])
 .ret)
 .skip))
 (.seq none
 (.reg [
 ⟨some 5, .bslice [.ints .u8 0 (List.replicate 0 0)] 0 0 [], none, []⟩,
 ⟨some 6, .mov (.t 0), none, []⟩,
 ⟨some 7, .appendI .u8 1 (.t 5) (.t 6), none, []⟩,
 ⟨some 2, .mov (.t 7), none, []⟩])
 .ret)))⟩
def id_octet_Zero : Nat := 49
def af_octet_Zero : AFn := ⟨18, [.t 2],
 (.seq none
 (.reg [
 ⟨some 2, .mov (.c (.bool false)), none, []⟩])
 (.seq none
 (.reg [
 ⟨some 3, .mov (.c (.int .u8 0)), none, []⟩])
 (.seq none
 (.seq none
 (.reg [
 ⟨some 6, .mov (.t 0), none, []⟩,
 ⟨some 7, .len false (.t 6), none, []⟩,
 ⟨some 8, .mov (.c (.int .i64 0)), none, []⟩])
 (.block 0 none
 (.loop 1000000 none
 (.seq none
 (.reg [
 ⟨some 9, .bin .lss (.t 8) (.t 7), none, []⟩])
 (.seq none
 (.cond (.t 9)
 .skip
 (.exit 0))
 (.seq none
 (.block 1 none
 (.seq none
 (.reg [
 ⟨some 10, .iaddrS 1 (.t 6) (.t 8), none, []⟩,
 ⟨some 11, .load false 1 (.t 10), none, []⟩,
 ⟨some 5, .mov (.t 11), none, []⟩])
 (.reg [
 ⟨some 12, .mov (.t 3), none, []⟩,
 ⟨some 13, .mov (.t 5), none, []⟩,
 ⟨some 14, .bin .or (.t 12) (.t 13), none, []⟩,
 ⟨some 3, .mov (.t 14), none, []⟩])))
 (.reg [
 ⟨some 15, .bin .add (.t 8) (.c (.int .i64 1)), none, []⟩,
 ⟨some 8, .mov (.t 15), none, []⟩])))))))
 (.seq none
 (.reg [
 ⟨some 16, .mov (.t 3), none, []⟩,
 ⟨some 17, .bin .eql (.t 16) (.c (.int .u8 0)), none, []⟩,
 ⟨some 2, .mov (.t 17), none, []⟩])
 .ret))))⟩
def id_field_word : Nat := 50
def af_field_word : AFn := ⟨23, [.t 2],
 (.seq none
 (.reg [
 ⟨some 2, .mov (.c (.int .u64 0)), none, []⟩])
 (.seq none
 (.reg [
 ⟨some 3, .mov (.c (.int .u64 0)), none, []⟩])
 (.seq none
 (.seq none
 (.reg [
 ⟨some 6, .mov (.t 0), none, []⟩,
 ⟨some 7, .slSlice 1 (.t 6) none (some (.c (.int .i64 8))) none, none, []⟩,
 ⟨some 8, .len false (.t 7), none, []⟩,
 ⟨some 9, .mov (.c (.int .i64 0)), none, []⟩])
 (.block 0 none
 (.loop 1000000 none
 (.seq none
 (.reg [
 ⟨some 10, .bin .lss (.t 9) (.t 8), none, []⟩])
 (.seq none
 (.cond (.t 10)
 .skip
 (.exit 0))
 (.seq none
 (.block 1 none
 (.seq none
 (.reg [
 ⟨some 11, .mov (.t 9), none, []⟩,
 ⟨some 12, .iaddrS 1 (.t 7) (.t 9), none, []⟩,
 ⟨some 13, .load false 1 (.t 12), none, []⟩,
 ⟨some 4, .mov (.t 11), none, []⟩,
 ⟨some 5, .mov (.t 13), none, []⟩])
 (.reg [
 ⟨some 14, .mov (.t 3), none, []⟩,
 ⟨some 15, .mov (.t 5), none, []⟩,
 ⟨some 16, .toInt .u64 (.t 15), none, []⟩,
 ⟨some 17, .mov (.t 4), none, []⟩,
 ⟨some 18, .bin .mul (.c (.int .i64 8)) (.t 17), none, []⟩,
 ⟨some 19, .bin .shl (.t 16) (.t 18), none, []⟩,
 ⟨some 20, .bin .or (.t 14) (.t 19), none, []⟩,
 ⟨some 3, .mov (.t 20), none, []⟩])))
 (.reg [
 ⟨some 21, .bin .add (.t 9) (.c (.int .i64 1)), none, []⟩,
 ⟨some 9, .mov (.t 21), none, []⟩])))))))
 (.seq none
 (.reg [
 ⟨some 22, .mov (.t 3), none, []⟩,
 ⟨some 2, .mov (.t 22), none, []⟩])
 .ret))))⟩
def id_field_Elem_Bytes : Nat := 51
def af_field_Elem_Bytes : AFn := ⟨118, [.cell 2 true 32],
 (.seq none
 (.reg [
 ⟨some 1, .box (.t 0), none, []⟩,
 ⟨some 2, .alloc [.ints .u8 32 (List.replicate 32 0)], none, []⟩])
 (.seq none
 (.reg [
 ⟨some 11, .load true 5 (.t 1), none, []⟩,
 ⟨some 12, .call 70 [(.t 11)], none, []⟩,
 ⟨some 13, .call 70 [(.t 12)], none, []⟩,
 ⟨none, .store 5 (.t 1) (.t 13), none, []⟩])
 (.seq none
 (.reg [
 ⟨some 3, .mov (.c (.int .u64 19)), none, []⟩])
 (.seq none
 (.seq none
 (.reg [
 ⟨some 14, .faddr 0 (.t 1), none, []⟩,
 ⟨some 15, .load true 5 (.t 14), none, []⟩,
 ⟨some 16, .mov (.c (.int .i64 0)), none, []⟩])
 (.block 0 none
 (.loop 1000000 none
 (.seq none
 (.reg [
 ⟨some 17, .bin .lss (.t 16) (.c (.int .i64 5)), none, []⟩])
 (.seq none
 (.cond (.t 17)
 .skip
 (.exit 0))
 (.seq none
 (.block 1 none
 (.seq none
 (.reg [
 ⟨some 18, .idxA false 5 1 (.t 15) (.t 16), none, []⟩,
 ⟨some 5, .mov (.t 18), none, []⟩])
 (.reg [
 ⟨some 19, .mov (.t 5), none, []⟩,
 ⟨some 20, .mov (.t 3), none, []⟩,
 ⟨some 21, .bin .add (.t 19) (.t 20), none, []⟩,
 ⟨some 22, .bin .shr (.t 21) (.c (.int .u64 51)), none, []⟩,
 ⟨some 3, .mov (.t 22), none, []⟩])))
 (.reg [
 ⟨some 23, .bin .add (.t 16) (.c (.int .i64 1)), none, []⟩,
 ⟨some 16, .mov (.t 23), none, []⟩])))))))
 (.seq none
 (.reg [
 ⟨some 24, .faddr 0 (.t 1), none, []⟩,
 ⟨some 25, .iaddrA 5 0 (.t 24) (.c (.int .i64 0)), none, []⟩,
 ⟨some 26, .load false 1 (.t 25), none, []⟩,
 ⟨some 27, .mov (.t 3), none, []⟩,
 ⟨some 28, .bin .mul (.c (.int .u64 19)) (.t 27), none, []⟩,
 ⟨some 29, .bin .add (.t 26) (.t 28), none, []⟩,
 ⟨some 30, .faddr 0 (.t 1), none, []⟩,
 ⟨some 31, .iaddrA 5 0 (.t 30) (.c (.int .i64 0)), none, []⟩,
 ⟨none, .store 1 (.t 31) (.t 29), none, []⟩])
 (.seq none
 (.seq none
 (.reg [
 ⟨some 32, .mov (.c (.int .i64 0)), none, []⟩])
 (.block 2 none
 (.loop 1000000 none
 (.seq none
 (.reg [
 ⟨some 33, .bin .lss (.t 32) (.c (.int .i64 4)), none, []⟩])
 (.seq none
 (.cond (.t 33)
 .skip
 (.exit 2))
 (.seq none
 (.block 3 none
 (.seq none
 (.reg [
 ⟨some 34, .mov (.t 32), none, []⟩,
 ⟨some 6, .mov (.t 34), none, []⟩])
 (.seq none
 (.draw [
 ⟨some 35, .mov (.t 6), none, []⟩,
 ⟨some 36, .bin .add (.t 35) (.c (.int .i64 1)), none, [0]⟩,
 ⟨some 37, .faddr 0 (.t 1), none, []⟩,
 ⟨some 38, .iaddrA 5 0 (.t 37) (.t 36), none, [2, 1]⟩,
 ⟨some 39, .load false 1 (.t 38), none, [3]⟩,
 ⟨some 40, .mov (.t 6), none, []⟩,
 ⟨some 41, .faddr 0 (.t 1), none, []⟩,
 ⟨some 42, .iaddrA 5 0 (.t 41) (.t 40), none, [6, 5]⟩,
 ⟨some 43, .load false 1 (.t 42), none, [7]⟩,
 ⟨some 44, .bin .shr (.t 43) (.c (.int .u64 51)), none, [8]⟩,
 ⟨some 45, .bin .add (.t 39) (.t 44), none, [4, 9]⟩,
 ⟨some 46, .faddr 0 (.t 1), none, []⟩,
 ⟨some 47, .iaddrA 5 0 (.t 46) (.t 36), none, [11, 1, 0, 1, 2, 3, 4, 5, 6, 7, 8, 9, 10]⟩,
 ⟨none, .store 1 (.t 47) (.t 45), none, [12, 10, 0, 1, 2, 3, 4, 5, 6, 7, 8, 9, 10]⟩])
 (.reg [
 ⟨some 48, .mov (.t 6), none, []⟩,
 ⟨some 49, .faddr 0 (.t 1), none, []⟩,
 ⟨some 50, .iaddrA 5 0 (.t 49) (.t 48), none, []⟩,
 ⟨some 51, .load false 1 (.t 50), none, []⟩,
 ⟨some 52, .bin .and (.t 51) (.c (.int .u64 2251799813685247)), none, []⟩,
 ⟨some 53, .faddr 0 (.t 1), none, []⟩,
 ⟨some 54, .iaddrA 5 0 (.t 53) (.t 48), none, []⟩,
 ⟨none, .store 1 (.t 54) (.t 52), none, []⟩]))))
 (.reg [
 ⟨some 55, .bin .add (.t 32) (.c (.int .i64 1)), none, []⟩,
 ⟨some 32, .mov (.t 55), none, []⟩])))))))
 (.seq none
 (.reg [
 ⟨some 56, .faddr 0 (.t 1), none, []⟩,
 ⟨some 57, .iaddrA 5 0 (.t 56) (.c (.int .i64 4)), none, []⟩,
 ⟨some 58, .load false 1 (.t 57), none, []⟩,
 ⟨some 59, .bin .and (.t 58) (.c (.int .u64 2251799813685247)), none, []⟩,
 ⟨some 60, .faddr 0 (.t 1), none, []⟩,
 ⟨some 61, .iaddrA 5 0 (.t 60) (.c (.int .i64 4)), none, []⟩,
 ⟨none, .store 1 (.t 61) (.t 59), none, []⟩])
 (.seq none
 (.reg [
 ⟨some 7, .alloc [.ints .u8 32 (List.replicate 32 0)], none, []⟩])
 (.seq none
 (.seq none
 (.reg [
 ⟨some 62, .faddr 0 (.t 1), none, []⟩,
 ⟨some 63, .iaddrA 5 0 (.t 62) (.c (.int .i64 0)), none, []⟩,
 ⟨some 64, .load false 1 (.t 63), none, []⟩,
 ⟨some 65, .faddr 0 (.t 1), none, []⟩,
 ⟨some 66, .iaddrA 5 0 (.t 65) (.c (.int .i64 1)), none, []⟩,
 ⟨some 67, .load false 1 (.t 66), none, []⟩,
 ⟨some 68, .bin .shl (.t 67) (.c (.int .u64 51)), none, []⟩,
 ⟨some 69, .bin .or (.t 64) (.t 68), none, []⟩,
 ⟨some 70, .faddr 0 (.t 1), none, []⟩,
 ⟨some 71, .iaddrA 5 0 (.t 70) (.c (.int .i64 1)), none, []⟩,
 ⟨some 72, .load false 1 (.t 71), none, []⟩,
 ⟨some 73, .bin .shr (.t 72) (.c (.int .u64 13)), none, []⟩,
 ⟨some 74, .faddr 0 (.t 1), none, []⟩,
 ⟨some 75, .iaddrA 5 0 (.t 74) (.c (.int .i64 2)), none, []⟩,
 ⟨some 76, .load false 1 (.t 75), none, []⟩,
 ⟨some 77, .bin .shl (.t 76) (.c (.int .u64 38)), none, []⟩,
 ⟨some 78, .bin .or (.t 73) (.t 77), none, []⟩,
 ⟨some 79, .faddr 0 (.t 1), none, []⟩,
 ⟨some 80, .iaddrA 5 0 (.t 79) (.c (.int .i64 2)), none, []⟩,
 ⟨some 81, .load false 1 (.t 80), none, []⟩,
 ⟨some 82, .bin .shr (.t 81) (.c (.int .u64 26)), none, []⟩,
 ⟨some 83, .faddr 0 (.t 1), none, []⟩,
 ⟨some 84, .iaddrA 5 0 (.t 83) (.c (.int .i64 3)), none, []⟩,
 ⟨some 85, .load false 1 (.t 84), none, []⟩,
 ⟨some 86, .bin .shl (.t 85) (.c (.int .u64 25)), none, []⟩,
 ⟨some 87, .bin .or (.t 82) (.t 86), none, []⟩,
 ⟨some 88, .faddr 0 (.t 1), none, []⟩,
 ⟨some 89, .iaddrA 5 0 (.t 88) (.c (.int .i64 3)), none, []⟩,
 ⟨some 90, .load false 1 (.t 89), none, []⟩,
 ⟨some 91, .bin .shr (.t 90) (.c (.int .u64 39)), none, []⟩,
 ⟨some 92, .faddr 0 (.t 1), none, []⟩,
 ⟨some 93, .iaddrA 5 0 (.t 92) (.c (.int .i64 4)), none, []⟩,
 ⟨some 94, .load false 1 (.t 93), none, []⟩,
 ⟨some 95, .bin .shl (.t 94) (.c (.int .u64 12)), none, []⟩,
 ⟨some 96, .bin .or (.t 91) (.t 95), none, []⟩,
 ⟨some 97, .build [.ints .u64 4 (List.replicate 4 0)] [(0, 1, (.t 69)), (1, 1, (.t 78)), (2, 1, (.t 87)), (3, 1, (.t 96))], none, []⟩,
 ⟨some 98, .mov (.c (.int .i64 0)), none, []⟩])
 (.block 4 none
 (.loop 1000000 none
 (.seq none
 (.reg [
 ⟨some 99, .bin .lss (.t 98) (.c (.int .i64 4)), none, []⟩])
 (.seq none
 (.cond (.t 99)
 .skip
 (.exit 4))
 (.seq none
 (.block 5 none
 (.seq none
 (.reg [
 ⟨some 100, .mov (.t 98), none, []⟩,
 ⟨some 101, .idxA false 4 1 (.t 97) (.t 98), none, []⟩,
 ⟨some 8, .mov (.t 100), none, []⟩,
 ⟨some 9, .mov (.t 101), none, []⟩])
 (.seq none
 (.reg [
 ⟨some 102, .mov (.c (.int .i64 0)), none, []⟩])
 (.block 6 none
 (.loop 1000000 none
 (.seq none
 (.reg [
 ⟨some 103, .bin .lss (.t 102) (.c (.int .i64 8)), none, []⟩])
 (.seq none
 (.cond (.t 103)
 .skip
 (.exit 6))
 (.seq none
 (.block 7 none
 (.seq none
 (.reg [
 ⟨some 104, .mov (.t 102), none, []⟩,
 ⟨some 10, .mov (.t 104), none, []⟩])
 (.reg [
 ⟨some 105, .mov (.t 8), none, []⟩,
 ⟨some 106, .bin .mul (.c (.int .i64 8)) (.t 105), none, []⟩,
 ⟨some 107, .mov (.t 10), none, []⟩,
 ⟨some 108, .bin .add (.t 106) (.t 107), none, []⟩,
 ⟨some 109, .mov (.t 9), none, []⟩,
 ⟨some 110, .mov (.t 10), none, []⟩,
 ⟨some 111, .bin .mul (.c (.int .i64 8)) (.t 110), none, []⟩,
 ⟨some 112, .bin .shr (.t 109) (.t 111), none, []⟩,
 ⟨some 113, .toInt .u8 (.t 112), none, []⟩,
 ⟨some 114, .iaddrA 32 0 (.t 7) (.t 108), none, []⟩,
 ⟨none, .store 1 (.t 114) (.t 113), none, []⟩])))
 (.reg [
 ⟨some 115, .bin .add (.t 102) (.c (.int .i64 1)), none, []⟩,
 ⟨some 102, .mov (.t 115), none, []⟩])))))))))
 (.reg [
 ⟨some 116, .bin .add (.t 98) (.c (.int .i64 1)), none, []⟩,
 ⟨some 98, .mov (.t 116), none, []⟩])))))))
 (.seq none
 (.reg [
 ⟨some 117, .load true 32 (.t 7), none, []⟩,
 ⟨none, .store 32 (.t 2) (.t 117), none, []⟩])
 .ret))))))))))⟩
def id_curve_Clamp : Nat := 52
def af_curve_Clamp : AFn := ⟨13, [.cell 2 true 32],
 (.seq none
 (.reg [
 ⟨some 1, .box (.t 0), none, []⟩,
 ⟨some 2, .alloc [.ints .u8 32 (List.replicate 32 0)], none, []⟩])
 (.seq none
 (.reg [
 ⟨some 3, .iaddrA 32 0 (.t 1) (.c (.int .i64 0)), none, []⟩,
 ⟨some 4, .load false 1 (.t 3), none, []⟩,
 ⟨some 5, .bin .and (.t 4) (.c (.int .u8 248)), none, []⟩,
 ⟨some 6, .iaddrA 32 0 (.t 1) (.c (.int .i64 0)), none, []⟩,
 ⟨none, .store 1 (.t 6) (.t 5), none, []⟩])
 (.seq none
 (.reg [
 ⟨some 7, .iaddrA 32 0 (.t 1) (.c (.int .i64 31)), none, []⟩,
 ⟨some 8, .load false 1 (.t 7), none, []⟩,
 ⟨some 9, .bin .and (.t 8) (.c (.int .u8 127)), none, []⟩,
 ⟨some 10, .bin .or (.t 9) (.c (.int .u8 64)), none, []⟩,
 ⟨some 11, .iaddrA 32 0 (.t 1) (.c (.int .i64 31)), none, []⟩,
 ⟨none, .store 1 (.t 11) (.t 10), none, []⟩])
 (.seq none
 (.reg [
 ⟨some 12, .load true 32 (.t 1), none, []⟩,
 ⟨none, .store 32 (.t 2) (.t 12), none, []⟩])
 .ret))))⟩
def id_field_Of : Nat := 53
def af_field_Of : AFn := ⟨9, [.cell 2 true 5],
 (.seq none
 (.reg [
 ⟨some 2, .alloc [.ints .u64 5 (List.replicate 5 0)], none, []⟩])
 (.seq none
 (.reg [
 ⟨some 3, .mov (.t 0), none, []⟩,
 ⟨some 4, .bin .and (.t 3) (.c (.int .u64 2251799813685247)), none, []⟩,
 ⟨some 5, .mov (.t 0), none, []⟩,
 ⟨some 6, .bin .shr (.t 5) (.c (.int .u64 51)), none, []⟩,
 ⟨some 7, .build [.ints .u64 5 (List.replicate 5 0)] [(0, 1, (.t 4)), (1, 1, (.t 6))], none, []⟩,
 ⟨some 8, .build [.ints .u64 5 (List.replicate 5 0)] [(0, 5, (.t 7))], none, []⟩,
 ⟨none, .store 5 (.t 2) (.t 8), none, []⟩])
 .ret))⟩
def id_curve_ladder_swap : Nat := 54
def af_curve_ladder_swap : AFn := ⟨42, [],
 (.seq none
 (.draw [
 ⟨some 5, .mov (.t 0), none, []⟩,
 ⟨some 6, .mov (.t 0), none, []⟩,
 ⟨some 7, .mov (.t 1), none, []⟩,
 ⟨some 8, .mov (.t 0), none, []⟩,
 ⟨some 9, .nilChk (.t 8), none, [3]⟩,
 ⟨some 10, .faddr 0 (.t 9), none, [4]⟩,
 ⟨some 11, .load true 5 (.t 10), none, [5]⟩,
 ⟨some 12, .mov (.t 0), none, []⟩,
 ⟨some 13, .nilChk (.t 12), none, [7]⟩,
 ⟨some 14, .faddr 10 (.t 13), none, [8]⟩,
 ⟨some 15, .load true 5 (.t 14), none, [9]⟩,
 ⟨some 16, .call 71 [(.t 7), (.t 11), (.t 15)], none, [2, 6, 10]⟩,
 ⟨some 4, .mov (.t 16), none, [11]⟩,
 ⟨some 17, .ext (.t 4) 0, none, [12]⟩,
 ⟨some 18, .ext (.t 4) 1, none, [12]⟩,
 ⟨some 19, .nilChk (.t 5), none, [0, 0, 2, 3, 4, 5, 6, 7, 8, 9, 10, 11, 12, 13]⟩,
 ⟨some 20, .faddr 0 (.t 19), none, [15, 0, 2, 3, 4, 5, 6, 7, 8, 9, 10, 11, 12, 13]⟩,
 ⟨none, .store 5 (.t 20) (.t 17), none, [16, 13, 11, 0, 2, 3, 4, 5, 6, 7, 8, 9, 10, 11, 12, 13]⟩,
 ⟨some 21, .nilChk (.t 6), none, [1, 0, 1, 2, 3, 4, 5, 6, 7, 8, 9, 10, 11, 12, 13, 14, 15, 16, 17]⟩,
 ⟨some 22, .faddr 10 (.t 21), none, [18, 0, 1, 2, 3, 4, 5, 6, 7, 8, 9, 10, 11, 12, 13, 14, 15, 16, 17]⟩,
 ⟨none, .store 5 (.t 22) (.t 18), none, [19, 14, 17, 0, 1, 2, 3, 4, 5, 6, 7, 8, 9, 10, 11, 12, 13, 14, 15, 16, 17]⟩])
 (.draw [
 ⟨some 24, .mov (.t 0), none, []⟩,
 ⟨some 25, .mov (.t 0), none, []⟩,
 ⟨some 26, .mov (.t 1), none, []⟩,
 ⟨some 27, .mov (.t 0), none, []⟩,
 ⟨some 28, .nilChk (.t 27), none, [3]⟩,
 ⟨some 29, .faddr 5 (.t 28), none, [4]⟩,
 ⟨some 30, .load true 5 (.t 29), none, [5]⟩,
 ⟨some 31, .mov (.t 0), none, []⟩,
 ⟨some 32, .nilChk (.t 31), none, [7]⟩,
 ⟨some 33, .faddr 15 (.t 32), none, [8]⟩,
 ⟨some 34, .load true 5 (.t 33), none, [9]⟩,
 ⟨some 35, .call 71 [(.t 26), (.t 30), (.t 34)], none, [2, 6, 10]⟩,
 ⟨some 23, .mov (.t 35), none, [11]⟩,
 ⟨some 36, .ext (.t 23) 0, none, [12]⟩,
 ⟨some 37, .ext (.t 23) 1, none, [12]⟩,
 ⟨some 38, .nilChk (.t 24), none, [0, 0, 2, 3, 4, 5, 6, 7, 8, 9, 10, 11, 12, 13]⟩,
 ⟨some 39, .faddr 5 (.t 38), none, [15, 0, 2, 3, 4, 5, 6, 7, 8, 9, 10, 11, 12, 13]⟩,
 ⟨none, .store 5 (.t 39) (.t 36), none, [16, 13, 11, 0, 2, 3, 4, 5, 6, 7, 8, 9, 10, 11, 12, 13]⟩,
 ⟨some 40, .nilChk (.t 25), none, [1, 0, 1, 2, 3, 4, 5, 6, 7, 8, 9, 10, 11, 12, 13, 14, 15, 16, 17]⟩,
 ⟨some 41, .faddr 15 (.t 40), none, [18, 0, 1, 2, 3, 4, 5, 6, 7, 8, 9, 10, 11, 12, 13, 14, 15, 16, 17]⟩,
 ⟨none, .store 5 (.t 41) (.t 37), none, [19, 14, 17, 0, 1, 2, 3, 4, 5, 6, 7, 8, 9, 10, 11, 12, 13, 14, 15, 16, 17]⟩]))⟩
def id_curve_ladder_step : Nat := 55
def af_curve_ladder_step : AFn := ⟨66, [],
 (.seq none
 (.reg [
 ⟨some 3, .box (.t 1), none, []⟩])
 (.seq none
 (.reg [
 ⟨some 14, .mov (.t 0), none, []⟩,
 ⟨some 15, .nilChk (.t 14), none, []⟩,
 ⟨some 16, .load true 20 (.t 15), none, []⟩,
 ⟨some 17, .call 72 [(.t 16)], none, []⟩,
 ⟨some 13, .mov (.t 17), none, []⟩,
 ⟨some 18, .ext (.t 13) 0, none, []⟩,
 ⟨some 19, .ext (.t 13) 1, none, []⟩,
 ⟨some 20, .ext (.t 13) 2, none, []⟩,
 ⟨some 21, .ext (.t 13) 3, none, []⟩,
 ⟨some 4, .alloc [.ints .u64 5 (List.replicate 5 0)], none, []⟩,
 ⟨some 5, .alloc [.ints .u64 5 (List.replicate 5 0)], none, []⟩,
 ⟨some 6, .alloc [.ints .u64 5 (List.replicate 5 0)], none, []⟩,
 ⟨some 7, .alloc [.ints .u64 5 (List.replicate 5 0)], none, []⟩,
 ⟨none, .store 5 (.t 4) (.t 18), none, []⟩,
 ⟨none, .store 5 (.t 5) (.t 19), none, []⟩,
 ⟨none, .store 5 (.t 6) (.t 20), none, []⟩,
 ⟨none, .store 5 (.t 7) (.t 21), none, []⟩])
 (.seq none
 (.draw [
 ⟨some 22, .load true 5 (.t 4), none, []⟩,
 ⟨some 23, .call 73 [(.t 22)], none, [0]⟩,
 ⟨some 24, .load true 5 (.t 5), none, []⟩,
 ⟨some 25, .call 73 [(.t 24)], none, [2, 1]⟩,
 ⟨some 8, .alloc [.ints .u64 5 (List.replicate 5 0)], none, []⟩,
 ⟨some 9, .alloc [.ints .u64 5 (List.replicate 5 0)], none, []⟩,
 ⟨none, .store 5 (.t 8) (.t 23), none, [4, 1, 3, 0, 1, 4, 5]⟩,
 ⟨none, .store 5 (.t 9) (.t 25), none, [5, 3, 6, 0, 1, 2, 3, 4, 5, 6]⟩])
 (.seq none
 (.reg [
 ⟨some 26, .load true 5 (.t 8), none, []⟩,
 ⟨some 27, .load true 5 (.t 9), none, []⟩,
 ⟨some 28, .call 74 [(.t 26), (.t 27)], none, []⟩,
 ⟨some 10, .alloc [.ints .u64 5 (List.replicate 5 0)], none, []⟩,
 ⟨none, .store 5 (.t 10) (.t 28), none, []⟩])
 (.seq none
 (.draw [
 ⟨some 29, .load true 5 (.t 7), none, []⟩,
 ⟨some 30, .load true 5 (.t 4), none, []⟩,
 ⟨some 31, .call 56 [(.t 29), (.t 30)], none, [0, 1]⟩,
 ⟨some 32, .load true 5 (.t 6), none, []⟩,
 ⟨some 33, .load true 5 (.t 5), none, []⟩,
 ⟨some 34, .call 56 [(.t 32), (.t 33)], none, [3, 4, 2]⟩,
 ⟨some 11, .alloc [.ints .u64 5 (List.replicate 5 0)], none, []⟩,
 ⟨some 12, .alloc [.ints .u64 5 (List.replicate 5 0)], none, []⟩,
 ⟨none, .store 5 (.t 11) (.t 31), none, [6, 2, 5, 0, 1, 2, 6, 7]⟩,
 ⟨none, .store 5 (.t 12) (.t 34), none, [7, 5, 8, 0, 1, 2, 3, 4, 5, 6, 7, 8]⟩])
 (.seq none
 (.reg [
 ⟨some 35, .mov (.t 0), none, []⟩,
 ⟨some 36, .load true 5 (.t 11), none, []⟩,
 ⟨some 37, .load true 5 (.t 12), none, []⟩,
 ⟨some 38, .call 75 [(.t 36), (.t 37)], none, []⟩,
 ⟨some 39, .call 73 [(.t 38)], none, []⟩,
 ⟨some 40, .nilChk (.t 35), none, []⟩,
 ⟨some 41, .faddr 10 (.t 40), none, []⟩,
 ⟨none, .store 5 (.t 41) (.t 39), none, []⟩])
 (.seq none
 (.draw [
 ⟨some 42, .mov (.t 0), none, []⟩,
 ⟨some 43, .load true 5 (.t 3), none, []⟩,
 ⟨some 44, .load true 5 (.t 11), none, []⟩,
 ⟨some 45, .load true 5 (.t 12), none, []⟩,
 ⟨some 46, .call 74 [(.t 44), (.t 45)], none, [2, 3]⟩,
 ⟨some 47, .call 73 [(.t 46)], none, [4, 4]⟩,
 ⟨some 48, .call 56 [(.t 43), (.t 47)], none, [1, 5, 5]⟩,
 ⟨some 49, .nilChk (.t 42), none, [0, 0, 1, 2, 3, 4, 5, 6]⟩,
 ⟨some 50, .faddr 15 (.t 49), none, [7, 0, 1, 2, 3, 4, 5, 6]⟩,
 ⟨none, .store 5 (.t 50) (.t 48), none, [8, 6, 6, 0, 1, 2, 3, 4, 5, 6]⟩])
 (.seq none
 (.reg [
 ⟨some 51, .mov (.t 0), none, []⟩,
 ⟨some 52, .load true 5 (.t 8), none, []⟩,
 ⟨some 53, .load true 5 (.t 9), none, []⟩,
 ⟨some 54, .call 56 [(.t 52), (.t 53)], none, []⟩,
 ⟨some 55, .nilChk (.t 51), none, []⟩,
 ⟨some 56, .faddr 0 (.t 55), none, []⟩,
 ⟨none, .store 5 (.t 56) (.t 54), none, []⟩])
 (.draw [
 ⟨some 57, .mov (.t 0), none, []⟩,
 ⟨some 58, .load true 5 (.t 10), none, []⟩,
 ⟨some 59, .load true 5 (.t 8), none, []⟩,
 ⟨some 60, .load true 5 (.t 10), none, []⟩,
 ⟨some 61, .call 76 [(.t 60), (.c (.int .u32 121665))], none, [3]⟩,
 ⟨some 62, .call 75 [(.t 59), (.t 61)], none, [2, 4, 4]⟩,
 ⟨some 63, .call 56 [(.t 58), (.t 62)], none, [1, 5, 5]⟩,
 ⟨some 64, .nilChk (.t 57), none, [0, 0, 1, 2, 3, 4, 5, 6]⟩,
 ⟨some 65, .faddr 5 (.t 64), none, [7, 0, 1, 2, 3, 4, 5, 6]⟩,
 ⟨none, .store 5 (.t 65) (.t 63), none, [8, 6, 6, 0, 1, 2, 3, 4, 5, 6]⟩])))))))))⟩
def id_field_Elem_Mul : Nat := 56
def af_field_Elem_Mul : AFn := ⟨139, [.cell 4 true 5],
 (.seq none
 (.reg [
 ⟨some 2, .box (.t 0), none, []⟩,
 ⟨some 3, .box (.t 1), none, []⟩,
 ⟨some 4, .alloc [.ints .u64 5 (List.replicate 5 0)], none, []⟩])
 (.seq none
 (.draw [
 ⟨some 19, .faddr 0 (.t 2), none, []⟩,
 ⟨some 20, .iaddrA 5 0 (.t 19) (.c (.int .i64 0)), none, [0]⟩,
 ⟨some 21, .load false 1 (.t 20), none, [1]⟩,
 ⟨some 22, .faddr 0 (.t 2), none, []⟩,
 ⟨some 23, .iaddrA 5 0 (.t 22) (.c (.int .i64 1)), none, [3]⟩,
 ⟨some 24, .load false 1 (.t 23), none, [4]⟩,
 ⟨some 25, .faddr 0 (.t 2), none, []⟩,
 ⟨some 26, .iaddrA 5 0 (.t 25) (.c (.int .i64 2)), none, [6]⟩,
 ⟨some 27, .load false 1 (.t 26), none, [7]⟩,
 ⟨some 28, .faddr 0 (.t 2), none, []⟩,
 ⟨some 29, .iaddrA 5 0 (.t 28) (.c (.int .i64 3)), none, [9]⟩,
 ⟨some 30, .load false 1 (.t 29), none, [10]⟩,
 ⟨some 31, .faddr 0 (.t 2), none, []⟩,
 ⟨some 32, .iaddrA 5 0 (.t 31) (.c (.int .i64 4)), none, [12]⟩,
 ⟨some 33, .load false 1 (.t 32), none, [13]⟩,
 ⟨some 5, .mov (.t 21), none, [2, 0, 1, 2]⟩,
 ⟨some 6, .mov (.t 24), none, [5, 15, 0, 1, 2, 3, 4, 5, 15]⟩,
 ⟨some 7, .mov (.t 27), none, [8, 16, 0, 1, 2, 3, 4, 5, 6, 7, 8, 15, 16]⟩,
 ⟨some 8, .mov (.t 30), none, [11, 17, 0, 1, 2, 3, 4, 5, 6, 7, 8, 9, 10, 11, 15, 16, 17]⟩,
 ⟨some 9, .mov (.t 33), none, [14, 18, 0, 1, 2, 3, 4, 5, 6, 7, 8, 9, 10, 11, 12, 13, 14, 15, 16, 17, 18]⟩])
 (.seq none
 (.draw [
 ⟨some 34, .faddr 0 (.t 3), none, []⟩,
 ⟨some 35, .iaddrA 5 0 (.t 34) (.c (.int .i64 0)), none, [0]⟩,
 ⟨some 36, .load false 1 (.t 35), none, [1]⟩,
 ⟨some 37, .faddr 0 (.t 3), none, []⟩,
 ⟨some 38, .iaddrA 5 0 (.t 37) (.c (.int .i64 1)), none, [3]⟩,
 ⟨some 39, .load false 1 (.t 38), none, [4]⟩,
 ⟨some 40, .faddr 0 (.t 3), none, []⟩,
 ⟨some 41, .iaddrA 5 0 (.t 40) (.c (.int .i64 2)), none, [6]⟩,
 ⟨some 42, .load false 1 (.t 41), none, [7]⟩,
 ⟨some 43, .faddr 0 (.t 3), none, []⟩,
 ⟨some 44, .iaddrA 5 0 (.t 43) (.c (.int .i64 3)), none, [9]⟩,
 ⟨some 45, .load false 1 (.t 44), none, [10]⟩,
 ⟨some 46, .faddr 0 (.t 3), none, []⟩,
 ⟨some 47, .iaddrA 5 0 (.t 46) (.c (.int .i64 4)), none, [12]⟩,
 ⟨some 48, .load false 1 (.t 47), none, [13]⟩,
 ⟨some 10, .mov (.t 36), none, [2, 0, 1, 2]⟩,
 ⟨some 11, .mov (.t 39), none, [5, 15, 0, 1, 2, 3, 4, 5, 15]⟩,
 ⟨some 12, .mov (.t 42), none, [8, 16, 0, 1, 2, 3, 4, 5, 6, 7, 8, 15, 16]⟩,
 ⟨some 13, .mov (.t 45), none, [11, 17, 0, 1, 2, 3, 4, 5, 6, 7, 8, 9, 10, 11, 15, 16, 17]⟩,
 ⟨some 14, .mov (.t 48), none, [14, 18, 0, 1, 2, 3, 4, 5, 6, 7, 8, 9, 10, 11, 12, 13, 14, 15, 16, 17, 18]⟩])
 (.seq none
 (.reg [
 ⟨some 49, .mov (.t 11), none, []⟩,
 ⟨some 50, .bin .mul (.c (.int .u64 19)) (.t 49), none, []⟩,
 ⟨some 51, .mov (.t 12), none, []⟩,
 ⟨some 52, .bin .mul (.c (.int .u64 19)) (.t 51), none, []⟩,
 ⟨some 53, .mov (.t 13), none, []⟩,
 ⟨some 54, .bin .mul (.c (.int .u64 19)) (.t 53), none, []⟩,
 ⟨some 55, .mov (.t 14), none, []⟩,
 ⟨some 56, .bin .mul (.c (.int .u64 19)) (.t 55), none, []⟩,
 ⟨some 15, .mov (.t 50), none, []⟩,
 ⟨some 16, .mov (.t 52), none, []⟩,
 ⟨some 17, .mov (.t 54), none, []⟩,
 ⟨some 18, .mov (.t 56), none, []⟩])
 (.seq none
 (.reg [
 ⟨some 57, .build [.int .u64 0, .int .u64 0] [], none, []⟩,
 ⟨some 58, .mov (.t 5), none, []⟩,
 ⟨some 59, .mov (.t 10), none, []⟩,
 ⟨some 60, .call 78 [(.t 57), (.t 58), (.t 59)], none, []⟩,
 ⟨some 61, .mov (.t 6), none, []⟩,
 ⟨some 62, .mov (.t 18), none, []⟩,
 ⟨some 63, .call 78 [(.t 60), (.t 61), (.t 62)], none, []⟩,
 ⟨some 64, .mov (.t 7), none, []⟩,
 ⟨some 65, .mov (.t 17), none, []⟩,
 ⟨some 66, .call 78 [(.t 63), (.t 64), (.t 65)], none, []⟩,
 ⟨some 67, .mov (.t 8), none, []⟩,
 ⟨some 68, .mov (.t 16), none, []⟩,
 ⟨some 69, .call 78 [(.t 66), (.t 67), (.t 68)], none, []⟩,
 ⟨some 70, .mov (.t 9), none, []⟩,
 ⟨some 71, .mov (.t 15), none, []⟩,
 ⟨some 72, .call 78 [(.t 69), (.t 70), (.t 71)], none, []⟩,
 ⟨some 73, .build [.int .u64 0, .int .u64 0] [], none, []⟩,
 ⟨some 74, .mov (.t 5), none, []⟩,
 ⟨some 75, .mov (.t 11), none, []⟩,
 ⟨some 76, .call 78 [(.t 73), (.t 74), (.t 75)], none, []⟩,
 ⟨some 77, .mov (.t 6), none, []⟩,
 ⟨some 78, .mov (.t 10), none, []⟩,
 ⟨some 79, .call 78 [(.t 76), (.t 77), (.t 78)], none, []⟩,
 ⟨some 80, .mov (.t 7), none, []⟩,
 ⟨some 81, .mov (.t 18), none, []⟩,
 ⟨some 82, .call 78 [(.t 79), (.t 80), (.t 81)], none, []⟩,
 ⟨some 83, .mov (.t 8), none, []⟩,
 ⟨some 84, .mov (.t 17), none, []⟩,
 ⟨some 85, .call 78 [(.t 82), (.t 83), (.t 84)], none, []⟩,
 ⟨some 86, .mov (.t 9), none, []⟩,
 ⟨some 87, .mov (.t 16), none, []⟩,
 ⟨some 88, .call 78 [(.t 85), (.t 86), (.t 87)], none, []⟩,
 ⟨some 89, .build [.int .u64 0, .int .u64 0] [], none, []⟩,
 ⟨some 90, .mov (.t 5), none, []⟩,
 ⟨some 91, .mov (.t 12), none, []⟩,
 ⟨some 92, .call 78 [(.t 89), (.t 90), (.t 91)], none, []⟩,
 ⟨some 93, .mov (.t 6), none, []⟩,
 ⟨some 94, .mov (.t 11), none, []⟩,
 ⟨some 95, .call 78 [(.t 92), (.t 93), (.t 94)], none, []⟩,
 ⟨some 96, .mov (.t 7), none, []⟩,
 ⟨some 97, .mov (.t 10), none, []⟩,
 ⟨some 98, .call 78 [(.t 95), (.t 96), (.t 97)], none, []⟩,
 ⟨some 99, .mov (.t 8), none, []⟩,
 ⟨some 100, .mov (.t 18), none, []⟩,
 ⟨some 101, .call 78 [(.t 98), (.t 99), (.t 100)], none, []⟩,
 ⟨some 102, .mov (.t 9), none, []⟩,
 ⟨some 103, .mov (.t 17), none, []⟩,
 ⟨some 104, .call 78 [(.t 101), (.t 102), (.t 103)], none, []⟩,
 ⟨some 105, .build [.int .u64 0, .int .u64 0] [], none, []⟩,
 ⟨some 106, .mov (.t 5), none, []⟩,
 ⟨some 107, .mov (.t 13), none, []⟩,
 ⟨some 108, .call 78 [(.t 105), (.t 106), (.t 107)], none, []⟩,
 ⟨some 109, .mov (.t 6), none, []⟩,
 ⟨some 110, .mov (.t 12), none, []⟩,
 ⟨some 111, .call 78 [(.t 108), (.t 109), (.t 110)], none, []⟩,
 ⟨some 112, .mov (.t 7), none, []⟩,
 ⟨some 113, .mov (.t 11), none, []⟩,
 ⟨some 114, .call 78 [(.t 111), (.t 112), (.t 113)], none, []⟩,
 ⟨some 115, .mov (.t 8), none, []⟩,
 ⟨some 116, .mov (.t 10), none, []⟩,
 ⟨some 117, .call 78 [(.t 114), (.t 115), (.t 116)], none, []⟩,
 ⟨some 118, .mov (.t 9), none, []⟩,
 ⟨some 119, .mov (.t 18), none, []⟩,
 ⟨some 120, .call 78 [(.t 117), (.t 118), (.t 119)], none, []⟩,
 ⟨some 121, .build [.int .u64 0, .int .u64 0] [], none, []⟩,
 ⟨some 122, .mov (.t 5), none, []⟩,
 ⟨some 123, .mov (.t 14), none, []⟩,
 ⟨some 124, .call 78 [(.t 121), (.t 122), (.t 123)], none, []⟩,
 ⟨some 125, .mov (.t 6), none, []⟩,
 ⟨some 126, .mov (.t 13), none, []⟩,
 ⟨some 127, .call 78 [(.t 124), (.t 125), (.t 126)], none, []⟩,
 ⟨some 128, .mov (.t 7), none, []⟩,
 ⟨some 129, .mov (.t 12), none, []⟩,
 ⟨some 130, .call 78 [(.t 127), (.t 128), (.t 129)], none, []⟩,
 ⟨some 131, .mov (.t 8), none, []⟩,
 ⟨some 132, .mov (.t 11), none, []⟩,
 ⟨some 133, .call 78 [(.t 130), (.t 131), (.t 132)], none, []⟩,
 ⟨some 134, .mov (.t 9), none, []⟩,
 ⟨some 135, .mov (.t 10), none, []⟩,
 ⟨some 136, .call 78 [(.t 133), (.t 134), (.t 135)], none, []⟩,
 ⟨some 137, .build [.int .u64 0, .int .u64 0, .int .u64 0, .int .u64 0, .int .u64 0, .int .u64 0, .int .u64 0, .int .u64 0, .int .u64 0, .int .u64 0] [(0, 2, (.t 72)), (2, 2, (.t 88)), (4, 2, (.t 104)), (6, 2, (.t 120)), (8, 2, (.t 136))], none, []⟩,
 ⟨some 138, .call 77 [(.t 137)], none, []⟩,
 ⟨none, .store 5 (.t 4) (.t 138), none, []⟩])
 .ret)))))⟩
def id_field_Elem_Inv : Nat := 57
def af_field_Elem_Inv : AFn := ⟨10, [.cell 2 true 5],
 (.seq none
 (.reg [
 ⟨some 1, .box (.t 0), none, []⟩,
 ⟨some 2, .alloc [.ints .u64 5 (List.replicate 5 0)], none, []⟩])
 (.seq none
 (.reg [
 ⟨some 4, .call 53 [(.c (.int .u64 2))], none, []⟩,
 ⟨some 5, .call 79 [(.t 4)], none, []⟩,
 ⟨some 6, .call 51 [(.t 5)], none, []⟩,
 ⟨some 3, .alloc [.ints .u8 32 (List.replicate 32 0)], none, []⟩,
 ⟨none, .store 32 (.t 3) (.t 6), none, []⟩])
 (.seq none
 (.reg [
 ⟨some 7, .load true 5 (.t 1), none, []⟩,
 ⟨some 8, .load true 32 (.t 3), none, []⟩,
 ⟨some 9, .call 80 [(.t 7), (.t 8)], none, []⟩,
 ⟨none, .store 5 (.t 2) (.t 9), none, []⟩])
 .ret)))⟩
def id_kdf_Expand : Nat := 58
def af_kdf_Expand : AFn := ⟨40, [.t 6, .t 7],
 (.seq none
 (.reg [
 ⟨some 3, .box (.t 0), none, []⟩,
 ⟨some 6, .mov (.c (.nils)), none, []⟩,
 ⟨some 7, .mov (.c (.int .i64 0)), none, []⟩])
 (.seq none
 (.seq none
 (.reg [
 ⟨some 12, .mov (.t 2), none, []⟩,
 ⟨some 13, .bin .lss (.t 12) (.c (.int .i64 0)), none, []⟩,
 ⟨some 14, .mov (.t 13), none, []⟩,
 ⟨some 15, .mov (.t 2), some (14, false), []⟩,
 ⟨some 16, .bin .gtr (.t 15) (.c (.int .i64 8160)), some (14, false), []⟩,
 ⟨some 17, .pick (.t 14) (.c (.bool true)) (.t 16), none, []⟩])
 (.cond (.t 17)
 (.seq none
 (.reg [
 ⟨some 6, .mov (.c (.nils)), none, []⟩,
 ⟨some 7, .mov (.c (.int .i64 2)), none, []⟩])
 .ret)
 .skip))
 (.seq none
 (.reg [
 ⟨some 8, .mov (.c (.nils)), none, []⟩,
 ⟨some 9, .mov (.c (.nils)), none, []⟩])
 (.seq none
 (.seq none
 (.reg [
 ⟨some 10, .mov (.c (.int .i64 1)), none, []⟩])
 (.block 0 none
 (.loop 1000000 none
 (.seq none
 (.seq none
 (.reg [
 ⟨some 18, .mov (.t 8), none, []⟩,
 ⟨some 19, .len false (.t 18), none, []⟩,
 ⟨some 20, .mov (.t 2), none, []⟩,
 ⟨some 21, .bin .lss (.t 19) (.t 20), none, []⟩])
 (.cond (.t 21)
 .skip
 (.exit 0)))
 (.seq none
 (.block 1 none
 (.seq none
 (.reg [
 ⟨some 24, .slArr 32 0 (.t 3) none none none, none, []⟩,
 ⟨some 25, .mov (.t 9), none, []⟩,
 ⟨some 26, .mov (.t 1), none, []⟩,
 ⟨some 27, .mov (.t 10), none, []⟩,
 ⟨some 28, .toInt .u8 (.t 27), none, []⟩,
 ⟨some 29, .bslice [.ints .u8 1 (List.replicate 1 0)] 1 0 [(0, 1, (.t 28))], none, []⟩,
 ⟨some 30, .bslice [.nils, .nils, .nils] 3 1 [(0, 1, (.t 25)), (1, 1, (.t 26)), (2, 1, (.t 29))], none, []⟩,
 ⟨some 31, .call 41 [(.t 24), (.t 30)], none, []⟩,
 ⟨some 11, .alloc [.ints .u8 32 (List.replicate 32 0)], none, []⟩,
 ⟨none, .store 32 (.t 11) (.t 31), none, []⟩])
 (.seq none
 (.reg [
 ⟨some 32, .slArr 32 0 (.t 11) none none none, none, []⟩,
 ⟨some 9, .mov (.t 32), none, []⟩])
 (.reg [
 ⟨some 33, .mov (.t 8), none, []⟩,
 ⟨some 34, .mov (.t 9), none, []⟩,
 ⟨some 35, .appendI .u8 1 (.t 33) (.t 34), none, []⟩,
 ⟨some 8, .mov (.t 35), none, []⟩]))))
 (.reg [
 ⟨some 22, .mov (.t 10), none, []⟩,
 ⟨some 23, .bin .add (.t 22) (.c (.int .i64 1)), none, []⟩,
 ⟨some 10, .mov (.t 23), none, []⟩]))))))
 (.seq none
 (.reg [
 ⟨some 36, .mov (.t 8), none, []⟩,
 ⟨some 37, .mov (.t 2), none, []⟩,
 ⟨some 38, .mov (.t 2), none, []⟩,
 ⟨some 39, .slSlice 1 (.t 36) none (some (.t 37)) (some (.t 38)), none, []⟩,
 ⟨some 6, .mov (.t 39), none, []⟩,
 ⟨some 7, .mov (.c (.int .i64 0)), none, []⟩])
 .ret)))))⟩
def id_kdf_info : Nat := 59
def af_kdf_info : AFn := ⟨29, [.t 4],
 (.seq none
 (.reg [
 ⟨some 4, .mov (.c (.nils)), none, []⟩])
 (.seq none
 (.reg [
 ⟨some 8, .mov (.t 0), none, []⟩,
 ⟨some 9, .len true (.t 8), none, []⟩,
 ⟨some 10, .toInt .u32 (.t 9), none, []⟩,
 ⟨some 11, .call 12 [(.c (.nils)), (.t 10)], none, []⟩,
 ⟨some 12, .mov (.t 0), none, []⟩,
 ⟨some 13, .appendI .u8 1 (.t 11) (.t 12), none, []⟩,
 ⟨some 5, .mov (.t 13), none, []⟩])
 (.seq none
 (.seq none
 (.reg [
 ⟨some 14, .mov (.t 1), none, []⟩,
 ⟨some 15, .len false (.t 14), none, []⟩,
 ⟨some 16, .mov (.c (.int .i64 0)), none, []⟩])
 (.block 0 none
 (.loop 1000000 none
 (.seq none
 (.reg [
 ⟨some 17, .bin .lss (.t 16) (.t 15), none, []⟩])
 (.seq none
 (.cond (.t 17)
 .skip
 (.exit 0))
 (.seq none
 (.block 1 none
 (.seq none
 (.reg [
 ⟨some 18, .iaddrS 1 (.t 14) (.t 16), none, []⟩,
 ⟨some 19, .load false 1 (.t 18), none, []⟩,
 ⟨some 7, .mov (.t 19), none, []⟩])
 (.reg [
 ⟨some 20, .mov (.t 5), none, []⟩,
 ⟨some 21, .mov (.t 7), none, []⟩,
 ⟨some 22, .len false (.t 21), none, []⟩,
 ⟨some 23, .toInt .u32 (.t 22), none, []⟩,
 ⟨some 24, .call 12 [(.t 20), (.t 23)], none, []⟩,
 ⟨some 25, .mov (.t 7), none, []⟩,
 ⟨some 26, .appendI .u8 1 (.t 24) (.t 25), none, []⟩,
 ⟨some 5, .mov (.t 26), none, []⟩])))
 (.reg [
 ⟨some 27, .bin .add (.t 16) (.c (.int .i64 1)), none, []⟩,
 ⟨some 16, .mov (.t 27), none, []⟩])))))))
 (.seq none
 (.reg [
 ⟨some 28, .mov (.t 5), none, []⟩,
 ⟨some 4, .mov (.t 28), none, []⟩])
 .ret))))⟩
def id_sha_Sum : Nat := 60
def af_sha_Sum : AFn := ⟨10, [.cell 2 true 32],
 (.seq none
 (.reg [
 ⟨some 2, .alloc [.ints .u8 32 (List.replicate 32 0)], none, []⟩])
 (.seq none
 (.reg [
 ⟨some 4, .call 62 [], none, []⟩,
 ⟨some 3, .mov (.t 4), none, []⟩])
 (.seq none
 (.reg [
 ⟨some 5, .mov (.t 3), none, []⟩,
 ⟨some 6, .mov (.t 0), none, []⟩,
 ⟨some 7, .call 81 [(.t 5), (.t 6)], none, []⟩])
 (.seq none
 (.reg [
 ⟨some 8, .mov (.t 3), none, []⟩,
 ⟨some 9, .call 64 [(.t 8)], none, []⟩,
 ⟨none, .store 32 (.t 2) (.t 9), none, []⟩])
 .ret))))⟩
def id_kdf_Hmac_1 : Nat := 61
def af_kdf_Hmac_1 : AFn := ⟨27, [.t 3],
 (.seq none
 (.reg [
 ⟨some 3, .mov (.c (.nilp)), none, []⟩])
 (.seq none
 (.reg [
 ⟨some 7, .call 62 [], none, []⟩,
 ⟨some 4, .mov (.t 7), none, []⟩])
 (.seq none
 (.reg [
 ⟨some 8, .load false 1 (.t 1), none, []⟩,
 ⟨some 9, .call 48 [(.t 8)], none, []⟩,
 ⟨some 5, .mov (.t 9), none, []⟩])
 (.seq none
 (.seq none
 (.reg [
 ⟨some 10, .mov (.t 5), none, []⟩,
 ⟨some 11, .len false (.t 10), none, []⟩,
 ⟨some 12, .mov (.c (.int .i64 0)), none, []⟩])
 (.block 0 none
 (.loop 1000000 none
 (.seq none
 (.reg [
 ⟨some 13, .bin .lss (.t 12) (.t 11), none, []⟩])
 (.seq none
 (.cond (.t 13)
 .skip
 (.exit 0))
 (.seq none
 (.block 1 none
 (.seq none
 (.reg [
 ⟨some 14, .mov (.t 12), none, []⟩,
 ⟨some 6, .mov (.t 14), none, []⟩])
 (.reg [
 ⟨some 15, .mov (.t 5), none, []⟩,
 ⟨some 16, .mov (.t 6), none, []⟩,
 ⟨some 17, .iaddrS 1 (.t 15) (.t 16), none, []⟩,
 ⟨some 18, .load false 1 (.t 17), none, []⟩,
 ⟨some 19, .mov (.t 0), none, []⟩,
 ⟨some 20, .bin .xor (.t 18) (.t 19), none, []⟩,
 ⟨some 21, .iaddrS 1 (.t 15) (.t 16), none, []⟩,
 ⟨none, .store 1 (.t 21) (.t 20), none, []⟩])))
 (.reg [
 ⟨some 22, .bin .add (.t 12) (.c (.int .i64 1)), none, []⟩,
 ⟨some 12, .mov (.t 22), none, []⟩])))))))
 (.seq none
 (.reg [
 ⟨some 23, .mov (.t 4), none, []⟩,
 ⟨some 24, .mov (.t 5), none, []⟩,
 ⟨some 25, .call 63 [(.t 23), (.t 24)], none, []⟩])
 (.seq none
 (.reg [
 ⟨some 26, .mov (.t 4), none, []⟩,
 ⟨some 3, .mov (.t 26), none, []⟩])
 .ret))))))⟩
def id_sha_New : Nat := 62
def af_sha_New : AFn := ⟨12, [.t 0],
 (.seq none
 (.reg [
 ⟨some 0, .mov (.c (.nilp)), none, []⟩])
 (.seq none
 (.reg [
 ⟨some 2, .call 82 [(.c (.str ⟨#[52, 50, 56, 97, 50, 102, 57, 56, 55, 49, 51, 55, 52, 52, 57, 49, 98, 53, 99, 48, 102, 98, 99, 102, 101, 57, 98, 53, 100, 98, 97, 53, 51, 57, 53, 54, 99, 50, 53, 98, 53, 57, 102, 49, 49, 49, 102, 49, 57, 50, 51, 102, 56, 50, 97, 52, 97, 98, 49, 99, 53, 101, 100, 53, 100, 56, 48, 55, 97, 97, 57, 56, 49, 50, 56, 51, 53, 98, 48, 49, 50, 52, 51, 49, 56, 53, 98, 101, 53, 53, 48, 99, 55, 100, 99, 51, 55, 50, 98, 101, 53, 100, 55, 52, 56, 48, 100, 101, 98, 49, 102, 101, 57, 98, 100, 99, 48, 54, 97, 55, 99, 49, 57, 98, 102, 49, 55, 52, 101, 52, 57, 98, 54, 57, 99, 49, 101, 102, 98, 101, 52, 55, 56, 54, 48, 102, 99, 49, 57, 100, 99, 54, 50, 52, 48, 99, 97, 49, 99, 99, 50, 100, 101, 57, 50, 99, 54, 102, 52, 97, 55, 52, 56, 52, 97, 97, 53, 99, 98, 48, 97, 57, 100, 99, 55, 54, 102, 57, 56, 56, 100, 97, 57, 56, 51, 101, 53, 49, 53, 50, 97, 56, 51, 49, 99, 54, 54, 100, 98, 48, 48, 51, 50, 55, 99, 56, 98, 102, 53, 57, 55, 102, 99, 55, 99, 54, 101, 48, 48, 98, 102, 51, 100, 53, 97, 55, 57, 49, 52, 55, 48, 54, 99, 97, 54, 51, 53, 49, 49, 52, 50, 57, 50, 57, 54, 55, 50, 55, 98, 55, 48, 97, 56, 53, 50, 101, 49, 98, 50, 49, 51, 56, 52, 100, 50, 99, 54, 100, 102, 99, 53, 51, 51, 56, 48, 100, 49, 51, 54, 53, 48, 97, 55, 51, 53, 52, 55, 54, 54, 97, 48, 97, 98, 98, 56, 49, 99, 50, 99, 57, 50, 101, 57, 50, 55, 50, 50, 99, 56, 53, 97, 50, 98, 102, 101, 56, 97, 49, 97, 56, 49, 97, 54, 54, 52, 98, 99, 50, 52, 98, 56, 98, 55, 48, 99, 55, 54, 99, 53, 49, 97, 51, 100, 49, 57, 50, 101, 56, 49, 57, 100, 54, 57, 57, 48, 54, 50, 52, 102, 52, 48, 101, 51, 53, 56, 53, 49, 48, 54, 97, 97, 48, 55, 48, 49, 57, 97, 52, 99, 49, 49, 54, 49, 101, 51, 55, 54, 99, 48, 56, 50, 55, 52, 56, 55, 55, 52, 99, 51, 52, 98, 48, 98, 99, 98, 53, 51, 57, 49, 99, 48, 99, 98, 51, 52, 101, 100, 56, 97, 97, 52, 97, 53, 98, 57, 99, 99, 97, 52, 102, 54, 56, 50, 101, 54, 102, 102, 51, 55, 52, 56, 102, 56, 50, 101, 101, 55, 56, 97, 53, 54, 51, 54, 102, 56, 52, 99, 56, 55, 56, 49, 52, 56, 99, 99, 55, 48, 50, 48, 56, 57, 48, 98, 101, 102, 102, 102, 97, 97, 52, 53, 48, 54, 99, 101, 98, 98, 101, 102, 57, 97, 51, 102, 55, 99, 54, 55, 49, 55, 56, 102, 50]⟩))], none, []⟩,
 ⟨some 3, .build [.ints .u32 8 (List.replicate 8 0), .nils, .ints .u8 64 (List.replicate 64 0), .int .i64 0] [(8, 1, (.t 2))], none, []⟩,
 ⟨some 4, .box (.t 3), none, []⟩,
 ⟨some 1, .mov (.t 4), none, []⟩])
 (.seq none
 (.draw [
 ⟨some 5, .mov (.t 1), none, []⟩,
 ⟨some 6, .nilChk (.t 5), none, [0]⟩,
 ⟨some 7, .faddr 0 (.t 6), none, [1]⟩,
 ⟨some 8, .slArr 8 0 (.t 7) none none none, none, [2]⟩,
 ⟨some 9, .call 82 [(.c (.str ⟨#[54, 97, 48, 57, 101, 54, 54, 55, 98, 98, 54, 55, 97, 101, 56, 53, 51, 99, 54, 101, 102, 51, 55, 50, 97, 53, 52, 102, 102, 53, 51, 97, 53, 49, 48, 101, 53, 50, 55, 102, 57, 98, 48, 53, 54, 56, 56, 99, 49, 102, 56, 51, 100, 57, 97, 98, 53, 98, 101, 48, 99, 100, 49, 57]⟩))], none, []⟩,
 ⟨some 10, .copyI (.t 8) (.t 9), none, [3, 4, 4]⟩])
 (.seq none
 (.reg [
 ⟨some 11, .mov (.t 1), none, []⟩,
 ⟨some 0, .mov (.t 11), none, []⟩])
 .ret))))⟩
def id_sha_Hash_Write : Nat := 63
def af_sha_Hash_Write : AFn := ⟨10, [.t 4],
 (.seq none
 (.reg [
 ⟨some 4, .mov (.c (.int .i64 0)), none, []⟩])
 (.seq none
 (.seq none
 (.reg [
 ⟨some 5, .mov (.t 0), none, []⟩,
 ⟨some 6, .eqv false .ptr (.t 5) (.c (.nilp)), none, []⟩])
 (.cond (.t 6)
 (.seq none
 (.reg [
 ⟨some 4, .mov (.c (.int .i64 1)), none, []⟩])
 .ret)
 .skip))
 (.seq none
 (.reg [
 ⟨some 7, .mov (.t 0), none, []⟩,
 ⟨some 8, .mov (.t 1), none, []⟩,
 ⟨some 9, .call 81 [(.t 7), (.t 8)], none, []⟩])
 (.seq none
 (.reg [
 ⟨some 4, .mov (.c (.int .i64 0)), none, []⟩])
 .ret))))⟩
def id_sha_Hash_Sum : Nat := 64
def af_sha_Hash_Sum : AFn := ⟨55, [.cell 2 true 32],
 (.seq none
 (.reg [
 ⟨some 2, .alloc [.ints .u8 32 (List.replicate 32 0)], none, []⟩])
 (.seq none
 (.reg [
 ⟨some 3, .alloc [.ints .u8 32 (List.replicate 32 0)], none, []⟩])
 (.seq none
 (.seq none
 (.reg [
 ⟨some 7, .mov (.t 0), none, []⟩,
 ⟨some 8, .eqv false .ptr (.t 7) (.c (.nilp)), none, []⟩])
 (.cond (.t 8)
 (.seq none
 (.reg [
 ⟨some 9, .load true 32 (.t 3), none, []⟩,
 ⟨none, .store 32 (.t 2) (.t 9), none, []⟩])
 .ret)
 .skip))
 (.seq none
 (.reg [
 ⟨some 10, .mov (.t 0), none, []⟩,
 ⟨some 11, .call 83 [(.t 10)], none, []⟩,
 ⟨some 4, .mov (.t 11), none, []⟩])
 (.seq none
 (.reg [
 ⟨some 12, .mov (.t 4), none, []⟩,
 ⟨some 13, .mov (.t 0), none, []⟩,
 ⟨some 14, .nilChk (.t 13), none, []⟩,
 ⟨some 15, .faddr 73 (.t 14), none, []⟩,
 ⟨some 16, .load false 1 (.t 15), none, []⟩,
 ⟨some 17, .call 84 [(.t 16)], none, []⟩,
 ⟨some 18, .call 81 [(.t 12), (.t 17)], none, []⟩])
 (.seq none
 (.seq none
 (.reg [
 ⟨some 19, .mov (.t 4), none, []⟩,
 ⟨some 20, .nilChk (.t 19), none, []⟩,
 ⟨some 21, .faddr 0 (.t 20), none, []⟩,
 ⟨some 22, .load true 8 (.t 21), none, []⟩,
 ⟨some 23, .mov (.c (.int .i64 0)), none, []⟩])
 (.block 0 none
 (.loop 1000000 none
 (.seq none
 (.reg [
 ⟨some 24, .bin .lss (.t 23) (.c (.int .i64 8)), none, []⟩])
 (.seq none
 (.cond (.t 24)
 .skip
 (.exit 0))
 (.seq none
 (.block 1 none
 (.seq none
 (.reg [
 ⟨some 25, .mov (.t 23), none, []⟩,
 ⟨some 26, .idxA false 8 1 (.t 22) (.t 23), none, []⟩,
 ⟨some 5, .mov (.t 25), none, []⟩,
 ⟨some 6, .mov (.t 26), none, []⟩])
 (.reg [
 ⟨some 27, .mov (.t 5), none, []⟩,
 ⟨some 28, .bin .mul (.c (.int .i64 4)) (.t 27), none, []⟩,
 ⟨some 29, .mov (.t 5), none, []⟩,
 ⟨some 30, .bin .mul (.c (.int .i64 4)) (.t 29), none, []⟩,
 ⟨some 31, .bin .add (.t 30) (.c (.int .i64 1)), none, []⟩,
 ⟨some 32, .mov (.t 5), none, []⟩,
 ⟨some 33, .bin .mul (.c (.int .i64 4)) (.t 32), none, []⟩,
 ⟨some 34, .bin .add (.t 33) (.c (.int .i64 2)), none, []⟩,
 ⟨some 35, .mov (.t 5), none, []⟩,
 ⟨some 36, .bin .mul (.c (.int .i64 4)) (.t 35), none, []⟩,
 ⟨some 37, .bin .add (.t 36) (.c (.int .i64 3)), none, []⟩,
 ⟨some 38, .mov (.t 6), none, []⟩,
 ⟨some 39, .bin .shr (.t 38) (.c (.int .u64 24)), none, []⟩,
 ⟨some 40, .toInt .u8 (.t 39), none, []⟩,
 ⟨some 41, .mov (.t 6), none, []⟩,
 ⟨some 42, .bin .shr (.t 41) (.c (.int .u64 16)), none, []⟩,
 ⟨some 43, .toInt .u8 (.t 42), none, []⟩,
 ⟨some 44, .mov (.t 6), none, []⟩,
 ⟨some 45, .bin .shr (.t 44) (.c (.int .u64 8)), none, []⟩,
 ⟨some 46, .toInt .u8 (.t 45), none, []⟩,
 ⟨some 47, .mov (.t 6), none, []⟩,
 ⟨some 48, .toInt .u8 (.t 47), none, []⟩,
 ⟨some 49, .iaddrA 32 0 (.t 3) (.t 28), none, []⟩,
 ⟨none, .store 1 (.t 49) (.t 40), none, []⟩,
 ⟨some 50, .iaddrA 32 0 (.t 3) (.t 31), none, []⟩,
 ⟨none, .store 1 (.t 50) (.t 43), none, []⟩,
 ⟨some 51, .iaddrA 32 0 (.t 3) (.t 34), none, []⟩,
 ⟨none, .store 1 (.t 51) (.t 46), none, []⟩,
 ⟨some 52, .iaddrA 32 0 (.t 3) (.t 37), none, []⟩,
 ⟨none, .store 1 (.t 52) (.t 48), none, []⟩])))
 (.reg [
 ⟨some 53, .bin .add (.t 23) (.c (.int .i64 1)), none, []⟩,
 ⟨some 23, .mov (.t 53), none, []⟩])))))))
 (.seq none
 (.reg [
 ⟨some 54, .load true 32 (.t 3), none, []⟩,
 ⟨none, .store 32 (.t 2) (.t 54), none, []⟩])
 .ret)))))))⟩
def id_chacha_Block : Nat := 65
def af_chacha_Block : AFn := ⟨94, [.cell 6 true 64],
 (.seq none
 (.reg [
 ⟨some 3, .box (.t 0), none, []⟩,
 ⟨some 5, .box (.t 2), none, []⟩,
 ⟨some 6, .alloc [.ints .u8 64 (List.replicate 64 0)], none, []⟩])
 (.seq none
 (.reg [
 ⟨some 15, .load true 32 (.t 3), none, []⟩,
 ⟨some 16, .mov (.t 1), none, []⟩,
 ⟨some 17, .load true 12 (.t 5), none, []⟩,
 ⟨some 18, .call 85 [(.t 15), (.t 16), (.t 17)], none, []⟩,
 ⟨some 7, .alloc [.ints .u32 16 (List.replicate 16 0)], none, []⟩,
 ⟨none, .store 16 (.t 7) (.t 18), none, []⟩])
 (.seq none
 (.reg [
 ⟨some 19, .load true 16 (.t 7), none, []⟩,
 ⟨some 8, .alloc [.ints .u32 16 (List.replicate 16 0)], none, []⟩,
 ⟨none, .store 16 (.t 8) (.t 19), none, []⟩])
 (.seq none
 (.reg [
 ⟨some 20, .mkf 86 [] [(.t 8)], none, []⟩,
 ⟨some 9, .mov (.t 20), none, []⟩])
 (.seq none
 (.seq none
 (.reg [
 ⟨some 21, .mov (.c (.int .i64 0)), none, []⟩])
 (.block 0 none
 (.loop 1000000 none
 (.seq none
 (.reg [
 ⟨some 22, .bin .lss (.t 21) (.c (.int .i64 10)), none, []⟩])
 (.seq none
 (.cond (.t 22)
 .skip
 (.exit 0))
 (.seq none
 (.block 1 none
 (.seq none
 (.seq none
 (.reg [
 ⟨some 23, .mov (.c (.int .i64 0)), none, []⟩])
 (.block 2 none
 (.loop 1000000 none
 (.seq none
 (.reg [
 ⟨some 24, .bin .lss (.t 23) (.c (.int .i64 4)), none, []⟩])
 (.seq none
 (.cond (.t 24)
 .skip
 (.exit 2))
 (.seq none
 (.block 3 none
 (.seq none
 (.reg [
 ⟨some 25, .mov (.t 23), none, []⟩,
 ⟨some 10, .mov (.t 25), none, []⟩])
 (.reg [
 ⟨some 26, .mov (.t 9), none, []⟩,
 ⟨some 27, .mov (.t 10), none, []⟩,
 ⟨some 28, .mov (.t 10), none, []⟩,
 ⟨some 29, .bin .add (.c (.int .i64 4)) (.t 28), none, []⟩,
 ⟨some 30, .mov (.t 10), none, []⟩,
 ⟨some 31, .bin .add (.c (.int .i64 8)) (.t 30), none, []⟩,
 ⟨some 32, .mov (.t 10), none, []⟩,
 ⟨some 33, .bin .add (.c (.int .i64 12)) (.t 32), none, []⟩,
 ⟨some 34, .callV (.t 26) [(.t 27), (.t 29), (.t 31), (.t 33)], none, []⟩])))
 (.reg [
 ⟨some 35, .bin .add (.t 23) (.c (.int .i64 1)), none, []⟩,
 ⟨some 23, .mov (.t 35), none, []⟩])))))))
 (.seq none
 (.reg [
 ⟨some 36, .mov (.c (.int .i64 0)), none, []⟩])
 (.block 4 none
 (.loop 1000000 none
 (.seq none
 (.reg [
 ⟨some 37, .bin .lss (.t 36) (.c (.int .i64 4)), none, []⟩])
 (.seq none
 (.cond (.t 37)
 .skip
 (.exit 4))
 (.seq none
 (.block 5 none
 (.seq none
 (.reg [
 ⟨some 38, .mov (.t 36), none, []⟩,
 ⟨some 11, .mov (.t 38), none, []⟩])
 (.reg [
 ⟨some 39, .mov (.t 9), none, []⟩,
 ⟨some 40, .mov (.t 11), none, []⟩,
 ⟨some 41, .mov (.t 11), none, []⟩,
 ⟨some 42, .bin .add (.t 41) (.c (.int .i64 1)), none, []⟩,
 ⟨some 43, .bin .rem (.t 42) (.c (.int .i64 4)), none, []⟩,
 ⟨some 44, .bin .add (.c (.int .i64 4)) (.t 43), none, []⟩,
 ⟨some 45, .mov (.t 11), none, []⟩,
 ⟨some 46, .bin .add (.t 45) (.c (.int .i64 2)), none, []⟩,
 ⟨some 47, .bin .rem (.t 46) (.c (.int .i64 4)), none, []⟩,
 ⟨some 48, .bin .add (.c (.int .i64 8)) (.t 47), none, []⟩,
 ⟨some 49, .mov (.t 11), none, []⟩,
 ⟨some 50, .bin .add (.t 49) (.c (.int .i64 3)), none, []⟩,
 ⟨some 51, .bin .rem (.t 50) (.c (.int .i64 4)), none, []⟩,
 ⟨some 52, .bin .add (.c (.int .i64 12)) (.t 51), none, []⟩,
 ⟨some 53, .callV (.t 39) [(.t 40), (.t 44), (.t 48), (.t 52)], none, []⟩])))
 (.reg [
 ⟨some 54, .bin .add (.t 36) (.c (.int .i64 1)), none, []⟩,
 ⟨some 36, .mov (.t 54), none, []⟩])))))))))
 (.reg [
 ⟨some 55, .bin .add (.t 21) (.c (.int .i64 1)), none, []⟩,
 ⟨some 21, .mov (.t 55), none, []⟩])))))))
 (.seq none
 (.reg [
 ⟨some 12, .alloc [.ints .u8 64 (List.replicate 64 0)], none, []⟩])
 (.seq none
 (.seq none
 (.reg [
 ⟨some 56, .load true 16 (.t 8), none, []⟩,
 ⟨some 57, .mov (.c (.int .i64 0)), none, []⟩])
 (.block 6 none
 (.loop 1000000 none
 (.seq none
 (.reg [
 ⟨some 58, .bin .lss (.t 57) (.c (.int .i64 16)), none, []⟩])
 (.seq none
 (.cond (.t 58)
 .skip
 (.exit 6))
 (.seq none
 (.block 7 none
 (.seq none
 (.reg [
 ⟨some 59, .mov (.t 57), none, []⟩,
 ⟨some 60, .idxA false 16 1 (.t 56) (.t 57), none, []⟩,
 ⟨some 13, .mov (.t 59), none, []⟩,
 ⟨some 14, .mov (.t 60), none, []⟩])
 (.seq none
 (.reg [
 ⟨some 61, .mov (.t 14), none, []⟩,
 ⟨some 62, .mov (.t 13), none, []⟩,
 ⟨some 63, .iaddrA 16 0 (.t 7) (.t 62), none, []⟩,
 ⟨some 64, .load false 1 (.t 63), none, []⟩,
 ⟨some 65, .bin .add (.t 61) (.t 64), none, []⟩,
 ⟨some 14, .mov (.t 65), none, []⟩])
 (.reg [
 ⟨some 66, .mov (.t 13), none, []⟩,
 ⟨some 67, .bin .mul (.c (.int .i64 4)) (.t 66), none, []⟩,
 ⟨some 68, .mov (.t 13), none, []⟩,
 ⟨some 69, .bin .mul (.c (.int .i64 4)) (.t 68), none, []⟩,
 ⟨some 70, .bin .add (.t 69) (.c (.int .i64 1)), none, []⟩,
 ⟨some 71, .mov (.t 13), none, []⟩,
 ⟨some 72, .bin .mul (.c (.int .i64 4)) (.t 71), none, []⟩,
 ⟨some 73, .bin .add (.t 72) (.c (.int .i64 2)), none, []⟩,
 ⟨some 74, .mov (.t 13), none, []⟩,
 ⟨some 75, .bin .mul (.c (.int .i64 4)) (.t 74), none, []⟩,
 ⟨some 76, .bin .add (.t 75) (.c (.int .i64 3)), none, []⟩,
 ⟨some 77, .mov (.t 14), none, []⟩,
 ⟨some 78, .toInt .u8 (.t 77), none, []⟩,
 ⟨some 79, .mov (.t 14), none, []⟩,
 ⟨some 80, .bin .shr (.t 79) (.c (.int .u64 8)), none, []⟩,
 ⟨some 81, .toInt .u8 (.t 80), none, []⟩,
 ⟨some 82, .mov (.t 14), none, []⟩,
 ⟨some 83, .bin .shr (.t 82) (.c (.int .u64 16)), none, []⟩,
 ⟨some 84, .toInt .u8 (.t 83), none, []⟩,
 ⟨some 85, .mov (.t 14), none, []⟩,
 ⟨some 86, .bin .shr (.t 85) (.c (.int .u64 24)), none, []⟩,
 ⟨some 87, .toInt .u8 (.t 86), none, []⟩,
 ⟨some 88, .iaddrA 64 0 (.t 12) (.t 67), none, []⟩,
 ⟨none, .store 1 (.t 88) (.t 78), none, []⟩,
 ⟨some 89, .iaddrA 64 0 (.t 12) (.t 70), none, []⟩,
 ⟨none, .store 1 (.t 89) (.t 81), none, []⟩,
 ⟨some 90, .iaddrA 64 0 (.t 12) (.t 73), none, []⟩,
 ⟨none, .store 1 (.t 90) (.t 84), none, []⟩,
 ⟨some 91, .iaddrA 64 0 (.t 12) (.t 76), none, []⟩,
 ⟨none, .store 1 (.t 91) (.t 87), none, []⟩]))))
 (.reg [
 ⟨some 92, .bin .add (.t 57) (.c (.int .i64 1)), none, []⟩,
 ⟨some 57, .mov (.t 92), none, []⟩])))))))
 (.seq none
 (.reg [
 ⟨some 93, .load true 64 (.t 12), none, []⟩,
 ⟨none, .store 64 (.t 6) (.t 93), none, []⟩])
 .ret))))))))⟩
def id_poly_New : Nat := 66
def af_poly_New : AFn := ⟨13, [.t 2],
 (.seq none
 (.reg [
 ⟨some 1, .box (.t 0), none, []⟩,
 ⟨some 2, .mov (.c (.nilp)), none, []⟩])
 (.seq none
 (.reg [
 ⟨some 4, .load true 32 (.t 1), none, []⟩,
 ⟨some 5, .call 88 [(.t 4)], none, []⟩,
 ⟨some 3, .alloc [.ints .u8 16 (List.replicate 16 0)], none, []⟩,
 ⟨none, .store 16 (.t 3) (.t 5), none, []⟩])
 (.seq none
 (.draw [
 ⟨some 6, .slArr 16 0 (.t 3) none none none, none, []⟩,
 ⟨some 7, .call 89 [(.t 6), (.c (.int .u64 0))], none, [0]⟩,
 ⟨some 8, .slArr 32 0 (.t 1) (some (.c (.int .i64 16))) none none, none, []⟩,
 ⟨some 9, .arrPtr 16 (.t 8), none, [2]⟩,
 ⟨some 10, .load true 16 (.t 9), none, [3]⟩,
 ⟨some 11, .build [.nils, .ints .u64 5 (List.replicate 5 0), .ints .u64 5 (List.replicate 5 0), .ints .u8 16 (List.replicate 16 0)] [(1, 5, (.t 7)), (11, 16, (.t 10))], none, [1, 4]⟩,
 ⟨some 12, .box (.t 11), none, [5]⟩,
 ⟨some 2, .mov (.t 12), none, [6, 1, 0, 1, 2, 3, 4, 5, 6]⟩])
 .ret)))⟩
def id_aead_Tag_1 : Nat := 67
def af_aead_Tag_1 : AFn := ⟨15, [],
 (.seq none
 (.reg [
 ⟨some 4, .load false 1 (.t 1), none, []⟩,
 ⟨some 5, .mov (.t 0), none, []⟩,
 ⟨some 6, .call 68 [(.t 4), (.t 5)], none, []⟩])
 (.draw [
 ⟨some 7, .load false 1 (.t 1), none, []⟩,
 ⟨some 8, .mov (.t 0), none, []⟩,
 ⟨some 9, .len false (.t 8), none, [1]⟩,
 ⟨some 10, .bin .rem (.t 9) (.c (.int .i64 16)), none, [2]⟩,
 ⟨some 11, .bin .sub (.c (.int .i64 16)) (.t 10), none, [3]⟩,
 ⟨some 12, .bin .rem (.t 11) (.c (.int .i64 16)), none, [4]⟩,
 ⟨some 13, .slArr 16 0 (.t 2) none (some (.t 12)) none, none, [5]⟩,
 ⟨some 14, .call 68 [(.t 7), (.t 13)], none, [0, 6]⟩]))⟩
def id_poly_Code_Write : Nat := 68
def af_poly_Code_Write : AFn := ⟨64, [.t 4],
 (.seq none
 (.reg [
 ⟨some 4, .mov (.c (.int .i64 0)), none, []⟩])
 (.seq none
 (.seq none
 (.reg [
 ⟨some 5, .mov (.t 0), none, []⟩,
 ⟨some 6, .eqv false .ptr (.t 5) (.c (.nilp)), none, []⟩])
 (.cond (.t 6)
 (.seq none
 (.reg [
 ⟨some 4, .mov (.c (.int .i64 1)), none, []⟩])
 .ret)
 .skip))
 (.seq none
 (.reg [
 ⟨some 7, .mov (.t 0), none, []⟩,
 ⟨some 8, .mov (.t 0), none, []⟩,
 ⟨some 9, .nilChk (.t 8), none, []⟩,
 ⟨some 10, .faddr 0 (.t 9), none, []⟩,
 ⟨some 11, .faddr 0 (.t 10), none, []⟩,
 ⟨some 12, .load false 1 (.t 11), none, []⟩,
 ⟨some 13, .mov (.t 1), none, []⟩,
 ⟨some 14, .appendI .u8 1 (.t 12) (.t 13), none, []⟩,
 ⟨some 15, .nilChk (.t 7), none, []⟩,
 ⟨some 16, .faddr 0 (.t 15), none, []⟩,
 ⟨some 17, .faddr 0 (.t 16), none, []⟩,
 ⟨none, .store 1 (.t 17) (.t 14), none, []⟩])
 (.seq none
 (.block 0 none
 (.loop 1000000 none
 (.seq none
 (.seq none
 (.reg [
 ⟨some 18, .mov (.t 0), none, []⟩,
 ⟨some 19, .nilChk (.t 18), none, []⟩,
 ⟨some 20, .faddr 0 (.t 19), none, []⟩,
 ⟨some 21, .faddr 0 (.t 20), none, []⟩,
 ⟨some 22, .load false 1 (.t 21), none, []⟩,
 ⟨some 23, .len false (.t 22), none, []⟩,
 ⟨some 24, .bin .geq (.t 23) (.c (.int .i64 16)), none, []⟩])
 (.cond (.t 24)
 .skip
 (.exit 0)))
 (.block 1 none
 (.seq none
 (.draw [
 ⟨some 25, .mov (.t 0), none, []⟩,
 ⟨some 26, .mov (.t 0), none, []⟩,
 ⟨some 27, .nilChk (.t 26), none, [1]⟩,
 ⟨some 28, .faddr 6 (.t 27), none, [2]⟩,
 ⟨some 29, .load true 5 (.t 28), none, [3]⟩,
 ⟨some 30, .mov (.t 0), none, []⟩,
 ⟨some 31, .nilChk (.t 30), none, [5]⟩,
 ⟨some 32, .faddr 0 (.t 31), none, [6]⟩,
 ⟨some 33, .faddr 0 (.t 32), none, [7]⟩,
 ⟨some 34, .load false 1 (.t 33), none, [8]⟩,
 ⟨some 35, .slSlice 1 (.t 34) none (some (.c (.int .i64 16))) none, none, [9]⟩,
 ⟨some 36, .call 89 [(.t 35), (.c (.int .u64 1))], none, [10]⟩,
 ⟨some 37, .mov (.t 0), none, []⟩,
 ⟨some 38, .nilChk (.t 37), none, [12]⟩,
 ⟨some 39, .faddr 1 (.t 38), none, [13]⟩,
 ⟨some 40, .load true 5 (.t 39), none, [14]⟩,
 ⟨some 41, .call 90 [(.t 29), (.t 36), (.t 40)], none, [4, 11, 15, 11]⟩,
 ⟨some 42, .nilChk (.t 25), none, [0, 0, 1, 2, 3, 4, 5, 6, 7, 8, 9, 10, 11, 12, 13, 14, 15, 16]⟩,
 ⟨some 43, .faddr 6 (.t 42), none, [17, 0, 1, 2, 3, 4, 5, 6, 7, 8, 9, 10, 11, 12, 13, 14, 15, 16]⟩,
 ⟨none, .store 5 (.t 43) (.t 41), none, [18, 16, 16, 0, 1, 2, 3, 4, 5, 6, 7, 8, 9, 10, 11, 12, 13, 14, 15, 16]⟩])
 (.reg [
 ⟨some 44, .mov (.t 0), none, []⟩,
 ⟨some 45, .mov (.t 0), none, []⟩,
 ⟨some 46, .nilChk (.t 45), none, []⟩,
 ⟨some 47, .faddr 0 (.t 46), none, []⟩,
 ⟨some 48, .faddr 0 (.t 47), none, []⟩,
 ⟨some 49, .load false 1 (.t 48), none, []⟩,
 ⟨some 50, .slSlice 1 (.t 49) (some (.c (.int .i64 16))) none none, none, []⟩,
 ⟨some 51, .nilChk (.t 44), none, []⟩,
 ⟨some 52, .faddr 0 (.t 51), none, []⟩,
 ⟨some 53, .faddr 0 (.t 52), none, []⟩,
 ⟨none, .store 1 (.t 53) (.t 50), none, []⟩]))))))
 (.seq none
 (.reg [
 ⟨some 54, .mov (.t 0), none, []⟩,
 ⟨some 55, .mov (.t 0), none, []⟩,
 ⟨some 56, .nilChk (.t 55), none, []⟩,
 ⟨some 57, .faddr 0 (.t 56), none, []⟩,
 ⟨some 58, .faddr 0 (.t 57), none, []⟩,
 ⟨some 59, .load false 1 (.t 58), none, []⟩,
 ⟨some 60, .call 48 [(.t 59)], none, []⟩,
 ⟨some 61, .nilChk (.t 54), none, []⟩,
 ⟨some 62, .faddr 0 (.t 61), none, []⟩,
 ⟨some 63, .faddr 0 (.t 62), none, []⟩,
 ⟨none, .store 1 (.t 63) (.t 60), none, []⟩])
 (.seq none
 (.reg [
 ⟨some 4, .mov (.c (.int .i64 0)), none, []⟩])
 .ret))))))⟩
end Go.Am
