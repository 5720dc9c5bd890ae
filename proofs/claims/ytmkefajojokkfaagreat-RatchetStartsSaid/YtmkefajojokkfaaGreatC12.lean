/- RatchetStarts: part 13 of 50 of its proof. -/
import Derived.Test.YtmkefajojokkfaaGreatC11
set_option linter.unusedVariables false
set_option linter.unusedSimpArgs false
namespace Go.Am
def id_ident_Pair : Nat := 61
def af_ident_Pair : AFn := ⟨46, [.cell 4 true 33, .t 5],
 (.seq none
 (.reg [
 ⟨some 2, .box (.t 0), none, []⟩,
 ⟨some 3, .box (.t 1), none, []⟩,
 ⟨some 4, .alloc [.ints .u8 32 (List.replicate 32 0), .bool false], none, []⟩,
 ⟨some 5, .mov (.c (.int .i64 0)), none, []⟩])
 (.seq none
 (.reg [
 ⟨some 12, .load true 32 (.t 2), none, []⟩,
 ⟨some 13, .call 27 [(.t 12)], none, []⟩,
 ⟨some 6, .alloc [.ints .u8 32 (List.replicate 32 0)], none, []⟩,
 ⟨none, .store 32 (.t 6) (.t 13), none, []⟩])
 (.seq none
 (.seq none
 (.reg [
 ⟨some 14, .load true 32 (.t 6), none, []⟩,
 ⟨some 15, .load true 32 (.t 3), none, []⟩,
 ⟨some 16, .eqv false (.agg [true, true, true, true, true, true, true, true, true, true, true, true, true, true, true, true, true, true, true, true, true, true, true, true, true, true, true, true, true, true, true, true]) (.t 14) (.t 15), none, []⟩])
 (.cond (.t 16)
 (.seq none
 (.reg [
 ⟨some 17, .build [.ints .u8 32 (List.replicate 32 0), .bool false] [], none, []⟩,
 ⟨none, .store 33 (.t 4) (.t 17), none, []⟩,
 ⟨some 5, .mov (.c (.int .i64 262)), none, []⟩])
 .ret)
 .skip))
 (.seq none
 (.reg [
 ⟨some 19, .load true 32 (.t 2), none, []⟩,
 ⟨some 20, .load true 32 (.t 3), none, []⟩,
 ⟨some 21, .call 93 [(.t 19), (.t 20)], none, []⟩,
 ⟨some 18, .mov (.t 21), none, []⟩,
 ⟨some 22, .ext (.t 18) 0, none, []⟩,
 ⟨some 23, .ext (.t 18) 1, none, []⟩,
 ⟨some 7, .alloc [.ints .u8 32 (List.replicate 32 0)], none, []⟩,
 ⟨none, .store 32 (.t 7) (.t 22), none, []⟩,
 ⟨some 8, .mov (.t 23), none, []⟩])
 (.seq none
 (.seq none
 (.reg [
 ⟨some 24, .mov (.t 8), none, []⟩,
 ⟨some 25, .bin .neq (.t 24) (.c (.int .i64 0)), none, []⟩])
 (.cond (.t 25)
 (.seq none
 (.reg [
 ⟨some 26, .build [.ints .u8 32 (List.replicate 32 0), .bool false] [], none, []⟩,
 ⟨some 27, .mov (.t 8), none, []⟩,
 ⟨none, .store 33 (.t 4) (.t 26), none, []⟩,
 ⟨some 5, .mov (.t 27), none, []⟩])
 .ret)
 .skip))
 (.seq none
 (.reg [
 ⟨some 28, .load true 32 (.t 6), none, []⟩,
 ⟨some 29, .load true 32 (.t 3), none, []⟩,
 ⟨some 30, .call 94 [(.t 28), (.t 29)], none, []⟩,
 ⟨some 31, .build [.ints .u8 32 (List.replicate 32 0), .bool false] [(32, 1, (.t 30))], none, []⟩,
 ⟨some 9, .alloc [.ints .u8 32 (List.replicate 32 0), .bool false], none, []⟩,
 ⟨none, .store 33 (.t 9) (.t 31), none, []⟩])
 (.seq none
 (.draw [
 ⟨some 32, .load true 32 (.t 6), none, []⟩,
 ⟨some 33, .load true 32 (.t 3), none, []⟩,
 ⟨some 10, .alloc [.ints .u8 32 (List.replicate 32 0)], none, []⟩,
 ⟨some 11, .alloc [.ints .u8 32 (List.replicate 32 0)], none, []⟩,
 ⟨none, .store 32 (.t 10) (.t 32), none, [2, 0, 0, 2, 3]⟩,
 ⟨none, .store 32 (.t 11) (.t 33), none, [3, 1, 4, 0, 1, 2, 3, 4]⟩])
 (.seq none
 (.seq none
 (.reg [
 ⟨some 34, .faddr 32 (.t 9), none, []⟩,
 ⟨some 35, .load false 1 (.t 34), none, []⟩,
 ⟨some 36, .un .not (.t 35), none, []⟩])
 (.cond (.t 36)
 (.reg [
 ⟨some 37, .load true 32 (.t 11), none, []⟩,
 ⟨some 38, .load true 32 (.t 10), none, []⟩,
 ⟨none, .store 32 (.t 10) (.t 37), none, []⟩,
 ⟨none, .store 32 (.t 11) (.t 38), none, []⟩])
 .skip))
 (.seq none
 (.draw [
 ⟨some 39, .load true 32 (.t 7), none, []⟩,
 ⟨some 40, .slArr 32 0 (.t 10) none none none, none, []⟩,
 ⟨some 41, .slArr 32 0 (.t 11) none none none, none, []⟩,
 ⟨some 42, .bslice [.nils, .nils] 2 1 [(0, 1, (.t 40)), (1, 1, (.t 41))], none, [1, 2]⟩,
 ⟨some 43, .call 42 [(.t 39), (.c (.str ⟨#[112, 97, 105, 114]⟩)), (.t 42)], none, [0, 3]⟩,
 ⟨some 44, .faddr 0 (.t 9), none, [0, 1, 2, 3, 4]⟩,
 ⟨none, .store 32 (.t 44) (.t 43), none, [5, 4, 4, 0, 1, 2, 3, 4]⟩])
 (.seq none
 (.reg [
 ⟨some 45, .load true 33 (.t 9), none, []⟩,
 ⟨none, .store 33 (.t 4) (.t 45), none, []⟩,
 ⟨some 5, .mov (.c (.int .i64 0)), none, []⟩])
 .ret))))))))))⟩
def id_ratchet_Open_1 : Nat := 62
def af_ratchet_Open_1 : AFn := ⟨7, [.cell 2 true 164, .t 3, .t 4],
 (.seq none
 (.reg [
 ⟨some 2, .alloc [.ints .u8 32 (List.replicate 32 0), .ints .u8 32 (List.replicate 32 0), .ints .u8 32 (List.replicate 32 0), .ints .u8 32 (List.replicate 32 0), .ints .u8 32 (List.replicate 32 0), .int .u32 0, .int .u32 0, .int .u32 0, .nils], none, []⟩,
 ⟨some 3, .mov (.c (.str ⟨#[]⟩)), none, []⟩,
 ⟨some 4, .mov (.c (.int .i64 0)), none, []⟩])
 (.seq none
 (.reg [
 ⟨some 5, .build [.ints .u8 32 (List.replicate 32 0), .ints .u8 32 (List.replicate 32 0), .ints .u8 32 (List.replicate 32 0), .ints .u8 32 (List.replicate 32 0), .ints .u8 32 (List.replicate 32 0), .int .u32 0, .int .u32 0, .int .u32 0, .nils] [], none, []⟩,
 ⟨some 6, .mov (.t 0), none, []⟩,
 ⟨none, .store 164 (.t 2) (.t 5), none, []⟩,
 ⟨some 3, .mov (.c (.str ⟨#[]⟩)), none, []⟩,
 ⟨some 4, .mov (.t 6), none, []⟩])
 .ret))⟩
def id_ratchet_open : Nat := 63
def af_ratchet_open : AFn := ⟨25, [.t 4, .t 5],
 (.seq none
 (.reg [
 ⟨some 2, .box (.t 0), none, []⟩,
 ⟨some 3, .box (.t 1), none, []⟩,
 ⟨some 4, .mov (.c (.str ⟨#[]⟩)), none, []⟩,
 ⟨some 5, .mov (.c (.bool false)), none, []⟩])
 (.seq none
 (.draw [
 ⟨some 9, .load true 32 (.t 2), none, []⟩,
 ⟨some 10, .call 30 [(.c (.int .u64 0))], none, []⟩,
 ⟨some 11, .faddr 0 (.t 3), none, []⟩,
 ⟨some 12, .load true 34 (.t 11), none, [2]⟩,
 ⟨some 13, .call 31 [(.t 12)], none, [3, 1]⟩,
 ⟨some 14, .faddr 34 (.t 3), none, []⟩,
 ⟨some 15, .slArr 65 0 (.t 14) none none none, none, [5]⟩,
 ⟨some 16, .call 95 [(.t 9), (.t 10), (.t 13), (.t 15)], none, [0, 1, 4, 6, 4]⟩,
 ⟨some 8, .mov (.t 16), none, [7]⟩,
 ⟨some 17, .ext (.t 8) 0, none, [8]⟩,
 ⟨some 18, .ext (.t 8) 1, none, [8]⟩,
 ⟨some 6, .mov (.t 17), none, [9, 7, 0, 1, 2, 3, 4, 5, 6, 7, 8, 9]⟩,
 ⟨some 7, .mov (.t 18), none, [10, 11, 0, 1, 2, 3, 4, 5, 6, 7, 8, 9, 10, 11]⟩])
 (.seq none
 (.seq none
 (.reg [
 ⟨some 19, .mov (.t 7), none, []⟩,
 ⟨some 20, .bin .neq (.t 19) (.c (.int .i64 0)), none, []⟩])
 (.cond (.t 20)
 (.seq none
 (.reg [
 ⟨some 4, .mov (.c (.str ⟨#[]⟩)), none, []⟩,
 ⟨some 5, .mov (.c (.bool false)), none, []⟩])
 .ret)
 .skip))
 (.seq none
 (.reg [
 ⟨some 21, .mov (.t 6), none, []⟩,
 ⟨some 22, .call 96 [(.t 21)], none, []⟩,
 ⟨some 23, .ext (.t 22) 0, none, []⟩,
 ⟨some 24, .ext (.t 22) 1, none, []⟩,
 ⟨some 4, .mov (.t 23), none, []⟩,
 ⟨some 5, .mov (.t 24), none, []⟩])
 .ret))))⟩
def id_ratchet_over : Nat := 65
def af_ratchet_over : AFn := ⟨46, [.t 4],
 (.seq none
 (.reg [
 ⟨some 2, .box (.t 0), none, []⟩,
 ⟨some 3, .box (.t 1), none, []⟩,
 ⟨some 4, .mov (.c (.int .i64 0)), none, []⟩])
 (.seq none
 (.reg [
 ⟨some 6, .faddr 163 (.t 2), none, []⟩,
 ⟨some 7, .load false 1 (.t 6), none, []⟩,
 ⟨some 8, .len false (.t 7), none, []⟩,
 ⟨some 5, .mov (.t 8), none, []⟩])
 (.seq none
 (.seq none
 (.reg [
 ⟨some 9, .faddr 0 (.t 3), none, []⟩,
 ⟨some 10, .load true 32 (.t 9), none, []⟩,
 ⟨some 11, .faddr 64 (.t 2), none, []⟩,
 ⟨some 12, .load true 32 (.t 11), none, []⟩,
 ⟨some 13, .eqv true (.agg [true, true, true, true, true, true, true, true, true, true, true, true, true, true, true, true, true, true, true, true, true, true, true, true, true, true, true, true, true, true, true, true]) (.t 10) (.t 12), none, []⟩])
 (.cond (.t 13)
 (.seq none
 (.seq none
 (.draw [
 ⟨some 14, .faddr 128 (.t 2), none, []⟩,
 ⟨some 15, .load true 32 (.t 14), none, [0]⟩,
 ⟨some 16, .call 26 [], none, []⟩,
 ⟨some 17, .eqv true (.agg [true, true, true, true, true, true, true, true, true, true, true, true, true, true, true, true, true, true, true, true, true, true, true, true, true, true, true, true, true, true, true, true]) (.t 15) (.t 16), none, [1, 2]⟩,
 ⟨some 18, .mov (.t 17), none, [3, 2]⟩,
 ⟨some 19, .faddr 32 (.t 3), some (18, true), [4]⟩,
 ⟨some 20, .load false 1 (.t 19), some (18, true), [5, 4]⟩,
 ⟨some 21, .faddr 161 (.t 2), some (18, true), [4]⟩,
 ⟨some 22, .load false 1 (.t 21), some (18, true), [7, 4]⟩,
 ⟨some 23, .bin .gtr (.t 20) (.t 22), some (18, true), [6, 8, 4]⟩,
 ⟨some 24, .pick (.t 18) (.t 23) (.c (.bool false)), none, [4, 9]⟩])
 (.cond (.t 24)
 (.reg [
 ⟨some 25, .mov (.t 5), none, []⟩,
 ⟨some 26, .faddr 32 (.t 3), none, []⟩,
 ⟨some 27, .load false 1 (.t 26), none, []⟩,
 ⟨some 28, .faddr 161 (.t 2), none, []⟩,
 ⟨some 29, .load false 1 (.t 28), none, []⟩,
 ⟨some 30, .bin .sub (.t 27) (.t 29), none, []⟩,
 ⟨some 31, .toInt .i64 (.t 30), none, []⟩,
 ⟨some 32, .bin .add (.t 25) (.t 31), none, []⟩,
 ⟨some 5, .mov (.t 32), none, []⟩])
 .skip))
 (.seq none
 (.reg [
 ⟨some 33, .mov (.t 5), none, []⟩,
 ⟨some 34, .faddr 33 (.t 3), none, []⟩,
 ⟨some 35, .load false 1 (.t 34), none, []⟩,
 ⟨some 36, .toInt .i64 (.t 35), none, []⟩,
 ⟨some 37, .bin .add (.t 33) (.t 36), none, []⟩,
 ⟨some 4, .mov (.t 37), none, []⟩])
 .ret))
 .skip))
 (.seq none
 (.reg [
 ⟨some 38, .mov (.t 5), none, []⟩,
 ⟨some 39, .faddr 33 (.t 3), none, []⟩,
 ⟨some 40, .load false 1 (.t 39), none, []⟩,
 ⟨some 41, .faddr 161 (.t 2), none, []⟩,
 ⟨some 42, .load false 1 (.t 41), none, []⟩,
 ⟨some 43, .bin .sub (.t 40) (.t 42), none, []⟩,
 ⟨some 44, .toInt .i64 (.t 43), none, []⟩,
 ⟨some 45, .bin .add (.t 38) (.t 44), none, []⟩,
 ⟨some 4, .mov (.t 45), none, []⟩])
 .ret))))⟩
def id_ratchet_pass : Nat := 66
def af_ratchet_pass : AFn := ⟨57, [],
 (.jumps 1000000 0 none
 (.seq none
 (.seq none
 (.draw [
 ⟨some 6, .mov (.t 0), none, []⟩,
 ⟨some 7, .nilChk (.t 6), none, [0]⟩,
 ⟨some 8, .faddr 128 (.t 7), none, [1]⟩,
 ⟨some 9, .load true 32 (.t 8), none, [2]⟩,
 ⟨some 10, .call 26 [], none, []⟩,
 ⟨some 11, .eqv false (.agg [true, true, true, true, true, true, true, true, true, true, true, true, true, true, true, true, true, true, true, true, true, true, true, true, true, true, true, true, true, true, true, true]) (.t 9) (.t 10), none, [3, 4]⟩])
 (.cond (.t 11)
 .ret
 .skip))
 (.seq none
 (.label 0)
 (.seq none
 (.seq none
 (.reg [
 ⟨some 12, .mov (.t 0), none, []⟩,
 ⟨some 13, .nilChk (.t 12), none, []⟩,
 ⟨some 14, .faddr 161 (.t 13), none, []⟩,
 ⟨some 15, .load false 1 (.t 14), none, []⟩,
 ⟨some 16, .mov (.t 1), none, []⟩,
 ⟨some 17, .bin .geq (.t 15) (.t 16), none, []⟩])
 (.cond (.t 17)
 .ret
 .skip))
 (.seq none
 (.reg [
 ⟨some 19, .mov (.t 0), none, []⟩,
 ⟨some 20, .nilChk (.t 19), none, []⟩,
 ⟨some 21, .faddr 128 (.t 20), none, []⟩,
 ⟨some 22, .load true 32 (.t 21), none, []⟩,
 ⟨some 23, .call 28 [(.t 22)], none, []⟩,
 ⟨some 18, .mov (.t 23), none, []⟩,
 ⟨some 24, .ext (.t 18) 0, none, []⟩,
 ⟨some 25, .ext (.t 18) 1, none, []⟩,
 ⟨some 4, .alloc [.ints .u8 32 (List.replicate 32 0)], none, []⟩,
 ⟨some 5, .alloc [.ints .u8 32 (List.replicate 32 0)], none, []⟩,
 ⟨none, .store 32 (.t 4) (.t 24), none, []⟩,
 ⟨none, .store 32 (.t 5) (.t 25), none, []⟩])
 (.seq none
 (.draw [
 ⟨some 26, .mov (.t 0), none, []⟩,
 ⟨some 27, .mov (.t 0), none, []⟩,
 ⟨some 28, .nilChk (.t 27), none, [1]⟩,
 ⟨some 29, .faddr 163 (.t 28), none, [2]⟩,
 ⟨some 30, .load false 1 (.t 29), none, [3]⟩,
 ⟨some 31, .mov (.t 0), none, []⟩,
 ⟨some 32, .nilChk (.t 31), none, [5]⟩,
 ⟨some 33, .faddr 64 (.t 32), none, [6]⟩,
 ⟨some 34, .load true 32 (.t 33), none, [7]⟩,
 ⟨some 35, .mov (.t 0), none, []⟩,
 ⟨some 36, .nilChk (.t 35), none, [9]⟩,
 ⟨some 37, .faddr 161 (.t 36), none, [10]⟩,
 ⟨some 38, .load false 1 (.t 37), none, [11]⟩,
 ⟨some 39, .load true 32 (.t 5), none, []⟩,
 ⟨some 40, .build [.ints .u8 32 (List.replicate 32 0), .int .u32 0, .ints .u8 32 (List.replicate 32 0)] [(0, 32, (.t 34)), (32, 1, (.t 38)), (33, 32, (.t 39))], none, [8, 12, 13]⟩,
 ⟨some 41, .bslice [.ints .u8 32 (List.replicate 32 0), .int .u32 0, .ints .u8 32 (List.replicate 32 0)] 1 65 [(0, 65, (.t 40))], none, [14]⟩,
 ⟨some 42, .appendR 65 68 (.t 30) (.t 41), none, [4, 15]⟩,
 ⟨some 43, .nilChk (.t 26), none, [0, 0, 1, 2, 3, 4, 5, 6, 7, 8, 9, 10, 11, 12, 13, 14, 15, 16]⟩,
 ⟨some 44, .faddr 163 (.t 43), none, [17, 0, 1, 2, 3, 4, 5, 6, 7, 8, 9, 10, 11, 12, 13, 14, 15, 16]⟩,
 ⟨none, .store 1 (.t 44) (.t 42), none, [18, 16, 16, 0, 1, 2, 3, 4, 5, 6, 7, 8, 9, 10, 11, 12, 13, 14, 15, 16]⟩])
 (.seq none
 (.draw [
 ⟨some 45, .mov (.t 0), none, []⟩,
 ⟨some 46, .mov (.t 0), none, []⟩,
 ⟨some 47, .load true 32 (.t 4), none, []⟩,
 ⟨some 48, .mov (.t 0), none, []⟩,
 ⟨some 49, .nilChk (.t 48), none, [3]⟩,
 ⟨some 50, .faddr 161 (.t 49), none, [4]⟩,
 ⟨some 51, .load false 1 (.t 50), none, [5]⟩,
 ⟨some 52, .bin .add (.t 51) (.c (.int .u32 1)), none, [6]⟩,
 ⟨some 53, .nilChk (.t 45), none, [0, 0, 2, 6]⟩,
 ⟨some 54, .faddr 128 (.t 53), none, [8, 0, 2, 6]⟩,
 ⟨none, .store 32 (.t 54) (.t 47), none, [9, 2, 0, 2, 6]⟩,
 ⟨some 55, .nilChk (.t 46), none, [1, 0, 1, 2, 3, 4, 5, 6, 7, 8, 9, 10]⟩,
 ⟨some 56, .faddr 161 (.t 55), none, [11, 0, 1, 2, 3, 4, 5, 6, 7, 8, 9, 10]⟩,
 ⟨none, .store 1 (.t 56) (.t 52), none, [12, 7, 10, 0, 1, 2, 3, 4, 5, 6, 7, 8, 9, 10]⟩])
 (.goto 0)))))))
 (.seq none
 .skip
 (.seq none
 (.seq none
 (.reg [
 ⟨some 12, .mov (.t 0), none, []⟩,
 ⟨some 13, .nilChk (.t 12), none, []⟩,
 ⟨some 14, .faddr 161 (.t 13), none, []⟩,
 ⟨some 15, .load false 1 (.t 14), none, []⟩,
 ⟨some 16, .mov (.t 1), none, []⟩,
 ⟨some 17, .bin .geq (.t 15) (.t 16), none, []⟩])
 (.cond (.t 17)
 .ret
 .skip))
 (.seq none
 (.reg [
 ⟨some 19, .mov (.t 0), none, []⟩,
 ⟨some 20, .nilChk (.t 19), none, []⟩,
 ⟨some 21, .faddr 128 (.t 20), none, []⟩,
 ⟨some 22, .load true 32 (.t 21), none, []⟩,
 ⟨some 23, .call 28 [(.t 22)], none, []⟩,
 ⟨some 18, .mov (.t 23), none, []⟩,
 ⟨some 24, .ext (.t 18) 0, none, []⟩,
 ⟨some 25, .ext (.t 18) 1, none, []⟩,
 ⟨some 4, .alloc [.ints .u8 32 (List.replicate 32 0)], none, []⟩,
 ⟨some 5, .alloc [.ints .u8 32 (List.replicate 32 0)], none, []⟩,
 ⟨none, .store 32 (.t 4) (.t 24), none, []⟩,
 ⟨none, .store 32 (.t 5) (.t 25), none, []⟩])
 (.seq none
 (.draw [
 ⟨some 26, .mov (.t 0), none, []⟩,
 ⟨some 27, .mov (.t 0), none, []⟩,
 ⟨some 28, .nilChk (.t 27), none, [1]⟩,
 ⟨some 29, .faddr 163 (.t 28), none, [2]⟩,
 ⟨some 30, .load false 1 (.t 29), none, [3]⟩,
 ⟨some 31, .mov (.t 0), none, []⟩,
 ⟨some 32, .nilChk (.t 31), none, [5]⟩,
 ⟨some 33, .faddr 64 (.t 32), none, [6]⟩,
 ⟨some 34, .load true 32 (.t 33), none, [7]⟩,
 ⟨some 35, .mov (.t 0), none, []⟩,
 ⟨some 36, .nilChk (.t 35), none, [9]⟩,
 ⟨some 37, .faddr 161 (.t 36), none, [10]⟩,
 ⟨some 38, .load false 1 (.t 37), none, [11]⟩,
 ⟨some 39, .load true 32 (.t 5), none, []⟩,
 ⟨some 40, .build [.ints .u8 32 (List.replicate 32 0), .int .u32 0, .ints .u8 32 (List.replicate 32 0)] [(0, 32, (.t 34)), (32, 1, (.t 38)), (33, 32, (.t 39))], none, [8, 12, 13]⟩,
 ⟨some 41, .bslice [.ints .u8 32 (List.replicate 32 0), .int .u32 0, .ints .u8 32 (List.replicate 32 0)] 1 65 [(0, 65, (.t 40))], none, [14]⟩,
 ⟨some 42, .appendR 65 68 (.t 30) (.t 41), none, [4, 15]⟩,
 ⟨some 43, .nilChk (.t 26), none, [0, 0, 1, 2, 3, 4, 5, 6, 7, 8, 9, 10, 11, 12, 13, 14, 15, 16]⟩,
 ⟨some 44, .faddr 163 (.t 43), none, [17, 0, 1, 2, 3, 4, 5, 6, 7, 8, 9, 10, 11, 12, 13, 14, 15, 16]⟩,
 ⟨none, .store 1 (.t 44) (.t 42), none, [18, 16, 16, 0, 1, 2, 3, 4, 5, 6, 7, 8, 9, 10, 11, 12, 13, 14, 15, 16]⟩])
 (.seq none
 (.draw [
 ⟨some 45, .mov (.t 0), none, []⟩,
 ⟨some 46, .mov (.t 0), none, []⟩,
 ⟨some 47, .load true 32 (.t 4), none, []⟩,
 ⟨some 48, .mov (.t 0), none, []⟩,
 ⟨some 49, .nilChk (.t 48), none, [3]⟩,
 ⟨some 50, .faddr 161 (.t 49), none, [4]⟩,
 ⟨some 51, .load false 1 (.t 50), none, [5]⟩,
 ⟨some 52, .bin .add (.t 51) (.c (.int .u32 1)), none, [6]⟩,
 ⟨some 53, .nilChk (.t 45), none, [0, 0, 2, 6]⟩,
 ⟨some 54, .faddr 128 (.t 53), none, [8, 0, 2, 6]⟩,
 ⟨none, .store 32 (.t 54) (.t 47), none, [9, 2, 0, 2, 6]⟩,
 ⟨some 55, .nilChk (.t 46), none, [1, 0, 1, 2, 3, 4, 5, 6, 7, 8, 9, 10]⟩,
 ⟨some 56, .faddr 161 (.t 55), none, [11, 0, 1, 2, 3, 4, 5, 6, 7, 8, 9, 10]⟩,
 ⟨none, .store 1 (.t 56) (.t 52), none, [12, 7, 10, 0, 1, 2, 3, 4, 5, 6, 7, 8, 9, 10]⟩])
 (.goto 0)))))))⟩
def id_curve_X : Nat := 67
def af_curve_X : AFn := ⟨52, [.cell 4 true 32],
 (.seq none
 (.reg [
 ⟨some 2, .box (.t 0), none, []⟩,
 ⟨some 3, .box (.t 1), none, []⟩,
 ⟨some 4, .alloc [.ints .u8 32 (List.replicate 32 0)], none, []⟩])
 (.jumps 1000000 0 none
 (.seq none
 (.reg [
 ⟨some 9, .load true 32 (.t 2), none, []⟩,
 ⟨some 10, .call 97 [(.t 9)], none, []⟩,
 ⟨none, .store 32 (.t 2) (.t 10), none, []⟩])
 (.seq none
 (.reg [
 ⟨some 11, .load true 32 (.t 3), none, []⟩,
 ⟨some 12, .call 80 [(.t 11)], none, []⟩,
 ⟨some 5, .alloc [.ints .u64 5 (List.replicate 5 0)], none, []⟩,
 ⟨none, .store 5 (.t 5) (.t 12), none, []⟩])
 (.seq none
 (.draw [
 ⟨some 13, .call 98 [(.c (.int .u64 1))], none, []⟩,
 ⟨some 14, .call 98 [(.c (.int .u64 0))], none, [0]⟩,
 ⟨some 15, .load true 5 (.t 5), none, []⟩,
 ⟨some 16, .call 98 [(.c (.int .u64 1))], none, [1]⟩,
 ⟨some 17, .build [.ints .u64 5 (List.replicate 5 0), .ints .u64 5 (List.replicate 5 0), .ints .u64 5 (List.replicate 5 0), .ints .u64 5 (List.replicate 5 0)] [(0, 5, (.t 13)), (5, 5, (.t 14)), (10, 5, (.t 15)), (15, 5, (.t 16))], none, [0, 1, 2, 3]⟩,
 ⟨some 18, .box (.t 17), none, [4]⟩,
 ⟨some 6, .mov (.t 18), none, [5, 3, 0, 1, 2, 3, 4, 5]⟩])
 (.seq none
 (.reg [
 ⟨some 7, .mov (.c (.int .i64 254)), none, []⟩])
 (.seq none
 (.label 0)
 (.seq none
 (.reg [
 ⟨some 19, .mov (.t 7), none, []⟩,
 ⟨some 20, .bin .quo (.t 19) (.c (.int .i64 8)), none, []⟩,
 ⟨some 21, .iaddrA 32 0 (.t 2) (.t 20), none, []⟩,
 ⟨some 22, .load false 1 (.t 21), none, []⟩,
 ⟨some 23, .mov (.t 7), none, []⟩,
 ⟨some 24, .bin .rem (.t 23) (.c (.int .i64 8)), none, []⟩,
 ⟨some 25, .bin .shr (.t 22) (.t 24), none, []⟩,
 ⟨some 26, .bin .and (.t 25) (.c (.int .u8 1)), none, []⟩,
 ⟨some 27, .toInt .i64 (.t 26), none, []⟩,
 ⟨some 8, .mov (.t 27), none, []⟩])
 (.seq none
 (.reg [
 ⟨some 28, .mov (.t 6), none, []⟩,
 ⟨some 29, .mov (.t 8), none, []⟩,
 ⟨some 30, .call 99 [(.t 28), (.t 29)], none, []⟩])
 (.seq none
 (.reg [
 ⟨some 31, .mov (.t 6), none, []⟩,
 ⟨some 32, .load true 5 (.t 5), none, []⟩,
 ⟨some 33, .call 100 [(.t 31), (.t 32)], none, []⟩])
 (.seq none
 (.reg [
 ⟨some 34, .mov (.t 6), none, []⟩,
 ⟨some 35, .mov (.t 8), none, []⟩,
 ⟨some 36, .call 99 [(.t 34), (.t 35)], none, []⟩])
 (.seq none
 (.seq none
 (.reg [
 ⟨some 37, .mov (.t 7), none, []⟩,
 ⟨some 38, .bin .sub (.t 37) (.c (.int .i64 1)), none, []⟩,
 ⟨some 7, .mov (.t 38), none, []⟩])
 (.seq none
 (.reg [
 ⟨some 39, .mov (.t 7), none, []⟩,
 ⟨some 40, .bin .geq (.t 39) (.c (.int .i64 0)), none, []⟩])
 (.cond (.t 40)
 (.goto 0)
 .skip)))
 (.seq none
 (.draw [
 ⟨some 41, .mov (.t 6), none, []⟩,
 ⟨some 42, .nilChk (.t 41), none, [0]⟩,
 ⟨some 43, .faddr 0 (.t 42), none, [1]⟩,
 ⟨some 44, .load true 5 (.t 43), none, [2]⟩,
 ⟨some 45, .mov (.t 6), none, []⟩,
 ⟨some 46, .nilChk (.t 45), none, [4]⟩,
 ⟨some 47, .faddr 5 (.t 46), none, [5]⟩,
 ⟨some 48, .load true 5 (.t 47), none, [6]⟩,
 ⟨some 49, .call 102 [(.t 48)], none, [7]⟩,
 ⟨some 50, .call 101 [(.t 44), (.t 49)], none, [3, 8, 8]⟩,
 ⟨some 51, .call 103 [(.t 50)], none, [9, 9]⟩,
 ⟨none, .store 32 (.t 4) (.t 51), none, [10, 10, 0, 1, 2, 3, 4, 5, 6, 7, 8, 9, 10]⟩])
 .ret)))))))))))
 (.seq none
 .skip
 (.seq none
 (.reg [
 ⟨some 19, .mov (.t 7), none, []⟩,
 ⟨some 20, .bin .quo (.t 19) (.c (.int .i64 8)), none, []⟩,
 ⟨some 21, .iaddrA 32 0 (.t 2) (.t 20), none, []⟩,
 ⟨some 22, .load false 1 (.t 21), none, []⟩,
 ⟨some 23, .mov (.t 7), none, []⟩,
 ⟨some 24, .bin .rem (.t 23) (.c (.int .i64 8)), none, []⟩,
 ⟨some 25, .bin .shr (.t 22) (.t 24), none, []⟩,
 ⟨some 26, .bin .and (.t 25) (.c (.int .u8 1)), none, []⟩,
 ⟨some 27, .toInt .i64 (.t 26), none, []⟩,
 ⟨some 8, .mov (.t 27), none, []⟩])
 (.seq none
 (.reg [
 ⟨some 28, .mov (.t 6), none, []⟩,
 ⟨some 29, .mov (.t 8), none, []⟩,
 ⟨some 30, .call 99 [(.t 28), (.t 29)], none, []⟩])
 (.seq none
 (.reg [
 ⟨some 31, .mov (.t 6), none, []⟩,
 ⟨some 32, .load true 5 (.t 5), none, []⟩,
 ⟨some 33, .call 100 [(.t 31), (.t 32)], none, []⟩])
 (.seq none
 (.reg [
 ⟨some 34, .mov (.t 6), none, []⟩,
 ⟨some 35, .mov (.t 8), none, []⟩,
 ⟨some 36, .call 99 [(.t 34), (.t 35)], none, []⟩])
 (.seq none
 (.seq none
 (.reg [
 ⟨some 37, .mov (.t 7), none, []⟩,
 ⟨some 38, .bin .sub (.t 37) (.c (.int .i64 1)), none, []⟩,
 ⟨some 7, .mov (.t 38), none, []⟩])
 (.seq none
 (.reg [
 ⟨some 39, .mov (.t 7), none, []⟩,
 ⟨some 40, .bin .geq (.t 39) (.c (.int .i64 0)), none, []⟩])
 (.cond (.t 40)
 (.goto 0)
 .skip)))
 (.seq none
 (.draw [
 ⟨some 41, .mov (.t 6), none, []⟩,
 ⟨some 42, .nilChk (.t 41), none, [0]⟩,
 ⟨some 43, .faddr 0 (.t 42), none, [1]⟩,
 ⟨some 44, .load true 5 (.t 43), none, [2]⟩,
 ⟨some 45, .mov (.t 6), none, []⟩,
 ⟨some 46, .nilChk (.t 45), none, [4]⟩,
 ⟨some 47, .faddr 5 (.t 46), none, [5]⟩,
 ⟨some 48, .load true 5 (.t 47), none, [6]⟩,
 ⟨some 49, .call 102 [(.t 48)], none, [7]⟩,
 ⟨some 50, .call 101 [(.t 44), (.t 49)], none, [3, 8, 8]⟩,
 ⟨some 51, .call 103 [(.t 50)], none, [9, 9]⟩,
 ⟨none, .store 32 (.t 4) (.t 51), none, [10, 10, 0, 1, 2, 3, 4, 5, 6, 7, 8, 9, 10]⟩])
 .ret)))))))))⟩
def id_kdf_Hmac : Nat := 68
def af_kdf_Hmac : AFn := ⟨48, [.cell 4 true 32],
 (.seq none
 (.reg [
 ⟨some 4, .alloc [.ints .u8 32 (List.replicate 32 0)], none, []⟩])
 (.seq none
 (.reg [
 ⟨some 14, .mksliceI .u8 1 (.c (.int .i64 64)) (.c (.int .i64 64)), none, []⟩,
 ⟨some 5, .alloc [.nils], none, []⟩,
 ⟨none, .store 1 (.t 5) (.t 14), none, []⟩])
 (.seq none
 (.seq none
 (.reg [
 ⟨some 15, .mov (.t 0), none, []⟩,
 ⟨some 16, .len false (.t 15), none, []⟩,
 ⟨some 17, .bin .gtr (.t 16) (.c (.int .i64 64)), none, []⟩])
 (.cond (.t 17)
 (.seq none
 (.reg [
 ⟨some 18, .mov (.t 0), none, []⟩,
 ⟨some 19, .call 104 [(.t 18)], none, []⟩,
 ⟨some 6, .alloc [.ints .u8 32 (List.replicate 32 0)], none, []⟩,
 ⟨none, .store 32 (.t 6) (.t 19), none, []⟩])
 (.reg [
 ⟨some 20, .slArr 32 0 (.t 6) none none none, none, []⟩,
 ⟨some 0, .mov (.t 20), none, []⟩]))
 .skip))
 (.seq none
 (.reg [
 ⟨some 21, .load false 1 (.t 5), none, []⟩,
 ⟨some 22, .mov (.t 0), none, []⟩,
 ⟨some 23, .copyI (.t 21) (.t 22), none, []⟩])
 (.seq none
 (.reg [
 ⟨some 24, .mkf 105 [] [(.t 5)], none, []⟩,
 ⟨some 7, .mov (.t 24), none, []⟩])
 (.seq none
 (.reg [
 ⟨some 25, .mov (.t 7), none, []⟩,
 ⟨some 26, .callV (.t 25) [(.c (.int .u8 54))], none, []⟩,
 ⟨some 27, .mov (.t 7), none, []⟩,
 ⟨some 28, .callV (.t 27) [(.c (.int .u8 92))], none, []⟩,
 ⟨some 8, .mov (.t 26), none, []⟩,
 ⟨some 9, .mov (.t 28), none, []⟩])
 (.seq none
 (.reg [
 ⟨some 29, .mov (.t 8), none, []⟩,
 ⟨some 30, .mkf 107 [(.t 29)] [], none, []⟩,
 ⟨some 10, .mov (.t 30), none, []⟩])
 (.seq none
 (.seq none
 (.reg [
 ⟨some 31, .mov (.t 1), none, []⟩,
 ⟨some 32, .len false (.t 31), none, []⟩,
 ⟨some 33, .mov (.c (.int .i64 0)), none, []⟩])
 (.block 0 none
 (.loop 1000000 none
 (.seq none
 (.reg [
 ⟨some 34, .bin .lss (.t 33) (.t 32), none, []⟩])
 (.seq none
 (.cond (.t 34)
 .skip
 (.exit 0))
 (.seq none
 (.block 1 none
 (.seq none
 (.reg [
 ⟨some 35, .iaddrS 1 (.t 31) (.t 33), none, []⟩,
 ⟨some 36, .load false 1 (.t 35), none, []⟩,
 ⟨some 12, .mov (.t 36), none, []⟩])
 (.reg [
 ⟨some 37, .mov (.t 10), none, []⟩,
 ⟨some 38, .mov (.t 12), none, []⟩,
 ⟨some 39, .callV (.t 37) [(.t 38)], none, []⟩])))
 (.reg [
 ⟨some 40, .bin .add (.t 33) (.c (.int .i64 1)), none, []⟩,
 ⟨some 33, .mov (.t 40), none, []⟩])))))))
 (.seq none
 (.reg [
 ⟨some 41, .mov (.t 8), none, []⟩,
 ⟨some 42, .call 108 [(.t 41)], none, []⟩,
 ⟨some 13, .alloc [.ints .u8 32 (List.replicate 32 0)], none, []⟩,
 ⟨none, .store 32 (.t 13) (.t 42), none, []⟩])
 (.seq none
 (.reg [
 ⟨some 43, .mov (.t 9), none, []⟩,
 ⟨some 44, .slArr 32 0 (.t 13) none none none, none, []⟩,
 ⟨some 45, .call 107 [(.t 43), (.t 44)], none, []⟩])
 (.seq none
 (.reg [
 ⟨some 46, .mov (.t 9), none, []⟩,
 ⟨some 47, .call 108 [(.t 46)], none, []⟩,
 ⟨none, .store 32 (.t 4) (.t 47), none, []⟩])
 .ret)))))))))))⟩
def id_chacha_Xor : Nat := 69
def af_chacha_Xor : AFn := ⟨55, [.t 8],
 (.seq none
 (.reg [
 ⟨some 4, .box (.t 0), none, []⟩,
 ⟨some 6, .box (.t 2), none, []⟩,
 ⟨some 8, .mov (.c (.nils)), none, []⟩])
 (.seq none
 (.reg [
 ⟨some 14, .mov (.t 3), none, []⟩,
 ⟨some 15, .len false (.t 14), none, []⟩,
 ⟨some 16, .mksliceI .u8 1 (.t 15) (.t 15), none, []⟩,
 ⟨some 9, .mov (.t 16), none, []⟩])
 (.seq none
 (.seq none
 (.reg [
 ⟨some 17, .mov (.t 1), none, []⟩,
 ⟨some 10, .mov (.c (.int .i64 0)), none, []⟩,
 ⟨some 11, .mov (.t 17), none, []⟩])
 (.block 0 none
 (.loop 1000000 none
 (.seq none
 (.seq none
 (.reg [
 ⟨some 18, .mov (.t 10), none, []⟩,
 ⟨some 19, .mov (.t 3), none, []⟩,
 ⟨some 20, .len false (.t 19), none, []⟩,
 ⟨some 21, .bin .lss (.t 18) (.t 20), none, []⟩])
 (.cond (.t 21)
 .skip
 (.exit 0)))
 (.seq none
 (.block 1 none
 (.seq none
 (.reg [
 ⟨some 26, .load true 32 (.t 4), none, []⟩,
 ⟨some 27, .mov (.t 11), none, []⟩,
 ⟨some 28, .load true 12 (.t 6), none, []⟩,
 ⟨some 29, .call 109 [(.t 26), (.t 27), (.t 28)], none, []⟩,
 ⟨some 12, .alloc [.ints .u8 64 (List.replicate 64 0)], none, []⟩,
 ⟨none, .store 64 (.t 12) (.t 29), none, []⟩])
 (.seq none
 (.reg [
 ⟨some 30, .mov (.t 3), none, []⟩,
 ⟨some 31, .len false (.t 30), none, []⟩,
 ⟨some 32, .mov (.t 10), none, []⟩,
 ⟨some 33, .bin .sub (.t 31) (.t 32), none, []⟩,
 ⟨some 34, .minI (.c (.int .i64 64)) (.t 33), none, []⟩,
 ⟨some 35, .mov (.c (.int .i64 0)), none, []⟩])
 (.block 2 none
 (.loop 1000000 none
 (.seq none
 (.reg [
 ⟨some 36, .bin .lss (.t 35) (.t 34), none, []⟩])
 (.seq none
 (.cond (.t 36)
 .skip
 (.exit 2))
 (.seq none
 (.block 3 none
 (.seq none
 (.reg [
 ⟨some 37, .mov (.t 35), none, []⟩,
 ⟨some 13, .mov (.t 37), none, []⟩])
 (.draw [
 ⟨some 38, .mov (.t 9), none, []⟩,
 ⟨some 39, .mov (.t 10), none, []⟩,
 ⟨some 40, .mov (.t 13), none, []⟩,
 ⟨some 41, .bin .add (.t 39) (.t 40), none, [1, 2]⟩,
 ⟨some 42, .mov (.t 3), none, []⟩,
 ⟨some 43, .mov (.t 10), none, []⟩,
 ⟨some 44, .mov (.t 13), none, []⟩,
 ⟨some 45, .bin .add (.t 43) (.t 44), none, [5, 6]⟩,
 ⟨some 46, .iaddrS 1 (.t 42) (.t 45), none, [4, 7]⟩,
 ⟨some 47, .load false 1 (.t 46), none, [8]⟩,
 ⟨some 48, .mov (.t 13), none, []⟩,
 ⟨some 49, .iaddrA 64 0 (.t 12) (.t 48), none, [10]⟩,
 ⟨some 50, .load false 1 (.t 49), none, [11]⟩,
 ⟨some 51, .bin .xor (.t 47) (.t 50), none, [9, 12]⟩,
 ⟨some 52, .iaddrS 1 (.t 38) (.t 41), none, [0, 3, 0, 1, 2, 3, 4, 5, 6, 7, 8, 9, 10, 11, 12, 13]⟩,
 ⟨none, .store 1 (.t 52) (.t 51), none, [14, 13, 0, 1, 2, 3, 4, 5, 6, 7, 8, 9, 10, 11, 12, 13]⟩])))
 (.reg [
 ⟨some 53, .bin .add (.t 35) (.c (.int .i64 1)), none, []⟩,
 ⟨some 35, .mov (.t 53), none, []⟩])))))))))
 (.reg [
 ⟨some 22, .mov (.t 10), none, []⟩,
 ⟨some 23, .bin .add (.t 22) (.c (.int .i64 64)), none, []⟩,
 ⟨some 24, .mov (.t 11), none, []⟩,
 ⟨some 25, .bin .add (.t 24) (.c (.int .u32 1)), none, []⟩,
 ⟨some 10, .mov (.t 23), none, []⟩,
 ⟨some 11, .mov (.t 25), none, []⟩]))))))
 (.seq none
 (.reg [
 ⟨some 54, .mov (.t 9), none, []⟩,
 ⟨some 8, .mov (.t 54), none, []⟩])
 .ret))))⟩
def id_aead_Tag : Nat := 70
def af_aead_Tag : AFn := ⟨39, [.cell 8 true 16],
 (.seq none
 (.reg [
 ⟨some 4, .box (.t 0), none, []⟩,
 ⟨some 5, .box (.t 1), none, []⟩,
 ⟨some 8, .alloc [.ints .u8 16 (List.replicate 16 0)], none, []⟩])
 (.seq none
 (.reg [
 ⟨some 13, .load true 32 (.t 4), none, []⟩,
 ⟨some 14, .load true 12 (.t 5), none, []⟩,
 ⟨some 15, .call 109 [(.t 13), (.c (.int .u32 0)), (.t 14)], none, []⟩,
 ⟨some 9, .alloc [.ints .u8 64 (List.replicate 64 0)], none, []⟩,
 ⟨none, .store 64 (.t 9) (.t 15), none, []⟩])
 (.seq none
 (.reg [
 ⟨some 16, .slArr 64 0 (.t 9) none (some (.c (.int .i64 32))) none, none, []⟩,
 ⟨some 17, .arrPtr 32 (.t 16), none, []⟩,
 ⟨some 18, .load true 32 (.t 17), none, []⟩,
 ⟨some 19, .call 110 [(.t 18)], none, []⟩,
 ⟨some 10, .alloc [.nilp], none, []⟩,
 ⟨none, .store 1 (.t 10) (.t 19), none, []⟩])
 (.seq none
 (.reg [
 ⟨some 11, .alloc [.ints .u8 16 (List.replicate 16 0)], none, []⟩])
 (.seq none
 (.reg [
 ⟨some 20, .mkf 111 [] [(.t 10), (.t 11)], none, []⟩,
 ⟨some 12, .mov (.t 20), none, []⟩])
 (.seq none
 (.reg [
 ⟨some 21, .mov (.t 12), none, []⟩,
 ⟨some 22, .mov (.t 2), none, []⟩,
 ⟨some 23, .callV (.t 21) [(.t 22)], none, []⟩])
 (.seq none
 (.reg [
 ⟨some 24, .mov (.t 12), none, []⟩,
 ⟨some 25, .mov (.t 3), none, []⟩,
 ⟨some 26, .callV (.t 24) [(.t 25)], none, []⟩])
 (.seq none
 (.draw [
 ⟨some 27, .load false 1 (.t 10), none, []⟩,
 ⟨some 28, .mov (.t 2), none, []⟩,
 ⟨some 29, .len false (.t 28), none, [1]⟩,
 ⟨some 30, .toInt .u64 (.t 29), none, [2]⟩,
 ⟨some 31, .call 71 [(.c (.nils)), (.t 30)], none, [3]⟩,
 ⟨some 32, .mov (.t 3), none, []⟩,
 ⟨some 33, .len false (.t 32), none, [5]⟩,
 ⟨some 34, .toInt .u64 (.t 33), none, [6]⟩,
 ⟨some 35, .call 71 [(.t 31), (.t 34)], none, [4, 7, 4]⟩,
 ⟨some 36, .call 112 [(.t 27), (.t 35)], none, [0, 8, 8]⟩])
 (.seq none
 (.reg [
 ⟨some 37, .load false 1 (.t 10), none, []⟩,
 ⟨some 38, .call 113 [(.t 37)], none, []⟩,
 ⟨none, .store 16 (.t 8) (.t 38), none, []⟩])
 .ret)))))))))⟩
def id_octet_Put64 : Nat := 71
def af_octet_Put64 : AFn := ⟨8, [.t 4],
 (.seq none
 (.reg [
 ⟨some 4, .mov (.c (.nils)), none, []⟩])
 (.seq none
 (.reg [
 ⟨some 5, .mov (.t 0), none, []⟩,
 ⟨some 6, .mov (.t 1), none, []⟩,
 ⟨some 7, .call 89 [(.t 5), (.t 6), (.c (.int .i64 8))], none, []⟩,
 ⟨some 4, .mov (.t 7), none, []⟩])
 .ret))⟩
def id_hollowtreeref03_Clamp : Nat := 72
def af_hollowtreeref03_Clamp : AFn := ⟨14, [.cell 2 true 32],
 (.seq none
 (.reg [
 ⟨some 1, .box (.t 0), none, []⟩,
 ⟨some 2, .alloc [.ints .u8 32 (List.replicate 32 0)], none, []⟩])
 (.seq none
 (.reg [
 ⟨some 3, .iaddrA 32 0 (.t 1) (.c (.int .i64 0)), none, []⟩,
 ⟨some 4, .load false 1 (.t 3), none, []⟩,
 ⟨some 5, .bin .quo (.t 4) (.c (.int .u8 8)), none, []⟩,
 ⟨some 6, .bin .mul (.t 5) (.c (.int .u8 8)), none, []⟩,
 ⟨some 7, .iaddrA 32 0 (.t 1) (.c (.int .i64 0)), none, []⟩,
 ⟨none, .store 1 (.t 7) (.t 6), none, []⟩])
 (.seq none
 (.reg [
 ⟨some 8, .iaddrA 32 0 (.t 1) (.c (.int .i64 31)), none, []⟩,
 ⟨some 9, .load false 1 (.t 8), none, []⟩,
 ⟨some 10, .bin .rem (.t 9) (.c (.int .u8 64)), none, []⟩,
 ⟨some 11, .bin .add (.t 10) (.c (.int .u8 64)), none, []⟩,
 ⟨some 12, .iaddrA 32 0 (.t 1) (.c (.int .i64 31)), none, []⟩,
 ⟨none, .store 1 (.t 12) (.t 11), none, []⟩])
 (.seq none
 (.reg [
 ⟨some 13, .load true 32 (.t 1), none, []⟩,
 ⟨none, .store 32 (.t 2) (.t 13), none, []⟩])
 .ret))))⟩
def id_hollowtreeref03_Num_Add : Nat := 73
def af_hollowtreeref03_Num_Add : AFn := ⟨21, [.cell 4 true 16],
 (.seq none
 (.reg [
 ⟨some 2, .box (.t 0), none, []⟩,
 ⟨some 3, .box (.t 1), none, []⟩,
 ⟨some 4, .alloc [.ints .i64 16 (List.replicate 16 0)], none, []⟩])
 (.seq none
 (.seq none
 (.reg [
 ⟨some 5, .mov (.c (.int .i64 0)), none, []⟩])
 (.block 0 none
 (.loop 1000000 none
 (.seq none
 (.seq none
 (.reg [
 ⟨some 6, .mov (.t 5), none, []⟩,
 ⟨some 7, .bin .lss (.t 6) (.c (.int .i64 16)), none, []⟩])
 (.cond (.t 7)
 .skip
 (.exit 0)))
 (.seq none
 (.block 1 none
 (.draw [
 ⟨some 10, .mov (.t 5), none, []⟩,
 ⟨some 11, .mov (.t 5), none, []⟩,
 ⟨some 12, .iaddrA 16 0 (.t 2) (.t 11), none, [1]⟩,
 ⟨some 13, .load false 1 (.t 12), none, [2]⟩,
 ⟨some 14, .mov (.t 5), none, []⟩,
 ⟨some 15, .iaddrA 16 0 (.t 3) (.t 14), none, [4]⟩,
 ⟨some 16, .load false 1 (.t 15), none, [5]⟩,
 ⟨some 17, .bin .add (.t 13) (.t 16), none, [3, 6]⟩,
 ⟨some 18, .iaddrA 16 0 (.t 2) (.t 10), none, [0, 0, 1, 2, 3, 4, 5, 6, 7]⟩,
 ⟨none, .store 1 (.t 18) (.t 17), none, [8, 7, 0, 1, 2, 3, 4, 5, 6, 7]⟩]))
 (.reg [
 ⟨some 8, .mov (.t 5), none, []⟩,
 ⟨some 9, .bin .add (.t 8) (.c (.int .i64 1)), none, []⟩,
 ⟨some 5, .mov (.t 9), none, []⟩]))))))
 (.seq none
 (.reg [
 ⟨some 19, .load true 16 (.t 2), none, []⟩,
 ⟨some 20, .call 84 [(.t 19)], none, []⟩,
 ⟨none, .store 16 (.t 4) (.t 20), none, []⟩])
 .ret)))⟩
def id_hollowtreeref03_Num_Mul : Nat := 74
def af_hollowtreeref03_Num_Mul : AFn := ⟨38, [.cell 4 true 16],
 (.seq none
 (.reg [
 ⟨some 2, .box (.t 0), none, []⟩,
 ⟨some 3, .box (.t 1), none, []⟩,
 ⟨some 4, .alloc [.ints .i64 16 (List.replicate 16 0)], none, []⟩])
 (.seq none
 (.reg [
 ⟨some 8, .mksliceI .i64 8 (.c (.int .i64 32)) (.c (.int .i64 32)), none, []⟩,
 ⟨some 5, .mov (.t 8), none, []⟩])
 (.seq none
 (.seq none
 (.reg [
 ⟨some 6, .mov (.c (.int .i64 0)), none, []⟩])
 (.block 0 none
 (.loop 1000000 none
 (.seq none
 (.seq none
 (.reg [
 ⟨some 9, .mov (.t 6), none, []⟩,
 ⟨some 10, .bin .lss (.t 9) (.c (.int .i64 16)), none, []⟩])
 (.cond (.t 10)
 .skip
 (.exit 0)))
 (.seq none
 (.block 1 none
 (.seq none
 (.reg [
 ⟨some 7, .mov (.c (.int .i64 0)), none, []⟩])
 (.block 2 none
 (.loop 1000000 none
 (.seq none
 (.seq none
 (.reg [
 ⟨some 13, .mov (.t 7), none, []⟩,
 ⟨some 14, .bin .lss (.t 13) (.c (.int .i64 16)), none, []⟩])
 (.cond (.t 14)
 .skip
 (.exit 2)))
 (.seq none
 (.block 3 none
 (.draw [
 ⟨some 17, .mov (.t 5), none, []⟩,
 ⟨some 18, .mov (.t 6), none, []⟩,
 ⟨some 19, .mov (.t 7), none, []⟩,
 ⟨some 20, .bin .add (.t 18) (.t 19), none, [1, 2]⟩,
 ⟨some 21, .mov (.t 5), none, []⟩,
 ⟨some 22, .mov (.t 6), none, []⟩,
 ⟨some 23, .mov (.t 7), none, []⟩,
 ⟨some 24, .bin .add (.t 22) (.t 23), none, [5, 6]⟩,
 ⟨some 25, .iaddrS 1 (.t 21) (.t 24), none, [4, 7]⟩,
 ⟨some 26, .load false 1 (.t 25), none, [8]⟩,
 ⟨some 27, .mov (.t 6), none, []⟩,
 ⟨some 28, .iaddrA 16 0 (.t 2) (.t 27), none, [10]⟩,
 ⟨some 29, .load false 1 (.t 28), none, [11]⟩,
 ⟨some 30, .mov (.t 7), none, []⟩,
 ⟨some 31, .iaddrA 16 0 (.t 3) (.t 30), none, [13]⟩,
 ⟨some 32, .load false 1 (.t 31), none, [14]⟩,
 ⟨some 33, .bin .mul (.t 29) (.t 32), none, [12, 15]⟩,
 ⟨some 34, .bin .add (.t 26) (.t 33), none, [9, 16]⟩,
 ⟨some 35, .iaddrS 1 (.t 17) (.t 20), none, [0, 3, 0, 1, 2, 3, 4, 5, 6, 7, 8, 9, 10, 11, 12, 13, 14, 15, 16, 17]⟩,
 ⟨none, .store 1 (.t 35) (.t 34), none, [18, 17, 0, 1, 2, 3, 4, 5, 6, 7, 8, 9, 10, 11, 12, 13, 14, 15, 16, 17]⟩]))
 (.reg [
 ⟨some 15, .mov (.t 7), none, []⟩,
 ⟨some 16, .bin .add (.t 15) (.c (.int .i64 1)), none, []⟩,
 ⟨some 7, .mov (.t 16), none, []⟩])))))))
 (.reg [
 ⟨some 11, .mov (.t 6), none, []⟩,
 ⟨some 12, .bin .add (.t 11) (.c (.int .i64 1)), none, []⟩,
 ⟨some 6, .mov (.t 12), none, []⟩]))))))
 (.seq none
 (.reg [
 ⟨some 36, .mov (.t 5), none, []⟩,
 ⟨some 37, .call 114 [(.t 36)], none, []⟩,
 ⟨none, .store 16 (.t 4) (.t 37), none, []⟩])
 .ret))))⟩
def id_hollowtreeref03_Num_Small : Nat := 75
def af_hollowtreeref03_Num_Small : AFn := ⟨19, [.cell 4 true 16],
 (.seq none
 (.reg [
 ⟨some 2, .box (.t 0), none, []⟩,
 ⟨some 4, .alloc [.ints .i64 16 (List.replicate 16 0)], none, []⟩])
 (.seq none
 (.seq none
 (.reg [
 ⟨some 5, .mov (.c (.int .i64 0)), none, []⟩])
 (.block 0 none
 (.loop 1000000 none
 (.seq none
 (.seq none
 (.reg [
 ⟨some 6, .mov (.t 5), none, []⟩,
 ⟨some 7, .bin .lss (.t 6) (.c (.int .i64 16)), none, []⟩])
 (.cond (.t 7)
 .skip
 (.exit 0)))
 (.seq none
 (.block 1 none
 (.reg [
 ⟨some 10, .mov (.t 5), none, []⟩,
 ⟨some 11, .mov (.t 5), none, []⟩,
 ⟨some 12, .iaddrA 16 0 (.t 2) (.t 11), none, []⟩,
 ⟨some 13, .load false 1 (.t 12), none, []⟩,
 ⟨some 14, .mov (.t 1), none, []⟩,
 ⟨some 15, .bin .mul (.t 13) (.t 14), none, []⟩,
 ⟨some 16, .iaddrA 16 0 (.t 2) (.t 10), none, []⟩,
 ⟨none, .store 1 (.t 16) (.t 15), none, []⟩]))
 (.reg [
 ⟨some 8, .mov (.t 5), none, []⟩,
 ⟨some 9, .bin .add (.t 8) (.c (.int .i64 1)), none, []⟩,
 ⟨some 5, .mov (.t 9), none, []⟩]))))))
 (.seq none
 (.reg [
 ⟨some 17, .load true 16 (.t 2), none, []⟩,
 ⟨some 18, .call 84 [(.t 17)], none, []⟩,
 ⟨none, .store 16 (.t 4) (.t 18), none, []⟩])
 .ret)))⟩
def id_hollowtreeref03_Num_Inv : Nat := 76
def af_hollowtreeref03_Num_Inv : AFn := ⟨24, [.cell 2 true 16],
 (.seq none
 (.reg [
 ⟨some 1, .box (.t 0), none, []⟩,
 ⟨some 2, .alloc [.ints .i64 16 (List.replicate 16 0)], none, []⟩])
 (.seq none
 (.reg [
 ⟨some 5, .build [.ints .u8 32 (List.replicate 32 0)] [(0, 1, (.c (.int .u8 1)))], none, []⟩,
 ⟨some 6, .call 44 [(.t 5)], none, []⟩,
 ⟨some 3, .alloc [.ints .i64 16 (List.replicate 16 0)], none, []⟩,
 ⟨none, .store 16 (.t 3) (.t 6), none, []⟩])
 (.seq none
 (.seq none
 (.reg [
 ⟨some 4, .mov (.c (.int .i64 254)), none, []⟩])
 (.block 0 none
 (.loop 1000000 none
 (.seq none
 (.seq none
 (.reg [
 ⟨some 7, .mov (.t 4), none, []⟩,
 ⟨some 8, .bin .geq (.t 7) (.c (.int .i64 0)), none, []⟩])
 (.cond (.t 8)
 .skip
 (.exit 0)))
 (.seq none
 (.block 1 none
 (.seq none
 (.reg [
 ⟨some 11, .load true 16 (.t 3), none, []⟩,
 ⟨some 12, .load true 16 (.t 3), none, []⟩,
 ⟨some 13, .call 74 [(.t 11), (.t 12)], none, []⟩,
 ⟨none, .store 16 (.t 3) (.t 13), none, []⟩])
 (.seq none
 (.reg [
 ⟨some 14, .mov (.t 4), none, []⟩,
 ⟨some 15, .bin .neq (.t 14) (.c (.int .i64 2)), none, []⟩,
 ⟨some 16, .mov (.t 15), none, []⟩,
 ⟨some 17, .mov (.t 4), some (16, true), []⟩,
 ⟨some 18, .bin .neq (.t 17) (.c (.int .i64 4)), some (16, true), []⟩,
 ⟨some 19, .pick (.t 16) (.t 18) (.c (.bool false)), none, []⟩])
 (.cond (.t 19)
 (.reg [
 ⟨some 20, .load true 16 (.t 3), none, []⟩,
 ⟨some 21, .load true 16 (.t 1), none, []⟩,
 ⟨some 22, .call 74 [(.t 20), (.t 21)], none, []⟩,
 ⟨none, .store 16 (.t 3) (.t 22), none, []⟩])
 .skip))))
 (.reg [
 ⟨some 9, .mov (.t 4), none, []⟩,
 ⟨some 10, .bin .sub (.t 9) (.c (.int .i64 1)), none, []⟩,
 ⟨some 4, .mov (.t 10), none, []⟩]))))))
 (.seq none
 (.reg [
 ⟨some 23, .load true 16 (.t 3), none, []⟩,
 ⟨none, .store 16 (.t 2) (.t 23), none, []⟩])
 .ret))))⟩
def id_hollowtreeref05_Hmac : Nat := 77
def af_hollowtreeref05_Hmac : AFn := ⟨51, [.cell 4 true 32],
 (.seq none
 (.reg [
 ⟨some 4, .alloc [.ints .u8 32 (List.replicate 32 0)], none, []⟩])
 (.seq none
 (.reg [
 ⟨some 12, .mov (.t 0), none, []⟩,
 ⟨some 5, .mov (.t 12), none, []⟩])
 (.seq none
 (.seq none
 (.reg [
 ⟨some 13, .mov (.t 5), none, []⟩,
 ⟨some 14, .len false (.t 13), none, []⟩,
 ⟨some 15, .bin .gtr (.t 14) (.c (.int .i64 64)), none, []⟩])
 (.cond (.t 15)
 (.seq none
 (.reg [
 ⟨some 16, .mov (.t 5), none, []⟩,
 ⟨some 17, .call 115 [(.t 16)], none, []⟩,
 ⟨some 6, .alloc [.ints .u8 32 (List.replicate 32 0)], none, []⟩,
 ⟨none, .store 32 (.t 6) (.t 17), none, []⟩])
 (.reg [
 ⟨some 18, .slArr 32 0 (.t 6) none none none, none, []⟩,
 ⟨some 5, .mov (.t 18), none, []⟩]))
 .skip))
 (.seq none
 (.draw [
 ⟨some 19, .mksliceI .u8 1 (.c (.int .i64 64)) (.c (.int .i64 64)), none, []⟩,
 ⟨some 20, .mksliceI .u8 1 (.c (.int .i64 64)) (.c (.int .i64 64)), none, []⟩,
 ⟨some 7, .mov (.t 19), none, [0, 0]⟩,
 ⟨some 8, .mov (.t 20), none, [1, 2, 0, 1, 2]⟩])
 (.seq none
 (.seq none
 (.reg [
 ⟨some 9, .mov (.c (.int .i64 0)), none, []⟩])
 (.block 0 none
 (.loop 1000000 none
 (.seq none
 (.seq none
 (.reg [
 ⟨some 21, .mov (.t 9), none, []⟩,
 ⟨some 22, .bin .lss (.t 21) (.c (.int .i64 64)), none, []⟩])
 (.cond (.t 22)
 .skip
 (.exit 0)))
 (.seq none
 (.block 1 none
 (.seq none
 (.reg [
 ⟨some 10, .mov (.c (.int .u8 0)), none, []⟩])
 (.seq none
 (.seq none
 (.reg [
 ⟨some 25, .mov (.t 9), none, []⟩,
 ⟨some 26, .mov (.t 5), none, []⟩,
 ⟨some 27, .len false (.t 26), none, []⟩,
 ⟨some 28, .bin .lss (.t 25) (.t 27), none, []⟩])
 (.cond (.t 28)
 (.reg [
 ⟨some 29, .mov (.t 5), none, []⟩,
 ⟨some 30, .mov (.t 9), none, []⟩,
 ⟨some 31, .iaddrS 1 (.t 29) (.t 30), none, []⟩,
 ⟨some 32, .load false 1 (.t 31), none, []⟩,
 ⟨some 10, .mov (.t 32), none, []⟩])
 .skip))
 (.seq none
 (.reg [
 ⟨some 33, .mov (.t 7), none, []⟩,
 ⟨some 34, .mov (.t 9), none, []⟩,
 ⟨some 35, .mov (.t 10), none, []⟩,
 ⟨some 36, .bin .xor (.t 35) (.c (.int .u8 54)), none, []⟩,
 ⟨some 37, .iaddrS 1 (.t 33) (.t 34), none, []⟩,
 ⟨none, .store 1 (.t 37) (.t 36), none, []⟩])
 (.reg [
 ⟨some 38, .mov (.t 8), none, []⟩,
 ⟨some 39, .mov (.t 9), none, []⟩,
 ⟨some 40, .mov (.t 10), none, []⟩,
 ⟨some 41, .bin .xor (.t 40) (.c (.int .u8 92)), none, []⟩,
 ⟨some 42, .iaddrS 1 (.t 38) (.t 39), none, []⟩,
 ⟨none, .store 1 (.t 42) (.t 41), none, []⟩])))))
 (.reg [
 ⟨some 23, .mov (.t 9), none, []⟩,
 ⟨some 24, .bin .add (.t 23) (.c (.int .i64 1)), none, []⟩,
 ⟨some 9, .mov (.t 24), none, []⟩]))))))
 (.seq none
 (.reg [
 ⟨some 43, .mov (.t 7), none, []⟩,
 ⟨some 44, .mov (.t 1), none, []⟩,
 ⟨some 45, .call 54 [(.t 43), (.t 44)], none, []⟩,
 ⟨some 46, .call 115 [(.t 45)], none, []⟩,
 ⟨some 11, .alloc [.ints .u8 32 (List.replicate 32 0)], none, []⟩,
 ⟨none, .store 32 (.t 11) (.t 46), none, []⟩])
 (.seq none
 (.reg [
 ⟨some 47, .mov (.t 8), none, []⟩,
 ⟨some 48, .slArr 32 0 (.t 11) none none none, none, []⟩,
 ⟨some 49, .call 54 [(.t 47), (.t 48)], none, []⟩,
 ⟨some 50, .call 115 [(.t 49)], none, []⟩,
 ⟨none, .store 32 (.t 4) (.t 50), none, []⟩])
 .ret)))))))⟩
def id_field_From : Nat := 80
def af_field_From : AFn := ⟨41, [.cell 2 true 5],
 (.seq none
 (.reg [
 ⟨some 1, .box (.t 0), none, []⟩,
 ⟨some 2, .alloc [.ints .u64 5 (List.replicate 5 0)], none, []⟩])
 (.seq none
 (.draw [
 ⟨some 7, .slArr 32 0 (.t 1) none none none, none, []⟩,
 ⟨some 8, .call 120 [(.t 7)], none, [0]⟩,
 ⟨some 9, .slArr 32 0 (.t 1) (some (.c (.int .i64 8))) none none, none, []⟩,
 ⟨some 10, .call 120 [(.t 9)], none, [2, 1]⟩,
 ⟨some 11, .slArr 32 0 (.t 1) (some (.c (.int .i64 16))) none none, none, []⟩,
 ⟨some 12, .call 120 [(.t 11)], none, [4, 3]⟩,
 ⟨some 13, .slArr 32 0 (.t 1) (some (.c (.int .i64 24))) none none, none, []⟩,
 ⟨some 14, .call 120 [(.t 13)], none, [6, 5]⟩,
 ⟨some 3, .mov (.t 8), none, [1, 7, 0, 1]⟩,
 ⟨some 4, .mov (.t 10), none, [3, 8, 0, 1, 2, 3, 8]⟩,
 ⟨some 5, .mov (.t 12), none, [5, 9, 0, 1, 2, 3, 4, 5, 8, 9]⟩,
 ⟨some 6, .mov (.t 14), none, [7, 10, 0, 1, 2, 3, 4, 5, 6, 7, 8, 9, 10]⟩])
 (.seq none
 (.reg [
 ⟨some 15, .mov (.t 6), none, []⟩,
 ⟨some 16, .bin .and (.t 15) (.c (.int .u64 9223372036854775807)), none, []⟩,
 ⟨some 6, .mov (.t 16), none, []⟩])
 (.seq none
 (.reg [
 ⟨some 17, .mov (.t 3), none, []⟩,
 ⟨some 18, .bin .and (.t 17) (.c (.int .u64 2251799813685247)), none, []⟩,
 ⟨some 19, .mov (.t 3), none, []⟩,
 ⟨some 20, .bin .shr (.t 19) (.c (.int .u64 51)), none, []⟩,
 ⟨some 21, .mov (.t 4), none, []⟩,
 ⟨some 22, .bin .shl (.t 21) (.c (.int .u64 13)), none, []⟩,
 ⟨some 23, .bin .or (.t 20) (.t 22), none, []⟩,
 ⟨some 24, .bin .and (.t 23) (.c (.int .u64 2251799813685247)), none, []⟩,
 ⟨some 25, .mov (.t 4), none, []⟩,
 ⟨some 26, .bin .shr (.t 25) (.c (.int .u64 38)), none, []⟩,
 ⟨some 27, .mov (.t 5), none, []⟩,
 ⟨some 28, .bin .shl (.t 27) (.c (.int .u64 26)), none, []⟩,
 ⟨some 29, .bin .or (.t 26) (.t 28), none, []⟩,
 ⟨some 30, .bin .and (.t 29) (.c (.int .u64 2251799813685247)), none, []⟩,
 ⟨some 31, .mov (.t 5), none, []⟩,
 ⟨some 32, .bin .shr (.t 31) (.c (.int .u64 25)), none, []⟩,
 ⟨some 33, .mov (.t 6), none, []⟩,
 ⟨some 34, .bin .shl (.t 33) (.c (.int .u64 39)), none, []⟩,
 ⟨some 35, .bin .or (.t 32) (.t 34), none, []⟩,
 ⟨some 36, .bin .and (.t 35) (.c (.int .u64 2251799813685247)), none, []⟩,
 ⟨some 37, .mov (.t 6), none, []⟩,
 ⟨some 38, .bin .shr (.t 37) (.c (.int .u64 12)), none, []⟩,
 ⟨some 39, .build [.ints .u64 5 (List.replicate 5 0)] [(0, 1, (.t 18)), (1, 1, (.t 24)), (2, 1, (.t 30)), (3, 1, (.t 36)), (4, 1, (.t 38))], none, []⟩,
 ⟨some 40, .build [.ints .u64 5 (List.replicate 5 0)] [(0, 5, (.t 39))], none, []⟩,
 ⟨none, .store 5 (.t 2) (.t 40), none, []⟩])
 .ret))))⟩
def id_field_Elem_Same : Nat := 81
def af_field_Elem_Same : AFn := ⟨10, [.t 4],
 (.seq none
 (.reg [
 ⟨some 2, .box (.t 0), none, []⟩,
 ⟨some 3, .box (.t 1), none, []⟩,
 ⟨some 4, .mov (.c (.bool false)), none, []⟩])
 (.seq none
 (.draw [
 ⟨some 5, .load true 5 (.t 2), none, []⟩,
 ⟨some 6, .call 103 [(.t 5)], none, [0]⟩,
 ⟨some 7, .load true 5 (.t 3), none, []⟩,
 ⟨some 8, .call 103 [(.t 7)], none, [2, 1]⟩,
 ⟨some 9, .eqv false (.agg [true, true, true, true, true, true, true, true, true, true, true, true, true, true, true, true, true, true, true, true, true, true, true, true, true, true, true, true, true, true, true, true]) (.t 6) (.t 8), none, [1, 3]⟩,
 ⟨some 4, .mov (.t 9), none, [4, 3, 0, 1, 2, 3, 4]⟩])
 .ret))⟩
def id_kdf_Expand : Nat := 82
def af_kdf_Expand : AFn := ⟨40, [.t 6, .t 7],
 (.seq none
 (.reg [
 ⟨some 3, .box (.t 0), none, []⟩,
 ⟨some 6, .mov (.c (.nils)), none, []⟩,
 ⟨some 7, .mov (.c (.int .i64 0)), none, []⟩])
 (.seq none
 (.seq none
 (.reg [
 ⟨some 12, .mov (.t 2), none, []⟩,
 ⟨some 13, .bin .lss (.t 12) (.c (.int .i64 0)), none, []⟩,
 ⟨some 14, .mov (.t 13), none, []⟩,
 ⟨some 15, .mov (.t 2), some (14, false), []⟩,
 ⟨some 16, .bin .gtr (.t 15) (.c (.int .i64 8160)), some (14, false), []⟩,
 ⟨some 17, .pick (.t 14) (.c (.bool true)) (.t 16), none, []⟩])
 (.cond (.t 17)
 (.seq none
 (.reg [
 ⟨some 6, .mov (.c (.nils)), none, []⟩,
 ⟨some 7, .mov (.c (.int .i64 2)), none, []⟩])
 .ret)
 .skip))
 (.seq none
 (.reg [
 ⟨some 8, .mov (.c (.nils)), none, []⟩,
 ⟨some 9, .mov (.c (.nils)), none, []⟩])
 (.seq none
 (.seq none
 (.reg [
 ⟨some 10, .mov (.c (.int .i64 1)), none, []⟩])
 (.block 0 none
 (.loop 1000000 none
 (.seq none
 (.seq none
 (.reg [
 ⟨some 18, .mov (.t 8), none, []⟩,
 ⟨some 19, .len false (.t 18), none, []⟩,
 ⟨some 20, .mov (.t 2), none, []⟩,
 ⟨some 21, .bin .lss (.t 19) (.t 20), none, []⟩])
 (.cond (.t 21)
 .skip
 (.exit 0)))
 (.seq none
 (.block 1 none
 (.seq none
 (.reg [
 ⟨some 24, .slArr 32 0 (.t 3) none none none, none, []⟩,
 ⟨some 25, .mov (.t 9), none, []⟩,
 ⟨some 26, .mov (.t 1), none, []⟩,
 ⟨some 27, .mov (.t 10), none, []⟩,
 ⟨some 28, .toInt .u8 (.t 27), none, []⟩,
 ⟨some 29, .bslice [.ints .u8 1 (List.replicate 1 0)] 1 0 [(0, 1, (.t 28))], none, []⟩,
 ⟨some 30, .bslice [.nils, .nils, .nils] 3 1 [(0, 1, (.t 25)), (1, 1, (.t 26)), (2, 1, (.t 29))], none, []⟩,
 ⟨some 31, .call 68 [(.t 24), (.t 30)], none, []⟩,
 ⟨some 11, .alloc [.ints .u8 32 (List.replicate 32 0)], none, []⟩,
 ⟨none, .store 32 (.t 11) (.t 31), none, []⟩])
 (.seq none
 (.reg [
 ⟨some 32, .slArr 32 0 (.t 11) none none none, none, []⟩,
 ⟨some 9, .mov (.t 32), none, []⟩])
 (.reg [
 ⟨some 33, .mov (.t 8), none, []⟩,
 ⟨some 34, .mov (.t 9), none, []⟩,
 ⟨some 35, .appendI .u8 1 (.t 33) (.t 34), none, []⟩,
 ⟨some 8, .mov (.t 35), none, []⟩]))))
 (.reg [
 ⟨some 22, .mov (.t 10), none, []⟩,
 ⟨some 23, .bin .add (.t 22) (.c (.int .i64 1)), none, []⟩,
 ⟨some 10, .mov (.t 23), none, []⟩]))))))
 (.seq none
 (.reg [
 ⟨some 36, .mov (.t 8), none, []⟩,
 ⟨some 37, .mov (.t 2), none, []⟩,
 ⟨some 38, .mov (.t 2), none, []⟩,
 ⟨some 39, .slSlice 1 (.t 36) none (some (.t 37)) (some (.t 38)), none, []⟩,
 ⟨some 6, .mov (.t 39), none, []⟩,
 ⟨some 7, .mov (.c (.int .i64 0)), none, []⟩])
 .ret)))))⟩
def id_kdf_info : Nat := 83
def af_kdf_info : AFn := ⟨29, [.t 4],
 (.seq none
 (.reg [
 ⟨some 4, .mov (.c (.nils)), none, []⟩])
 (.seq none
 (.reg [
 ⟨some 8, .mov (.t 0), none, []⟩,
 ⟨some 9, .len true (.t 8), none, []⟩,
 ⟨some 10, .toInt .u32 (.t 9), none, []⟩,
 ⟨some 11, .call 53 [(.c (.nils)), (.t 10)], none, []⟩,
 ⟨some 12, .mov (.t 0), none, []⟩,
 ⟨some 13, .appendI .u8 1 (.t 11) (.t 12), none, []⟩,
 ⟨some 5, .mov (.t 13), none, []⟩])
 (.seq none
 (.seq none
 (.reg [
 ⟨some 14, .mov (.t 1), none, []⟩,
 ⟨some 15, .len false (.t 14), none, []⟩,
 ⟨some 16, .mov (.c (.int .i64 0)), none, []⟩])
 (.block 0 none
 (.loop 1000000 none
 (.seq none
 (.reg [
 ⟨some 17, .bin .lss (.t 16) (.t 15), none, []⟩])
 (.seq none
 (.cond (.t 17)
 .skip
 (.exit 0))
 (.seq none
 (.block 1 none
 (.seq none
 (.reg [
 ⟨some 18, .iaddrS 1 (.t 14) (.t 16), none, []⟩,
 ⟨some 19, .load false 1 (.t 18), none, []⟩,
 ⟨some 7, .mov (.t 19), none, []⟩])
 (.reg [
 ⟨some 20, .mov (.t 5), none, []⟩,
 ⟨some 21, .mov (.t 7), none, []⟩,
 ⟨some 22, .len false (.t 21), none, []⟩,
 ⟨some 23, .toInt .u32 (.t 22), none, []⟩,
 ⟨some 24, .call 53 [(.t 20), (.t 23)], none, []⟩,
 ⟨some 25, .mov (.t 7), none, []⟩,
 ⟨some 26, .appendI .u8 1 (.t 24) (.t 25), none, []⟩,
 ⟨some 5, .mov (.t 26), none, []⟩])))
 (.reg [
 ⟨some 27, .bin .add (.t 16) (.c (.int .i64 1)), none, []⟩,
 ⟨some 16, .mov (.t 27), none, []⟩])))))))
 (.seq none
 (.reg [
 ⟨some 28, .mov (.t 5), none, []⟩,
 ⟨some 4, .mov (.t 28), none, []⟩])
 .ret))))⟩
def id_hollowtreeref03_Num_carry : Nat := 84
def af_hollowtreeref03_Num_carry : AFn := ⟨37, [.cell 2 true 16],
 (.seq none
 (.reg [
 ⟨some 1, .box (.t 0), none, []⟩,
 ⟨some 2, .alloc [.ints .i64 16 (List.replicate 16 0)], none, []⟩])
 (.seq none
 (.seq none
 (.reg [
 ⟨some 3, .mov (.c (.int .i64 1)), none, []⟩])
 (.block 0 none
 (.loop 1000000 none
 (.seq none
 (.seq none
 (.reg [
 ⟨some 6, .mov (.t 3), none, []⟩,
 ⟨some 7, .bin .neq (.t 6) (.c (.int .i64 0)), none, []⟩])
 (.cond (.t 7)
 .skip
 (.exit 0)))
 (.block 1 none
 (.seq none
 (.reg [
 ⟨some 3, .mov (.c (.int .i64 0)), none, []⟩])
 (.seq none
 (.seq none
 (.reg [
 ⟨some 4, .mov (.c (.int .i64 0)), none, []⟩])
 (.block 2 none
 (.loop 1000000 none
 (.seq none
 (.seq none
 (.reg [
 ⟨some 8, .mov (.t 4), none, []⟩,
 ⟨some 9, .bin .lss (.t 8) (.c (.int .i64 16)), none, []⟩])
 (.cond (.t 9)
 .skip
 (.exit 2)))
 (.seq none
 (.block 3 none
 (.seq none
 (.reg [
 ⟨some 12, .mov (.t 4), none, []⟩,
 ⟨some 13, .iaddrA 16 0 (.t 1) (.t 12), none, []⟩,
 ⟨some 14, .load false 1 (.t 13), none, []⟩,
 ⟨some 15, .mov (.t 3), none, []⟩,
 ⟨some 16, .bin .add (.t 14) (.t 15), none, []⟩,
 ⟨some 5, .mov (.t 16), none, []⟩])
 (.seq none
 (.reg [
 ⟨some 17, .mov (.t 5), none, []⟩,
 ⟨some 18, .bin .quo (.t 17) (.c (.int .i64 65536)), none, []⟩,
 ⟨some 3, .mov (.t 18), none, []⟩])
 (.seq none
 (.reg [
 ⟨some 19, .mov (.t 5), none, []⟩,
 ⟨some 20, .bin .rem (.t 19) (.c (.int .i64 65536)), none, []⟩,
 ⟨some 5, .mov (.t 20), none, []⟩])
 (.seq none
 (.seq none
 (.reg [
 ⟨some 21, .mov (.t 5), none, []⟩,
 ⟨some 22, .bin .lss (.t 21) (.c (.int .i64 0)), none, []⟩])
 (.cond (.t 22)
 (.seq none
 (.reg [
 ⟨some 23, .mov (.t 5), none, []⟩,
 ⟨some 24, .bin .add (.t 23) (.c (.int .i64 65536)), none, []⟩,
 ⟨some 5, .mov (.t 24), none, []⟩])
 (.reg [
 ⟨some 25, .mov (.t 3), none, []⟩,
 ⟨some 26, .bin .sub (.t 25) (.c (.int .i64 1)), none, []⟩,
 ⟨some 3, .mov (.t 26), none, []⟩]))
 .skip))
 (.reg [
 ⟨some 27, .mov (.t 4), none, []⟩,
 ⟨some 28, .mov (.t 5), none, []⟩,
 ⟨some 29, .iaddrA 16 0 (.t 1) (.t 27), none, []⟩,
 ⟨none, .store 1 (.t 29) (.t 28), none, []⟩]))))))
 (.reg [
 ⟨some 10, .mov (.t 4), none, []⟩,
 ⟨some 11, .bin .add (.t 10) (.c (.int .i64 1)), none, []⟩,
 ⟨some 4, .mov (.t 11), none, []⟩]))))))
 (.reg [
 ⟨some 30, .iaddrA 16 0 (.t 1) (.c (.int .i64 0)), none, []⟩,
 ⟨some 31, .load false 1 (.t 30), none, []⟩,
 ⟨some 32, .mov (.t 3), none, []⟩,
 ⟨some 33, .bin .mul (.c (.int .i64 38)) (.t 32), none, []⟩,
 ⟨some 34, .bin .add (.t 31) (.t 33), none, []⟩,
 ⟨some 35, .iaddrA 16 0 (.t 1) (.c (.int .i64 0)), none, []⟩,
 ⟨none, .store 1 (.t 35) (.t 34), none, []⟩]))))))))
 (.seq none
 (.reg [
 ⟨some 36, .load true 16 (.t 1), none, []⟩,
 ⟨none, .store 16 (.t 2) (.t 36), none, []⟩])
 .ret)))⟩
def id_hollowtreeref05_Expand : Nat := 85
def af_hollowtreeref05_Expand : AFn := ⟨35, [.t 6],
 (.seq none
 (.reg [
 ⟨some 3, .box (.t 0), none, []⟩,
 ⟨some 6, .mov (.c (.nils)), none, []⟩])
 (.seq none
 (.reg [
 ⟨some 7, .mov (.c (.nils)), none, []⟩,
 ⟨some 8, .mov (.c (.nils)), none, []⟩])
 (.seq none
 (.seq none
 (.reg [
 ⟨some 9, .mov (.c (.int .i64 1)), none, []⟩])
 (.block 0 none
 (.loop 1000000 none
 (.seq none
 (.seq none
 (.reg [
 ⟨some 11, .mov (.t 7), none, []⟩,
 ⟨some 12, .len false (.t 11), none, []⟩,
 ⟨some 13, .mov (.t 2), none, []⟩,
 ⟨some 14, .bin .lss (.t 12) (.t 13), none, []⟩])
 (.cond (.t 14)
 .skip
 (.exit 0)))
 (.seq none
 (.block 1 none
 (.seq none
 (.draw [
 ⟨some 17, .slArr 32 0 (.t 3) none none none, none, []⟩,
 ⟨some 18, .mov (.t 8), none, []⟩,
 ⟨some 19, .mov (.t 1), none, []⟩,
 ⟨some 20, .call 54 [(.t 18), (.t 19)], none, [1, 2]⟩,
 ⟨some 21, .mov (.t 9), none, []⟩,
 ⟨some 22, .toInt .u8 (.t 21), none, [4]⟩,
 ⟨some 23, .bslice [.ints .u8 1 (List.replicate 1 0)] 1 0 [(0, 1, (.t 22))], none, [5]⟩,
 ⟨some 24, .call 54 [(.t 20), (.t 23)], none, [3, 6, 3]⟩,
 ⟨some 25, .call 77 [(.t 17), (.t 24)], none, [0, 7, 7]⟩,
 ⟨some 10, .alloc [.ints .u8 32 (List.replicate 32 0)], none, []⟩,
 ⟨none, .store 32 (.t 10) (.t 25), none, [9, 8, 8, 0, 1, 2, 3, 4, 5, 6, 7, 8, 9]⟩])
 (.seq none
 (.reg [
 ⟨some 26, .slArr 32 0 (.t 10) none none none, none, []⟩,
 ⟨some 27, .call 54 [(.t 26), (.c (.nils))], none, []⟩,
 ⟨some 8, .mov (.t 27), none, []⟩])
 (.reg [
 ⟨some 28, .mov (.t 7), none, []⟩,
 ⟨some 29, .mov (.t 8), none, []⟩,
 ⟨some 30, .call 54 [(.t 28), (.t 29)], none, []⟩,
 ⟨some 7, .mov (.t 30), none, []⟩]))))
 (.reg [
 ⟨some 15, .mov (.t 9), none, []⟩,
 ⟨some 16, .bin .add (.t 15) (.c (.int .i64 1)), none, []⟩,
 ⟨some 9, .mov (.t 16), none, []⟩]))))))
 (.seq none
 (.reg [
 ⟨some 31, .mov (.t 7), none, []⟩,
 ⟨some 32, .mov (.t 2), none, []⟩,
 ⟨some 33, .slSlice 1 (.t 31) none (some (.t 32)) none, none, []⟩,
 ⟨some 34, .call 54 [(.t 33), (.c (.nils))], none, []⟩,
 ⟨some 6, .mov (.t 34), none, []⟩])
 .ret))))⟩
def id_hollowtreeref05_Info : Nat := 86
def af_hollowtreeref05_Info : AFn := ⟨36, [.t 4],
 (.seq none
 (.reg [
 ⟨some 4, .mov (.c (.nils)), none, []⟩])
 (.seq none
 (.reg [
 ⟨some 7, .mov (.t 0), none, []⟩,
 ⟨some 8, .len true (.t 7), none, []⟩,
 ⟨some 9, .toInt .u64 (.t 8), none, []⟩,
 ⟨some 10, .call 55 [(.t 9), (.c (.int .i64 4))], none, []⟩,
 ⟨some 11, .mov (.t 0), none, []⟩,
 ⟨some 12, .s2b (.t 11), none, []⟩,
 ⟨some 13, .call 54 [(.t 10), (.t 12)], none, []⟩,
 ⟨some 5, .mov (.t 13), none, []⟩])
 (.seq none
 (.seq none
 (.reg [
 ⟨some 6, .mov (.c (.int .i64 0)), none, []⟩])
 (.block 0 none
 (.loop 1000000 none
 (.seq none
 (.seq none
 (.reg [
 ⟨some 14, .mov (.t 6), none, []⟩,
 ⟨some 15, .mov (.t 1), none, []⟩,
 ⟨some 16, .len false (.t 15), none, []⟩,
 ⟨some 17, .bin .lss (.t 14) (.t 16), none, []⟩])
 (.cond (.t 17)
 .skip
 (.exit 0)))
 (.seq none
 (.block 1 none
 (.seq none
 (.reg [
 ⟨some 20, .mov (.t 5), none, []⟩,
 ⟨some 21, .mov (.t 1), none, []⟩,
 ⟨some 22, .mov (.t 6), none, []⟩,
 ⟨some 23, .iaddrS 1 (.t 21) (.t 22), none, []⟩,
 ⟨some 24, .load false 1 (.t 23), none, []⟩,
 ⟨some 25, .len false (.t 24), none, []⟩,
 ⟨some 26, .toInt .u64 (.t 25), none, []⟩,
 ⟨some 27, .call 55 [(.t 26), (.c (.int .i64 4))], none, []⟩,
 ⟨some 28, .call 54 [(.t 20), (.t 27)], none, []⟩,
 ⟨some 5, .mov (.t 28), none, []⟩])
 (.reg [
 ⟨some 29, .mov (.t 5), none, []⟩,
 ⟨some 30, .mov (.t 1), none, []⟩,
 ⟨some 31, .mov (.t 6), none, []⟩,
 ⟨some 32, .iaddrS 1 (.t 30) (.t 31), none, []⟩,
 ⟨some 33, .load false 1 (.t 32), none, []⟩,
 ⟨some 34, .call 54 [(.t 29), (.t 33)], none, []⟩,
 ⟨some 5, .mov (.t 34), none, []⟩])))
 (.reg [
 ⟨some 18, .mov (.t 6), none, []⟩,
 ⟨some 19, .bin .add (.t 18) (.c (.int .i64 1)), none, []⟩,
 ⟨some 6, .mov (.t 19), none, []⟩]))))))
 (.seq none
 (.reg [
 ⟨some 35, .mov (.t 5), none, []⟩,
 ⟨some 4, .mov (.t 35), none, []⟩])
 .ret))))⟩
def id_slices_IndexFunc_api_Skip : Nat := 87
def af_slices_IndexFunc_api_Skip : AFn := ⟨19, [.t 4],
 (.seq none
 (.reg [
 ⟨some 4, .mov (.c (.int .i64 0)), none, []⟩])
 (.seq none
 (.seq none
 (.reg [
 ⟨some 6, .mov (.t 0), none, []⟩,
 ⟨some 7, .len false (.t 6), none, []⟩,
 ⟨some 8, .mov (.c (.int .i64 0)), none, []⟩])
 (.block 0 none
 (.loop 1000000 none
 (.seq none
 (.reg [
 ⟨some 9, .bin .lss (.t 8) (.t 7), none, []⟩])
 (.seq none
 (.cond (.t 9)
 .skip
 (.exit 0))
 (.seq none
 (.block 1 none
 (.seq none
 (.reg [
 ⟨some 10, .mov (.t 8), none, []⟩,
 ⟨some 5, .mov (.t 10), none, []⟩])
 (.seq none
 (.reg [
 ⟨some 11, .mov (.t 1), none, []⟩,
 ⟨some 12, .mov (.t 0), none, []⟩,
 ⟨some 13, .mov (.t 5), none, []⟩,
 ⟨some 14, .iaddrS 65 (.t 12) (.t 13), none, []⟩,
 ⟨some 15, .load true 65 (.t 14), none, []⟩,
 ⟨some 16, .callV (.t 11) [(.t 15)], none, []⟩])
 (.cond (.t 16)
 (.seq none
 (.reg [
 ⟨some 17, .mov (.t 5), none, []⟩,
 ⟨some 4, .mov (.t 17), none, []⟩])
 .ret)
 .skip))))
 (.reg [
 ⟨some 18, .bin .add (.t 8) (.c (.int .i64 1)), none, []⟩,
 ⟨some 8, .mov (.t 18), none, []⟩])))))))
 (.seq none
 (.reg [
 ⟨some 4, .mov (.c (.int .i64 (-1))), none, []⟩])
 .ret)))⟩
def id_ratchet_find_1 : Nat := 88
def af_ratchet_find_1 : AFn := ⟨15, [.t 4],
 (.seq none
 (.reg [
 ⟨some 3, .box (.t 0), none, []⟩,
 ⟨some 4, .mov (.c (.bool false)), none, []⟩])
 (.seq none
 (.reg [
 ⟨some 5, .faddr 0 (.t 3), none, []⟩,
 ⟨some 6, .load true 32 (.t 5), none, []⟩,
 ⟨some 7, .load true 32 (.t 1), none, []⟩,
 ⟨some 8, .eqv false (.agg [true, true, true, true, true, true, true, true, true, true, true, true, true, true, true, true, true, true, true, true, true, true, true, true, true, true, true, true, true, true, true, true]) (.t 6) (.t 7), none, []⟩,
 ⟨some 9, .mov (.t 8), none, []⟩,
 ⟨some 10, .faddr 32 (.t 3), some (9, true), []⟩,
 ⟨some 11, .load false 1 (.t 10), some (9, true), []⟩,
 ⟨some 12, .load false 1 (.t 2), some (9, true), []⟩,
 ⟨some 13, .bin .eql (.t 11) (.t 12), some (9, true), []⟩,
 ⟨some 14, .pick (.t 9) (.t 13) (.c (.bool false)), none, []⟩,
 ⟨some 4, .mov (.t 14), none, []⟩])
 .ret))⟩
def id_octet_put : Nat := 89
def af_octet_put : AFn := ⟨21, [.t 6],
 (.seq none
 (.reg [
 ⟨some 6, .mov (.c (.nils)), none, []⟩])
 (.seq none
 (.reg [
 ⟨some 7, .mov (.t 0), none, []⟩,
 ⟨some 8, .call 90 [(.t 7)], none, []⟩,
 ⟨some 0, .mov (.t 8), none, []⟩])
 (.seq none
 (.seq none
 (.reg [
 ⟨some 9, .mov (.t 2), none, []⟩,
 ⟨some 10, .mov (.c (.int .i64 0)), none, []⟩])
 (.block 0 none
 (.loop 1000000 none
 (.seq none
 (.reg [
 ⟨some 11, .bin .lss (.t 10) (.t 9), none, []⟩])
 (.seq none
 (.cond (.t 11)
 .skip
 (.exit 0))
 (.seq none
 (.block 1 none
 (.seq none
 (.reg [
 ⟨some 12, .mov (.t 0), none, []⟩,
 ⟨some 13, .mov (.t 1), none, []⟩,
 ⟨some 14, .toInt .u8 (.t 13), none, []⟩,
 ⟨some 15, .bslice [.ints .u8 1 (List.replicate 1 0)] 1 0 [(0, 1, (.t 14))], none, []⟩,
 ⟨some 16, .appendI .u8 1 (.t 12) (.t 15), none, []⟩,
 ⟨some 0, .mov (.t 16), none, []⟩])
 (.reg [
 ⟨some 17, .mov (.t 1), none, []⟩,
 ⟨some 18, .bin .shr (.t 17) (.c (.int .u64 8)), none, []⟩,
 ⟨some 1, .mov (.t 18), none, []⟩])))
 (.reg [
 ⟨some 19, .bin .add (.t 10) (.c (.int .i64 1)), none, []⟩,
 ⟨some 10, .mov (.t 19), none, []⟩])))))))
 (.seq none
 (.reg [
 ⟨some 20, .mov (.t 0), none, []⟩,
 ⟨some 6, .mov (.t 20), none, []⟩])
 .ret))))⟩
def id_slices_Clone_byte : Nat := 90
def af_slices_Clone_byte : AFn := ⟨8, [.t 2],
 (.seq none
 (.reg [
 ⟨some 2, .mov (.c (.nils)), none, []⟩])
 (.seq none
 (.seq none
 (.reg [
 ⟨some 3, .mov (.t 0), none, []⟩,
 ⟨some 4, .eqv false .slice (.t 3) (.c (.nils)), none, []⟩])
 (.cond (.t 4)
 (.seq none
 (.reg [
 ⟨some 2, .mov (.c (.nils)), none, []⟩])
 .ret)
 .skip))
 (.seq none
 (.reg [
 ⟨some 5, .bslice [.ints .u8 0 (List.replicate 0 0)] 0 0 [], none, []⟩,
 ⟨some 6, .mov (.t 0), none, []⟩,
 ⟨some 7, .appendI .u8 1 (.t 5) (.t 6), none, []⟩,
 ⟨some 2, .mov (.t 7), none, []⟩])
 .ret)))⟩
def id_octet_Get64 : Nat := 91
def af_octet_Get64 : AFn := ⟨26, [.t 2],
 (.seq none
 (.reg [
 ⟨some 2, .mov (.c (.int .u64 0)), none, []⟩])
 (.seq none
 (.reg [
 ⟨some 3, .mov (.c (.int .u64 0)), none, []⟩])
 (.seq none
 (.seq none
 (.reg [
 ⟨some 6, .mov (.t 0), none, []⟩,
 ⟨some 7, .mov (.t 0), none, []⟩,
 ⟨some 8, .len false (.t 7), none, []⟩,
 ⟨some 9, .minI (.t 8) (.c (.int .i64 8)), none, []⟩,
 ⟨some 10, .slSlice 1 (.t 6) none (some (.t 9)) none, none, []⟩,
 ⟨some 11, .len false (.t 10), none, []⟩,
 ⟨some 12, .mov (.c (.int .i64 0)), none, []⟩])
 (.block 0 none
 (.loop 1000000 none
 (.seq none
 (.reg [
 ⟨some 13, .bin .lss (.t 12) (.t 11), none, []⟩])
 (.seq none
 (.cond (.t 13)
 .skip
 (.exit 0))
 (.seq none
 (.block 1 none
 (.seq none
 (.reg [
 ⟨some 14, .mov (.t 12), none, []⟩,
 ⟨some 15, .iaddrS 1 (.t 10) (.t 12), none, []⟩,
 ⟨some 16, .load false 1 (.t 15), none, []⟩,
 ⟨some 4, .mov (.t 14), none, []⟩,
 ⟨some 5, .mov (.t 16), none, []⟩])
 (.reg [
 ⟨some 17, .mov (.t 3), none, []⟩,
 ⟨some 18, .mov (.t 5), none, []⟩,
 ⟨some 19, .toInt .u64 (.t 18), none, []⟩,
 ⟨some 20, .mov (.t 4), none, []⟩,
 ⟨some 21, .bin .mul (.c (.int .i64 8)) (.t 20), none, []⟩,
 ⟨some 22, .bin .shl (.t 19) (.t 21), none, []⟩,
 ⟨some 23, .bin .or (.t 17) (.t 22), none, []⟩,
 ⟨some 3, .mov (.t 23), none, []⟩])))
 (.reg [
 ⟨some 24, .bin .add (.t 12) (.c (.int .i64 1)), none, []⟩,
 ⟨some 12, .mov (.t 24), none, []⟩])))))))
 (.seq none
 (.reg [
 ⟨some 25, .mov (.t 3), none, []⟩,
 ⟨some 2, .mov (.t 25), none, []⟩])
 .ret))))⟩
def id_curve_Agree : Nat := 93
def af_curve_Agree : AFn := ⟨14, [.cell 4 true 32, .t 5],
 (.seq none
 (.reg [
 ⟨some 2, .box (.t 0), none, []⟩,
 ⟨some 3, .box (.t 1), none, []⟩,
 ⟨some 4, .alloc [.ints .u8 32 (List.replicate 32 0)], none, []⟩,
 ⟨some 5, .mov (.c (.int .i64 0)), none, []⟩])
 (.seq none
 (.reg [
 ⟨some 7, .load true 32 (.t 2), none, []⟩,
 ⟨some 8, .load true 32 (.t 3), none, []⟩,
 ⟨some 9, .call 67 [(.t 7), (.t 8)], none, []⟩,
 ⟨some 6, .alloc [.ints .u8 32 (List.replicate 32 0)], none, []⟩,
 ⟨none, .store 32 (.t 6) (.t 9), none, []⟩])
 (.seq none
 (.seq none
 (.reg [
 ⟨some 10, .slArr 32 0 (.t 6) none none none, none, []⟩,
 ⟨some 11, .call 121 [(.t 10)], none, []⟩])
 (.cond (.t 11)
 (.seq none
 (.reg [
 ⟨some 12, .build [.ints .u8 32 (List.replicate 32 0)] [], none, []⟩,
 ⟨none, .store 32 (.t 4) (.t 12), none, []⟩,
 ⟨some 5, .mov (.c (.int .i64 130)), none, []⟩])
 .ret)
 .skip))
 (.seq none
 (.reg [
 ⟨some 13, .load true 32 (.t 6), none, []⟩,
 ⟨none, .store 32 (.t 4) (.t 13), none, []⟩,
 ⟨some 5, .mov (.c (.int .i64 0)), none, []⟩])
 .ret))))⟩
def id_ident_Less : Nat := 94
def af_ident_Less : AFn := ⟨10, [.t 4],
 (.seq none
 (.reg [
 ⟨some 2, .box (.t 0), none, []⟩,
 ⟨some 3, .box (.t 1), none, []⟩,
 ⟨some 4, .mov (.c (.bool false)), none, []⟩])
 (.seq none
 (.draw [
 ⟨some 5, .slArr 32 0 (.t 2) none none none, none, []⟩,
 ⟨some 6, .b2s (.t 5), none, [0]⟩,
 ⟨some 7, .slArr 32 0 (.t 3) none none none, none, []⟩,
 ⟨some 8, .b2s (.t 7), none, [2]⟩,
 ⟨some 9, .bin .lss (.t 6) (.t 8), none, [1, 3]⟩,
 ⟨some 4, .mov (.t 9), none, [4, 0, 1, 2, 3, 4]⟩])
 .ret))⟩
def id_aead_Open : Nat := 95
def af_aead_Open : AFn := ⟨36, [.t 8, .t 9],
 (.seq none
 (.reg [
 ⟨some 4, .box (.t 0), none, []⟩,
 ⟨some 5, .box (.t 1), none, []⟩,
 ⟨some 8, .mov (.c (.nils)), none, []⟩,
 ⟨some 9, .mov (.c (.int .i64 0)), none, []⟩])
 (.seq none
 (.reg [
 ⟨some 13, .mov (.t 3), none, []⟩,
 ⟨some 14, .len false (.t 13), none, []⟩,
 ⟨some 15, .bin .sub (.t 14) (.c (.int .i64 16)), none, []⟩,
 ⟨some 10, .mov (.t 15), none, []⟩])
 (.seq none
 (.seq none
 (.reg [
 ⟨some 16, .mov (.t 10), none, []⟩,
 ⟨some 17, .bin .lss (.t 16) (.c (.int .i64 0)), none, []⟩])
 (.cond (.t 17)
 (.seq none
 (.reg [
 ⟨some 8, .mov (.c (.nils)), none, []⟩,
 ⟨some 9, .mov (.c (.int .i64 180)), none, []⟩])
 .ret)
 .skip))
 (.seq none
 (.reg [
 ⟨some 18, .mov (.t 3), none, []⟩,
 ⟨some 19, .mov (.t 10), none, []⟩,
 ⟨some 20, .slSlice 1 (.t 18) none (some (.t 19)) none, none, []⟩,
 ⟨some 11, .mov (.t 20), none, []⟩])
 (.seq none
 (.seq none
 (.reg [
 ⟨some 21, .load true 32 (.t 4), none, []⟩,
 ⟨some 22, .load true 12 (.t 5), none, []⟩,
 ⟨some 23, .mov (.t 2), none, []⟩,
 ⟨some 24, .mov (.t 11), none, []⟩,
 ⟨some 25, .call 70 [(.t 21), (.t 22), (.t 23), (.t 24)], none, []⟩,
 ⟨some 12, .alloc [.ints .u8 16 (List.replicate 16 0)], none, []⟩,
 ⟨none, .store 16 (.t 12) (.t 25), none, []⟩])
 (.seq none
 (.draw [
 ⟨some 26, .slArr 16 0 (.t 12) none none none, none, []⟩,
 ⟨some 27, .mov (.t 3), none, []⟩,
 ⟨some 28, .mov (.t 10), none, []⟩,
 ⟨some 29, .slSlice 1 (.t 27) (some (.t 28)) none none, none, [1, 2]⟩,
 ⟨some 30, .call 23 [(.t 26), (.t 29)], none, [0, 3]⟩,
 ⟨some 31, .un .not (.t 30), none, [4]⟩])
 (.cond (.t 31)
 (.seq none
 (.reg [
 ⟨some 8, .mov (.c (.nils)), none, []⟩,
 ⟨some 9, .mov (.c (.int .i64 180)), none, []⟩])
 .ret)
 .skip)))
 (.seq none
 (.reg [
 ⟨some 32, .load true 32 (.t 4), none, []⟩,
 ⟨some 33, .load true 12 (.t 5), none, []⟩,
 ⟨some 34, .mov (.t 11), none, []⟩,
 ⟨some 35, .call 69 [(.t 32), (.c (.int .u32 1)), (.t 33), (.t 34)], none, []⟩,
 ⟨some 8, .mov (.t 35), none, []⟩,
 ⟨some 9, .mov (.c (.int .i64 0)), none, []⟩])
 .ret))))))⟩
def id_ratchet_read : Nat := 96
def af_ratchet_read : AFn := ⟨28, [.t 2, .t 3],
 (.seq none
 (.reg [
 ⟨some 2, .mov (.c (.str ⟨#[]⟩)), none, []⟩,
 ⟨some 3, .mov (.c (.bool false)), none, []⟩])
 (.seq none
 (.reg [
 ⟨some 5, .mov (.t 0), none, []⟩,
 ⟨some 6, .iaddrS 1 (.t 5) (.c (.int .i64 0)), none, []⟩,
 ⟨some 7, .load false 1 (.t 6), none, []⟩,
 ⟨some 8, .toInt .i64 (.t 7), none, []⟩,
 ⟨some 4, .mov (.t 8), none, []⟩])
 (.seq none
 (.seq none
 (.reg [
 ⟨some 9, .mov (.t 4), none, []⟩,
 ⟨some 10, .bin .lss (.t 9) (.c (.int .i64 1)), none, []⟩,
 ⟨some 11, .mov (.t 10), none, []⟩,
 ⟨some 12, .mov (.t 4), some (11, false), []⟩,
 ⟨some 13, .bin .gtr (.t 12) (.c (.int .i64 48)), some (11, false), []⟩,
 ⟨some 14, .pick (.t 11) (.c (.bool true)) (.t 13), none, []⟩,
 ⟨some 15, .mov (.t 14), none, []⟩,
 ⟨some 16, .mov (.t 0), some (15, false), []⟩,
 ⟨some 17, .mov (.t 4), some (15, false), []⟩,
 ⟨some 18, .bin .add (.c (.int .i64 1)) (.t 17), some (15, false), []⟩,
 ⟨some 19, .slSlice 1 (.t 16) (some (.t 18)) none none, some (15, false), []⟩,
 ⟨some 20, .call 121 [(.t 19)], some (15, false), []⟩,
 ⟨some 21, .un .not (.t 20), some (15, false), []⟩,
 ⟨some 22, .pick (.t 15) (.c (.bool true)) (.t 21), none, []⟩])
 (.cond (.t 22)
 (.seq none
 (.reg [
 ⟨some 2, .mov (.c (.str ⟨#[]⟩)), none, []⟩,
 ⟨some 3, .mov (.c (.bool false)), none, []⟩])
 .ret)
 .skip))
 (.seq none
 (.reg [
 ⟨some 23, .mov (.t 0), none, []⟩,
 ⟨some 24, .mov (.t 4), none, []⟩,
 ⟨some 25, .bin .add (.c (.int .i64 1)) (.t 24), none, []⟩,
 ⟨some 26, .slSlice 1 (.t 23) (some (.c (.int .i64 1))) (some (.t 25)) none, none, []⟩,
 ⟨some 27, .b2s (.t 26), none, []⟩,
 ⟨some 2, .mov (.t 27), none, []⟩,
 ⟨some 3, .mov (.c (.bool true)), none, []⟩])
 .ret))))⟩
def id_curve_Clamp : Nat := 97
def af_curve_Clamp : AFn := ⟨13, [.cell 2 true 32],
 (.seq none
 (.reg [
 ⟨some 1, .box (.t 0), none, []⟩,
 ⟨some 2, .alloc [.ints .u8 32 (List.replicate 32 0)], none, []⟩])
 (.seq none
 (.reg [
 ⟨some 3, .iaddrA 32 0 (.t 1) (.c (.int .i64 0)), none, []⟩,
 ⟨some 4, .load false 1 (.t 3), none, []⟩,
 ⟨some 5, .bin .and (.t 4) (.c (.int .u8 248)), none, []⟩,
 ⟨some 6, .iaddrA 32 0 (.t 1) (.c (.int .i64 0)), none, []⟩,
 ⟨none, .store 1 (.t 6) (.t 5), none, []⟩])
 (.seq none
 (.reg [
 ⟨some 7, .iaddrA 32 0 (.t 1) (.c (.int .i64 31)), none, []⟩,
 ⟨some 8, .load false 1 (.t 7), none, []⟩,
 ⟨some 9, .bin .and (.t 8) (.c (.int .u8 127)), none, []⟩,
 ⟨some 10, .bin .or (.t 9) (.c (.int .u8 64)), none, []⟩,
 ⟨some 11, .iaddrA 32 0 (.t 1) (.c (.int .i64 31)), none, []⟩,
 ⟨none, .store 1 (.t 11) (.t 10), none, []⟩])
 (.seq none
 (.reg [
 ⟨some 12, .load true 32 (.t 1), none, []⟩,
 ⟨none, .store 32 (.t 2) (.t 12), none, []⟩])
 .ret))))⟩
def id_field_Of : Nat := 98
def af_field_Of : AFn := ⟨9, [.cell 2 true 5],
 (.seq none
 (.reg [
 ⟨some 2, .alloc [.ints .u64 5 (List.replicate 5 0)], none, []⟩])
 (.seq none
 (.reg [
 ⟨some 3, .mov (.t 0), none, []⟩,
 ⟨some 4, .bin .and (.t 3) (.c (.int .u64 2251799813685247)), none, []⟩,
 ⟨some 5, .mov (.t 0), none, []⟩,
 ⟨some 6, .bin .shr (.t 5) (.c (.int .u64 51)), none, []⟩,
 ⟨some 7, .build [.ints .u64 5 (List.replicate 5 0)] [(0, 1, (.t 4)), (1, 1, (.t 6))], none, []⟩,
 ⟨some 8, .build [.ints .u64 5 (List.replicate 5 0)] [(0, 5, (.t 7))], none, []⟩,
 ⟨none, .store 5 (.t 2) (.t 8), none, []⟩])
 .ret))⟩
def id_curve_ladder_swap : Nat := 99
def af_curve_ladder_swap : AFn := ⟨42, [],
 (.seq none
 (.draw [
 ⟨some 5, .mov (.t 0), none, []⟩,
 ⟨some 6, .mov (.t 0), none, []⟩,
 ⟨some 7, .mov (.t 1), none, []⟩,
 ⟨some 8, .mov (.t 0), none, []⟩,
 ⟨some 9, .nilChk (.t 8), none, [3]⟩,
 ⟨some 10, .faddr 0 (.t 9), none, [4]⟩,
 ⟨some 11, .load true 5 (.t 10), none, [5]⟩,
 ⟨some 12, .mov (.t 0), none, []⟩,
 ⟨some 13, .nilChk (.t 12), none, [7]⟩,
 ⟨some 14, .faddr 10 (.t 13), none, [8]⟩,
 ⟨some 15, .load true 5 (.t 14), none, [9]⟩,
 ⟨some 16, .call 122 [(.t 7), (.t 11), (.t 15)], none, [2, 6, 10]⟩,
 ⟨some 4, .mov (.t 16), none, [11]⟩,
 ⟨some 17, .ext (.t 4) 0, none, [12]⟩,
 ⟨some 18, .ext (.t 4) 1, none, [12]⟩,
 ⟨some 19, .nilChk (.t 5), none, [0, 0, 2, 3, 4, 5, 6, 7, 8, 9, 10, 11, 12, 13]⟩,
 ⟨some 20, .faddr 0 (.t 19), none, [15, 0, 2, 3, 4, 5, 6, 7, 8, 9, 10, 11, 12, 13]⟩,
 ⟨none, .store 5 (.t 20) (.t 17), none, [16, 13, 11, 0, 2, 3, 4, 5, 6, 7, 8, 9, 10, 11, 12, 13]⟩,
 ⟨some 21, .nilChk (.t 6), none, [1, 0, 1, 2, 3, 4, 5, 6, 7, 8, 9, 10, 11, 12, 13, 14, 15, 16, 17]⟩,
 ⟨some 22, .faddr 10 (.t 21), none, [18, 0, 1, 2, 3, 4, 5, 6, 7, 8, 9, 10, 11, 12, 13, 14, 15, 16, 17]⟩,
 ⟨none, .store 5 (.t 22) (.t 18), none, [19, 14, 17, 0, 1, 2, 3, 4, 5, 6, 7, 8, 9, 10, 11, 12, 13, 14, 15, 16, 17]⟩])
 (.draw [
 ⟨some 24, .mov (.t 0), none, []⟩,
 ⟨some 25, .mov (.t 0), none, []⟩,
 ⟨some 26, .mov (.t 1), none, []⟩,
 ⟨some 27, .mov (.t 0), none, []⟩,
 ⟨some 28, .nilChk (.t 27), none, [3]⟩,
 ⟨some 29, .faddr 5 (.t 28), none, [4]⟩,
 ⟨some 30, .load true 5 (.t 29), none, [5]⟩,
 ⟨some 31, .mov (.t 0), none, []⟩,
 ⟨some 32, .nilChk (.t 31), none, [7]⟩,
 ⟨some 33, .faddr 15 (.t 32), none, [8]⟩,
 ⟨some 34, .load true 5 (.t 33), none, [9]⟩,
 ⟨some 35, .call 122 [(.t 26), (.t 30), (.t 34)], none, [2, 6, 10]⟩,
 ⟨some 23, .mov (.t 35), none, [11]⟩,
 ⟨some 36, .ext (.t 23) 0, none, [12]⟩,
 ⟨some 37, .ext (.t 23) 1, none, [12]⟩,
 ⟨some 38, .nilChk (.t 24), none, [0, 0, 2, 3, 4, 5, 6, 7, 8, 9, 10, 11, 12, 13]⟩,
 ⟨some 39, .faddr 5 (.t 38), none, [15, 0, 2, 3, 4, 5, 6, 7, 8, 9, 10, 11, 12, 13]⟩,
 ⟨none, .store 5 (.t 39) (.t 36), none, [16, 13, 11, 0, 2, 3, 4, 5, 6, 7, 8, 9, 10, 11, 12, 13]⟩,
 ⟨some 40, .nilChk (.t 25), none, [1, 0, 1, 2, 3, 4, 5, 6, 7, 8, 9, 10, 11, 12, 13, 14, 15, 16, 17]⟩,
 ⟨some 41, .faddr 15 (.t 40), none, [18, 0, 1, 2, 3, 4, 5, 6, 7, 8, 9, 10, 11, 12, 13, 14, 15, 16, 17]⟩,
 ⟨none, .store 5 (.t 41) (.t 37), none, [19, 14, 17, 0, 1, 2, 3, 4, 5, 6, 7, 8, 9, 10, 11, 12, 13, 14, 15, 16, 17]⟩]))⟩
def id_curve_ladder_step : Nat := 100
def af_curve_ladder_step : AFn := ⟨66, [],
 (.seq none
 (.reg [
 ⟨some 3, .box (.t 1), none, []⟩])
 (.seq none
 (.reg [
 ⟨some 14, .mov (.t 0), none, []⟩,
 ⟨some 15, .nilChk (.t 14), none, []⟩,
 ⟨some 16, .load true 20 (.t 15), none, []⟩,
 ⟨some 17, .call 123 [(.t 16)], none, []⟩,
 ⟨some 13, .mov (.t 17), none, []⟩,
 ⟨some 18, .ext (.t 13) 0, none, []⟩,
 ⟨some 19, .ext (.t 13) 1, none, []⟩,
 ⟨some 20, .ext (.t 13) 2, none, []⟩,
 ⟨some 21, .ext (.t 13) 3, none, []⟩,
 ⟨some 4, .alloc [.ints .u64 5 (List.replicate 5 0)], none, []⟩,
 ⟨some 5, .alloc [.ints .u64 5 (List.replicate 5 0)], none, []⟩,
 ⟨some 6, .alloc [.ints .u64 5 (List.replicate 5 0)], none, []⟩,
 ⟨some 7, .alloc [.ints .u64 5 (List.replicate 5 0)], none, []⟩,
 ⟨none, .store 5 (.t 4) (.t 18), none, []⟩,
 ⟨none, .store 5 (.t 5) (.t 19), none, []⟩,
 ⟨none, .store 5 (.t 6) (.t 20), none, []⟩,
 ⟨none, .store 5 (.t 7) (.t 21), none, []⟩])
 (.seq none
 (.draw [
 ⟨some 22, .load true 5 (.t 4), none, []⟩,
 ⟨some 23, .call 124 [(.t 22)], none, [0]⟩,
 ⟨some 24, .load true 5 (.t 5), none, []⟩,
 ⟨some 25, .call 124 [(.t 24)], none, [2, 1]⟩,
 ⟨some 8, .alloc [.ints .u64 5 (List.replicate 5 0)], none, []⟩,
 ⟨some 9, .alloc [.ints .u64 5 (List.replicate 5 0)], none, []⟩,
 ⟨none, .store 5 (.t 8) (.t 23), none, [4, 1, 3, 0, 1, 4, 5]⟩,
 ⟨none, .store 5 (.t 9) (.t 25), none, [5, 3, 6, 0, 1, 2, 3, 4, 5, 6]⟩])
 (.seq none
 (.reg [
 ⟨some 26, .load true 5 (.t 8), none, []⟩,
 ⟨some 27, .load true 5 (.t 9), none, []⟩,
 ⟨some 28, .call 125 [(.t 26), (.t 27)], none, []⟩,
 ⟨some 10, .alloc [.ints .u64 5 (List.replicate 5 0)], none, []⟩,
 ⟨none, .store 5 (.t 10) (.t 28), none, []⟩])
 (.seq none
 (.draw [
 ⟨some 29, .load true 5 (.t 7), none, []⟩,
 ⟨some 30, .load true 5 (.t 4), none, []⟩,
 ⟨some 31, .call 101 [(.t 29), (.t 30)], none, [0, 1]⟩,
 ⟨some 32, .load true 5 (.t 6), none, []⟩,
 ⟨some 33, .load true 5 (.t 5), none, []⟩,
 ⟨some 34, .call 101 [(.t 32), (.t 33)], none, [3, 4, 2]⟩,
 ⟨some 11, .alloc [.ints .u64 5 (List.replicate 5 0)], none, []⟩,
 ⟨some 12, .alloc [.ints .u64 5 (List.replicate 5 0)], none, []⟩,
 ⟨none, .store 5 (.t 11) (.t 31), none, [6, 2, 5, 0, 1, 2, 6, 7]⟩,
 ⟨none, .store 5 (.t 12) (.t 34), none, [7, 5, 8, 0, 1, 2, 3, 4, 5, 6, 7, 8]⟩])
 (.seq none
 (.reg [
 ⟨some 35, .mov (.t 0), none, []⟩,
 ⟨some 36, .load true 5 (.t 11), none, []⟩,
 ⟨some 37, .load true 5 (.t 12), none, []⟩,
 ⟨some 38, .call 126 [(.t 36), (.t 37)], none, []⟩,
 ⟨some 39, .call 124 [(.t 38)], none, []⟩,
 ⟨some 40, .nilChk (.t 35), none, []⟩,
 ⟨some 41, .faddr 10 (.t 40), none, []⟩,
 ⟨none, .store 5 (.t 41) (.t 39), none, []⟩])
 (.seq none
 (.draw [
 ⟨some 42, .mov (.t 0), none, []⟩,
 ⟨some 43, .load true 5 (.t 3), none, []⟩,
 ⟨some 44, .load true 5 (.t 11), none, []⟩,
 ⟨some 45, .load true 5 (.t 12), none, []⟩,
 ⟨some 46, .call 125 [(.t 44), (.t 45)], none, [2, 3]⟩,
 ⟨some 47, .call 124 [(.t 46)], none, [4, 4]⟩,
 ⟨some 48, .call 101 [(.t 43), (.t 47)], none, [1, 5, 5]⟩,
 ⟨some 49, .nilChk (.t 42), none, [0, 0, 1, 2, 3, 4, 5, 6]⟩,
 ⟨some 50, .faddr 15 (.t 49), none, [7, 0, 1, 2, 3, 4, 5, 6]⟩,
 ⟨none, .store 5 (.t 50) (.t 48), none, [8, 6, 6, 0, 1, 2, 3, 4, 5, 6]⟩])
 (.seq none
 (.reg [
 ⟨some 51, .mov (.t 0), none, []⟩,
 ⟨some 52, .load true 5 (.t 8), none, []⟩,
 ⟨some 53, .load true 5 (.t 9), none, []⟩,
 ⟨some 54, .call 101 [(.t 52), (.t 53)], none, []⟩,
 ⟨some 55, .nilChk (.t 51), none, []⟩,
 ⟨some 56, .faddr 0 (.t 55), none, []⟩,
 ⟨none, .store 5 (.t 56) (.t 54), none, []⟩])
 (.draw [
 ⟨some 57, .mov (.t 0), none, []⟩,
 ⟨some 58, .load true 5 (.t 10), none, []⟩,
 ⟨some 59, .load true 5 (.t 8), none, []⟩,
 ⟨some 60, .load true 5 (.t 10), none, []⟩,
 ⟨some 61, .call 127 [(.t 60), (.c (.int .u32 121665))], none, [3]⟩,
 ⟨some 62, .call 126 [(.t 59), (.t 61)], none, [2, 4, 4]⟩,
 ⟨some 63, .call 101 [(.t 58), (.t 62)], none, [1, 5, 5]⟩,
 ⟨some 64, .nilChk (.t 57), none, [0, 0, 1, 2, 3, 4, 5, 6]⟩,
 ⟨some 65, .faddr 5 (.t 64), none, [7, 0, 1, 2, 3, 4, 5, 6]⟩,
 ⟨none, .store 5 (.t 65) (.t 63), none, [8, 6, 6, 0, 1, 2, 3, 4, 5, 6]⟩])))))))))⟩
def id_field_Elem_Mul : Nat := 101
def af_field_Elem_Mul : AFn := ⟨139, [.cell 4 true 5],
 (.seq none
 (.reg [
 ⟨some 2, .box (.t 0), none, []⟩,
 ⟨some 3, .box (.t 1), none, []⟩,
 ⟨some 4, .alloc [.ints .u64 5 (List.replicate 5 0)], none, []⟩])
 (.seq none
 (.draw [
 ⟨some 19, .faddr 0 (.t 2), none, []⟩,
 ⟨some 20, .iaddrA 5 0 (.t 19) (.c (.int .i64 0)), none, [0]⟩,
 ⟨some 21, .load false 1 (.t 20), none, [1]⟩,
 ⟨some 22, .faddr 0 (.t 2), none, []⟩,
 ⟨some 23, .iaddrA 5 0 (.t 22) (.c (.int .i64 1)), none, [3]⟩,
 ⟨some 24, .load false 1 (.t 23), none, [4]⟩,
 ⟨some 25, .faddr 0 (.t 2), none, []⟩,
 ⟨some 26, .iaddrA 5 0 (.t 25) (.c (.int .i64 2)), none, [6]⟩,
 ⟨some 27, .load false 1 (.t 26), none, [7]⟩,
 ⟨some 28, .faddr 0 (.t 2), none, []⟩,
 ⟨some 29, .iaddrA 5 0 (.t 28) (.c (.int .i64 3)), none, [9]⟩,
 ⟨some 30, .load false 1 (.t 29), none, [10]⟩,
 ⟨some 31, .faddr 0 (.t 2), none, []⟩,
 ⟨some 32, .iaddrA 5 0 (.t 31) (.c (.int .i64 4)), none, [12]⟩,
 ⟨some 33, .load false 1 (.t 32), none, [13]⟩,
 ⟨some 5, .mov (.t 21), none, [2, 0, 1, 2]⟩,
 ⟨some 6, .mov (.t 24), none, [5, 15, 0, 1, 2, 3, 4, 5, 15]⟩,
 ⟨some 7, .mov (.t 27), none, [8, 16, 0, 1, 2, 3, 4, 5, 6, 7, 8, 15, 16]⟩,
 ⟨some 8, .mov (.t 30), none, [11, 17, 0, 1, 2, 3, 4, 5, 6, 7, 8, 9, 10, 11, 15, 16, 17]⟩,
 ⟨some 9, .mov (.t 33), none, [14, 18, 0, 1, 2, 3, 4, 5, 6, 7, 8, 9, 10, 11, 12, 13, 14, 15, 16, 17, 18]⟩])
 (.seq none
 (.draw [
 ⟨some 34, .faddr 0 (.t 3), none, []⟩,
 ⟨some 35, .iaddrA 5 0 (.t 34) (.c (.int .i64 0)), none, [0]⟩,
 ⟨some 36, .load false 1 (.t 35), none, [1]⟩,
 ⟨some 37, .faddr 0 (.t 3), none, []⟩,
 ⟨some 38, .iaddrA 5 0 (.t 37) (.c (.int .i64 1)), none, [3]⟩,
 ⟨some 39, .load false 1 (.t 38), none, [4]⟩,
 ⟨some 40, .faddr 0 (.t 3), none, []⟩,
 ⟨some 41, .iaddrA 5 0 (.t 40) (.c (.int .i64 2)), none, [6]⟩,
 ⟨some 42, .load false 1 (.t 41), none, [7]⟩,
 ⟨some 43, .faddr 0 (.t 3), none, []⟩,
 ⟨some 44, .iaddrA 5 0 (.t 43) (.c (.int .i64 3)), none, [9]⟩,
 ⟨some 45, .load false 1 (.t 44), none, [10]⟩,
 ⟨some 46, .faddr 0 (.t 3), none, []⟩,
 ⟨some 47, .iaddrA 5 0 (.t 46) (.c (.int .i64 4)), none, [12]⟩,
 ⟨some 48, .load false 1 (.t 47), none, [13]⟩,
 ⟨some 10, .mov (.t 36), none, [2, 0, 1, 2]⟩,
 ⟨some 11, .mov (.t 39), none, [5, 15, 0, 1, 2, 3, 4, 5, 15]⟩,
 ⟨some 12, .mov (.t 42), none, [8, 16, 0, 1, 2, 3, 4, 5, 6, 7, 8, 15, 16]⟩,
 ⟨some 13, .mov (.t 45), none, [11, 17, 0, 1, 2, 3, 4, 5, 6, 7, 8, 9, 10, 11, 15, 16, 17]⟩,
 ⟨some 14, .mov (.t 48), none, [14, 18, 0, 1, 2, 3, 4, 5, 6, 7, 8, 9, 10, 11, 12, 13, 14, 15, 16, 17, 18]⟩])
 (.seq none
 (.reg [
 ⟨some 49, .mov (.t 11), none, []⟩,
 ⟨some 50, .bin .mul (.c (.int .u64 19)) (.t 49), none, []⟩,
 ⟨some 51, .mov (.t 12), none, []⟩,
 ⟨some 52, .bin .mul (.c (.int .u64 19)) (.t 51), none, []⟩,
 ⟨some 53, .mov (.t 13), none, []⟩,
 ⟨some 54, .bin .mul (.c (.int .u64 19)) (.t 53), none, []⟩,
 ⟨some 55, .mov (.t 14), none, []⟩,
 ⟨some 56, .bin .mul (.c (.int .u64 19)) (.t 55), none, []⟩,
 ⟨some 15, .mov (.t 50), none, []⟩,
 ⟨some 16, .mov (.t 52), none, []⟩,
 ⟨some 17, .mov (.t 54), none, []⟩,
 ⟨some 18, .mov (.t 56), none, []⟩])
 (.seq none
 (.reg [
 ⟨some 57, .build [.int .u64 0, .int .u64 0] [], none, []⟩,
 ⟨some 58, .mov (.t 5), none, []⟩,
 ⟨some 59, .mov (.t 10), none, []⟩,
 ⟨some 60, .call 129 [(.t 57), (.t 58), (.t 59)], none, []⟩,
 ⟨some 61, .mov (.t 6), none, []⟩,
 ⟨some 62, .mov (.t 18), none, []⟩,
 ⟨some 63, .call 129 [(.t 60), (.t 61), (.t 62)], none, []⟩,
 ⟨some 64, .mov (.t 7), none, []⟩,
 ⟨some 65, .mov (.t 17), none, []⟩,
 ⟨some 66, .call 129 [(.t 63), (.t 64), (.t 65)], none, []⟩,
 ⟨some 67, .mov (.t 8), none, []⟩,
 ⟨some 68, .mov (.t 16), none, []⟩,
 ⟨some 69, .call 129 [(.t 66), (.t 67), (.t 68)], none, []⟩,
 ⟨some 70, .mov (.t 9), none, []⟩,
 ⟨some 71, .mov (.t 15), none, []⟩,
 ⟨some 72, .call 129 [(.t 69), (.t 70), (.t 71)], none, []⟩,
 ⟨some 73, .build [.int .u64 0, .int .u64 0] [], none, []⟩,
 ⟨some 74, .mov (.t 5), none, []⟩,
 ⟨some 75, .mov (.t 11), none, []⟩,
 ⟨some 76, .call 129 [(.t 73), (.t 74), (.t 75)], none, []⟩,
 ⟨some 77, .mov (.t 6), none, []⟩,
 ⟨some 78, .mov (.t 10), none, []⟩,
 ⟨some 79, .call 129 [(.t 76), (.t 77), (.t 78)], none, []⟩,
 ⟨some 80, .mov (.t 7), none, []⟩,
 ⟨some 81, .mov (.t 18), none, []⟩,
 ⟨some 82, .call 129 [(.t 79), (.t 80), (.t 81)], none, []⟩,
 ⟨some 83, .mov (.t 8), none, []⟩,
 ⟨some 84, .mov (.t 17), none, []⟩,
 ⟨some 85, .call 129 [(.t 82), (.t 83), (.t 84)], none, []⟩,
 ⟨some 86, .mov (.t 9), none, []⟩,
 ⟨some 87, .mov (.t 16), none, []⟩,
 ⟨some 88, .call 129 [(.t 85), (.t 86), (.t 87)], none, []⟩,
 ⟨some 89, .build [.int .u64 0, .int .u64 0] [], none, []⟩,
 ⟨some 90, .mov (.t 5), none, []⟩,
 ⟨some 91, .mov (.t 12), none, []⟩,
 ⟨some 92, .call 129 [(.t 89), (.t 90), (.t 91)], none, []⟩,
 ⟨some 93, .mov (.t 6), none, []⟩,
 ⟨some 94, .mov (.t 11), none, []⟩,
 ⟨some 95, .call 129 [(.t 92), (.t 93), (.t 94)], none, []⟩,
 ⟨some 96, .mov (.t 7), none, []⟩,
 ⟨some 97, .mov (.t 10), none, []⟩,
 ⟨some 98, .call 129 [(.t 95), (.t 96), (.t 97)], none, []⟩,
 ⟨some 99, .mov (.t 8), none, []⟩,
 ⟨some 100, .mov (.t 18), none, []⟩,
 ⟨some 101, .call 129 [(.t 98), (.t 99), (.t 100)], none, []⟩,
 ⟨some 102, .mov (.t 9), none, []⟩,
 ⟨some 103, .mov (.t 17), none, []⟩,
 ⟨some 104, .call 129 [(.t 101), (.t 102), (.t 103)], none, []⟩,
 ⟨some 105, .build [.int .u64 0, .int .u64 0] [], none, []⟩,
 ⟨some 106, .mov (.t 5), none, []⟩,
 ⟨some 107, .mov (.t 13), none, []⟩,
 ⟨some 108, .call 129 [(.t 105), (.t 106), (.t 107)], none, []⟩,
 ⟨some 109, .mov (.t 6), none, []⟩,
 ⟨some 110, .mov (.t 12), none, []⟩,
 ⟨some 111, .call 129 [(.t 108), (.t 109), (.t 110)], none, []⟩,
 ⟨some 112, .mov (.t 7), none, []⟩,
 ⟨some 113, .mov (.t 11), none, []⟩,
 ⟨some 114, .call 129 [(.t 111), (.t 112), (.t 113)], none, []⟩,
 ⟨some 115, .mov (.t 8), none, []⟩,
 ⟨some 116, .mov (.t 10), none, []⟩,
 ⟨some 117, .call 129 [(.t 114), (.t 115), (.t 116)], none, []⟩,
 ⟨some 118, .mov (.t 9), none, []⟩,
 ⟨some 119, .mov (.t 18), none, []⟩,
 ⟨some 120, .call 129 [(.t 117), (.t 118), (.t 119)], none, []⟩,
 ⟨some 121, .build [.int .u64 0, .int .u64 0] [], none, []⟩,
 ⟨some 122, .mov (.t 5), none, []⟩,
 ⟨some 123, .mov (.t 14), none, []⟩,
 ⟨some 124, .call 129 [(.t 121), (.t 122), (.t 123)], none, []⟩,
 ⟨some 125, .mov (.t 6), none, []⟩,
 ⟨some 126, .mov (.t 13), none, []⟩,
 ⟨some 127, .call 129 [(.t 124), (.t 125), (.t 126)], none, []⟩,
 ⟨some 128, .mov (.t 7), none, []⟩,
 ⟨some 129, .mov (.t 12), none, []⟩,
 ⟨some 130, .call 129 [(.t 127), (.t 128), (.t 129)], none, []⟩,
 ⟨some 131, .mov (.t 8), none, []⟩,
 ⟨some 132, .mov (.t 11), none, []⟩,
 ⟨some 133, .call 129 [(.t 130), (.t 131), (.t 132)], none, []⟩,
 ⟨some 134, .mov (.t 9), none, []⟩,
 ⟨some 135, .mov (.t 10), none, []⟩,
 ⟨some 136, .call 129 [(.t 133), (.t 134), (.t 135)], none, []⟩,
 ⟨some 137, .build [.int .u64 0, .int .u64 0, .int .u64 0, .int .u64 0, .int .u64 0, .int .u64 0, .int .u64 0, .int .u64 0, .int .u64 0, .int .u64 0] [(0, 2, (.t 72)), (2, 2, (.t 88)), (4, 2, (.t 104)), (6, 2, (.t 120)), (8, 2, (.t 136))], none, []⟩,
 ⟨some 138, .call 128 [(.t 137)], none, []⟩,
 ⟨none, .store 5 (.t 4) (.t 138), none, []⟩])
 .ret)))))⟩
def id_field_Elem_Inv : Nat := 102
def af_field_Elem_Inv : AFn := ⟨10, [.cell 2 true 5],
 (.seq none
 (.reg [
 ⟨some 1, .box (.t 0), none, []⟩,
 ⟨some 2, .alloc [.ints .u64 5 (List.replicate 5 0)], none, []⟩])
 (.seq none
 (.reg [
 ⟨some 4, .call 98 [(.c (.int .u64 2))], none, []⟩,
 ⟨some 5, .call 130 [(.t 4)], none, []⟩,
 ⟨some 6, .call 103 [(.t 5)], none, []⟩,
 ⟨some 3, .alloc [.ints .u8 32 (List.replicate 32 0)], none, []⟩,
 ⟨none, .store 32 (.t 3) (.t 6), none, []⟩])
 (.seq none
 (.reg [
 ⟨some 7, .load true 5 (.t 1), none, []⟩,
 ⟨some 8, .load true 32 (.t 3), none, []⟩,
 ⟨some 9, .call 131 [(.t 7), (.t 8)], none, []⟩,
 ⟨none, .store 5 (.t 2) (.t 9), none, []⟩])
 .ret)))⟩
def id_field_Elem_Bytes : Nat := 103
def af_field_Elem_Bytes : AFn := ⟨118, [.cell 2 true 32],
 (.seq none
 (.reg [
 ⟨some 1, .box (.t 0), none, []⟩,
 ⟨some 2, .alloc [.ints .u8 32 (List.replicate 32 0)], none, []⟩])
 (.seq none
 (.reg [
 ⟨some 11, .load true 5 (.t 1), none, []⟩,
 ⟨some 12, .call 132 [(.t 11)], none, []⟩,
 ⟨some 13, .call 132 [(.t 12)], none, []⟩,
 ⟨none, .store 5 (.t 1) (.t 13), none, []⟩])
 (.seq none
 (.reg [
 ⟨some 3, .mov (.c (.int .u64 19)), none, []⟩])
 (.seq none
 (.seq none
 (.reg [
 ⟨some 14, .faddr 0 (.t 1), none, []⟩,
 ⟨some 15, .load true 5 (.t 14), none, []⟩,
 ⟨some 16, .mov (.c (.int .i64 0)), none, []⟩])
 (.block 0 none
 (.loop 1000000 none
 (.seq none
 (.reg [
 ⟨some 17, .bin .lss (.t 16) (.c (.int .i64 5)), none, []⟩])
 (.seq none
 (.cond (.t 17)
 .skip
 (.exit 0))
 (.seq none
 (.block 1 none
 (.seq none
 (.reg [
 ⟨some 18, .idxA false 5 1 (.t 15) (.t 16), none, []⟩,
 ⟨some 5, .mov (.t 18), none, []⟩])
 (.reg [
 ⟨some 19, .mov (.t 5), none, []⟩,
 ⟨some 20, .mov (.t 3), none, []⟩,
 ⟨some 21, .bin .add (.t 19) (.t 20), none, []⟩,
 ⟨some 22, .bin .shr (.t 21) (.c (.int .u64 51)), none, []⟩,
 ⟨some 3, .mov (.t 22), none, []⟩])))
 (.reg [
 ⟨some 23, .bin .add (.t 16) (.c (.int .i64 1)), none, []⟩,
 ⟨some 16, .mov (.t 23), none, []⟩])))))))
 (.seq none
 (.reg [
 ⟨some 24, .faddr 0 (.t 1), none, []⟩,
 ⟨some 25, .iaddrA 5 0 (.t 24) (.c (.int .i64 0)), none, []⟩,
 ⟨some 26, .load false 1 (.t 25), none, []⟩,
 ⟨some 27, .mov (.t 3), none, []⟩,
 ⟨some 28, .bin .mul (.c (.int .u64 19)) (.t 27), none, []⟩,
 ⟨some 29, .bin .add (.t 26) (.t 28), none, []⟩,
 ⟨some 30, .faddr 0 (.t 1), none, []⟩,
 ⟨some 31, .iaddrA 5 0 (.t 30) (.c (.int .i64 0)), none, []⟩,
 ⟨none, .store 1 (.t 31) (.t 29), none, []⟩])
 (.seq none
 (.seq none
 (.reg [
 ⟨some 32, .mov (.c (.int .i64 0)), none, []⟩])
 (.block 2 none
 (.loop 1000000 none
 (.seq none
 (.reg [
 ⟨some 33, .bin .lss (.t 32) (.c (.int .i64 4)), none, []⟩])
 (.seq none
 (.cond (.t 33)
 .skip
 (.exit 2))
 (.seq none
 (.block 3 none
 (.seq none
 (.reg [
 ⟨some 34, .mov (.t 32), none, []⟩,
 ⟨some 6, .mov (.t 34), none, []⟩])
 (.seq none
 (.draw [
 ⟨some 35, .mov (.t 6), none, []⟩,
 ⟨some 36, .bin .add (.t 35) (.c (.int .i64 1)), none, [0]⟩,
 ⟨some 37, .faddr 0 (.t 1), none, []⟩,
 ⟨some 38, .iaddrA 5 0 (.t 37) (.t 36), none, [2, 1]⟩,
 ⟨some 39, .load false 1 (.t 38), none, [3]⟩,
 ⟨some 40, .mov (.t 6), none, []⟩,
 ⟨some 41, .faddr 0 (.t 1), none, []⟩,
 ⟨some 42, .iaddrA 5 0 (.t 41) (.t 40), none, [6, 5]⟩,
 ⟨some 43, .load false 1 (.t 42), none, [7]⟩,
 ⟨some 44, .bin .shr (.t 43) (.c (.int .u64 51)), none, [8]⟩,
 ⟨some 45, .bin .add (.t 39) (.t 44), none, [4, 9]⟩,
 ⟨some 46, .faddr 0 (.t 1), none, []⟩,
 ⟨some 47, .iaddrA 5 0 (.t 46) (.t 36), none, [11, 1, 0, 1, 2, 3, 4, 5, 6, 7, 8, 9, 10]⟩,
 ⟨none, .store 1 (.t 47) (.t 45), none, [12, 10, 0, 1, 2, 3, 4, 5, 6, 7, 8, 9, 10]⟩])
 (.reg [
 ⟨some 48, .mov (.t 6), none, []⟩,
 ⟨some 49, .faddr 0 (.t 1), none, []⟩,
 ⟨some 50, .iaddrA 5 0 (.t 49) (.t 48), none, []⟩,
 ⟨some 51, .load false 1 (.t 50), none, []⟩,
 ⟨some 52, .bin .and (.t 51) (.c (.int .u64 2251799813685247)), none, []⟩,
 ⟨some 53, .faddr 0 (.t 1), none, []⟩,
 ⟨some 54, .iaddrA 5 0 (.t 53) (.t 48), none, []⟩,
 ⟨none, .store 1 (.t 54) (.t 52), none, []⟩]))))
 (.reg [
 ⟨some 55, .bin .add (.t 32) (.c (.int .i64 1)), none, []⟩,
 ⟨some 32, .mov (.t 55), none, []⟩])))))))
 (.seq none
 (.reg [
 ⟨some 56, .faddr 0 (.t 1), none, []⟩,
 ⟨some 57, .iaddrA 5 0 (.t 56) (.c (.int .i64 4)), none, []⟩,
 ⟨some 58, .load false 1 (.t 57), none, []⟩,
 ⟨some 59, .bin .and (.t 58) (.c (.int .u64 2251799813685247)), none, []⟩,
 ⟨some 60, .faddr 0 (.t 1), none, []⟩,
 ⟨some 61, .iaddrA 5 0 (.t 60) (.c (.int .i64 4)), none, []⟩,
 ⟨none, .store 1 (.t 61) (.t 59), none, []⟩])
 (.seq none
 (.reg [
 ⟨some 7, .alloc [.ints .u8 32 (List.replicate 32 0)], none, []⟩])
 (.seq none
 (.seq none
 (.reg [
 ⟨some 62, .faddr 0 (.t 1), none, []⟩,
 ⟨some 63, .iaddrA 5 0 (.t 62) (.c (.int .i64 0)), none, []⟩,
 ⟨some 64, .load false 1 (.t 63), none, []⟩,
 ⟨some 65, .faddr 0 (.t 1), none, []⟩,
 ⟨some 66, .iaddrA 5 0 (.t 65) (.c (.int .i64 1)), none, []⟩,
 ⟨some 67, .load false 1 (.t 66), none, []⟩,
 ⟨some 68, .bin .shl (.t 67) (.c (.int .u64 51)), none, []⟩,
 ⟨some 69, .bin .or (.t 64) (.t 68), none, []⟩,
 ⟨some 70, .faddr 0 (.t 1), none, []⟩,
 ⟨some 71, .iaddrA 5 0 (.t 70) (.c (.int .i64 1)), none, []⟩,
 ⟨some 72, .load false 1 (.t 71), none, []⟩,
 ⟨some 73, .bin .shr (.t 72) (.c (.int .u64 13)), none, []⟩,
 ⟨some 74, .faddr 0 (.t 1), none, []⟩,
 ⟨some 75, .iaddrA 5 0 (.t 74) (.c (.int .i64 2)), none, []⟩,
 ⟨some 76, .load false 1 (.t 75), none, []⟩,
 ⟨some 77, .bin .shl (.t 76) (.c (.int .u64 38)), none, []⟩,
 ⟨some 78, .bin .or (.t 73) (.t 77), none, []⟩,
 ⟨some 79, .faddr 0 (.t 1), none, []⟩,
 ⟨some 80, .iaddrA 5 0 (.t 79) (.c (.int .i64 2)), none, []⟩,
 ⟨some 81, .load false 1 (.t 80), none, []⟩,
 ⟨some 82, .bin .shr (.t 81) (.c (.int .u64 26)), none, []⟩,
 ⟨some 83, .faddr 0 (.t 1), none, []⟩,
 ⟨some 84, .iaddrA 5 0 (.t 83) (.c (.int .i64 3)), none, []⟩,
 ⟨some 85, .load false 1 (.t 84), none, []⟩,
 ⟨some 86, .bin .shl (.t 85) (.c (.int .u64 25)), none, []⟩,
 ⟨some 87, .bin .or (.t 82) (.t 86), none, []⟩,
 ⟨some 88, .faddr 0 (.t 1), none, []⟩,
 ⟨some 89, .iaddrA 5 0 (.t 88) (.c (.int .i64 3)), none, []⟩,
 ⟨some 90, .load false 1 (.t 89), none, []⟩,
 ⟨some 91, .bin .shr (.t 90) (.c (.int .u64 39)), none, []⟩,
 ⟨some 92, .faddr 0 (.t 1), none, []⟩,
 ⟨some 93, .iaddrA 5 0 (.t 92) (.c (.int .i64 4)), none, []⟩,
 ⟨some 94, .load false 1 (.t 93), none, []⟩,
 ⟨some 95, .bin .shl (.t 94) (.c (.int .u64 12)), none, []⟩,
 ⟨some 96, .bin .or (.t 91) (.t 95), none, []⟩,
 ⟨some 97, .build [.ints .u64 4 (List.replicate 4 0)] [(0, 1, (.t 69)), (1, 1, (.t 78)), (2, 1, (.t 87)), (3, 1, (.t 96))], none, []⟩,
 ⟨some 98, .mov (.c (.int .i64 0)), none, []⟩])
 (.block 4 none
 (.loop 1000000 none
 (.seq none
 (.reg [
 ⟨some 99, .bin .lss (.t 98) (.c (.int .i64 4)), none, []⟩])
 (.seq none
 (.cond (.t 99)
 .skip
 (.exit 4))
 (.seq none
 (.block 5 none
 (.seq none
 (.reg [
 ⟨some 100, .mov (.t 98), none, []⟩,
 ⟨some 101, .idxA false 4 1 (.t 97) (.t 98), none, []⟩,
 ⟨some 8, .mov (.t 100), none, []⟩,
 ⟨some 9, .mov (.t 101), none, []⟩])
 (.seq none
 (.reg [
 ⟨some 102, .mov (.c (.int .i64 0)), none, []⟩])
 (.block 6 none
 (.loop 1000000 none
 (.seq none
 (.reg [
 ⟨some 103, .bin .lss (.t 102) (.c (.int .i64 8)), none, []⟩])
 (.seq none
 (.cond (.t 103)
 .skip
 (.exit 6))
 (.seq none
 (.block 7 none
 (.seq none
 (.reg [
 ⟨some 104, .mov (.t 102), none, []⟩,
 ⟨some 10, .mov (.t 104), none, []⟩])
 (.reg [
 ⟨some 105, .mov (.t 8), none, []⟩,
 ⟨some 106, .bin .mul (.c (.int .i64 8)) (.t 105), none, []⟩,
 ⟨some 107, .mov (.t 10), none, []⟩,
 ⟨some 108, .bin .add (.t 106) (.t 107), none, []⟩,
 ⟨some 109, .mov (.t 9), none, []⟩,
 ⟨some 110, .mov (.t 10), none, []⟩,
 ⟨some 111, .bin .mul (.c (.int .i64 8)) (.t 110), none, []⟩,
 ⟨some 112, .bin .shr (.t 109) (.t 111), none, []⟩,
 ⟨some 113, .toInt .u8 (.t 112), none, []⟩,
 ⟨some 114, .iaddrA 32 0 (.t 7) (.t 108), none, []⟩,
 ⟨none, .store 1 (.t 114) (.t 113), none, []⟩])))
 (.reg [
 ⟨some 115, .bin .add (.t 102) (.c (.int .i64 1)), none, []⟩,
 ⟨some 102, .mov (.t 115), none, []⟩])))))))))
 (.reg [
 ⟨some 116, .bin .add (.t 98) (.c (.int .i64 1)), none, []⟩,
 ⟨some 98, .mov (.t 116), none, []⟩])))))))
 (.seq none
 (.reg [
 ⟨some 117, .load true 32 (.t 7), none, []⟩,
 ⟨none, .store 32 (.t 2) (.t 117), none, []⟩])
 .ret))))))))))⟩
def id_sha_Sum : Nat := 104
def af_sha_Sum : AFn := ⟨10, [.cell 2 true 32],
 (.seq none
 (.reg [
 ⟨some 2, .alloc [.ints .u8 32 (List.replicate 32 0)], none, []⟩])
 (.seq none
 (.reg [
 ⟨some 4, .call 106 [], none, []⟩,
 ⟨some 3, .mov (.t 4), none, []⟩])
 (.seq none
 (.reg [
 ⟨some 5, .mov (.t 3), none, []⟩,
 ⟨some 6, .mov (.t 0), none, []⟩,
 ⟨some 7, .call 133 [(.t 5), (.t 6)], none, []⟩])
 (.seq none
 (.reg [
 ⟨some 8, .mov (.t 3), none, []⟩,
 ⟨some 9, .call 108 [(.t 8)], none, []⟩,
 ⟨none, .store 32 (.t 2) (.t 9), none, []⟩])
 .ret))))⟩
def id_kdf_Hmac_1 : Nat := 105
def af_kdf_Hmac_1 : AFn := ⟨27, [.t 3],
 (.seq none
 (.reg [
 ⟨some 3, .mov (.c (.nilp)), none, []⟩])
 (.seq none
 (.reg [
 ⟨some 7, .call 106 [], none, []⟩,
 ⟨some 4, .mov (.t 7), none, []⟩])
 (.seq none
 (.reg [
 ⟨some 8, .load false 1 (.t 1), none, []⟩,
 ⟨some 9, .call 90 [(.t 8)], none, []⟩,
 ⟨some 5, .mov (.t 9), none, []⟩])
 (.seq none
 (.seq none
 (.reg [
 ⟨some 10, .mov (.t 5), none, []⟩,
 ⟨some 11, .len false (.t 10), none, []⟩,
 ⟨some 12, .mov (.c (.int .i64 0)), none, []⟩])
 (.block 0 none
 (.loop 1000000 none
 (.seq none
 (.reg [
 ⟨some 13, .bin .lss (.t 12) (.t 11), none, []⟩])
 (.seq none
 (.cond (.t 13)
 .skip
 (.exit 0))
 (.seq none
 (.block 1 none
 (.seq none
 (.reg [
 ⟨some 14, .mov (.t 12), none, []⟩,
 ⟨some 6, .mov (.t 14), none, []⟩])
 (.reg [
 ⟨some 15, .mov (.t 5), none, []⟩,
 ⟨some 16, .mov (.t 6), none, []⟩,
 ⟨some 17, .iaddrS 1 (.t 15) (.t 16), none, []⟩,
 ⟨some 18, .load false 1 (.t 17), none, []⟩,
 ⟨some 19, .mov (.t 0), none, []⟩,
 ⟨some 20, .bin .xor (.t 18) (.t 19), none, []⟩,
 ⟨some 21, .iaddrS 1 (.t 15) (.t 16), none, []⟩,
 ⟨none, .store 1 (.t 21) (.t 20), none, []⟩])))
 (.reg [
 ⟨some 22, .bin .add (.t 12) (.c (.int .i64 1)), none, []⟩,
 ⟨some 12, .mov (.t 22), none, []⟩])))))))
 (.seq none
 (.reg [
 ⟨some 23, .mov (.t 4), none, []⟩,
 ⟨some 24, .mov (.t 5), none, []⟩,
 ⟨some 25, .call 107 [(.t 23), (.t 24)], none, []⟩])
 (.seq none
 (.reg [
 ⟨some 26, .mov (.t 4), none, []⟩,
 ⟨some 3, .mov (.t 26), none, []⟩])
 .ret))))))⟩
def id_sha_New : Nat := 106
def af_sha_New : AFn := ⟨12, [.t 0],
 (.seq none
 (.reg [
 ⟨some 0, .mov (.c (.nilp)), none, []⟩])
 (.seq none
 (.reg [
 ⟨some 2, .call 134 [(.c (.str ⟨#[52, 50, 56, 97, 50, 102, 57, 56, 55, 49, 51, 55, 52, 52, 57, 49, 98, 53, 99, 48, 102, 98, 99, 102, 101, 57, 98, 53, 100, 98, 97, 53, 51, 57, 53, 54, 99, 50, 53, 98, 53, 57, 102, 49, 49, 49, 102, 49, 57, 50, 51, 102, 56, 50, 97, 52, 97, 98, 49, 99, 53, 101, 100, 53, 100, 56, 48, 55, 97, 97, 57, 56, 49, 50, 56, 51, 53, 98, 48, 49, 50, 52, 51, 49, 56, 53, 98, 101, 53, 53, 48, 99, 55, 100, 99, 51, 55, 50, 98, 101, 53, 100, 55, 52, 56, 48, 100, 101, 98, 49, 102, 101, 57, 98, 100, 99, 48, 54, 97, 55, 99, 49, 57, 98, 102, 49, 55, 52, 101, 52, 57, 98, 54, 57, 99, 49, 101, 102, 98, 101, 52, 55, 56, 54, 48, 102, 99, 49, 57, 100, 99, 54, 50, 52, 48, 99, 97, 49, 99, 99, 50, 100, 101, 57, 50, 99, 54, 102, 52, 97, 55, 52, 56, 52, 97, 97, 53, 99, 98, 48, 97, 57, 100, 99, 55, 54, 102, 57, 56, 56, 100, 97, 57, 56, 51, 101, 53, 49, 53, 50, 97, 56, 51, 49, 99, 54, 54, 100, 98, 48, 48, 51, 50, 55, 99, 56, 98, 102, 53, 57, 55, 102, 99, 55, 99, 54, 101, 48, 48, 98, 102, 51, 100, 53, 97, 55, 57, 49, 52, 55, 48, 54, 99, 97, 54, 51, 53, 49, 49, 52, 50, 57, 50, 57, 54, 55, 50, 55, 98, 55, 48, 97, 56, 53, 50, 101, 49, 98, 50, 49, 51, 56, 52, 100, 50, 99, 54, 100, 102, 99, 53, 51, 51, 56, 48, 100, 49, 51, 54, 53, 48, 97, 55, 51, 53, 52, 55, 54, 54, 97, 48, 97, 98, 98, 56, 49, 99, 50, 99, 57, 50, 101, 57, 50, 55, 50, 50, 99, 56, 53, 97, 50, 98, 102, 101, 56, 97, 49, 97, 56, 49, 97, 54, 54, 52, 98, 99, 50, 52, 98, 56, 98, 55, 48, 99, 55, 54, 99, 53, 49, 97, 51, 100, 49, 57, 50, 101, 56, 49, 57, 100, 54, 57, 57, 48, 54, 50, 52, 102, 52, 48, 101, 51, 53, 56, 53, 49, 48, 54, 97, 97, 48, 55, 48, 49, 57, 97, 52, 99, 49, 49, 54, 49, 101, 51, 55, 54, 99, 48, 56, 50, 55, 52, 56, 55, 55, 52, 99, 51, 52, 98, 48, 98, 99, 98, 53, 51, 57, 49, 99, 48, 99, 98, 51, 52, 101, 100, 56, 97, 97, 52, 97, 53, 98, 57, 99, 99, 97, 52, 102, 54, 56, 50, 101, 54, 102, 102, 51, 55, 52, 56, 102, 56, 50, 101, 101, 55, 56, 97, 53, 54, 51, 54, 102, 56, 52, 99, 56, 55, 56, 49, 52, 56, 99, 99, 55, 48, 50, 48, 56, 57, 48, 98, 101, 102, 102, 102, 97, 97, 52, 53, 48, 54, 99, 101, 98, 98, 101, 102, 57, 97, 51, 102, 55, 99, 54, 55, 49, 55, 56, 102, 50]⟩))], none, []⟩,
 ⟨some 3, .build [.ints .u32 8 (List.replicate 8 0), .nils, .ints .u8 64 (List.replicate 64 0), .int .i64 0] [(8, 1, (.t 2))], none, []⟩,
 ⟨some 4, .box (.t 3), none, []⟩,
 ⟨some 1, .mov (.t 4), none, []⟩])
 (.seq none
 (.draw [
 ⟨some 5, .mov (.t 1), none, []⟩,
 ⟨some 6, .nilChk (.t 5), none, [0]⟩,
 ⟨some 7, .faddr 0 (.t 6), none, [1]⟩,
 ⟨some 8, .slArr 8 0 (.t 7) none none none, none, [2]⟩,
 ⟨some 9, .call 134 [(.c (.str ⟨#[54, 97, 48, 57, 101, 54, 54, 55, 98, 98, 54, 55, 97, 101, 56, 53, 51, 99, 54, 101, 102, 51, 55, 50, 97, 53, 52, 102, 102, 53, 51, 97, 53, 49, 48, 101, 53, 50, 55, 102, 57, 98, 48, 53, 54, 56, 56, 99, 49, 102, 56, 51, 100, 57, 97, 98, 53, 98, 101, 48, 99, 100, 49, 57]⟩))], none, []⟩,
 ⟨some 10, .copyI (.t 8) (.t 9), none, [3, 4, 4]⟩])
 (.seq none
 (.reg [
 ⟨some 11, .mov (.t 1), none, []⟩,
 ⟨some 0, .mov (.t 11), none, []⟩])
 .ret))))⟩
def id_sha_Hash_Write : Nat := 107
def af_sha_Hash_Write : AFn := ⟨10, [.t 4],
 (.seq none
 (.reg [
 ⟨some 4, .mov (.c (.int .i64 0)), none, []⟩])
 (.seq none
 (.seq none
 (.reg [
 ⟨some 5, .mov (.t 0), none, []⟩,
 ⟨some 6, .eqv false .ptr (.t 5) (.c (.nilp)), none, []⟩])
 (.cond (.t 6)
 (.seq none
 (.reg [
 ⟨some 4, .mov (.c (.int .i64 1)), none, []⟩])
 .ret)
 .skip))
 (.seq none
 (.reg [
 ⟨some 7, .mov (.t 0), none, []⟩,
 ⟨some 8, .mov (.t 1), none, []⟩,
 ⟨some 9, .call 133 [(.t 7), (.t 8)], none, []⟩])
 (.seq none
 (.reg [
 ⟨some 4, .mov (.c (.int .i64 0)), none, []⟩])
 .ret))))⟩
def id_sha_Hash_Sum : Nat := 108
def af_sha_Hash_Sum : AFn := ⟨55, [.cell 2 true 32],
 (.seq none
 (.reg [
 ⟨some 2, .alloc [.ints .u8 32 (List.replicate 32 0)], none, []⟩])
 (.seq none
 (.reg [
 ⟨some 3, .alloc [.ints .u8 32 (List.replicate 32 0)], none, []⟩])
 (.seq none
 (.seq none
 (.reg [
 ⟨some 7, .mov (.t 0), none, []⟩,
 ⟨some 8, .eqv false .ptr (.t 7) (.c (.nilp)), none, []⟩])
 (.cond (.t 8)
 (.seq none
 (.reg [
 ⟨some 9, .load true 32 (.t 3), none, []⟩,
 ⟨none, .store 32 (.t 2) (.t 9), none, []⟩])
 .ret)
 .skip))
 (.seq none
 (.reg [
 ⟨some 10, .mov (.t 0), none, []⟩,
 ⟨some 11, .call 135 [(.t 10)], none, []⟩,
 ⟨some 4, .mov (.t 11), none, []⟩])
 (.seq none
 (.reg [
 ⟨some 12, .mov (.t 4), none, []⟩,
 ⟨some 13, .mov (.t 0), none, []⟩,
 ⟨some 14, .nilChk (.t 13), none, []⟩,
 ⟨some 15, .faddr 73 (.t 14), none, []⟩,
 ⟨some 16, .load false 1 (.t 15), none, []⟩,
 ⟨some 17, .call 136 [(.t 16)], none, []⟩,
 ⟨some 18, .call 133 [(.t 12), (.t 17)], none, []⟩])
 (.seq none
 (.seq none
 (.reg [
 ⟨some 19, .mov (.t 4), none, []⟩,
 ⟨some 20, .nilChk (.t 19), none, []⟩,
 ⟨some 21, .faddr 0 (.t 20), none, []⟩,
 ⟨some 22, .load true 8 (.t 21), none, []⟩,
 ⟨some 23, .mov (.c (.int .i64 0)), none, []⟩])
 (.block 0 none
 (.loop 1000000 none
 (.seq none
 (.reg [
 ⟨some 24, .bin .lss (.t 23) (.c (.int .i64 8)), none, []⟩])
 (.seq none
 (.cond (.t 24)
 .skip
 (.exit 0))
 (.seq none
 (.block 1 none
 (.seq none
 (.reg [
 ⟨some 25, .mov (.t 23), none, []⟩,
 ⟨some 26, .idxA false 8 1 (.t 22) (.t 23), none, []⟩,
 ⟨some 5, .mov (.t 25), none, []⟩,
 ⟨some 6, .mov (.t 26), none, []⟩])
 (.reg [
 ⟨some 27, .mov (.t 5), none, []⟩,
 ⟨some 28, .bin .mul (.c (.int .i64 4)) (.t 27), none, []⟩,
 ⟨some 29, .mov (.t 5), none, []⟩,
 ⟨some 30, .bin .mul (.c (.int .i64 4)) (.t 29), none, []⟩,
 ⟨some 31, .bin .add (.t 30) (.c (.int .i64 1)), none, []⟩,
 ⟨some 32, .mov (.t 5), none, []⟩,
 ⟨some 33, .bin .mul (.c (.int .i64 4)) (.t 32), none, []⟩,
 ⟨some 34, .bin .add (.t 33) (.c (.int .i64 2)), none, []⟩,
 ⟨some 35, .mov (.t 5), none, []⟩,
 ⟨some 36, .bin .mul (.c (.int .i64 4)) (.t 35), none, []⟩,
 ⟨some 37, .bin .add (.t 36) (.c (.int .i64 3)), none, []⟩,
 ⟨some 38, .mov (.t 6), none, []⟩,
 ⟨some 39, .bin .shr (.t 38) (.c (.int .u64 24)), none, []⟩,
 ⟨some 40, .toInt .u8 (.t 39), none, []⟩,
 ⟨some 41, .mov (.t 6), none, []⟩,
 ⟨some 42, .bin .shr (.t 41) (.c (.int .u64 16)), none, []⟩,
 ⟨some 43, .toInt .u8 (.t 42), none, []⟩,
 ⟨some 44, .mov (.t 6), none, []⟩,
 ⟨some 45, .bin .shr (.t 44) (.c (.int .u64 8)), none, []⟩,
 ⟨some 46, .toInt .u8 (.t 45), none, []⟩,
 ⟨some 47, .mov (.t 6), none, []⟩,
 ⟨some 48, .toInt .u8 (.t 47), none, []⟩,
 ⟨some 49, .iaddrA 32 0 (.t 3) (.t 28), none, []⟩,
 ⟨none, .store 1 (.t 49) (.t 40), none, []⟩,
 ⟨some 50, .iaddrA 32 0 (.t 3) (.t 31), none, []⟩,
 ⟨none, .store 1 (.t 50) (.t 43), none, []⟩,
 ⟨some 51, .iaddrA 32 0 (.t 3) (.t 34), none, []⟩,
 ⟨none, .store 1 (.t 51) (.t 46), none, []⟩,
 ⟨some 52, .iaddrA 32 0 (.t 3) (.t 37), none, []⟩,
 ⟨none, .store 1 (.t 52) (.t 48), none, []⟩])))
 (.reg [
 ⟨some 53, .bin .add (.t 23) (.c (.int .i64 1)), none, []⟩,
 ⟨some 23, .mov (.t 53), none, []⟩])))))))
 (.seq none
 (.reg [
 ⟨some 54, .load true 32 (.t 3), none, []⟩,
 ⟨none, .store 32 (.t 2) (.t 54), none, []⟩])
 .ret)))))))⟩
def id_chacha_Block : Nat := 109
def af_chacha_Block : AFn := ⟨94, [.cell 6 true 64],
 (.seq none
 (.reg [
 ⟨some 3, .box (.t 0), none, []⟩,
 ⟨some 5, .box (.t 2), none, []⟩,
 ⟨some 6, .alloc [.ints .u8 64 (List.replicate 64 0)], none, []⟩])
 (.seq none
 (.reg [
 ⟨some 15, .load true 32 (.t 3), none, []⟩,
 ⟨some 16, .mov (.t 1), none, []⟩,
 ⟨some 17, .load true 12 (.t 5), none, []⟩,
 ⟨some 18, .call 137 [(.t 15), (.t 16), (.t 17)], none, []⟩,
 ⟨some 7, .alloc [.ints .u32 16 (List.replicate 16 0)], none, []⟩,
 ⟨none, .store 16 (.t 7) (.t 18), none, []⟩])
 (.seq none
 (.reg [
 ⟨some 19, .load true 16 (.t 7), none, []⟩,
 ⟨some 8, .alloc [.ints .u32 16 (List.replicate 16 0)], none, []⟩,
 ⟨none, .store 16 (.t 8) (.t 19), none, []⟩])
 (.seq none
 (.reg [
 ⟨some 20, .mkf 138 [] [(.t 8)], none, []⟩,
 ⟨some 9, .mov (.t 20), none, []⟩])
 (.seq none
 (.seq none
 (.reg [
 ⟨some 21, .mov (.c (.int .i64 0)), none, []⟩])
 (.block 0 none
 (.loop 1000000 none
 (.seq none
 (.reg [
 ⟨some 22, .bin .lss (.t 21) (.c (.int .i64 10)), none, []⟩])
 (.seq none
 (.cond (.t 22)
 .skip
 (.exit 0))
 (.seq none
 (.block 1 none
 (.seq none
 (.seq none
 (.reg [
 ⟨some 23, .mov (.c (.int .i64 0)), none, []⟩])
 (.block 2 none
 (.loop 1000000 none
 (.seq none
 (.reg [
 ⟨some 24, .bin .lss (.t 23) (.c (.int .i64 4)), none, []⟩])
 (.seq none
 (.cond (.t 24)
 .skip
 (.exit 2))
 (.seq none
 (.block 3 none
 (.seq none
 (.reg [
 ⟨some 25, .mov (.t 23), none, []⟩,
 ⟨some 10, .mov (.t 25), none, []⟩])
 (.reg [
 ⟨some 26, .mov (.t 9), none, []⟩,
 ⟨some 27, .mov (.t 10), none, []⟩,
 ⟨some 28, .mov (.t 10), none, []⟩,
 ⟨some 29, .bin .add (.c (.int .i64 4)) (.t 28), none, []⟩,
 ⟨some 30, .mov (.t 10), none, []⟩,
 ⟨some 31, .bin .add (.c (.int .i64 8)) (.t 30), none, []⟩,
 ⟨some 32, .mov (.t 10), none, []⟩,
 ⟨some 33, .bin .add (.c (.int .i64 12)) (.t 32), none, []⟩,
 ⟨some 34, .callV (.t 26) [(.t 27), (.t 29), (.t 31), (.t 33)], none, []⟩])))
 (.reg [
 ⟨some 35, .bin .add (.t 23) (.c (.int .i64 1)), none, []⟩,
 ⟨some 23, .mov (.t 35), none, []⟩])))))))
 (.seq none
 (.reg [
 ⟨some 36, .mov (.c (.int .i64 0)), none, []⟩])
 (.block 4 none
 (.loop 1000000 none
 (.seq none
 (.reg [
 ⟨some 37, .bin .lss (.t 36) (.c (.int .i64 4)), none, []⟩])
 (.seq none
 (.cond (.t 37)
 .skip
 (.exit 4))
 (.seq none
 (.block 5 none
 (.seq none
 (.reg [
 ⟨some 38, .mov (.t 36), none, []⟩,
 ⟨some 11, .mov (.t 38), none, []⟩])
 (.reg [
 ⟨some 39, .mov (.t 9), none, []⟩,
 ⟨some 40, .mov (.t 11), none, []⟩,
 ⟨some 41, .mov (.t 11), none, []⟩,
 ⟨some 42, .bin .add (.t 41) (.c (.int .i64 1)), none, []⟩,
 ⟨some 43, .bin .rem (.t 42) (.c (.int .i64 4)), none, []⟩,
 ⟨some 44, .bin .add (.c (.int .i64 4)) (.t 43), none, []⟩,
 ⟨some 45, .mov (.t 11), none, []⟩,
 ⟨some 46, .bin .add (.t 45) (.c (.int .i64 2)), none, []⟩,
 ⟨some 47, .bin .rem (.t 46) (.c (.int .i64 4)), none, []⟩,
 ⟨some 48, .bin .add (.c (.int .i64 8)) (.t 47), none, []⟩,
 ⟨some 49, .mov (.t 11), none, []⟩,
 ⟨some 50, .bin .add (.t 49) (.c (.int .i64 3)), none, []⟩,
 ⟨some 51, .bin .rem (.t 50) (.c (.int .i64 4)), none, []⟩,
 ⟨some 52, .bin .add (.c (.int .i64 12)) (.t 51), none, []⟩,
 ⟨some 53, .callV (.t 39) [(.t 40), (.t 44), (.t 48), (.t 52)], none, []⟩])))
 (.reg [
 ⟨some 54, .bin .add (.t 36) (.c (.int .i64 1)), none, []⟩,
 ⟨some 36, .mov (.t 54), none, []⟩])))))))))
 (.reg [
 ⟨some 55, .bin .add (.t 21) (.c (.int .i64 1)), none, []⟩,
 ⟨some 21, .mov (.t 55), none, []⟩])))))))
 (.seq none
 (.reg [
 ⟨some 12, .alloc [.ints .u8 64 (List.replicate 64 0)], none, []⟩])
 (.seq none
 (.seq none
 (.reg [
 ⟨some 56, .load true 16 (.t 8), none, []⟩,
 ⟨some 57, .mov (.c (.int .i64 0)), none, []⟩])
 (.block 6 none
 (.loop 1000000 none
 (.seq none
 (.reg [
 ⟨some 58, .bin .lss (.t 57) (.c (.int .i64 16)), none, []⟩])
 (.seq none
 (.cond (.t 58)
 .skip
 (.exit 6))
 (.seq none
 (.block 7 none
 (.seq none
 (.reg [
 ⟨some 59, .mov (.t 57), none, []⟩,
 ⟨some 60, .idxA false 16 1 (.t 56) (.t 57), none, []⟩,
 ⟨some 13, .mov (.t 59), none, []⟩,
 ⟨some 14, .mov (.t 60), none, []⟩])
 (.seq none
 (.reg [
 ⟨some 61, .mov (.t 14), none, []⟩,
 ⟨some 62, .mov (.t 13), none, []⟩,
 ⟨some 63, .iaddrA 16 0 (.t 7) (.t 62), none, []⟩,
 ⟨some 64, .load false 1 (.t 63), none, []⟩,
 ⟨some 65, .bin .add (.t 61) (.t 64), none, []⟩,
 ⟨some 14, .mov (.t 65), none, []⟩])
 (.reg [
 ⟨some 66, .mov (.t 13), none, []⟩,
 ⟨some 67, .bin .mul (.c (.int .i64 4)) (.t 66), none, []⟩,
 ⟨some 68, .mov (.t 13), none, []⟩,
 ⟨some 69, .bin .mul (.c (.int .i64 4)) (.t 68), none, []⟩,
 ⟨some 70, .bin .add (.t 69) (.c (.int .i64 1)), none, []⟩,
 ⟨some 71, .mov (.t 13), none, []⟩,
 ⟨some 72, .bin .mul (.c (.int .i64 4)) (.t 71), none, []⟩,
 ⟨some 73, .bin .add (.t 72) (.c (.int .i64 2)), none, []⟩,
 ⟨some 74, .mov (.t 13), none, []⟩,
 ⟨some 75, .bin .mul (.c (.int .i64 4)) (.t 74), none, []⟩,
 ⟨some 76, .bin .add (.t 75) (.c (.int .i64 3)), none, []⟩,
 ⟨some 77, .mov (.t 14), none, []⟩,
 ⟨some 78, .toInt .u8 (.t 77), none, []⟩,
 ⟨some 79, .mov (.t 14), none, []⟩,
 ⟨some 80, .bin .shr (.t 79) (.c (.int .u64 8)), none, []⟩,
 ⟨some 81, .toInt .u8 (.t 80), none, []⟩,
 ⟨some 82, .mov (.t 14), none, []⟩,
 ⟨some 83, .bin .shr (.t 82) (.c (.int .u64 16)), none, []⟩,
 ⟨some 84, .toInt .u8 (.t 83), none, []⟩,
 ⟨some 85, .mov (.t 14), none, []⟩,
 ⟨some 86, .bin .shr (.t 85) (.c (.int .u64 24)), none, []⟩,
 ⟨some 87, .toInt .u8 (.t 86), none, []⟩,
 ⟨some 88, .iaddrA 64 0 (.t 12) (.t 67), none, []⟩,
 ⟨none, .store 1 (.t 88) (.t 78), none, []⟩,
 ⟨some 89, .iaddrA 64 0 (.t 12) (.t 70), none, []⟩,
 ⟨none, .store 1 (.t 89) (.t 81), none, []⟩,
 ⟨some 90, .iaddrA 64 0 (.t 12) (.t 73), none, []⟩,
 ⟨none, .store 1 (.t 90) (.t 84), none, []⟩,
 ⟨some 91, .iaddrA 64 0 (.t 12) (.t 76), none, []⟩,
 ⟨none, .store 1 (.t 91) (.t 87), none, []⟩]))))
 (.reg [
 ⟨some 92, .bin .add (.t 57) (.c (.int .i64 1)), none, []⟩,
 ⟨some 57, .mov (.t 92), none, []⟩])))))))
 (.seq none
 (.reg [
 ⟨some 93, .load true 64 (.t 12), none, []⟩,
 ⟨none, .store 64 (.t 6) (.t 93), none, []⟩])
 .ret))))))))⟩
def id_poly_New : Nat := 110
def af_poly_New : AFn := ⟨13, [.t 2],
 (.seq none
 (.reg [
 ⟨some 1, .box (.t 0), none, []⟩,
 ⟨some 2, .mov (.c (.nilp)), none, []⟩])
 (.seq none
 (.reg [
 ⟨some 4, .load true 32 (.t 1), none, []⟩,
 ⟨some 5, .call 140 [(.t 4)], none, []⟩,
 ⟨some 3, .alloc [.ints .u8 16 (List.replicate 16 0)], none, []⟩,
 ⟨none, .store 16 (.t 3) (.t 5), none, []⟩])
 (.seq none
 (.draw [
 ⟨some 6, .slArr 16 0 (.t 3) none none none, none, []⟩,
 ⟨some 7, .call 141 [(.t 6), (.c (.int .u64 0))], none, [0]⟩,
 ⟨some 8, .slArr 32 0 (.t 1) (some (.c (.int .i64 16))) none none, none, []⟩,
 ⟨some 9, .arrPtr 16 (.t 8), none, [2]⟩,
 ⟨some 10, .load true 16 (.t 9), none, [3]⟩,
 ⟨some 11, .build [.nils, .ints .u64 5 (List.replicate 5 0), .ints .u64 5 (List.replicate 5 0), .ints .u8 16 (List.replicate 16 0)] [(1, 5, (.t 7)), (11, 16, (.t 10))], none, [1, 4]⟩,
 ⟨some 12, .box (.t 11), none, [5]⟩,
 ⟨some 2, .mov (.t 12), none, [6, 1, 0, 1, 2, 3, 4, 5, 6]⟩])
 .ret)))⟩
def id_aead_Tag_1 : Nat := 111
def af_aead_Tag_1 : AFn := ⟨15, [],
 (.seq none
 (.reg [
 ⟨some 4, .load false 1 (.t 1), none, []⟩,
 ⟨some 5, .mov (.t 0), none, []⟩,
 ⟨some 6, .call 112 [(.t 4), (.t 5)], none, []⟩])
 (.draw [
 ⟨some 7, .load false 1 (.t 1), none, []⟩,
 ⟨some 8, .mov (.t 0), none, []⟩,
 ⟨some 9, .len false (.t 8), none, [1]⟩,
 ⟨some 10, .bin .rem (.t 9) (.c (.int .i64 16)), none, [2]⟩,
 ⟨some 11, .bin .sub (.c (.int .i64 16)) (.t 10), none, [3]⟩,
 ⟨some 12, .bin .rem (.t 11) (.c (.int .i64 16)), none, [4]⟩,
 ⟨some 13, .slArr 16 0 (.t 2) none (some (.t 12)) none, none, [5]⟩,
 ⟨some 14, .call 112 [(.t 7), (.t 13)], none, [0, 6]⟩]))⟩
def id_poly_Code_Write : Nat := 112
def af_poly_Code_Write : AFn := ⟨64, [.t 4],
 (.seq none
 (.reg [
 ⟨some 4, .mov (.c (.int .i64 0)), none, []⟩])
 (.seq none
 (.seq none
 (.reg [
 ⟨some 5, .mov (.t 0), none, []⟩,
 ⟨some 6, .eqv false .ptr (.t 5) (.c (.nilp)), none, []⟩])
 (.cond (.t 6)
 (.seq none
 (.reg [
 ⟨some 4, .mov (.c (.int .i64 1)), none, []⟩])
 .ret)
 .skip))
 (.seq none
 (.reg [
 ⟨some 7, .mov (.t 0), none, []⟩,
 ⟨some 8, .mov (.t 0), none, []⟩,
 ⟨some 9, .nilChk (.t 8), none, []⟩,
 ⟨some 10, .faddr 0 (.t 9), none, []⟩,
 ⟨some 11, .faddr 0 (.t 10), none, []⟩,
 ⟨some 12, .load false 1 (.t 11), none, []⟩,
 ⟨some 13, .mov (.t 1), none, []⟩,
 ⟨some 14, .appendI .u8 1 (.t 12) (.t 13), none, []⟩,
 ⟨some 15, .nilChk (.t 7), none, []⟩,
 ⟨some 16, .faddr 0 (.t 15), none, []⟩,
 ⟨some 17, .faddr 0 (.t 16), none, []⟩,
 ⟨none, .store 1 (.t 17) (.t 14), none, []⟩])
 (.seq none
 (.block 0 none
 (.loop 1000000 none
 (.seq none
 (.seq none
 (.reg [
 ⟨some 18, .mov (.t 0), none, []⟩,
 ⟨some 19, .nilChk (.t 18), none, []⟩,
 ⟨some 20, .faddr 0 (.t 19), none, []⟩,
 ⟨some 21, .faddr 0 (.t 20), none, []⟩,
 ⟨some 22, .load false 1 (.t 21), none, []⟩,
 ⟨some 23, .len false (.t 22), none, []⟩,
 ⟨some 24, .bin .geq (.t 23) (.c (.int .i64 16)), none, []⟩])
 (.cond (.t 24)
 .skip
 (.exit 0)))
 (.block 1 none
 (.seq none
 (.draw [
 ⟨some 25, .mov (.t 0), none, []⟩,
 ⟨some 26, .mov (.t 0), none, []⟩,
 ⟨some 27, .nilChk (.t 26), none, [1]⟩,
 ⟨some 28, .faddr 6 (.t 27), none, [2]⟩,
 ⟨some 29, .load true 5 (.t 28), none, [3]⟩,
 ⟨some 30, .mov (.t 0), none, []⟩,
 ⟨some 31, .nilChk (.t 30), none, [5]⟩,
 ⟨some 32, .faddr 0 (.t 31), none, [6]⟩,
 ⟨some 33, .faddr 0 (.t 32), none, [7]⟩,
 ⟨some 34, .load false 1 (.t 33), none, [8]⟩,
 ⟨some 35, .slSlice 1 (.t 34) none (some (.c (.int .i64 16))) none, none, [9]⟩,
 ⟨some 36, .call 141 [(.t 35), (.c (.int .u64 1))], none, [10]⟩,
 ⟨some 37, .mov (.t 0), none, []⟩,
 ⟨some 38, .nilChk (.t 37), none, [12]⟩,
 ⟨some 39, .faddr 1 (.t 38), none, [13]⟩,
 ⟨some 40, .load true 5 (.t 39), none, [14]⟩,
 ⟨some 41, .call 142 [(.t 29), (.t 36), (.t 40)], none, [4, 11, 15, 11]⟩,
 ⟨some 42, .nilChk (.t 25), none, [0, 0, 1, 2, 3, 4, 5, 6, 7, 8, 9, 10, 11, 12, 13, 14, 15, 16]⟩,
 ⟨some 43, .faddr 6 (.t 42), none, [17, 0, 1, 2, 3, 4, 5, 6, 7, 8, 9, 10, 11, 12, 13, 14, 15, 16]⟩,
 ⟨none, .store 5 (.t 43) (.t 41), none, [18, 16, 16, 0, 1, 2, 3, 4, 5, 6, 7, 8, 9, 10, 11, 12, 13, 14, 15, 16]⟩])
 (.reg [
 ⟨some 44, .mov (.t 0), none, []⟩,
 ⟨some 45, .mov (.t 0), none, []⟩,
 ⟨some 46, .nilChk (.t 45), none, []⟩,
 ⟨some 47, .faddr 0 (.t 46), none, []⟩,
 ⟨some 48, .faddr 0 (.t 47), none, []⟩,
 ⟨some 49, .load false 1 (.t 48), none, []⟩,
 ⟨some 50, .slSlice 1 (.t 49) (some (.c (.int .i64 16))) none none, none, []⟩,
 ⟨some 51, .nilChk (.t 44), none, []⟩,
 ⟨some 52, .faddr 0 (.t 51), none, []⟩,
 ⟨some 53, .faddr 0 (.t 52), none, []⟩,
 ⟨none, .store 1 (.t 53) (.t 50), none, []⟩]))))))
 (.seq none
 (.reg [
 ⟨some 54, .mov (.t 0), none, []⟩,
 ⟨some 55, .mov (.t 0), none, []⟩,
 ⟨some 56, .nilChk (.t 55), none, []⟩,
 ⟨some 57, .faddr 0 (.t 56), none, []⟩,
 ⟨some 58, .faddr 0 (.t 57), none, []⟩,
 ⟨some 59, .load false 1 (.t 58), none, []⟩,
 ⟨some 60, .call 90 [(.t 59)], none, []⟩,
 ⟨some 61, .nilChk (.t 54), none, []⟩,
 ⟨some 62, .faddr 0 (.t 61), none, []⟩,
 ⟨some 63, .faddr 0 (.t 62), none, []⟩,
 ⟨none, .store 1 (.t 63) (.t 60), none, []⟩])
 (.seq none
 (.reg [
 ⟨some 4, .mov (.c (.int .i64 0)), none, []⟩])
 .ret))))))⟩
def id_poly_Code_Tag : Nat := 113
def af_poly_Code_Tag : AFn := ⟨76, [.cell 2 true 16],
 (.seq none
 (.reg [
 ⟨some 2, .alloc [.ints .u8 16 (List.replicate 16 0)], none, []⟩])
 (.seq none
 (.reg [
 ⟨some 3, .alloc [.ints .u8 16 (List.replicate 16 0)], none, []⟩])
 (.seq none
 (.seq none
 (.reg [
 ⟨some 12, .mov (.t 0), none, []⟩,
 ⟨some 13, .eqv false .ptr (.t 12) (.c (.nilp)), none, []⟩])
 (.cond (.t 13)
 (.seq none
 (.reg [
 ⟨some 14, .load true 16 (.t 3), none, []⟩,
 ⟨none, .store 16 (.t 2) (.t 14), none, []⟩])
 .ret)
 .skip))
 (.seq none
 (.reg [
 ⟨some 15, .mov (.t 0), none, []⟩,
 ⟨some 16, .nilChk (.t 15), none, []⟩,
 ⟨some 17, .faddr 6 (.t 16), none, []⟩,
 ⟨some 18, .load true 5 (.t 17), none, []⟩,
 ⟨some 4, .alloc [.ints .u64 5 (List.replicate 5 0)], none, []⟩,
 ⟨none, .store 5 (.t 4) (.t 18), none, []⟩])
 (.seq none
 (.seq none
 (.reg [
 ⟨some 19, .mov (.t 0), none, []⟩,
 ⟨some 20, .nilChk (.t 19), none, []⟩,
 ⟨some 21, .faddr 0 (.t 20), none, []⟩,
 ⟨some 22, .faddr 0 (.t 21), none, []⟩,
 ⟨some 23, .load false 1 (.t 22), none, []⟩,
 ⟨some 24, .len false (.t 23), none, []⟩,
 ⟨some 5, .mov (.t 24), none, []⟩])
 (.seq none
 (.reg [
 ⟨some 25, .mov (.t 5), none, []⟩,
 ⟨some 26, .bin .gtr (.t 25) (.c (.int .i64 0)), none, []⟩])
 (.cond (.t 26)
 (.seq none
 (.reg [
 ⟨some 6, .alloc [.ints .u8 16 (List.replicate 16 0)], none, []⟩])
 (.seq none
 (.draw [
 ⟨some 27, .slArr 16 0 (.t 6) none none none, none, []⟩,
 ⟨some 28, .mov (.t 0), none, []⟩,
 ⟨some 29, .nilChk (.t 28), none, [1]⟩,
 ⟨some 30, .faddr 0 (.t 29), none, [2]⟩,
 ⟨some 31, .faddr 0 (.t 30), none, [3]⟩,
 ⟨some 32, .load false 1 (.t 31), none, [4]⟩,
 ⟨some 33, .copyI (.t 27) (.t 32), none, [0, 5]⟩])
 (.seq none
 (.reg [
 ⟨some 34, .mov (.t 5), none, []⟩,
 ⟨some 35, .iaddrA 16 0 (.t 6) (.t 34), none, []⟩,
 ⟨none, .store 1 (.t 35) (.c (.int .u8 1)), none, []⟩])
 (.draw [
 ⟨some 36, .load true 5 (.t 4), none, []⟩,
 ⟨some 37, .slArr 16 0 (.t 6) none none none, none, []⟩,
 ⟨some 38, .call 141 [(.t 37), (.c (.int .u64 0))], none, [1]⟩,
 ⟨some 39, .mov (.t 0), none, []⟩,
 ⟨some 40, .nilChk (.t 39), none, [3]⟩,
 ⟨some 41, .faddr 1 (.t 40), none, [4]⟩,
 ⟨some 42, .load true 5 (.t 41), none, [5]⟩,
 ⟨some 43, .call 142 [(.t 36), (.t 38), (.t 42)], none, [0, 2, 6, 2]⟩,
 ⟨none, .store 5 (.t 4) (.t 43), none, [7, 7, 0, 1, 2, 3, 4, 5, 6, 7]⟩]))))
 .skip)))
 (.seq none
 (.reg [
 ⟨some 45, .load true 5 (.t 4), none, []⟩,
 ⟨some 46, .call 143 [(.t 45)], none, []⟩,
 ⟨some 44, .mov (.t 46), none, []⟩,
 ⟨some 47, .ext (.t 44) 0, none, []⟩,
 ⟨some 48, .ext (.t 44) 1, none, []⟩,
 ⟨some 7, .mov (.t 47), none, []⟩,
 ⟨some 8, .mov (.t 48), none, []⟩])
 (.seq none
 (.draw [
 ⟨some 49, .mov (.t 0), none, []⟩,
 ⟨some 50, .nilChk (.t 49), none, [0]⟩,
 ⟨some 51, .faddr 11 (.t 50), none, [1]⟩,
 ⟨some 52, .slArr 16 0 (.t 51) none none none, none, [2]⟩,
 ⟨some 53, .call 91 [(.t 52)], none, [3]⟩,
 ⟨some 54, .mov (.t 0), none, []⟩,
 ⟨some 55, .nilChk (.t 54), none, [5]⟩,
 ⟨some 56, .faddr 11 (.t 55), none, [6]⟩,
 ⟨some 57, .slArr 16 0 (.t 56) (some (.c (.int .i64 8))) none none, none, [7]⟩,
 ⟨some 58, .call 91 [(.t 57)], none, [8, 4]⟩,
 ⟨some 9, .mov (.t 53), none, [4, 9, 0, 1, 2, 3, 4]⟩,
 ⟨some 10, .mov (.t 58), none, [9, 10, 0, 1, 2, 3, 4, 5, 6, 7, 8, 9, 10]⟩])
 (.seq none
 (.reg [
 ⟨some 59, .mov (.t 7), none, []⟩,
 ⟨some 60, .mov (.t 9), none, []⟩,
 ⟨some 61, .bin .add (.t 59) (.t 60), none, []⟩,
 ⟨some 11, .mov (.t 61), none, []⟩])
 (.seq none
 (.seq none
 (.reg [
 ⟨some 62, .mov (.t 11), none, []⟩,
 ⟨some 63, .mov (.t 7), none, []⟩,
 ⟨some 64, .bin .lss (.t 62) (.t 63), none, []⟩])
 (.cond (.t 64)
 (.reg [
 ⟨some 65, .mov (.t 8), none, []⟩,
 ⟨some 66, .bin .add (.t 65) (.c (.int .u64 1)), none, []⟩,
 ⟨some 8, .mov (.t 66), none, []⟩])
 .skip))
 (.seq none
 (.draw [
 ⟨some 67, .slArr 16 0 (.t 3) none none none, none, []⟩,
 ⟨some 68, .mov (.t 11), none, []⟩,
 ⟨some 69, .call 71 [(.c (.nils)), (.t 68)], none, [1]⟩,
 ⟨some 70, .mov (.t 8), none, []⟩,
 ⟨some 71, .mov (.t 10), none, []⟩,
 ⟨some 72, .bin .add (.t 70) (.t 71), none, [3, 4]⟩,
 ⟨some 73, .call 71 [(.t 69), (.t 72)], none, [2, 5, 2]⟩,
 ⟨some 74, .copyI (.t 67) (.t 73), none, [0, 6, 6]⟩])
 (.seq none
 (.reg [
 ⟨some 75, .load true 16 (.t 3), none, []⟩,
 ⟨none, .store 16 (.t 2) (.t 75), none, []⟩])
 .ret)))))))))))⟩
def id_hollowtreeref03_fold : Nat := 114
def af_hollowtreeref03_fold : AFn := ⟨38, [.cell 2 true 16],
 (.seq none
 (.reg [
 ⟨some 2, .alloc [.ints .i64 16 (List.replicate 16 0)], none, []⟩])
 (.seq none
 (.reg [
 ⟨some 3, .alloc [.ints .i64 16 (List.replicate 16 0)], none, []⟩])
 (.seq none
 (.seq none
 (.reg [
 ⟨some 4, .mov (.c (.int .i64 0)), none, []⟩])
 (.block 0 none
 (.loop 1000000 none
 (.seq none
 (.seq none
 (.reg [
 ⟨some 5, .mov (.t 4), none, []⟩,
 ⟨some 6, .mov (.t 0), none, []⟩,
 ⟨some 7, .len false (.t 6), none, []⟩,
 ⟨some 8, .bin .lss (.t 5) (.t 7), none, []⟩])
 (.cond (.t 8)
 .skip
 (.exit 0)))
 (.seq none
 (.block 1 none
 (.seq none
 (.reg [
 ⟨some 11, .mov (.t 4), none, []⟩,
 ⟨some 12, .bin .lss (.t 11) (.c (.int .i64 16)), none, []⟩])
 (.cond (.t 12)
 (.draw [
 ⟨some 13, .mov (.t 4), none, []⟩,
 ⟨some 14, .mov (.t 4), none, []⟩,
 ⟨some 15, .iaddrA 16 0 (.t 3) (.t 14), none, [1]⟩,
 ⟨some 16, .load false 1 (.t 15), none, [2]⟩,
 ⟨some 17, .mov (.t 0), none, []⟩,
 ⟨some 18, .mov (.t 4), none, []⟩,
 ⟨some 19, .iaddrS 1 (.t 17) (.t 18), none, [4, 5]⟩,
 ⟨some 20, .load false 1 (.t 19), none, [6]⟩,
 ⟨some 21, .bin .add (.t 16) (.t 20), none, [3, 7]⟩,
 ⟨some 22, .iaddrA 16 0 (.t 3) (.t 13), none, [0, 0, 1, 2, 3, 4, 5, 6, 7, 8]⟩,
 ⟨none, .store 1 (.t 22) (.t 21), none, [9, 8, 0, 1, 2, 3, 4, 5, 6, 7, 8]⟩])
 (.draw [
 ⟨some 23, .mov (.t 4), none, []⟩,
 ⟨some 24, .bin .sub (.t 23) (.c (.int .i64 16)), none, [0]⟩,
 ⟨some 25, .mov (.t 4), none, []⟩,
 ⟨some 26, .bin .sub (.t 25) (.c (.int .i64 16)), none, [2]⟩,
 ⟨some 27, .iaddrA 16 0 (.t 3) (.t 26), none, [3]⟩,
 ⟨some 28, .load false 1 (.t 27), none, [4]⟩,
 ⟨some 29, .mov (.t 0), none, []⟩,
 ⟨some 30, .mov (.t 4), none, []⟩,
 ⟨some 31, .iaddrS 1 (.t 29) (.t 30), none, [6, 7]⟩,
 ⟨some 32, .load false 1 (.t 31), none, [8]⟩,
 ⟨some 33, .bin .mul (.c (.int .i64 38)) (.t 32), none, [9]⟩,
 ⟨some 34, .bin .add (.t 28) (.t 33), none, [5, 10]⟩,
 ⟨some 35, .iaddrA 16 0 (.t 3) (.t 24), none, [1, 0, 1, 2, 3, 4, 5, 6, 7, 8, 9, 10, 11]⟩,
 ⟨none, .store 1 (.t 35) (.t 34), none, [12, 11, 0, 1, 2, 3, 4, 5, 6, 7, 8, 9, 10, 11]⟩]))))
 (.reg [
 ⟨some 9, .mov (.t 4), none, []⟩,
 ⟨some 10, .bin .add (.t 9) (.c (.int .i64 1)), none, []⟩,
 ⟨some 4, .mov (.t 10), none, []⟩]))))))
 (.seq none
 (.reg [
 ⟨some 36, .load true 16 (.t 3), none, []⟩,
 ⟨some 37, .call 84 [(.t 36)], none, []⟩,
 ⟨none, .store 16 (.t 2) (.t 37), none, []⟩])
 .ret))))⟩
def id_hollowtreeref04_Sum : Nat := 115
def af_hollowtreeref04_Sum : AFn := ⟨227, [.cell 2 true 32],
 (.seq none
 (.reg [
 ⟨some 2, .alloc [.ints .u8 32 (List.replicate 32 0)], none, []⟩])
 (.seq none
 (.reg [
 ⟨some 20, .call 144 [], none, []⟩,
 ⟨some 3, .alloc [.ints .u32 64 (List.replicate 64 0)], none, []⟩,
 ⟨none, .store 64 (.t 3) (.t 20), none, []⟩])
 (.seq none
 (.reg [
 ⟨some 21, .bslice [.ints .u8 0 (List.replicate 0 0)] 0 0 [], none, []⟩,
 ⟨some 22, .mov (.t 0), none, []⟩,
 ⟨some 23, .appendI .u8 1 (.t 21) (.t 22), none, []⟩,
 ⟨some 24, .mov (.t 0), none, []⟩,
 ⟨some 25, .len false (.t 24), none, []⟩,
 ⟨some 26, .call 145 [(.t 25)], none, []⟩,
 ⟨some 27, .appendI .u8 1 (.t 23) (.t 26), none, []⟩,
 ⟨some 0, .mov (.t 27), none, []⟩])
 (.seq none
 (.reg [
 ⟨some 28, .call 146 [], none, []⟩,
 ⟨some 4, .alloc [.ints .u32 8 (List.replicate 8 0)], none, []⟩,
 ⟨none, .store 8 (.t 4) (.t 28), none, []⟩])
 (.seq none
 (.block 0 none
 (.loop 1000000 none
 (.seq none
 (.seq none
 (.reg [
 ⟨some 29, .mov (.t 0), none, []⟩,
 ⟨some 30, .len false (.t 29), none, []⟩,
 ⟨some 31, .bin .gtr (.t 30) (.c (.int .i64 0)), none, []⟩])
 (.cond (.t 31)
 .skip
 (.exit 0)))
 (.seq none
 (.block 1 none
 (.seq none
 (.reg [
 ⟨some 5, .alloc [.ints .u32 64 (List.replicate 64 0)], none, []⟩])
 (.seq none
 (.seq none
 (.reg [
 ⟨some 34, .mov (.c (.int .i64 0)), none, []⟩])
 (.block 2 none
 (.loop 1000000 none
 (.seq none
 (.reg [
 ⟨some 35, .bin .lss (.t 34) (.c (.int .i64 64)), none, []⟩])
 (.seq none
 (.cond (.t 35)
 .skip
 (.exit 2))
 (.seq none
 (.block 3 none
 (.seq none
 (.reg [
 ⟨some 36, .mov (.t 34), none, []⟩,
 ⟨some 6, .mov (.t 36), none, []⟩])
 (.seq none
 (.seq none
 (.reg [
 ⟨some 37, .mov (.t 6), none, []⟩,
 ⟨some 38, .bin .lss (.t 37) (.c (.int .i64 16)), none, []⟩])
 (.cond (.t 38)
 (.seq none
 (.draw [
 ⟨some 39, .mov (.t 6), none, []⟩,
 ⟨some 40, .mov (.t 0), none, []⟩,
 ⟨some 41, .mov (.t 6), none, []⟩,
 ⟨some 42, .bin .mul (.c (.int .i64 4)) (.t 41), none, [2]⟩,
 ⟨some 43, .iaddrS 1 (.t 40) (.t 42), none, [1, 3]⟩,
 ⟨some 44, .load false 1 (.t 43), none, [4]⟩,
 ⟨some 45, .toInt .u32 (.t 44), none, [5]⟩,
 ⟨some 46, .bin .shl (.t 45) (.c (.int .u64 24)), none, [6]⟩,
 ⟨some 47, .mov (.t 0), none, []⟩,
 ⟨some 48, .mov (.t 6), none, []⟩,
 ⟨some 49, .bin .mul (.c (.int .i64 4)) (.t 48), none, [9]⟩,
 ⟨some 50, .bin .add (.t 49) (.c (.int .i64 1)), none, [10]⟩,
 ⟨some 51, .iaddrS 1 (.t 47) (.t 50), none, [8, 11]⟩,
 ⟨some 52, .load false 1 (.t 51), none, [12]⟩,
 ⟨some 53, .toInt .u32 (.t 52), none, [13]⟩,
 ⟨some 54, .bin .shl (.t 53) (.c (.int .u64 16)), none, [14]⟩,
 ⟨some 55, .bin .or (.t 46) (.t 54), none, [7, 15]⟩,
 ⟨some 56, .mov (.t 0), none, []⟩,
 ⟨some 57, .mov (.t 6), none, []⟩,
 ⟨some 58, .bin .mul (.c (.int .i64 4)) (.t 57), none, [18]⟩,
 ⟨some 59, .bin .add (.t 58) (.c (.int .i64 2)), none, [19]⟩,
 ⟨some 60, .iaddrS 1 (.t 56) (.t 59), none, [17, 20]⟩,
 ⟨some 61, .load false 1 (.t 60), none, [21]⟩,
 ⟨some 62, .toInt .u32 (.t 61), none, [22]⟩,
 ⟨some 63, .bin .shl (.t 62) (.c (.int .u64 8)), none, [23]⟩,
 ⟨some 64, .bin .or (.t 55) (.t 63), none, [16, 24]⟩,
 ⟨some 65, .mov (.t 0), none, []⟩,
 ⟨some 66, .mov (.t 6), none, []⟩,
 ⟨some 67, .bin .mul (.c (.int .i64 4)) (.t 66), none, [27]⟩,
 ⟨some 68, .bin .add (.t 67) (.c (.int .i64 3)), none, [28]⟩,
 ⟨some 69, .iaddrS 1 (.t 65) (.t 68), none, [26, 29]⟩,
 ⟨some 70, .load false 1 (.t 69), none, [30]⟩,
 ⟨some 71, .toInt .u32 (.t 70), none, [31]⟩,
 ⟨some 72, .bin .or (.t 64) (.t 71), none, [25, 32]⟩,
 ⟨some 73, .iaddrA 64 0 (.t 5) (.t 39), none, [0, 0, 1, 2, 3, 4, 5, 6, 7, 8, 9, 10, 11, 12, 13, 14, 15, 16, 17, 18, 19, 20, 21, 22, 23, 24, 25, 26, 27, 28, 29, 30, 31, 32, 33]⟩,
 ⟨none, .store 1 (.t 73) (.t 72), none, [34, 33, 0, 1, 2, 3, 4, 5, 6, 7, 8, 9, 10, 11, 12, 13, 14, 15, 16, 17, 18, 19, 20, 21, 22, 23, 24, 25, 26, 27, 28, 29, 30, 31, 32, 33]⟩])
 (.exit 3))
 .skip))
 (.seq none
 (.draw [
 ⟨some 74, .mov (.t 6), none, []⟩,
 ⟨some 75, .bin .sub (.t 74) (.c (.int .i64 15)), none, [0]⟩,
 ⟨some 76, .iaddrA 64 0 (.t 5) (.t 75), none, [1]⟩,
 ⟨some 77, .load false 1 (.t 76), none, [2]⟩,
 ⟨some 78, .mov (.t 6), none, []⟩,
 ⟨some 79, .bin .sub (.t 78) (.c (.int .i64 2)), none, [4]⟩,
 ⟨some 80, .iaddrA 64 0 (.t 5) (.t 79), none, [5]⟩,
 ⟨some 81, .load false 1 (.t 80), none, [6]⟩,
 ⟨some 7, .mov (.t 77), none, [3, 0, 1, 2, 3]⟩,
 ⟨some 8, .mov (.t 81), none, [7, 8, 0, 1, 2, 3, 4, 5, 6, 7, 8]⟩])
 (.draw [
 ⟨some 82, .mov (.t 6), none, []⟩,
 ⟨some 83, .mov (.t 6), none, []⟩,
 ⟨some 84, .bin .sub (.t 83) (.c (.int .i64 16)), none, [1]⟩,
 ⟨some 85, .iaddrA 64 0 (.t 5) (.t 84), none, [2]⟩,
 ⟨some 86, .load false 1 (.t 85), none, [3]⟩,
 ⟨some 87, .mov (.t 7), none, []⟩,
 ⟨some 88, .call 147 [(.t 87), (.c (.int .i64 7))], none, [5]⟩,
 ⟨some 89, .mov (.t 7), none, []⟩,
 ⟨some 90, .call 147 [(.t 89), (.c (.int .i64 18))], none, [7, 6]⟩,
 ⟨some 91, .bin .xor (.t 88) (.t 90), none, [6, 8]⟩,
 ⟨some 92, .mov (.t 7), none, []⟩,
 ⟨some 93, .bin .shr (.t 92) (.c (.int .u64 3)), none, [10]⟩,
 ⟨some 94, .bin .xor (.t 91) (.t 93), none, [9, 11]⟩,
 ⟨some 95, .bin .add (.t 86) (.t 94), none, [4, 12]⟩,
 ⟨some 96, .mov (.t 6), none, []⟩,
 ⟨some 97, .bin .sub (.t 96) (.c (.int .i64 7)), none, [14]⟩,
 ⟨some 98, .iaddrA 64 0 (.t 5) (.t 97), none, [15]⟩,
 ⟨some 99, .load false 1 (.t 98), none, [16]⟩,
 ⟨some 100, .bin .add (.t 95) (.t 99), none, [13, 17]⟩,
 ⟨some 101, .mov (.t 8), none, []⟩,
 ⟨some 102, .call 147 [(.t 101), (.c (.int .i64 17))], none, [19, 8]⟩,
 ⟨some 103, .mov (.t 8), none, []⟩,
 ⟨some 104, .call 147 [(.t 103), (.c (.int .i64 19))], none, [21, 20]⟩,
 ⟨some 105, .bin .xor (.t 102) (.t 104), none, [20, 22]⟩,
 ⟨some 106, .mov (.t 8), none, []⟩,
 ⟨some 107, .bin .shr (.t 106) (.c (.int .u64 10)), none, [24]⟩,
 ⟨some 108, .bin .xor (.t 105) (.t 107), none, [23, 25]⟩,
 ⟨some 109, .bin .add (.t 100) (.t 108), none, [18, 26]⟩,
 ⟨some 110, .iaddrA 64 0 (.t 5) (.t 82), none, [0, 0, 1, 2, 3, 4, 5, 6, 7, 8, 9, 10, 11, 12, 13, 14, 15, 16, 17, 18, 19, 20, 21, 22, 23, 24, 25, 26, 27]⟩,
 ⟨none, .store 1 (.t 110) (.t 109), none, [28, 27, 22, 0, 1, 2, 3, 4, 5, 6, 7, 8, 9, 10, 11, 12, 13, 14, 15, 16, 17, 18, 19, 20, 21, 22, 23, 24, 25, 26, 27]⟩])))))
 (.reg [
 ⟨some 111, .bin .add (.t 34) (.c (.int .i64 1)), none, []⟩,
 ⟨some 34, .mov (.t 111), none, []⟩])))))))
 (.seq none
 (.reg [
 ⟨some 112, .load true 8 (.t 4), none, []⟩,
 ⟨some 9, .alloc [.ints .u32 8 (List.replicate 8 0)], none, []⟩,
 ⟨none, .store 8 (.t 9) (.t 112), none, []⟩])
 (.seq none
 (.seq none
 (.reg [
 ⟨some 113, .mov (.c (.int .i64 0)), none, []⟩])
 (.block 4 none
 (.loop 1000000 none
 (.seq none
 (.reg [
 ⟨some 114, .bin .lss (.t 113) (.c (.int .i64 64)), none, []⟩])
 (.seq none
 (.cond (.t 114)
 .skip
 (.exit 4))
 (.seq none
 (.block 5 none
 (.seq none
 (.reg [
 ⟨some 115, .mov (.t 113), none, []⟩,
 ⟨some 10, .mov (.t 115), none, []⟩])
 (.seq none
 (.draw [
 ⟨some 116, .iaddrA 8 0 (.t 9) (.c (.int .i64 0)), none, []⟩,
 ⟨some 117, .load false 1 (.t 116), none, [0]⟩,
 ⟨some 118, .iaddrA 8 0 (.t 9) (.c (.int .i64 4)), none, []⟩,
 ⟨some 119, .load false 1 (.t 118), none, [2]⟩,
 ⟨some 11, .mov (.t 117), none, [1, 0, 1]⟩,
 ⟨some 12, .mov (.t 119), none, [3, 4, 0, 1, 2, 3, 4]⟩])
 (.seq none
 (.draw [
 ⟨some 120, .iaddrA 8 0 (.t 9) (.c (.int .i64 7)), none, []⟩,
 ⟨some 121, .load false 1 (.t 120), none, [0]⟩,
 ⟨some 122, .mov (.t 12), none, []⟩,
 ⟨some 123, .call 147 [(.t 122), (.c (.int .i64 6))], none, [2]⟩,
 ⟨some 124, .mov (.t 12), none, []⟩,
 ⟨some 125, .call 147 [(.t 124), (.c (.int .i64 11))], none, [4, 3]⟩,
 ⟨some 126, .bin .xor (.t 123) (.t 125), none, [3, 5]⟩,
 ⟨some 127, .mov (.t 12), none, []⟩,
 ⟨some 128, .call 147 [(.t 127), (.c (.int .i64 25))], none, [7, 5]⟩,
 ⟨some 129, .bin .xor (.t 126) (.t 128), none, [6, 8]⟩,
 ⟨some 130, .bin .add (.t 121) (.t 129), none, [1, 9]⟩,
 ⟨some 131, .mov (.t 12), none, []⟩,
 ⟨some 132, .iaddrA 8 0 (.t 9) (.c (.int .i64 5)), none, []⟩,
 ⟨some 133, .load false 1 (.t 132), none, [12]⟩,
 ⟨some 134, .bin .and (.t 131) (.t 133), none, [11, 13]⟩,
 ⟨some 135, .mov (.t 12), none, []⟩,
 ⟨some 136, .un .xor (.t 135), none, [15]⟩,
 ⟨some 137, .iaddrA 8 0 (.t 9) (.c (.int .i64 6)), none, []⟩,
 ⟨some 138, .load false 1 (.t 137), none, [17]⟩,
 ⟨some 139, .bin .and (.t 136) (.t 138), none, [16, 18]⟩,
 ⟨some 140, .bin .xor (.t 134) (.t 139), none, [14, 19]⟩,
 ⟨some 141, .bin .add (.t 130) (.t 140), none, [10, 20]⟩,
 ⟨some 142, .mov (.t 10), none, []⟩,
 ⟨some 143, .iaddrA 64 0 (.t 3) (.t 142), none, [22]⟩,
 ⟨some 144, .load false 1 (.t 143), none, [23]⟩,
 ⟨some 145, .bin .add (.t 141) (.t 144), none, [21, 24]⟩,
 ⟨some 146, .mov (.t 10), none, []⟩,
 ⟨some 147, .iaddrA 64 0 (.t 5) (.t 146), none, [26]⟩,
 ⟨some 148, .load false 1 (.t 147), none, [27]⟩,
 ⟨some 149, .bin .add (.t 145) (.t 148), none, [25, 28]⟩,
 ⟨some 13, .mov (.t 149), none, [29, 8, 0, 1, 2, 3, 4, 5, 6, 7, 8, 9, 10, 11, 12, 13, 14, 15, 16, 17, 18, 19, 20, 21, 22, 23, 24, 25, 26, 27, 28, 29]⟩])
 (.seq none
 (.draw [
 ⟨some 150, .mov (.t 11), none, []⟩,
 ⟨some 151, .call 147 [(.t 150), (.c (.int .i64 2))], none, [0]⟩,
 ⟨some 152, .mov (.t 11), none, []⟩,
 ⟨some 153, .call 147 [(.t 152), (.c (.int .i64 13))], none, [2, 1]⟩,
 ⟨some 154, .bin .xor (.t 151) (.t 153), none, [1, 3]⟩,
 ⟨some 155, .mov (.t 11), none, []⟩,
 ⟨some 156, .call 147 [(.t 155), (.c (.int .i64 22))], none, [5, 3]⟩,
 ⟨some 157, .bin .xor (.t 154) (.t 156), none, [4, 6]⟩,
 ⟨some 158, .mov (.t 11), none, []⟩,
 ⟨some 159, .iaddrA 8 0 (.t 9) (.c (.int .i64 1)), none, []⟩,
 ⟨some 160, .load false 1 (.t 159), none, [9]⟩,
 ⟨some 161, .bin .and (.t 158) (.t 160), none, [8, 10]⟩,
 ⟨some 162, .mov (.t 11), none, []⟩,
 ⟨some 163, .iaddrA 8 0 (.t 9) (.c (.int .i64 2)), none, []⟩,
 ⟨some 164, .load false 1 (.t 163), none, [13]⟩,
 ⟨some 165, .bin .and (.t 162) (.t 164), none, [12, 14]⟩,
 ⟨some 166, .bin .xor (.t 161) (.t 165), none, [11, 15]⟩,
 ⟨some 167, .iaddrA 8 0 (.t 9) (.c (.int .i64 1)), none, []⟩,
 ⟨some 168, .load false 1 (.t 167), none, [17]⟩,
 ⟨some 169, .iaddrA 8 0 (.t 9) (.c (.int .i64 2)), none, []⟩,
 ⟨some 170, .load false 1 (.t 169), none, [19]⟩,
 ⟨some 171, .bin .and (.t 168) (.t 170), none, [18, 20]⟩,
 ⟨some 172, .bin .xor (.t 166) (.t 171), none, [16, 21]⟩,
 ⟨some 173, .bin .add (.t 157) (.t 172), none, [7, 22]⟩,
 ⟨some 14, .mov (.t 173), none, [23, 6, 0, 1, 2, 3, 4, 5, 6, 7, 8, 9, 10, 11, 12, 13, 14, 15, 16, 17, 18, 19, 20, 21, 22, 23]⟩])
 (.reg [
 ⟨some 174, .mov (.t 13), none, []⟩,
 ⟨some 175, .mov (.t 14), none, []⟩,
 ⟨some 176, .bin .add (.t 174) (.t 175), none, []⟩,
 ⟨some 177, .mov (.t 11), none, []⟩,
 ⟨some 178, .iaddrA 8 0 (.t 9) (.c (.int .i64 1)), none, []⟩,
 ⟨some 179, .load false 1 (.t 178), none, []⟩,
 ⟨some 180, .iaddrA 8 0 (.t 9) (.c (.int .i64 2)), none, []⟩,
 ⟨some 181, .load false 1 (.t 180), none, []⟩,
 ⟨some 182, .iaddrA 8 0 (.t 9) (.c (.int .i64 3)), none, []⟩,
 ⟨some 183, .load false 1 (.t 182), none, []⟩,
 ⟨some 184, .mov (.t 13), none, []⟩,
 ⟨some 185, .bin .add (.t 183) (.t 184), none, []⟩,
 ⟨some 186, .mov (.t 12), none, []⟩,
 ⟨some 187, .iaddrA 8 0 (.t 9) (.c (.int .i64 5)), none, []⟩,
 ⟨some 188, .load false 1 (.t 187), none, []⟩,
 ⟨some 189, .iaddrA 8 0 (.t 9) (.c (.int .i64 6)), none, []⟩,
 ⟨some 190, .load false 1 (.t 189), none, []⟩,
 ⟨some 191, .build [.ints .u32 8 (List.replicate 8 0)] [(0, 1, (.t 176)), (1, 1, (.t 177)), (2, 1, (.t 179)), (3, 1, (.t 181)), (4, 1, (.t 185)), (5, 1, (.t 186)), (6, 1, (.t 188)), (7, 1, (.t 190))], none, []⟩,
 ⟨none, .store 8 (.t 9) (.t 191), none, []⟩]))))))
 (.reg [
 ⟨some 192, .bin .add (.t 113) (.c (.int .i64 1)), none, []⟩,
 ⟨some 113, .mov (.t 192), none, []⟩])))))))
 (.seq none
 (.reg [
 ⟨some 193, .mov (.c (.int .i64 0)), none, []⟩])
 (.block 6 none
 (.loop 1000000 none
 (.seq none
 (.reg [
 ⟨some 194, .bin .lss (.t 193) (.c (.int .i64 8)), none, []⟩])
 (.seq none
 (.cond (.t 194)
 .skip
 (.exit 6))
 (.seq none
 (.block 7 none
 (.seq none
 (.reg [
 ⟨some 195, .mov (.t 193), none, []⟩,
 ⟨some 15, .mov (.t 195), none, []⟩])
 (.draw [
 ⟨some 196, .mov (.t 15), none, []⟩,
 ⟨some 197, .iaddrA 8 0 (.t 4) (.t 196), none, [0]⟩,
 ⟨some 198, .load false 1 (.t 197), none, [1]⟩,
 ⟨some 199, .mov (.t 15), none, []⟩,
 ⟨some 200, .iaddrA 8 0 (.t 9) (.t 199), none, [3]⟩,
 ⟨some 201, .load false 1 (.t 200), none, [4]⟩,
 ⟨some 202, .bin .add (.t 198) (.t 201), none, [2, 5]⟩,
 ⟨some 203, .iaddrA 8 0 (.t 4) (.t 196), none, [0, 0, 1, 2, 3, 4, 5, 6]⟩,
 ⟨none, .store 1 (.t 203) (.t 202), none, [7, 6, 0, 1, 2, 3, 4, 5, 6]⟩])))
 (.reg [
 ⟨some 204, .bin .add (.t 193) (.c (.int .i64 1)), none, []⟩,
 ⟨some 193, .mov (.t 204), none, []⟩]))))))))))))
 (.reg [
 ⟨some 32, .mov (.t 0), none, []⟩,
 ⟨some 33, .slSlice 1 (.t 32) (some (.c (.int .i64 64))) none none, none, []⟩,
 ⟨some 0, .mov (.t 33), none, []⟩])))))
 (.seq none
 (.reg [
 ⟨some 16, .alloc [.ints .u8 32 (List.replicate 32 0)], none, []⟩])
 (.seq none
 (.seq none
 (.reg [
 ⟨some 205, .load true 8 (.t 4), none, []⟩,
 ⟨some 206, .mov (.c (.int .i64 0)), none, []⟩])
 (.block 8 none
 (.loop 1000000 none
 (.seq none
 (.reg [
 ⟨some 207, .bin .lss (.t 206) (.c (.int .i64 8)), none, []⟩])
 (.seq none
 (.cond (.t 207)
 .skip
 (.exit 8))
 (.seq none
 (.block 9 none
 (.seq none
 (.reg [
 ⟨some 208, .mov (.t 206), none, []⟩,
 ⟨some 209, .idxA false 8 1 (.t 205) (.t 206), none, []⟩,
 ⟨some 17, .mov (.t 208), none, []⟩,
 ⟨some 18, .mov (.t 209), none, []⟩])
 (.seq none
 (.reg [
 ⟨some 210, .mov (.c (.int .i64 0)), none, []⟩])
 (.block 10 none
 (.loop 1000000 none
 (.seq none
 (.reg [
 ⟨some 211, .bin .lss (.t 210) (.c (.int .i64 4)), none, []⟩])
 (.seq none
 (.cond (.t 211)
 .skip
 (.exit 10))
 (.seq none
 (.block 11 none
 (.seq none
 (.reg [
 ⟨some 212, .mov (.t 210), none, []⟩,
 ⟨some 19, .mov (.t 212), none, []⟩])
 (.reg [
 ⟨some 213, .mov (.t 17), none, []⟩,
 ⟨some 214, .bin .mul (.c (.int .i64 4)) (.t 213), none, []⟩,
 ⟨some 215, .mov (.t 19), none, []⟩,
 ⟨some 216, .bin .add (.t 214) (.t 215), none, []⟩,
 ⟨some 217, .mov (.t 18), none, []⟩,
 ⟨some 218, .mov (.t 19), none, []⟩,
 ⟨some 219, .bin .mul (.c (.int .i64 8)) (.t 218), none, []⟩,
 ⟨some 220, .bin .sub (.c (.int .i64 24)) (.t 219), none, []⟩,
 ⟨some 221, .bin .shr (.t 217) (.t 220), none, []⟩,
 ⟨some 222, .toInt .u8 (.t 221), none, []⟩,
 ⟨some 223, .iaddrA 32 0 (.t 16) (.t 216), none, []⟩,
 ⟨none, .store 1 (.t 223) (.t 222), none, []⟩])))
 (.reg [
 ⟨some 224, .bin .add (.t 210) (.c (.int .i64 1)), none, []⟩,
 ⟨some 210, .mov (.t 224), none, []⟩])))))))))
 (.reg [
 ⟨some 225, .bin .add (.t 206) (.c (.int .i64 1)), none, []⟩,
 ⟨some 206, .mov (.t 225), none, []⟩])))))))
 (.seq none
 (.reg [
 ⟨some 226, .load true 32 (.t 16), none, []⟩,
 ⟨none, .store 32 (.t 2) (.t 226), none, []⟩])
 .ret))))))))⟩
def id_field_word : Nat := 120
def af_field_word : AFn := ⟨23, [.t 2],
 (.seq none
 (.reg [
 ⟨some 2, .mov (.c (.int .u64 0)), none, []⟩])
 (.seq none
 (.reg [
 ⟨some 3, .mov (.c (.int .u64 0)), none, []⟩])
 (.seq none
 (.seq none
 (.reg [
 ⟨some 6, .mov (.t 0), none, []⟩,
 ⟨some 7, .slSlice 1 (.t 6) none (some (.c (.int .i64 8))) none, none, []⟩,
 ⟨some 8, .len false (.t 7), none, []⟩,
 ⟨some 9, .mov (.c (.int .i64 0)), none, []⟩])
 (.block 0 none
 (.loop 1000000 none
 (.seq none
 (.reg [
 ⟨some 10, .bin .lss (.t 9) (.t 8), none, []⟩])
 (.seq none
 (.cond (.t 10)
 .skip
 (.exit 0))
 (.seq none
 (.block 1 none
 (.seq none
 (.reg [
 ⟨some 11, .mov (.t 9), none, []⟩,
 ⟨some 12, .iaddrS 1 (.t 7) (.t 9), none, []⟩,
 ⟨some 13, .load false 1 (.t 12), none, []⟩,
 ⟨some 4, .mov (.t 11), none, []⟩,
 ⟨some 5, .mov (.t 13), none, []⟩])
 (.reg [
 ⟨some 14, .mov (.t 3), none, []⟩,
 ⟨some 15, .mov (.t 5), none, []⟩,
 ⟨some 16, .toInt .u64 (.t 15), none, []⟩,
 ⟨some 17, .mov (.t 4), none, []⟩,
 ⟨some 18, .bin .mul (.c (.int .i64 8)) (.t 17), none, []⟩,
 ⟨some 19, .bin .shl (.t 16) (.t 18), none, []⟩,
 ⟨some 20, .bin .or (.t 14) (.t 19), none, []⟩,
 ⟨some 3, .mov (.t 20), none, []⟩])))
 (.reg [
 ⟨some 21, .bin .add (.t 9) (.c (.int .i64 1)), none, []⟩,
 ⟨some 9, .mov (.t 21), none, []⟩])))))))
 (.seq none
 (.reg [
 ⟨some 22, .mov (.t 3), none, []⟩,
 ⟨some 2, .mov (.t 22), none, []⟩])
 .ret))))⟩
def id_octet_Zero : Nat := 121
def af_octet_Zero : AFn := ⟨18, [.t 2],
 (.seq none
 (.reg [
 ⟨some 2, .mov (.c (.bool false)), none, []⟩])
 (.seq none
 (.reg [
 ⟨some 3, .mov (.c (.int .u8 0)), none, []⟩])
 (.seq none
 (.seq none
 (.reg [
 ⟨some 6, .mov (.t 0), none, []⟩,
 ⟨some 7, .len false (.t 6), none, []⟩,
 ⟨some 8, .mov (.c (.int .i64 0)), none, []⟩])
 (.block 0 none
 (.loop 1000000 none
 (.seq none
 (.reg [
 ⟨some 9, .bin .lss (.t 8) (.t 7), none, []⟩])
 (.seq none
 (.cond (.t 9)
 .skip
 (.exit 0))
 (.seq none
 (.block 1 none
 (.seq none
 (.reg [
 ⟨some 10, .iaddrS 1 (.t 6) (.t 8), none, []⟩,
 ⟨some 11, .load false 1 (.t 10), none, []⟩,
 ⟨some 5, .mov (.t 11), none, []⟩])
 (.reg [
 ⟨some 12, .mov (.t 3), none, []⟩,
 ⟨some 13, .mov (.t 5), none, []⟩,
 ⟨some 14, .bin .or (.t 12) (.t 13), none, []⟩,
 ⟨some 3, .mov (.t 14), none, []⟩])))
 (.reg [
 ⟨some 15, .bin .add (.t 8) (.c (.int .i64 1)), none, []⟩,
 ⟨some 8, .mov (.t 15), none, []⟩])))))))
 (.seq none
 (.reg [
 ⟨some 16, .mov (.t 3), none, []⟩,
 ⟨some 17, .bin .eql (.t 16) (.c (.int .u8 0)), none, []⟩,
 ⟨some 2, .mov (.t 17), none, []⟩])
 .ret))))⟩
end Go.Am
