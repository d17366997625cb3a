/- The table of the types of this seat's program, and that it is the program's own. -/
import Derived.Test.YtloknkdomgeolaaSheU
import Derived.Test.YtloknkdomgeolaaProg
namespace Go.Proofs.Ytloknkdomgeolaa.She
set_option linter.all false
open Go
noncomputable def ti1 : TI := ⟨.func, 1, 8, [.nilFunc]⟩
theorem ti1_ok : TOk Try.prog 1 ti1 := ⟨⟨_, _, _, rfl⟩, ⟨_, _, rfl, rfl, rfl, rfl, rfl, fun h => Bool.noConfusion h, fun _ => rfl⟩, rfl⟩
noncomputable def ti2 : TI := ⟨.int .i64, 1, 8, [.int .i64 0]⟩
theorem ti2_ok : TOk Try.prog 2 ti2 := ⟨rfl, ⟨_, _, rfl, rfl, rfl, rfl, rfl, fun h => Bool.noConfusion h, fun _ => rfl⟩, rfl⟩
noncomputable def ti3 : TI := ⟨.int .i64, 1, 8, [.int .i64 0]⟩
theorem ti3_ok : TOk Try.prog 3 ti3 := ⟨rfl, ⟨_, _, rfl, rfl, rfl, rfl, rfl, fun h => Bool.noConfusion h, fun _ => rfl⟩, rfl⟩
noncomputable def ti4 : TI := ⟨.bool, 1, 1, [.bool false]⟩
theorem ti4_ok : TOk Try.prog 4 ti4 := ⟨rfl, ⟨_, _, rfl, rfl, rfl, rfl, rfl, fun h => Bool.noConfusion h, fun _ => rfl⟩, rfl⟩
noncomputable def ti5 : TI := ⟨.int .u8, 1, 1, [.int .u8 0]⟩
theorem ti5_ok : TOk Try.prog 5 ti5 := ⟨rfl, ⟨_, _, rfl, rfl, rfl, rfl, rfl, fun h => Bool.noConfusion h, fun _ => rfl⟩, rfl⟩
noncomputable def ti6 : TI := ⟨.int .u8, 1, 1, [.int .u8 0]⟩
theorem ti6_ok : TOk Try.prog 6 ti6 := ⟨rfl, ⟨_, _, rfl, rfl, rfl, rfl, rfl, fun h => Bool.noConfusion h, fun _ => rfl⟩, rfl⟩
noncomputable def ti7 : TI := ⟨.struct [(0, 2), (1, 3), (2, 4), (3, 6)], 4, 24, [.int .i64 0, .int .i64 0, .bool false, .int .u8 0]⟩
theorem ti7_ok : TOk Try.prog 7 ti7 := ⟨⟨_, rfl, rfl⟩, ⟨_, _, rfl, rfl, rfl, rfl, rfl, fun _ => rfl, fun h => Bool.noConfusion h⟩, rfl⟩
noncomputable def ti8 : TI := ⟨.struct [(0, 2), (1, 3), (2, 4), (3, 6)], 4, 24, [.int .i64 0, .int .i64 0, .bool false, .int .u8 0]⟩
theorem ti8_ok : TOk Try.prog 8 ti8 := ⟨⟨_, rfl, rfl⟩, ⟨_, _, rfl, rfl, rfl, rfl, rfl, fun _ => rfl, fun h => Bool.noConfusion h⟩, rfl⟩
noncomputable def ti9 : TI := ⟨.str, 1, 16, [.string ⟨⟨[]⟩⟩]⟩
theorem ti9_ok : TOk Try.prog 9 ti9 := ⟨rfl, ⟨_, _, rfl, rfl, rfl, rfl, rfl, fun h => Bool.noConfusion h, fun _ => rfl⟩, rfl⟩
noncomputable def ti10 : TI := ⟨.str, 1, 16, [.string ⟨⟨[]⟩⟩]⟩
theorem ti10_ok : TOk Try.prog 10 ti10 := ⟨rfl, ⟨_, _, rfl, rfl, rfl, rfl, rfl, fun h => Bool.noConfusion h, fun _ => rfl⟩, rfl⟩
noncomputable def ti11 : TI := ⟨.str, 1, 16, [.string ⟨⟨[]⟩⟩]⟩
theorem ti11_ok : TOk Try.prog 11 ti11 := ⟨rfl, ⟨_, _, rfl, rfl, rfl, rfl, rfl, fun h => Bool.noConfusion h, fun _ => rfl⟩, rfl⟩
noncomputable def ti12 : TI := ⟨.int .u64, 1, 8, [.int .u64 0]⟩
theorem ti12_ok : TOk Try.prog 12 ti12 := ⟨rfl, ⟨_, _, rfl, rfl, rfl, rfl, rfl, fun h => Bool.noConfusion h, fun _ => rfl⟩, rfl⟩
noncomputable def ti13 : TI := ⟨.struct [(0, 9), (1, 12)], 2, 24, [.string ⟨⟨[]⟩⟩, .int .u64 0]⟩
theorem ti13_ok : TOk Try.prog 13 ti13 := ⟨⟨_, rfl, rfl⟩, ⟨_, _, rfl, rfl, rfl, rfl, rfl, fun _ => rfl, fun h => Bool.noConfusion h⟩, rfl⟩
noncomputable def ti14 : TI := ⟨.struct [(0, 9), (1, 12)], 2, 24, [.string ⟨⟨[]⟩⟩, .int .u64 0]⟩
theorem ti14_ok : TOk Try.prog 14 ti14 := ⟨⟨_, rfl, rfl⟩, ⟨_, _, rfl, rfl, rfl, rfl, rfl, fun _ => rfl, fun h => Bool.noConfusion h⟩, rfl⟩
noncomputable def ti15 : TI := ⟨.ptr 101, 1, 8, [.pointer none]⟩
theorem ti15_ok : TOk Try.prog 15 ti15 := ⟨rfl, ⟨_, _, rfl, rfl, rfl, rfl, rfl, fun h => Bool.noConfusion h, fun _ => rfl⟩, rfl⟩
noncomputable def ti16 : TI := ⟨.ptr 104, 1, 8, [.pointer none]⟩
theorem ti16_ok : TOk Try.prog 16 ti16 := ⟨rfl, ⟨_, _, rfl, rfl, rfl, rfl, rfl, fun h => Bool.noConfusion h, fun _ => rfl⟩, rfl⟩
noncomputable def ti17 : TI := ⟨.ptr 114, 1, 8, [.pointer none]⟩
theorem ti17_ok : TOk Try.prog 17 ti17 := ⟨rfl, ⟨_, _, rfl, rfl, rfl, rfl, rfl, fun h => Bool.noConfusion h, fun _ => rfl⟩, rfl⟩
noncomputable def ti18 : TI := ⟨.struct [(0, 17)], 1, 8, [.pointer none]⟩
theorem ti18_ok : TOk Try.prog 18 ti18 := ⟨⟨_, rfl, rfl⟩, ⟨_, _, rfl, rfl, rfl, rfl, rfl, fun _ => rfl, fun h => Bool.noConfusion h⟩, rfl⟩
noncomputable def ti19 : TI := ⟨.struct [(0, 17)], 1, 8, [.pointer none]⟩
theorem ti19_ok : TOk Try.prog 19 ti19 := ⟨⟨_, rfl, rfl⟩, ⟨_, _, rfl, rfl, rfl, rfl, rfl, fun _ => rfl, fun h => Bool.noConfusion h⟩, rfl⟩
noncomputable def ti21 : TI := ⟨.int .i32, 1, 4, [.int .i32 0]⟩
theorem ti21_ok : TOk Try.prog 21 ti21 := ⟨rfl, ⟨_, _, rfl, rfl, rfl, rfl, rfl, fun h => Bool.noConfusion h, fun _ => rfl⟩, rfl⟩
noncomputable def ti22 : TI := ⟨.int .i64, 1, 8, [.int .i64 0]⟩
theorem ti22_ok : TOk Try.prog 22 ti22 := ⟨rfl, ⟨_, _, rfl, rfl, rfl, rfl, rfl, fun h => Bool.noConfusion h, fun _ => rfl⟩, rfl⟩
noncomputable def ti24 : TI := ⟨.func, 1, 8, [.nilFunc]⟩
theorem ti24_ok : TOk Try.prog 24 ti24 := ⟨⟨_, _, _, rfl⟩, ⟨_, _, rfl, rfl, rfl, rfl, rfl, fun h => Bool.noConfusion h, fun _ => rfl⟩, rfl⟩
noncomputable def ti25 : TI := ⟨.func, 1, 8, [.nilFunc]⟩
theorem ti25_ok : TOk Try.prog 25 ti25 := ⟨⟨_, _, _, rfl⟩, ⟨_, _, rfl, rfl, rfl, rfl, rfl, fun h => Bool.noConfusion h, fun _ => rfl⟩, rfl⟩
noncomputable def ti26 : TI := ⟨.func, 1, 8, [.nilFunc]⟩
theorem ti26_ok : TOk Try.prog 26 ti26 := ⟨⟨_, _, _, rfl⟩, ⟨_, _, rfl, rfl, rfl, rfl, rfl, fun h => Bool.noConfusion h, fun _ => rfl⟩, rfl⟩
noncomputable def ti27 : TI := ⟨.func, 1, 8, [.nilFunc]⟩
theorem ti27_ok : TOk Try.prog 27 ti27 := ⟨⟨_, _, _, rfl⟩, ⟨_, _, rfl, rfl, rfl, rfl, rfl, fun h => Bool.noConfusion h, fun _ => rfl⟩, rfl⟩
noncomputable def ti28 : TI := ⟨.func, 1, 8, [.nilFunc]⟩
theorem ti28_ok : TOk Try.prog 28 ti28 := ⟨⟨_, _, _, rfl⟩, ⟨_, _, rfl, rfl, rfl, rfl, rfl, fun h => Bool.noConfusion h, fun _ => rfl⟩, rfl⟩
noncomputable def ti29 : TI := ⟨.slice 33, 1, 24, [.slice none 0 0]⟩
theorem ti29_ok : TOk Try.prog 29 ti29 := ⟨rfl, ⟨_, _, rfl, rfl, rfl, rfl, rfl, fun h => Bool.noConfusion h, fun _ => rfl⟩, rfl⟩
noncomputable def ti30 : TI := ⟨.slice 9, 1, 24, [.slice none 0 0]⟩
theorem ti30_ok : TOk Try.prog 30 ti30 := ⟨rfl, ⟨_, _, rfl, rfl, rfl, rfl, rfl, fun h => Bool.noConfusion h, fun _ => rfl⟩, rfl⟩
noncomputable def ti31 : TI := ⟨.func, 1, 8, [.nilFunc]⟩
theorem ti31_ok : TOk Try.prog 31 ti31 := ⟨⟨_, _, _, rfl⟩, ⟨_, _, rfl, rfl, rfl, rfl, rfl, fun h => Bool.noConfusion h, fun _ => rfl⟩, rfl⟩
noncomputable def ti32 : TI := ⟨.struct [(0, 3), (1, 3), (2, 9)], 3, 32, [.int .i64 0, .int .i64 0, .string ⟨⟨[]⟩⟩]⟩
theorem ti32_ok : TOk Try.prog 32 ti32 := ⟨⟨_, rfl, rfl⟩, ⟨_, _, rfl, rfl, rfl, rfl, rfl, fun _ => rfl, fun h => Bool.noConfusion h⟩, rfl⟩
noncomputable def ti33 : TI := ⟨.struct [(0, 3), (1, 3), (2, 9)], 3, 32, [.int .i64 0, .int .i64 0, .string ⟨⟨[]⟩⟩]⟩
theorem ti33_ok : TOk Try.prog 33 ti33 := ⟨⟨_, rfl, rfl⟩, ⟨_, _, rfl, rfl, rfl, rfl, rfl, fun _ => rfl, fun h => Bool.noConfusion h⟩, rfl⟩
noncomputable def ti35 : TI := ⟨.func, 1, 8, [.nilFunc]⟩
theorem ti35_ok : TOk Try.prog 35 ti35 := ⟨⟨_, _, _, rfl⟩, ⟨_, _, rfl, rfl, rfl, rfl, rfl, fun h => Bool.noConfusion h, fun _ => rfl⟩, rfl⟩
noncomputable def ti36 : TI := ⟨.func, 1, 8, [.nilFunc]⟩
theorem ti36_ok : TOk Try.prog 36 ti36 := ⟨⟨_, _, _, rfl⟩, ⟨_, _, rfl, rfl, rfl, rfl, rfl, fun h => Bool.noConfusion h, fun _ => rfl⟩, rfl⟩
noncomputable def ti37 : TI := ⟨.func, 1, 8, [.nilFunc]⟩
theorem ti37_ok : TOk Try.prog 37 ti37 := ⟨⟨_, _, _, rfl⟩, ⟨_, _, rfl, rfl, rfl, rfl, rfl, fun h => Bool.noConfusion h, fun _ => rfl⟩, rfl⟩
noncomputable def ti39 : TI := ⟨.func, 1, 8, [.nilFunc]⟩
theorem ti39_ok : TOk Try.prog 39 ti39 := ⟨⟨_, _, _, rfl⟩, ⟨_, _, rfl, rfl, rfl, rfl, rfl, fun h => Bool.noConfusion h, fun _ => rfl⟩, rfl⟩
noncomputable def ti40 : TI := ⟨.func, 1, 8, [.nilFunc]⟩
theorem ti40_ok : TOk Try.prog 40 ti40 := ⟨⟨_, _, _, rfl⟩, ⟨_, _, rfl, rfl, rfl, rfl, rfl, fun h => Bool.noConfusion h, fun _ => rfl⟩, rfl⟩
noncomputable def ti41 : TI := ⟨.func, 1, 8, [.nilFunc]⟩
theorem ti41_ok : TOk Try.prog 41 ti41 := ⟨⟨_, _, _, rfl⟩, ⟨_, _, rfl, rfl, rfl, rfl, rfl, fun h => Bool.noConfusion h, fun _ => rfl⟩, rfl⟩
noncomputable def ti42 : TI := ⟨.func, 1, 8, [.nilFunc]⟩
theorem ti42_ok : TOk Try.prog 42 ti42 := ⟨⟨_, _, _, rfl⟩, ⟨_, _, rfl, rfl, rfl, rfl, rfl, fun h => Bool.noConfusion h, fun _ => rfl⟩, rfl⟩
noncomputable def ti43 : TI := ⟨.func, 1, 8, [.nilFunc]⟩
theorem ti43_ok : TOk Try.prog 43 ti43 := ⟨⟨_, _, _, rfl⟩, ⟨_, _, rfl, rfl, rfl, rfl, rfl, fun h => Bool.noConfusion h, fun _ => rfl⟩, rfl⟩
noncomputable def ti44 : TI := ⟨.func, 1, 8, [.nilFunc]⟩
theorem ti44_ok : TOk Try.prog 44 ti44 := ⟨⟨_, _, _, rfl⟩, ⟨_, _, rfl, rfl, rfl, rfl, rfl, fun h => Bool.noConfusion h, fun _ => rfl⟩, rfl⟩
noncomputable def ti45 : TI := ⟨.func, 1, 8, [.nilFunc]⟩
theorem ti45_ok : TOk Try.prog 45 ti45 := ⟨⟨_, _, _, rfl⟩, ⟨_, _, rfl, rfl, rfl, rfl, rfl, fun h => Bool.noConfusion h, fun _ => rfl⟩, rfl⟩
noncomputable def ti46 : TI := ⟨.func, 1, 8, [.nilFunc]⟩
theorem ti46_ok : TOk Try.prog 46 ti46 := ⟨⟨_, _, _, rfl⟩, ⟨_, _, rfl, rfl, rfl, rfl, rfl, fun h => Bool.noConfusion h, fun _ => rfl⟩, rfl⟩
noncomputable def ti47 : TI := ⟨.func, 1, 8, [.nilFunc]⟩
theorem ti47_ok : TOk Try.prog 47 ti47 := ⟨⟨_, _, _, rfl⟩, ⟨_, _, rfl, rfl, rfl, rfl, rfl, fun h => Bool.noConfusion h, fun _ => rfl⟩, rfl⟩
noncomputable def ti48 : TI := ⟨.func, 1, 8, [.nilFunc]⟩
theorem ti48_ok : TOk Try.prog 48 ti48 := ⟨⟨_, _, _, rfl⟩, ⟨_, _, rfl, rfl, rfl, rfl, rfl, fun h => Bool.noConfusion h, fun _ => rfl⟩, rfl⟩
noncomputable def ti49 : TI := ⟨.func, 1, 8, [.nilFunc]⟩
theorem ti49_ok : TOk Try.prog 49 ti49 := ⟨⟨_, _, _, rfl⟩, ⟨_, _, rfl, rfl, rfl, rfl, rfl, fun h => Bool.noConfusion h, fun _ => rfl⟩, rfl⟩
noncomputable def ti50 : TI := ⟨.func, 1, 8, [.nilFunc]⟩
theorem ti50_ok : TOk Try.prog 50 ti50 := ⟨⟨_, _, _, rfl⟩, ⟨_, _, rfl, rfl, rfl, rfl, rfl, fun h => Bool.noConfusion h, fun _ => rfl⟩, rfl⟩
noncomputable def ti51 : TI := ⟨.slice 70, 1, 24, [.slice none 0 0]⟩
theorem ti51_ok : TOk Try.prog 51 ti51 := ⟨rfl, ⟨_, _, rfl, rfl, rfl, rfl, rfl, fun h => Bool.noConfusion h, fun _ => rfl⟩, rfl⟩
noncomputable def ti52 : TI := ⟨.struct [(0, 4), (1, 51)], 2, 32, [.bool false, .slice none 0 0]⟩
theorem ti52_ok : TOk Try.prog 52 ti52 := ⟨⟨_, rfl, rfl⟩, ⟨_, _, rfl, rfl, rfl, rfl, rfl, fun _ => rfl, fun h => Bool.noConfusion h⟩, rfl⟩
noncomputable def ti53 : TI := ⟨.struct [(0, 4), (1, 51)], 2, 32, [.bool false, .slice none 0 0]⟩
theorem ti53_ok : TOk Try.prog 53 ti53 := ⟨⟨_, rfl, rfl⟩, ⟨_, _, rfl, rfl, rfl, rfl, rfl, fun _ => rfl, fun h => Bool.noConfusion h⟩, rfl⟩
noncomputable def ti54 : TI := ⟨.func, 1, 8, [.nilFunc]⟩
theorem ti54_ok : TOk Try.prog 54 ti54 := ⟨⟨_, _, _, rfl⟩, ⟨_, _, rfl, rfl, rfl, rfl, rfl, fun h => Bool.noConfusion h, fun _ => rfl⟩, rfl⟩
noncomputable def ti55 : TI := ⟨.func, 1, 8, [.nilFunc]⟩
theorem ti55_ok : TOk Try.prog 55 ti55 := ⟨⟨_, _, _, rfl⟩, ⟨_, _, rfl, rfl, rfl, rfl, rfl, fun h => Bool.noConfusion h, fun _ => rfl⟩, rfl⟩
noncomputable def ti56 : TI := ⟨.slice 87, 1, 24, [.slice none 0 0]⟩
theorem ti56_ok : TOk Try.prog 56 ti56 := ⟨rfl, ⟨_, _, rfl, rfl, rfl, rfl, rfl, fun h => Bool.noConfusion h, fun _ => rfl⟩, rfl⟩
noncomputable def ti57 : TI := ⟨.struct [(0, 4), (1, 56)], 2, 32, [.bool false, .slice none 0 0]⟩
theorem ti57_ok : TOk Try.prog 57 ti57 := ⟨⟨_, rfl, rfl⟩, ⟨_, _, rfl, rfl, rfl, rfl, rfl, fun _ => rfl, fun h => Bool.noConfusion h⟩, rfl⟩
noncomputable def ti58 : TI := ⟨.struct [(0, 4), (1, 56)], 2, 32, [.bool false, .slice none 0 0]⟩
theorem ti58_ok : TOk Try.prog 58 ti58 := ⟨⟨_, rfl, rfl⟩, ⟨_, _, rfl, rfl, rfl, rfl, rfl, fun _ => rfl, fun h => Bool.noConfusion h⟩, rfl⟩
noncomputable def ti59 : TI := ⟨.func, 1, 8, [.nilFunc]⟩
theorem ti59_ok : TOk Try.prog 59 ti59 := ⟨⟨_, _, _, rfl⟩, ⟨_, _, rfl, rfl, rfl, rfl, rfl, fun h => Bool.noConfusion h, fun _ => rfl⟩, rfl⟩
noncomputable def ti60 : TI := ⟨.func, 1, 8, [.nilFunc]⟩
theorem ti60_ok : TOk Try.prog 60 ti60 := ⟨⟨_, _, _, rfl⟩, ⟨_, _, rfl, rfl, rfl, rfl, rfl, fun h => Bool.noConfusion h, fun _ => rfl⟩, rfl⟩
noncomputable def ti62 : TI := ⟨.func, 1, 8, [.nilFunc]⟩
theorem ti62_ok : TOk Try.prog 62 ti62 := ⟨⟨_, _, _, rfl⟩, ⟨_, _, rfl, rfl, rfl, rfl, rfl, fun h => Bool.noConfusion h, fun _ => rfl⟩, rfl⟩
noncomputable def ti63 : TI := ⟨.func, 1, 8, [.nilFunc]⟩
theorem ti63_ok : TOk Try.prog 63 ti63 := ⟨⟨_, _, _, rfl⟩, ⟨_, _, rfl, rfl, rfl, rfl, rfl, fun h => Bool.noConfusion h, fun _ => rfl⟩, rfl⟩
noncomputable def ti64 : TI := ⟨.func, 1, 8, [.nilFunc]⟩
theorem ti64_ok : TOk Try.prog 64 ti64 := ⟨⟨_, _, _, rfl⟩, ⟨_, _, rfl, rfl, rfl, rfl, rfl, fun h => Bool.noConfusion h, fun _ => rfl⟩, rfl⟩
noncomputable def ti66 : TI := ⟨.func, 1, 8, [.nilFunc]⟩
theorem ti66_ok : TOk Try.prog 66 ti66 := ⟨⟨_, _, _, rfl⟩, ⟨_, _, rfl, rfl, rfl, rfl, rfl, fun h => Bool.noConfusion h, fun _ => rfl⟩, rfl⟩
noncomputable def ti68 : TI := ⟨.func, 1, 8, [.nilFunc]⟩
theorem ti68_ok : TOk Try.prog 68 ti68 := ⟨⟨_, _, _, rfl⟩, ⟨_, _, rfl, rfl, rfl, rfl, rfl, fun h => Bool.noConfusion h, fun _ => rfl⟩, rfl⟩
noncomputable def ti69 : TI := ⟨.struct [(0, 9), (1, 9), (2, 3)], 3, 40, [.string ⟨⟨[]⟩⟩, .string ⟨⟨[]⟩⟩, .int .i64 0]⟩
theorem ti69_ok : TOk Try.prog 69 ti69 := ⟨⟨_, rfl, rfl⟩, ⟨_, _, rfl, rfl, rfl, rfl, rfl, fun _ => rfl, fun h => Bool.noConfusion h⟩, rfl⟩
noncomputable def ti70 : TI := ⟨.struct [(0, 9), (1, 9), (2, 3)], 3, 40, [.string ⟨⟨[]⟩⟩, .string ⟨⟨[]⟩⟩, .int .i64 0]⟩
theorem ti70_ok : TOk Try.prog 70 ti70 := ⟨⟨_, rfl, rfl⟩, ⟨_, _, rfl, rfl, rfl, rfl, rfl, fun _ => rfl, fun h => Bool.noConfusion h⟩, rfl⟩
noncomputable def ti71 : TI := ⟨.func, 1, 8, [.nilFunc]⟩
theorem ti71_ok : TOk Try.prog 71 ti71 := ⟨⟨_, _, _, rfl⟩, ⟨_, _, rfl, rfl, rfl, rfl, rfl, fun h => Bool.noConfusion h, fun _ => rfl⟩, rfl⟩
noncomputable def ti72 : TI := ⟨.func, 1, 8, [.nilFunc]⟩
theorem ti72_ok : TOk Try.prog 72 ti72 := ⟨⟨_, _, _, rfl⟩, ⟨_, _, rfl, rfl, rfl, rfl, rfl, fun h => Bool.noConfusion h, fun _ => rfl⟩, rfl⟩
noncomputable def ti74 : TI := ⟨.func, 1, 8, [.nilFunc]⟩
theorem ti74_ok : TOk Try.prog 74 ti74 := ⟨⟨_, _, _, rfl⟩, ⟨_, _, rfl, rfl, rfl, rfl, rfl, fun h => Bool.noConfusion h, fun _ => rfl⟩, rfl⟩
noncomputable def ti75 : TI := ⟨.func, 1, 8, [.nilFunc]⟩
theorem ti75_ok : TOk Try.prog 75 ti75 := ⟨⟨_, _, _, rfl⟩, ⟨_, _, rfl, rfl, rfl, rfl, rfl, fun h => Bool.noConfusion h, fun _ => rfl⟩, rfl⟩
noncomputable def ti76 : TI := ⟨.slice 81, 1, 24, [.slice none 0 0]⟩
theorem ti76_ok : TOk Try.prog 76 ti76 := ⟨rfl, ⟨_, _, rfl, rfl, rfl, rfl, rfl, fun h => Bool.noConfusion h, fun _ => rfl⟩, rfl⟩
noncomputable def ti77 : TI := ⟨.func, 1, 8, [.nilFunc]⟩
theorem ti77_ok : TOk Try.prog 77 ti77 := ⟨⟨_, _, _, rfl⟩, ⟨_, _, rfl, rfl, rfl, rfl, rfl, fun h => Bool.noConfusion h, fun _ => rfl⟩, rfl⟩
noncomputable def ti78 : TI := ⟨.func, 1, 8, [.nilFunc]⟩
theorem ti78_ok : TOk Try.prog 78 ti78 := ⟨⟨_, _, _, rfl⟩, ⟨_, _, rfl, rfl, rfl, rfl, rfl, fun h => Bool.noConfusion h, fun _ => rfl⟩, rfl⟩
noncomputable def ti79 : TI := ⟨.slice 5, 1, 24, [.slice none 0 0]⟩
theorem ti79_ok : TOk Try.prog 79 ti79 := ⟨rfl, ⟨_, _, rfl, rfl, rfl, rfl, rfl, fun h => Bool.noConfusion h, fun _ => rfl⟩, rfl⟩
noncomputable def ti80 : TI := ⟨.array 2 3, 2, 16, [.int .i64 0, .int .i64 0]⟩
theorem ti80_ok : TOk Try.prog 80 ti80 := ⟨rfl, ⟨_, _, rfl, rfl, rfl, rfl, rfl, fun _ => rfl, fun h => Bool.noConfusion h⟩, rfl⟩
noncomputable def ti81 : TI := ⟨.array 2 3, 2, 16, [.int .i64 0, .int .i64 0]⟩
theorem ti81_ok : TOk Try.prog 81 ti81 := ⟨rfl, ⟨_, _, rfl, rfl, rfl, rfl, rfl, fun _ => rfl, fun h => Bool.noConfusion h⟩, rfl⟩
noncomputable def ti82 : TI := ⟨.func, 1, 8, [.nilFunc]⟩
theorem ti82_ok : TOk Try.prog 82 ti82 := ⟨⟨_, _, _, rfl⟩, ⟨_, _, rfl, rfl, rfl, rfl, rfl, fun h => Bool.noConfusion h, fun _ => rfl⟩, rfl⟩
noncomputable def ti83 : TI := ⟨.func, 1, 8, [.nilFunc]⟩
theorem ti83_ok : TOk Try.prog 83 ti83 := ⟨⟨_, _, _, rfl⟩, ⟨_, _, rfl, rfl, rfl, rfl, rfl, fun h => Bool.noConfusion h, fun _ => rfl⟩, rfl⟩
noncomputable def ti84 : TI := ⟨.slice 3, 1, 24, [.slice none 0 0]⟩
theorem ti84_ok : TOk Try.prog 84 ti84 := ⟨rfl, ⟨_, _, rfl, rfl, rfl, rfl, rfl, fun h => Bool.noConfusion h, fun _ => rfl⟩, rfl⟩
noncomputable def ti85 : TI := ⟨.func, 1, 8, [.nilFunc]⟩
theorem ti85_ok : TOk Try.prog 85 ti85 := ⟨⟨_, _, _, rfl⟩, ⟨_, _, rfl, rfl, rfl, rfl, rfl, fun h => Bool.noConfusion h, fun _ => rfl⟩, rfl⟩
noncomputable def ti86 : TI := ⟨.func, 1, 8, [.nilFunc]⟩
theorem ti86_ok : TOk Try.prog 86 ti86 := ⟨⟨_, _, _, rfl⟩, ⟨_, _, rfl, rfl, rfl, rfl, rfl, fun h => Bool.noConfusion h, fun _ => rfl⟩, rfl⟩
noncomputable def ti87 : TI := ⟨.struct [(0, 9), (1, 9), (2, 3)], 3, 40, [.string ⟨⟨[]⟩⟩, .string ⟨⟨[]⟩⟩, .int .i64 0]⟩
theorem ti87_ok : TOk Try.prog 87 ti87 := ⟨⟨_, rfl, rfl⟩, ⟨_, _, rfl, rfl, rfl, rfl, rfl, fun _ => rfl, fun h => Bool.noConfusion h⟩, rfl⟩
noncomputable def ti88 : TI := ⟨.func, 1, 8, [.nilFunc]⟩
theorem ti88_ok : TOk Try.prog 88 ti88 := ⟨⟨_, _, _, rfl⟩, ⟨_, _, rfl, rfl, rfl, rfl, rfl, fun h => Bool.noConfusion h, fun _ => rfl⟩, rfl⟩
noncomputable def ti89 : TI := ⟨.func, 1, 8, [.nilFunc]⟩
theorem ti89_ok : TOk Try.prog 89 ti89 := ⟨⟨_, _, _, rfl⟩, ⟨_, _, rfl, rfl, rfl, rfl, rfl, fun h => Bool.noConfusion h, fun _ => rfl⟩, rfl⟩
noncomputable def ti90 : TI := ⟨.int .u64, 1, 8, [.int .u64 0]⟩
theorem ti90_ok : TOk Try.prog 90 ti90 := ⟨rfl, ⟨_, _, rfl, rfl, rfl, rfl, rfl, fun h => Bool.noConfusion h, fun _ => rfl⟩, rfl⟩
noncomputable def ti91 : TI := ⟨.func, 1, 8, [.nilFunc]⟩
theorem ti91_ok : TOk Try.prog 91 ti91 := ⟨⟨_, _, _, rfl⟩, ⟨_, _, rfl, rfl, rfl, rfl, rfl, fun h => Bool.noConfusion h, fun _ => rfl⟩, rfl⟩
noncomputable def ti93 : TI := ⟨.func, 1, 8, [.nilFunc]⟩
theorem ti93_ok : TOk Try.prog 93 ti93 := ⟨⟨_, _, _, rfl⟩, ⟨_, _, rfl, rfl, rfl, rfl, rfl, fun h => Bool.noConfusion h, fun _ => rfl⟩, rfl⟩
noncomputable def ti94 : TI := ⟨.func, 1, 8, [.nilFunc]⟩
theorem ti94_ok : TOk Try.prog 94 ti94 := ⟨⟨_, _, _, rfl⟩, ⟨_, _, rfl, rfl, rfl, rfl, rfl, fun h => Bool.noConfusion h, fun _ => rfl⟩, rfl⟩
noncomputable def ti95 : TI := ⟨.func, 1, 8, [.nilFunc]⟩
theorem ti95_ok : TOk Try.prog 95 ti95 := ⟨⟨_, _, _, rfl⟩, ⟨_, _, rfl, rfl, rfl, rfl, rfl, fun h => Bool.noConfusion h, fun _ => rfl⟩, rfl⟩
noncomputable def ti96 : TI := ⟨.func, 1, 8, [.nilFunc]⟩
theorem ti96_ok : TOk Try.prog 96 ti96 := ⟨⟨_, _, _, rfl⟩, ⟨_, _, rfl, rfl, rfl, rfl, rfl, fun h => Bool.noConfusion h, fun _ => rfl⟩, rfl⟩
noncomputable def ti97 : TI := ⟨.func, 1, 8, [.nilFunc]⟩
theorem ti97_ok : TOk Try.prog 97 ti97 := ⟨⟨_, _, _, rfl⟩, ⟨_, _, rfl, rfl, rfl, rfl, rfl, fun h => Bool.noConfusion h, fun _ => rfl⟩, rfl⟩
noncomputable def ti98 : TI := ⟨.func, 1, 8, [.nilFunc]⟩
theorem ti98_ok : TOk Try.prog 98 ti98 := ⟨⟨_, _, _, rfl⟩, ⟨_, _, rfl, rfl, rfl, rfl, rfl, fun h => Bool.noConfusion h, fun _ => rfl⟩, rfl⟩
noncomputable def ti99 : TI := ⟨.func, 1, 8, [.nilFunc]⟩
theorem ti99_ok : TOk Try.prog 99 ti99 := ⟨⟨_, _, _, rfl⟩, ⟨_, _, rfl, rfl, rfl, rfl, rfl, fun h => Bool.noConfusion h, fun _ => rfl⟩, rfl⟩
noncomputable def ti100 : TI := ⟨.struct [(0, 17), (1, 17), (2, 17), (3, 9)], 4, 40, [.pointer none, .pointer none, .pointer none, .string ⟨⟨[]⟩⟩]⟩
theorem ti100_ok : TOk Try.prog 100 ti100 := ⟨⟨_, rfl, rfl⟩, ⟨_, _, rfl, rfl, rfl, rfl, rfl, fun _ => rfl, fun h => Bool.noConfusion h⟩, rfl⟩
noncomputable def ti101 : TI := ⟨.struct [(0, 17), (1, 17), (2, 17), (3, 9)], 4, 40, [.pointer none, .pointer none, .pointer none, .string ⟨⟨[]⟩⟩]⟩
theorem ti101_ok : TOk Try.prog 101 ti101 := ⟨⟨_, rfl, rfl⟩, ⟨_, _, rfl, rfl, rfl, rfl, rfl, fun _ => rfl, fun h => Bool.noConfusion h⟩, rfl⟩
noncomputable def ti105 : TI := ⟨.func, 1, 8, [.nilFunc]⟩
theorem ti105_ok : TOk Try.prog 105 ti105 := ⟨⟨_, _, _, rfl⟩, ⟨_, _, rfl, rfl, rfl, rfl, rfl, fun h => Bool.noConfusion h, fun _ => rfl⟩, rfl⟩
noncomputable def ti106 : TI := ⟨.int .u32, 1, 4, [.int .u32 0]⟩
theorem ti106_ok : TOk Try.prog 106 ti106 := ⟨rfl, ⟨_, _, rfl, rfl, rfl, rfl, rfl, fun h => Bool.noConfusion h, fun _ => rfl⟩, rfl⟩
noncomputable def ti107 : TI := ⟨.int .u8, 1, 1, [.int .u8 0]⟩
theorem ti107_ok : TOk Try.prog 107 ti107 := ⟨rfl, ⟨_, _, rfl, rfl, rfl, rfl, rfl, fun h => Bool.noConfusion h, fun _ => rfl⟩, rfl⟩
noncomputable def ti108 : TI := ⟨.int .u8, 1, 1, [.int .u8 0]⟩
theorem ti108_ok : TOk Try.prog 108 ti108 := ⟨rfl, ⟨_, _, rfl, rfl, rfl, rfl, rfl, fun h => Bool.noConfusion h, fun _ => rfl⟩, rfl⟩
noncomputable def ti109 : TI := ⟨.func, 1, 8, [.nilFunc]⟩
theorem ti109_ok : TOk Try.prog 109 ti109 := ⟨⟨_, _, _, rfl⟩, ⟨_, _, rfl, rfl, rfl, rfl, rfl, fun h => Bool.noConfusion h, fun _ => rfl⟩, rfl⟩
noncomputable def ti110 : TI := ⟨.ptr 5, 1, 8, [.pointer none]⟩
theorem ti110_ok : TOk Try.prog 110 ti110 := ⟨rfl, ⟨_, _, rfl, rfl, rfl, rfl, rfl, fun h => Bool.noConfusion h, fun _ => rfl⟩, rfl⟩
noncomputable def ti111 : TI := ⟨.int .i32, 1, 4, [.int .i32 0]⟩
theorem ti111_ok : TOk Try.prog 111 ti111 := ⟨rfl, ⟨_, _, rfl, rfl, rfl, rfl, rfl, fun h => Bool.noConfusion h, fun _ => rfl⟩, rfl⟩
noncomputable def ti112 : TI := ⟨.int .i32, 1, 4, [.int .i32 0]⟩
theorem ti112_ok : TOk Try.prog 112 ti112 := ⟨rfl, ⟨_, _, rfl, rfl, rfl, rfl, rfl, fun h => Bool.noConfusion h, fun _ => rfl⟩, rfl⟩
noncomputable def ti113 : TI := ⟨.struct [(0, 12), (1, 12), (2, 106), (3, 107), (4, 5), (5, 5), (6, 108), (7, 109), (8, 110), (9, 111), (10, 112)], 11, 48, [.int .u64 0, .int .u64 0, .int .u32 0, .int .u8 0, .int .u8 0, .int .u8 0, .int .u8 0, .nilFunc, .pointer none, .int .i32 0, .int .i32 0]⟩
theorem ti113_ok : TOk Try.prog 113 ti113 := ⟨⟨_, rfl, rfl⟩, ⟨_, _, rfl, rfl, rfl, rfl, rfl, fun _ => rfl, fun h => Bool.noConfusion h⟩, rfl⟩
noncomputable def ti114 : TI := ⟨.struct [(0, 12), (1, 12), (2, 106), (3, 107), (4, 5), (5, 5), (6, 108), (7, 109), (8, 110), (9, 111), (10, 112)], 11, 48, [.int .u64 0, .int .u64 0, .int .u32 0, .int .u8 0, .int .u8 0, .int .u8 0, .int .u8 0, .nilFunc, .pointer none, .int .i32 0, .int .i32 0]⟩
theorem ti114_ok : TOk Try.prog 114 ti114 := ⟨⟨_, rfl, rfl⟩, ⟨_, _, rfl, rfl, rfl, rfl, rfl, fun _ => rfl, fun h => Bool.noConfusion h⟩, rfl⟩
noncomputable def tbl : List (Nat × TI) := [(1, ti1), (2, ti2), (3, ti3), (4, ti4), (5, ti5), (6, ti6), (7, ti7), (8, ti8), (9, ti9), (10, ti10), (11, ti11), (12, ti12), (13, ti13), (14, ti14), (15, ti15), (16, ti16), (17, ti17), (18, ti18), (19, ti19), (21, ti21), (22, ti22), (24, ti24), (25, ti25), (26, ti26), (27, ti27), (28, ti28), (29, ti29), (30, ti30), (31, ti31), (32, ti32), (33, ti33), (35, ti35), (36, ti36), (37, ti37), (39, ti39), (40, ti40), (41, ti41), (42, ti42), (43, ti43), (44, ti44), (45, ti45), (46, ti46), (47, ti47), (48, ti48), (49, ti49), (50, ti50), (51, ti51), (52, ti52), (53, ti53), (54, ti54), (55, ti55), (56, ti56), (57, ti57), (58, ti58), (59, ti59), (60, ti60), (62, ti62), (63, ti63), (64, ti64), (66, ti66), (68, ti68), (69, ti69), (70, ti70), (71, ti71), (72, ti72), (74, ti74), (75, ti75), (76, ti76), (77, ti77), (78, ti78), (79, ti79), (80, ti80), (81, ti81), (82, ti82), (83, ti83), (84, ti84), (85, ti85), (86, ti86), (87, ti87), (88, ti88), (89, ti89), (90, ti90), (91, ti91), (93, ti93), (94, ti94), (95, ti95), (96, ti96), (97, ti97), (98, ti98), (99, ti99), (100, ti100), (101, ti101), (105, ti105), (106, ti106), (107, ti107), (108, ti108), (109, ti109), (110, ti110), (111, ti111), (112, ti112), (113, ti113), (114, ti114)]
noncomputable def S : Sig := ⟨Try.prog, lookT tbl⟩
theorem S_ok : S.Ok := lookT_ok tbl (by
  intro x hx
  simp only [tbl, List.mem_cons, List.not_mem_nil, or_false] at hx
  rcases hx with rfl | rfl | rfl | rfl | rfl | rfl | rfl | rfl | rfl | rfl | rfl | rfl | rfl | rfl | rfl | rfl | rfl | rfl | rfl | rfl | rfl | rfl | rfl | rfl | rfl | rfl | rfl | rfl | rfl | rfl | rfl | rfl | rfl | rfl | rfl | rfl | rfl | rfl | rfl | rfl | rfl | rfl | rfl | rfl | rfl | rfl | rfl | rfl | rfl | rfl | rfl | rfl | rfl | rfl | rfl | rfl | rfl | rfl | rfl | rfl | rfl | rfl | rfl | rfl | rfl | rfl | rfl | rfl | rfl | rfl | rfl | rfl | rfl | rfl | rfl | rfl | rfl | rfl | rfl | rfl | rfl | rfl | rfl | rfl | rfl | rfl | rfl | rfl | rfl | rfl | rfl | rfl | rfl | rfl | rfl | rfl | rfl | rfl | rfl | rfl | rfl | rfl
  · exact ti1_ok
  · exact ti2_ok
  · exact ti3_ok
  · exact ti4_ok
  · exact ti5_ok
  · exact ti6_ok
  · exact ti7_ok
  · exact ti8_ok
  · exact ti9_ok
  · exact ti10_ok
  · exact ti11_ok
  · exact ti12_ok
  · exact ti13_ok
  · exact ti14_ok
  · exact ti15_ok
  · exact ti16_ok
  · exact ti17_ok
  · exact ti18_ok
  · exact ti19_ok
  · exact ti21_ok
  · exact ti22_ok
  · exact ti24_ok
  · exact ti25_ok
  · exact ti26_ok
  · exact ti27_ok
  · exact ti28_ok
  · exact ti29_ok
  · exact ti30_ok
  · exact ti31_ok
  · exact ti32_ok
  · exact ti33_ok
  · exact ti35_ok
  · exact ti36_ok
  · exact ti37_ok
  · exact ti39_ok
  · exact ti40_ok
  · exact ti41_ok
  · exact ti42_ok
  · exact ti43_ok
  · exact ti44_ok
  · exact ti45_ok
  · exact ti46_ok
  · exact ti47_ok
  · exact ti48_ok
  · exact ti49_ok
  · exact ti50_ok
  · exact ti51_ok
  · exact ti52_ok
  · exact ti53_ok
  · exact ti54_ok
  · exact ti55_ok
  · exact ti56_ok
  · exact ti57_ok
  · exact ti58_ok
  · exact ti59_ok
  · exact ti60_ok
  · exact ti62_ok
  · exact ti63_ok
  · exact ti64_ok
  · exact ti66_ok
  · exact ti68_ok
  · exact ti69_ok
  · exact ti70_ok
  · exact ti71_ok
  · exact ti72_ok
  · exact ti74_ok
  · exact ti75_ok
  · exact ti76_ok
  · exact ti77_ok
  · exact ti78_ok
  · exact ti79_ok
  · exact ti80_ok
  · exact ti81_ok
  · exact ti82_ok
  · exact ti83_ok
  · exact ti84_ok
  · exact ti85_ok
  · exact ti86_ok
  · exact ti87_ok
  · exact ti88_ok
  · exact ti89_ok
  · exact ti90_ok
  · exact ti91_ok
  · exact ti93_ok
  · exact ti94_ok
  · exact ti95_ok
  · exact ti96_ok
  · exact ti97_ok
  · exact ti98_ok
  · exact ti99_ok
  · exact ti100_ok
  · exact ti101_ok
  · exact ti105_ok
  · exact ti106_ok
  · exact ti107_ok
  · exact ti108_ok
  · exact ti109_ok
  · exact ti110_ok
  · exact ti111_ok
  · exact ti112_ok
  · exact ti113_ok
  · exact ti114_ok)
theorem S_mixed : S.P.follows .mixedOrders = true := by kernel_rfl
end Go.Proofs.Ytloknkdomgeolaa.She
