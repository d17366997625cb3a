/- The table of the types of this seat's program, and that it is the program's own. -/
import Derived.Test.YtloknkdomgeolaaSheU
import Derived.Test.YtloknkdomgeolaaProg
namespace Go.Proofs.Ytloknkdomgeolaa.She
set_option linter.all false
set_option maxRecDepth 1000000
open Go
noncomputable def ti1 : TI := ⟨.func, 1, 8, [.nilFunc]⟩
theorem ti1_ok : TOk Try.prog 1 ti1 := ⟨⟨_, _, _, Try.underlying1⟩, ⟨_, _, info_of_run Try.typeInfo1, rfl, rfl, rfl, rfl, fun h => Bool.noConfusion h, fun _ => rfl⟩, rfl⟩
noncomputable def ti2 : TI := ⟨.int .i64, 1, 8, [.int .i64 0]⟩
theorem ti2_ok : TOk Try.prog 2 ti2 := ⟨Try.underlying2, ⟨_, _, info_of_run Try.typeInfo2, rfl, rfl, rfl, rfl, fun h => Bool.noConfusion h, fun _ => rfl⟩, rfl⟩
noncomputable def ti3 : TI := ⟨.int .i64, 1, 8, [.int .i64 0]⟩
theorem ti3_ok : TOk Try.prog 3 ti3 := ⟨Try.underlying3, ⟨_, _, info_of_run Try.typeInfo3, rfl, rfl, rfl, rfl, fun h => Bool.noConfusion h, fun _ => rfl⟩, rfl⟩
noncomputable def ti4 : TI := ⟨.bool, 1, 1, [.bool false]⟩
theorem ti4_ok : TOk Try.prog 4 ti4 := ⟨Try.underlying4, ⟨_, _, info_of_run Try.typeInfo4, rfl, rfl, rfl, rfl, fun h => Bool.noConfusion h, fun _ => rfl⟩, rfl⟩
noncomputable def ti5 : TI := ⟨.int .u8, 1, 1, [.int .u8 0]⟩
theorem ti5_ok : TOk Try.prog 5 ti5 := ⟨Try.underlying5, ⟨_, _, info_of_run Try.typeInfo5, rfl, rfl, rfl, rfl, fun h => Bool.noConfusion h, fun _ => rfl⟩, rfl⟩
noncomputable def ti6 : TI := ⟨.int .u8, 1, 1, [.int .u8 0]⟩
theorem ti6_ok : TOk Try.prog 6 ti6 := ⟨Try.underlying6, ⟨_, _, info_of_run Try.typeInfo6, rfl, rfl, rfl, rfl, fun h => Bool.noConfusion h, fun _ => rfl⟩, rfl⟩
noncomputable def ti7 : TI := ⟨.struct [(0, 2), (1, 3), (2, 4), (3, 6)], 4, 24, [.int .i64 0, .int .i64 0, .bool false, .int .u8 0]⟩
theorem ti7_ok : TOk Try.prog 7 ti7 := ⟨⟨_, Try.underlying7, rfl⟩, ⟨_, _, info_of_run Try.typeInfo7, rfl, rfl, rfl, rfl, fun _ => rfl, fun h => Bool.noConfusion h⟩, rfl⟩
noncomputable def ti8 : TI := ⟨.struct [(0, 2), (1, 3), (2, 4), (3, 6)], 4, 24, [.int .i64 0, .int .i64 0, .bool false, .int .u8 0]⟩
theorem ti8_ok : TOk Try.prog 8 ti8 := ⟨⟨_, Try.underlying8, rfl⟩, ⟨_, _, info_of_run Try.typeInfo8, rfl, rfl, rfl, rfl, fun _ => rfl, fun h => Bool.noConfusion h⟩, rfl⟩
noncomputable def ti9 : TI := ⟨.str, 1, 16, [.string ⟨⟨[]⟩⟩]⟩
theorem ti9_ok : TOk Try.prog 9 ti9 := ⟨Try.underlying9, ⟨_, _, info_of_run Try.typeInfo9, rfl, rfl, rfl, rfl, fun h => Bool.noConfusion h, fun _ => rfl⟩, rfl⟩
noncomputable def ti10 : TI := ⟨.str, 1, 16, [.string ⟨⟨[]⟩⟩]⟩
theorem ti10_ok : TOk Try.prog 10 ti10 := ⟨Try.underlying10, ⟨_, _, info_of_run Try.typeInfo10, rfl, rfl, rfl, rfl, fun h => Bool.noConfusion h, fun _ => rfl⟩, rfl⟩
noncomputable def ti11 : TI := ⟨.str, 1, 16, [.string ⟨⟨[]⟩⟩]⟩
theorem ti11_ok : TOk Try.prog 11 ti11 := ⟨Try.underlying11, ⟨_, _, info_of_run Try.typeInfo11, rfl, rfl, rfl, rfl, fun h => Bool.noConfusion h, fun _ => rfl⟩, rfl⟩
noncomputable def ti12 : TI := ⟨.int .u64, 1, 8, [.int .u64 0]⟩
theorem ti12_ok : TOk Try.prog 12 ti12 := ⟨Try.underlying12, ⟨_, _, info_of_run Try.typeInfo12, rfl, rfl, rfl, rfl, fun h => Bool.noConfusion h, fun _ => rfl⟩, rfl⟩
noncomputable def ti13 : TI := ⟨.struct [(0, 9), (1, 12)], 2, 24, [.string ⟨⟨[]⟩⟩, .int .u64 0]⟩
theorem ti13_ok : TOk Try.prog 13 ti13 := ⟨⟨_, Try.underlying13, rfl⟩, ⟨_, _, info_of_run Try.typeInfo13, rfl, rfl, rfl, rfl, fun _ => rfl, fun h => Bool.noConfusion h⟩, rfl⟩
noncomputable def ti14 : TI := ⟨.struct [(0, 9), (1, 12)], 2, 24, [.string ⟨⟨[]⟩⟩, .int .u64 0]⟩
theorem ti14_ok : TOk Try.prog 14 ti14 := ⟨⟨_, Try.underlying14, rfl⟩, ⟨_, _, info_of_run Try.typeInfo14, rfl, rfl, rfl, rfl, fun _ => rfl, fun h => Bool.noConfusion h⟩, rfl⟩
noncomputable def ti15 : TI := ⟨.ptr 101, 1, 8, [.pointer none]⟩
theorem ti15_ok : TOk Try.prog 15 ti15 := ⟨Try.underlying15, ⟨_, _, info_of_run Try.typeInfo15, rfl, rfl, rfl, rfl, fun h => Bool.noConfusion h, fun _ => rfl⟩, rfl⟩
noncomputable def ti16 : TI := ⟨.ptr 104, 1, 8, [.pointer none]⟩
theorem ti16_ok : TOk Try.prog 16 ti16 := ⟨Try.underlying16, ⟨_, _, info_of_run Try.typeInfo16, rfl, rfl, rfl, rfl, fun h => Bool.noConfusion h, fun _ => rfl⟩, rfl⟩
noncomputable def ti17 : TI := ⟨.ptr 114, 1, 8, [.pointer none]⟩
theorem ti17_ok : TOk Try.prog 17 ti17 := ⟨Try.underlying17, ⟨_, _, info_of_run Try.typeInfo17, rfl, rfl, rfl, rfl, fun h => Bool.noConfusion h, fun _ => rfl⟩, rfl⟩
noncomputable def ti18 : TI := ⟨.struct [(0, 17)], 1, 8, [.pointer none]⟩
theorem ti18_ok : TOk Try.prog 18 ti18 := ⟨⟨_, Try.underlying18, rfl⟩, ⟨_, _, info_of_run Try.typeInfo18, rfl, rfl, rfl, rfl, fun _ => rfl, fun h => Bool.noConfusion h⟩, rfl⟩
noncomputable def ti19 : TI := ⟨.struct [(0, 17)], 1, 8, [.pointer none]⟩
theorem ti19_ok : TOk Try.prog 19 ti19 := ⟨⟨_, Try.underlying19, rfl⟩, ⟨_, _, info_of_run Try.typeInfo19, rfl, rfl, rfl, rfl, fun _ => rfl, fun h => Bool.noConfusion h⟩, rfl⟩
noncomputable def ti21 : TI := ⟨.int .i32, 1, 4, [.int .i32 0]⟩
theorem ti21_ok : TOk Try.prog 21 ti21 := ⟨Try.underlying21, ⟨_, _, info_of_run Try.typeInfo21, rfl, rfl, rfl, rfl, fun h => Bool.noConfusion h, fun _ => rfl⟩, rfl⟩
noncomputable def ti22 : TI := ⟨.int .i64, 1, 8, [.int .i64 0]⟩
theorem ti22_ok : TOk Try.prog 22 ti22 := ⟨Try.underlying22, ⟨_, _, info_of_run Try.typeInfo22, rfl, rfl, rfl, rfl, fun h => Bool.noConfusion h, fun _ => rfl⟩, rfl⟩
noncomputable def ti24 : TI := ⟨.func, 1, 8, [.nilFunc]⟩
theorem ti24_ok : TOk Try.prog 24 ti24 := ⟨⟨_, _, _, Try.underlying24⟩, ⟨_, _, info_of_run Try.typeInfo24, rfl, rfl, rfl, rfl, fun h => Bool.noConfusion h, fun _ => rfl⟩, rfl⟩
noncomputable def ti25 : TI := ⟨.func, 1, 8, [.nilFunc]⟩
theorem ti25_ok : TOk Try.prog 25 ti25 := ⟨⟨_, _, _, Try.underlying25⟩, ⟨_, _, info_of_run Try.typeInfo25, rfl, rfl, rfl, rfl, fun h => Bool.noConfusion h, fun _ => rfl⟩, rfl⟩
noncomputable def ti26 : TI := ⟨.func, 1, 8, [.nilFunc]⟩
theorem ti26_ok : TOk Try.prog 26 ti26 := ⟨⟨_, _, _, Try.underlying26⟩, ⟨_, _, info_of_run Try.typeInfo26, rfl, rfl, rfl, rfl, fun h => Bool.noConfusion h, fun _ => rfl⟩, rfl⟩
noncomputable def ti27 : TI := ⟨.func, 1, 8, [.nilFunc]⟩
theorem ti27_ok : TOk Try.prog 27 ti27 := ⟨⟨_, _, _, Try.underlying27⟩, ⟨_, _, info_of_run Try.typeInfo27, rfl, rfl, rfl, rfl, fun h => Bool.noConfusion h, fun _ => rfl⟩, rfl⟩
noncomputable def ti28 : TI := ⟨.func, 1, 8, [.nilFunc]⟩
theorem ti28_ok : TOk Try.prog 28 ti28 := ⟨⟨_, _, _, Try.underlying28⟩, ⟨_, _, info_of_run Try.typeInfo28, rfl, rfl, rfl, rfl, fun h => Bool.noConfusion h, fun _ => rfl⟩, rfl⟩
noncomputable def ti29 : TI := ⟨.slice 33, 1, 24, [.slice none 0 0]⟩
theorem ti29_ok : TOk Try.prog 29 ti29 := ⟨Try.underlying29, ⟨_, _, info_of_run Try.typeInfo29, rfl, rfl, rfl, rfl, fun h => Bool.noConfusion h, fun _ => rfl⟩, rfl⟩
noncomputable def ti30 : TI := ⟨.slice 9, 1, 24, [.slice none 0 0]⟩
theorem ti30_ok : TOk Try.prog 30 ti30 := ⟨Try.underlying30, ⟨_, _, info_of_run Try.typeInfo30, rfl, rfl, rfl, rfl, fun h => Bool.noConfusion h, fun _ => rfl⟩, rfl⟩
noncomputable def ti31 : TI := ⟨.func, 1, 8, [.nilFunc]⟩
theorem ti31_ok : TOk Try.prog 31 ti31 := ⟨⟨_, _, _, Try.underlying31⟩, ⟨_, _, info_of_run Try.typeInfo31, rfl, rfl, rfl, rfl, fun h => Bool.noConfusion h, fun _ => rfl⟩, rfl⟩
noncomputable def ti32 : TI := ⟨.struct [(0, 3), (1, 3), (2, 9)], 3, 32, [.int .i64 0, .int .i64 0, .string ⟨⟨[]⟩⟩]⟩
theorem ti32_ok : TOk Try.prog 32 ti32 := ⟨⟨_, Try.underlying32, rfl⟩, ⟨_, _, info_of_run Try.typeInfo32, rfl, rfl, rfl, rfl, fun _ => rfl, fun h => Bool.noConfusion h⟩, rfl⟩
noncomputable def ti33 : TI := ⟨.struct [(0, 3), (1, 3), (2, 9)], 3, 32, [.int .i64 0, .int .i64 0, .string ⟨⟨[]⟩⟩]⟩
theorem ti33_ok : TOk Try.prog 33 ti33 := ⟨⟨_, Try.underlying33, rfl⟩, ⟨_, _, info_of_run Try.typeInfo33, rfl, rfl, rfl, rfl, fun _ => rfl, fun h => Bool.noConfusion h⟩, rfl⟩
noncomputable def ti35 : TI := ⟨.func, 1, 8, [.nilFunc]⟩
theorem ti35_ok : TOk Try.prog 35 ti35 := ⟨⟨_, _, _, Try.underlying35⟩, ⟨_, _, info_of_run Try.typeInfo35, rfl, rfl, rfl, rfl, fun h => Bool.noConfusion h, fun _ => rfl⟩, rfl⟩
noncomputable def ti36 : TI := ⟨.func, 1, 8, [.nilFunc]⟩
theorem ti36_ok : TOk Try.prog 36 ti36 := ⟨⟨_, _, _, Try.underlying36⟩, ⟨_, _, info_of_run Try.typeInfo36, rfl, rfl, rfl, rfl, fun h => Bool.noConfusion h, fun _ => rfl⟩, rfl⟩
noncomputable def ti37 : TI := ⟨.func, 1, 8, [.nilFunc]⟩
theorem ti37_ok : TOk Try.prog 37 ti37 := ⟨⟨_, _, _, Try.underlying37⟩, ⟨_, _, info_of_run Try.typeInfo37, rfl, rfl, rfl, rfl, fun h => Bool.noConfusion h, fun _ => rfl⟩, rfl⟩
noncomputable def ti39 : TI := ⟨.func, 1, 8, [.nilFunc]⟩
theorem ti39_ok : TOk Try.prog 39 ti39 := ⟨⟨_, _, _, Try.underlying39⟩, ⟨_, _, info_of_run Try.typeInfo39, rfl, rfl, rfl, rfl, fun h => Bool.noConfusion h, fun _ => rfl⟩, rfl⟩
noncomputable def ti40 : TI := ⟨.func, 1, 8, [.nilFunc]⟩
theorem ti40_ok : TOk Try.prog 40 ti40 := ⟨⟨_, _, _, Try.underlying40⟩, ⟨_, _, info_of_run Try.typeInfo40, rfl, rfl, rfl, rfl, fun h => Bool.noConfusion h, fun _ => rfl⟩, rfl⟩
noncomputable def ti41 : TI := ⟨.func, 1, 8, [.nilFunc]⟩
theorem ti41_ok : TOk Try.prog 41 ti41 := ⟨⟨_, _, _, Try.underlying41⟩, ⟨_, _, info_of_run Try.typeInfo41, rfl, rfl, rfl, rfl, fun h => Bool.noConfusion h, fun _ => rfl⟩, rfl⟩
noncomputable def ti42 : TI := ⟨.func, 1, 8, [.nilFunc]⟩
theorem ti42_ok : TOk Try.prog 42 ti42 := ⟨⟨_, _, _, Try.underlying42⟩, ⟨_, _, info_of_run Try.typeInfo42, rfl, rfl, rfl, rfl, fun h => Bool.noConfusion h, fun _ => rfl⟩, rfl⟩
noncomputable def ti43 : TI := ⟨.func, 1, 8, [.nilFunc]⟩
theorem ti43_ok : TOk Try.prog 43 ti43 := ⟨⟨_, _, _, Try.underlying43⟩, ⟨_, _, info_of_run Try.typeInfo43, rfl, rfl, rfl, rfl, fun h => Bool.noConfusion h, fun _ => rfl⟩, rfl⟩
noncomputable def ti44 : TI := ⟨.func, 1, 8, [.nilFunc]⟩
theorem ti44_ok : TOk Try.prog 44 ti44 := ⟨⟨_, _, _, Try.underlying44⟩, ⟨_, _, info_of_run Try.typeInfo44, rfl, rfl, rfl, rfl, fun h => Bool.noConfusion h, fun _ => rfl⟩, rfl⟩
noncomputable def ti45 : TI := ⟨.func, 1, 8, [.nilFunc]⟩
theorem ti45_ok : TOk Try.prog 45 ti45 := ⟨⟨_, _, _, Try.underlying45⟩, ⟨_, _, info_of_run Try.typeInfo45, rfl, rfl, rfl, rfl, fun h => Bool.noConfusion h, fun _ => rfl⟩, rfl⟩
noncomputable def ti46 : TI := ⟨.func, 1, 8, [.nilFunc]⟩
theorem ti46_ok : TOk Try.prog 46 ti46 := ⟨⟨_, _, _, Try.underlying46⟩, ⟨_, _, info_of_run Try.typeInfo46, rfl, rfl, rfl, rfl, fun h => Bool.noConfusion h, fun _ => rfl⟩, rfl⟩
noncomputable def ti47 : TI := ⟨.func, 1, 8, [.nilFunc]⟩
theorem ti47_ok : TOk Try.prog 47 ti47 := ⟨⟨_, _, _, Try.underlying47⟩, ⟨_, _, info_of_run Try.typeInfo47, rfl, rfl, rfl, rfl, fun h => Bool.noConfusion h, fun _ => rfl⟩, rfl⟩
noncomputable def ti48 : TI := ⟨.func, 1, 8, [.nilFunc]⟩
theorem ti48_ok : TOk Try.prog 48 ti48 := ⟨⟨_, _, _, Try.underlying48⟩, ⟨_, _, info_of_run Try.typeInfo48, rfl, rfl, rfl, rfl, fun h => Bool.noConfusion h, fun _ => rfl⟩, rfl⟩
noncomputable def ti49 : TI := ⟨.func, 1, 8, [.nilFunc]⟩
theorem ti49_ok : TOk Try.prog 49 ti49 := ⟨⟨_, _, _, Try.underlying49⟩, ⟨_, _, info_of_run Try.typeInfo49, rfl, rfl, rfl, rfl, fun h => Bool.noConfusion h, fun _ => rfl⟩, rfl⟩
noncomputable def ti50 : TI := ⟨.func, 1, 8, [.nilFunc]⟩
theorem ti50_ok : TOk Try.prog 50 ti50 := ⟨⟨_, _, _, Try.underlying50⟩, ⟨_, _, info_of_run Try.typeInfo50, rfl, rfl, rfl, rfl, fun h => Bool.noConfusion h, fun _ => rfl⟩, rfl⟩
noncomputable def ti51 : TI := ⟨.slice 70, 1, 24, [.slice none 0 0]⟩
theorem ti51_ok : TOk Try.prog 51 ti51 := ⟨Try.underlying51, ⟨_, _, info_of_run Try.typeInfo51, rfl, rfl, rfl, rfl, fun h => Bool.noConfusion h, fun _ => rfl⟩, rfl⟩
noncomputable def ti52 : TI := ⟨.struct [(0, 4), (1, 51)], 2, 32, [.bool false, .slice none 0 0]⟩
theorem ti52_ok : TOk Try.prog 52 ti52 := ⟨⟨_, Try.underlying52, rfl⟩, ⟨_, _, info_of_run Try.typeInfo52, rfl, rfl, rfl, rfl, fun _ => rfl, fun h => Bool.noConfusion h⟩, rfl⟩
noncomputable def ti53 : TI := ⟨.struct [(0, 4), (1, 51)], 2, 32, [.bool false, .slice none 0 0]⟩
theorem ti53_ok : TOk Try.prog 53 ti53 := ⟨⟨_, Try.underlying53, rfl⟩, ⟨_, _, info_of_run Try.typeInfo53, rfl, rfl, rfl, rfl, fun _ => rfl, fun h => Bool.noConfusion h⟩, rfl⟩
noncomputable def ti54 : TI := ⟨.func, 1, 8, [.nilFunc]⟩
theorem ti54_ok : TOk Try.prog 54 ti54 := ⟨⟨_, _, _, Try.underlying54⟩, ⟨_, _, info_of_run Try.typeInfo54, rfl, rfl, rfl, rfl, fun h => Bool.noConfusion h, fun _ => rfl⟩, rfl⟩
noncomputable def ti55 : TI := ⟨.func, 1, 8, [.nilFunc]⟩
theorem ti55_ok : TOk Try.prog 55 ti55 := ⟨⟨_, _, _, Try.underlying55⟩, ⟨_, _, info_of_run Try.typeInfo55, rfl, rfl, rfl, rfl, fun h => Bool.noConfusion h, fun _ => rfl⟩, rfl⟩
noncomputable def ti56 : TI := ⟨.slice 87, 1, 24, [.slice none 0 0]⟩
theorem ti56_ok : TOk Try.prog 56 ti56 := ⟨Try.underlying56, ⟨_, _, info_of_run Try.typeInfo56, rfl, rfl, rfl, rfl, fun h => Bool.noConfusion h, fun _ => rfl⟩, rfl⟩
noncomputable def ti57 : TI := ⟨.struct [(0, 4), (1, 56)], 2, 32, [.bool false, .slice none 0 0]⟩
theorem ti57_ok : TOk Try.prog 57 ti57 := ⟨⟨_, Try.underlying57, rfl⟩, ⟨_, _, info_of_run Try.typeInfo57, rfl, rfl, rfl, rfl, fun _ => rfl, fun h => Bool.noConfusion h⟩, rfl⟩
noncomputable def ti58 : TI := ⟨.struct [(0, 4), (1, 56)], 2, 32, [.bool false, .slice none 0 0]⟩
theorem ti58_ok : TOk Try.prog 58 ti58 := ⟨⟨_, Try.underlying58, rfl⟩, ⟨_, _, info_of_run Try.typeInfo58, rfl, rfl, rfl, rfl, fun _ => rfl, fun h => Bool.noConfusion h⟩, rfl⟩
noncomputable def ti59 : TI := ⟨.func, 1, 8, [.nilFunc]⟩
theorem ti59_ok : TOk Try.prog 59 ti59 := ⟨⟨_, _, _, Try.underlying59⟩, ⟨_, _, info_of_run Try.typeInfo59, rfl, rfl, rfl, rfl, fun h => Bool.noConfusion h, fun _ => rfl⟩, rfl⟩
noncomputable def ti60 : TI := ⟨.func, 1, 8, [.nilFunc]⟩
theorem ti60_ok : TOk Try.prog 60 ti60 := ⟨⟨_, _, _, Try.underlying60⟩, ⟨_, _, info_of_run Try.typeInfo60, rfl, rfl, rfl, rfl, fun h => Bool.noConfusion h, fun _ => rfl⟩, rfl⟩
noncomputable def ti62 : TI := ⟨.func, 1, 8, [.nilFunc]⟩
theorem ti62_ok : TOk Try.prog 62 ti62 := ⟨⟨_, _, _, Try.underlying62⟩, ⟨_, _, info_of_run Try.typeInfo62, rfl, rfl, rfl, rfl, fun h => Bool.noConfusion h, fun _ => rfl⟩, rfl⟩
noncomputable def ti63 : TI := ⟨.func, 1, 8, [.nilFunc]⟩
theorem ti63_ok : TOk Try.prog 63 ti63 := ⟨⟨_, _, _, Try.underlying63⟩, ⟨_, _, info_of_run Try.typeInfo63, rfl, rfl, rfl, rfl, fun h => Bool.noConfusion h, fun _ => rfl⟩, rfl⟩
noncomputable def ti64 : TI := ⟨.func, 1, 8, [.nilFunc]⟩
theorem ti64_ok : TOk Try.prog 64 ti64 := ⟨⟨_, _, _, Try.underlying64⟩, ⟨_, _, info_of_run Try.typeInfo64, rfl, rfl, rfl, rfl, fun h => Bool.noConfusion h, fun _ => rfl⟩, rfl⟩
noncomputable def ti66 : TI := ⟨.func, 1, 8, [.nilFunc]⟩
theorem ti66_ok : TOk Try.prog 66 ti66 := ⟨⟨_, _, _, Try.underlying66⟩, ⟨_, _, info_of_run Try.typeInfo66, rfl, rfl, rfl, rfl, fun h => Bool.noConfusion h, fun _ => rfl⟩, rfl⟩
noncomputable def ti68 : TI := ⟨.func, 1, 8, [.nilFunc]⟩
theorem ti68_ok : TOk Try.prog 68 ti68 := ⟨⟨_, _, _, Try.underlying68⟩, ⟨_, _, info_of_run Try.typeInfo68, rfl, rfl, rfl, rfl, fun h => Bool.noConfusion h, fun _ => rfl⟩, rfl⟩
noncomputable def ti69 : TI := ⟨.struct [(0, 9), (1, 9), (2, 3)], 3, 40, [.string ⟨⟨[]⟩⟩, .string ⟨⟨[]⟩⟩, .int .i64 0]⟩
theorem ti69_ok : TOk Try.prog 69 ti69 := ⟨⟨_, Try.underlying69, rfl⟩, ⟨_, _, info_of_run Try.typeInfo69, rfl, rfl, rfl, rfl, fun _ => rfl, fun h => Bool.noConfusion h⟩, rfl⟩
noncomputable def ti70 : TI := ⟨.struct [(0, 9), (1, 9), (2, 3)], 3, 40, [.string ⟨⟨[]⟩⟩, .string ⟨⟨[]⟩⟩, .int .i64 0]⟩
theorem ti70_ok : TOk Try.prog 70 ti70 := ⟨⟨_, Try.underlying70, rfl⟩, ⟨_, _, info_of_run Try.typeInfo70, rfl, rfl, rfl, rfl, fun _ => rfl, fun h => Bool.noConfusion h⟩, rfl⟩
noncomputable def ti71 : TI := ⟨.func, 1, 8, [.nilFunc]⟩
theorem ti71_ok : TOk Try.prog 71 ti71 := ⟨⟨_, _, _, Try.underlying71⟩, ⟨_, _, info_of_run Try.typeInfo71, rfl, rfl, rfl, rfl, fun h => Bool.noConfusion h, fun _ => rfl⟩, rfl⟩
noncomputable def ti72 : TI := ⟨.func, 1, 8, [.nilFunc]⟩
theorem ti72_ok : TOk Try.prog 72 ti72 := ⟨⟨_, _, _, Try.underlying72⟩, ⟨_, _, info_of_run Try.typeInfo72, rfl, rfl, rfl, rfl, fun h => Bool.noConfusion h, fun _ => rfl⟩, rfl⟩
noncomputable def ti74 : TI := ⟨.func, 1, 8, [.nilFunc]⟩
theorem ti74_ok : TOk Try.prog 74 ti74 := ⟨⟨_, _, _, Try.underlying74⟩, ⟨_, _, info_of_run Try.typeInfo74, rfl, rfl, rfl, rfl, fun h => Bool.noConfusion h, fun _ => rfl⟩, rfl⟩
noncomputable def ti75 : TI := ⟨.func, 1, 8, [.nilFunc]⟩
theorem ti75_ok : TOk Try.prog 75 ti75 := ⟨⟨_, _, _, Try.underlying75⟩, ⟨_, _, info_of_run Try.typeInfo75, rfl, rfl, rfl, rfl, fun h => Bool.noConfusion h, fun _ => rfl⟩, rfl⟩
noncomputable def ti76 : TI := ⟨.slice 81, 1, 24, [.slice none 0 0]⟩
theorem ti76_ok : TOk Try.prog 76 ti76 := ⟨Try.underlying76, ⟨_, _, info_of_run Try.typeInfo76, rfl, rfl, rfl, rfl, fun h => Bool.noConfusion h, fun _ => rfl⟩, rfl⟩
noncomputable def ti77 : TI := ⟨.func, 1, 8, [.nilFunc]⟩
theorem ti77_ok : TOk Try.prog 77 ti77 := ⟨⟨_, _, _, Try.underlying77⟩, ⟨_, _, info_of_run Try.typeInfo77, rfl, rfl, rfl, rfl, fun h => Bool.noConfusion h, fun _ => rfl⟩, rfl⟩
noncomputable def ti78 : TI := ⟨.func, 1, 8, [.nilFunc]⟩
theorem ti78_ok : TOk Try.prog 78 ti78 := ⟨⟨_, _, _, Try.underlying78⟩, ⟨_, _, info_of_run Try.typeInfo78, rfl, rfl, rfl, rfl, fun h => Bool.noConfusion h, fun _ => rfl⟩, rfl⟩
noncomputable def ti79 : TI := ⟨.slice 5, 1, 24, [.slice none 0 0]⟩
theorem ti79_ok : TOk Try.prog 79 ti79 := ⟨Try.underlying79, ⟨_, _, info_of_run Try.typeInfo79, rfl, rfl, rfl, rfl, fun h => Bool.noConfusion h, fun _ => rfl⟩, rfl⟩
noncomputable def ti80 : TI := ⟨.array 2 3, 2, 16, [.int .i64 0, .int .i64 0]⟩
theorem ti80_ok : TOk Try.prog 80 ti80 := ⟨Try.underlying80, ⟨_, _, info_of_run Try.typeInfo80, rfl, rfl, rfl, rfl, fun _ => rfl, fun h => Bool.noConfusion h⟩, rfl⟩
noncomputable def ti81 : TI := ⟨.array 2 3, 2, 16, [.int .i64 0, .int .i64 0]⟩
theorem ti81_ok : TOk Try.prog 81 ti81 := ⟨Try.underlying81, ⟨_, _, info_of_run Try.typeInfo81, rfl, rfl, rfl, rfl, fun _ => rfl, fun h => Bool.noConfusion h⟩, rfl⟩
noncomputable def ti82 : TI := ⟨.func, 1, 8, [.nilFunc]⟩
theorem ti82_ok : TOk Try.prog 82 ti82 := ⟨⟨_, _, _, Try.underlying82⟩, ⟨_, _, info_of_run Try.typeInfo82, rfl, rfl, rfl, rfl, fun h => Bool.noConfusion h, fun _ => rfl⟩, rfl⟩
noncomputable def ti83 : TI := ⟨.func, 1, 8, [.nilFunc]⟩
theorem ti83_ok : TOk Try.prog 83 ti83 := ⟨⟨_, _, _, Try.underlying83⟩, ⟨_, _, info_of_run Try.typeInfo83, rfl, rfl, rfl, rfl, fun h => Bool.noConfusion h, fun _ => rfl⟩, rfl⟩
noncomputable def ti84 : TI := ⟨.slice 3, 1, 24, [.slice none 0 0]⟩
theorem ti84_ok : TOk Try.prog 84 ti84 := ⟨Try.underlying84, ⟨_, _, info_of_run Try.typeInfo84, rfl, rfl, rfl, rfl, fun h => Bool.noConfusion h, fun _ => rfl⟩, rfl⟩
noncomputable def ti85 : TI := ⟨.func, 1, 8, [.nilFunc]⟩
theorem ti85_ok : TOk Try.prog 85 ti85 := ⟨⟨_, _, _, Try.underlying85⟩, ⟨_, _, info_of_run Try.typeInfo85, rfl, rfl, rfl, rfl, fun h => Bool.noConfusion h, fun _ => rfl⟩, rfl⟩
noncomputable def ti86 : TI := ⟨.func, 1, 8, [.nilFunc]⟩
theorem ti86_ok : TOk Try.prog 86 ti86 := ⟨⟨_, _, _, Try.underlying86⟩, ⟨_, _, info_of_run Try.typeInfo86, rfl, rfl, rfl, rfl, fun h => Bool.noConfusion h, fun _ => rfl⟩, rfl⟩
noncomputable def ti87 : TI := ⟨.struct [(0, 9), (1, 9), (2, 3)], 3, 40, [.string ⟨⟨[]⟩⟩, .string ⟨⟨[]⟩⟩, .int .i64 0]⟩
theorem ti87_ok : TOk Try.prog 87 ti87 := ⟨⟨_, Try.underlying87, rfl⟩, ⟨_, _, info_of_run Try.typeInfo87, rfl, rfl, rfl, rfl, fun _ => rfl, fun h => Bool.noConfusion h⟩, rfl⟩
noncomputable def ti88 : TI := ⟨.func, 1, 8, [.nilFunc]⟩
theorem ti88_ok : TOk Try.prog 88 ti88 := ⟨⟨_, _, _, Try.underlying88⟩, ⟨_, _, info_of_run Try.typeInfo88, rfl, rfl, rfl, rfl, fun h => Bool.noConfusion h, fun _ => rfl⟩, rfl⟩
noncomputable def ti89 : TI := ⟨.func, 1, 8, [.nilFunc]⟩
theorem ti89_ok : TOk Try.prog 89 ti89 := ⟨⟨_, _, _, Try.underlying89⟩, ⟨_, _, info_of_run Try.typeInfo89, rfl, rfl, rfl, rfl, fun h => Bool.noConfusion h, fun _ => rfl⟩, rfl⟩
noncomputable def ti90 : TI := ⟨.int .u64, 1, 8, [.int .u64 0]⟩
theorem ti90_ok : TOk Try.prog 90 ti90 := ⟨Try.underlying90, ⟨_, _, info_of_run Try.typeInfo90, rfl, rfl, rfl, rfl, fun h => Bool.noConfusion h, fun _ => rfl⟩, rfl⟩
noncomputable def ti91 : TI := ⟨.func, 1, 8, [.nilFunc]⟩
theorem ti91_ok : TOk Try.prog 91 ti91 := ⟨⟨_, _, _, Try.underlying91⟩, ⟨_, _, info_of_run Try.typeInfo91, rfl, rfl, rfl, rfl, fun h => Bool.noConfusion h, fun _ => rfl⟩, rfl⟩
noncomputable def ti93 : TI := ⟨.func, 1, 8, [.nilFunc]⟩
theorem ti93_ok : TOk Try.prog 93 ti93 := ⟨⟨_, _, _, Try.underlying93⟩, ⟨_, _, info_of_run Try.typeInfo93, rfl, rfl, rfl, rfl, fun h => Bool.noConfusion h, fun _ => rfl⟩, rfl⟩
noncomputable def ti94 : TI := ⟨.func, 1, 8, [.nilFunc]⟩
theorem ti94_ok : TOk Try.prog 94 ti94 := ⟨⟨_, _, _, Try.underlying94⟩, ⟨_, _, info_of_run Try.typeInfo94, rfl, rfl, rfl, rfl, fun h => Bool.noConfusion h, fun _ => rfl⟩, rfl⟩
noncomputable def ti95 : TI := ⟨.func, 1, 8, [.nilFunc]⟩
theorem ti95_ok : TOk Try.prog 95 ti95 := ⟨⟨_, _, _, Try.underlying95⟩, ⟨_, _, info_of_run Try.typeInfo95, rfl, rfl, rfl, rfl, fun h => Bool.noConfusion h, fun _ => rfl⟩, rfl⟩
noncomputable def ti96 : TI := ⟨.func, 1, 8, [.nilFunc]⟩
theorem ti96_ok : TOk Try.prog 96 ti96 := ⟨⟨_, _, _, Try.underlying96⟩, ⟨_, _, info_of_run Try.typeInfo96, rfl, rfl, rfl, rfl, fun h => Bool.noConfusion h, fun _ => rfl⟩, rfl⟩
noncomputable def ti97 : TI := ⟨.func, 1, 8, [.nilFunc]⟩
theorem ti97_ok : TOk Try.prog 97 ti97 := ⟨⟨_, _, _, Try.underlying97⟩, ⟨_, _, info_of_run Try.typeInfo97, rfl, rfl, rfl, rfl, fun h => Bool.noConfusion h, fun _ => rfl⟩, rfl⟩
noncomputable def ti98 : TI := ⟨.func, 1, 8, [.nilFunc]⟩
theorem ti98_ok : TOk Try.prog 98 ti98 := ⟨⟨_, _, _, Try.underlying98⟩, ⟨_, _, info_of_run Try.typeInfo98, rfl, rfl, rfl, rfl, fun h => Bool.noConfusion h, fun _ => rfl⟩, rfl⟩
noncomputable def ti99 : TI := ⟨.func, 1, 8, [.nilFunc]⟩
theorem ti99_ok : TOk Try.prog 99 ti99 := ⟨⟨_, _, _, Try.underlying99⟩, ⟨_, _, info_of_run Try.typeInfo99, rfl, rfl, rfl, rfl, fun h => Bool.noConfusion h, fun _ => rfl⟩, rfl⟩
noncomputable def ti100 : TI := ⟨.struct [(0, 17), (1, 17), (2, 17), (3, 9)], 4, 40, [.pointer none, .pointer none, .pointer none, .string ⟨⟨[]⟩⟩]⟩
theorem ti100_ok : TOk Try.prog 100 ti100 := ⟨⟨_, Try.underlying100, rfl⟩, ⟨_, _, info_of_run Try.typeInfo100, rfl, rfl, rfl, rfl, fun _ => rfl, fun h => Bool.noConfusion h⟩, rfl⟩
noncomputable def ti101 : TI := ⟨.struct [(0, 17), (1, 17), (2, 17), (3, 9)], 4, 40, [.pointer none, .pointer none, .pointer none, .string ⟨⟨[]⟩⟩]⟩
theorem ti101_ok : TOk Try.prog 101 ti101 := ⟨⟨_, Try.underlying101, rfl⟩, ⟨_, _, info_of_run Try.typeInfo101, rfl, rfl, rfl, rfl, fun _ => rfl, fun h => Bool.noConfusion h⟩, rfl⟩
noncomputable def ti105 : TI := ⟨.func, 1, 8, [.nilFunc]⟩
theorem ti105_ok : TOk Try.prog 105 ti105 := ⟨⟨_, _, _, Try.underlying105⟩, ⟨_, _, info_of_run Try.typeInfo105, rfl, rfl, rfl, rfl, fun h => Bool.noConfusion h, fun _ => rfl⟩, rfl⟩
noncomputable def ti106 : TI := ⟨.int .u32, 1, 4, [.int .u32 0]⟩
theorem ti106_ok : TOk Try.prog 106 ti106 := ⟨Try.underlying106, ⟨_, _, info_of_run Try.typeInfo106, rfl, rfl, rfl, rfl, fun h => Bool.noConfusion h, fun _ => rfl⟩, rfl⟩
noncomputable def ti107 : TI := ⟨.int .u8, 1, 1, [.int .u8 0]⟩
theorem ti107_ok : TOk Try.prog 107 ti107 := ⟨Try.underlying107, ⟨_, _, info_of_run Try.typeInfo107, rfl, rfl, rfl, rfl, fun h => Bool.noConfusion h, fun _ => rfl⟩, rfl⟩
noncomputable def ti108 : TI := ⟨.int .u8, 1, 1, [.int .u8 0]⟩
theorem ti108_ok : TOk Try.prog 108 ti108 := ⟨Try.underlying108, ⟨_, _, info_of_run Try.typeInfo108, rfl, rfl, rfl, rfl, fun h => Bool.noConfusion h, fun _ => rfl⟩, rfl⟩
noncomputable def ti109 : TI := ⟨.func, 1, 8, [.nilFunc]⟩
theorem ti109_ok : TOk Try.prog 109 ti109 := ⟨⟨_, _, _, Try.underlying109⟩, ⟨_, _, info_of_run Try.typeInfo109, rfl, rfl, rfl, rfl, fun h => Bool.noConfusion h, fun _ => rfl⟩, rfl⟩
noncomputable def ti110 : TI := ⟨.ptr 5, 1, 8, [.pointer none]⟩
theorem ti110_ok : TOk Try.prog 110 ti110 := ⟨Try.underlying110, ⟨_, _, info_of_run Try.typeInfo110, rfl, rfl, rfl, rfl, fun h => Bool.noConfusion h, fun _ => rfl⟩, rfl⟩
noncomputable def ti111 : TI := ⟨.int .i32, 1, 4, [.int .i32 0]⟩
theorem ti111_ok : TOk Try.prog 111 ti111 := ⟨Try.underlying111, ⟨_, _, info_of_run Try.typeInfo111, rfl, rfl, rfl, rfl, fun h => Bool.noConfusion h, fun _ => rfl⟩, rfl⟩
noncomputable def ti112 : TI := ⟨.int .i32, 1, 4, [.int .i32 0]⟩
theorem ti112_ok : TOk Try.prog 112 ti112 := ⟨Try.underlying112, ⟨_, _, info_of_run Try.typeInfo112, rfl, rfl, rfl, rfl, fun h => Bool.noConfusion h, fun _ => rfl⟩, rfl⟩
noncomputable def ti113 : TI := ⟨.struct [(0, 12), (1, 12), (2, 106), (3, 107), (4, 5), (5, 5), (6, 108), (7, 109), (8, 110), (9, 111), (10, 112)], 11, 48, [.int .u64 0, .int .u64 0, .int .u32 0, .int .u8 0, .int .u8 0, .int .u8 0, .int .u8 0, .nilFunc, .pointer none, .int .i32 0, .int .i32 0]⟩
theorem ti113_ok : TOk Try.prog 113 ti113 := ⟨⟨_, Try.underlying113, rfl⟩, ⟨_, _, info_of_run Try.typeInfo113, rfl, rfl, rfl, rfl, fun _ => rfl, fun h => Bool.noConfusion h⟩, rfl⟩
noncomputable def ti114 : TI := ⟨.struct [(0, 12), (1, 12), (2, 106), (3, 107), (4, 5), (5, 5), (6, 108), (7, 109), (8, 110), (9, 111), (10, 112)], 11, 48, [.int .u64 0, .int .u64 0, .int .u32 0, .int .u8 0, .int .u8 0, .int .u8 0, .int .u8 0, .nilFunc, .pointer none, .int .i32 0, .int .i32 0]⟩
theorem ti114_ok : TOk Try.prog 114 ti114 := ⟨⟨_, Try.underlying114, rfl⟩, ⟨_, _, info_of_run Try.typeInfo114, rfl, rfl, rfl, rfl, fun _ => rfl, fun h => Bool.noConfusion h⟩, rfl⟩
noncomputable def tt3 : TT := .node 18 (.node 15 (.node 13 (.one 13 ti13) (.node 14 (.one 14 ti14) (.one 15 ti15))) (.node 16 (.one 16 ti16) (.node 17 (.one 17 ti17) (.one 18 ti18)))) (.node 22 (.node 19 (.one 19 ti19) (.node 21 (.one 21 ti21) (.one 22 ti22))) (.node 25 (.node 24 (.one 24 ti24) (.one 25 ti25)) (.node 26 (.one 26 ti26) (.one 27 ti27))))
theorem tt3_ok : tt3.Ok Try.prog := ⟨⟨⟨ti13_ok, ⟨ti14_ok, ti15_ok⟩⟩, ⟨ti16_ok, ⟨ti17_ok, ti18_ok⟩⟩⟩, ⟨⟨ti19_ok, ⟨ti21_ok, ti22_ok⟩⟩, ⟨⟨ti24_ok, ti25_ok⟩, ⟨ti26_ok, ti27_ok⟩⟩⟩⟩
noncomputable def tt2 : TT := .node 12 (.node 6 (.node 3 (.node 1 (.one 1 ti1) (.node 2 (.one 2 ti2) (.one 3 ti3))) (.node 4 (.one 4 ti4) (.node 5 (.one 5 ti5) (.one 6 ti6)))) (.node 9 (.node 7 (.one 7 ti7) (.node 8 (.one 8 ti8) (.one 9 ti9))) (.node 10 (.one 10 ti10) (.node 11 (.one 11 ti11) (.one 12 ti12))))) tt3
theorem tt2_ok : tt2.Ok Try.prog := ⟨⟨⟨⟨ti1_ok, ⟨ti2_ok, ti3_ok⟩⟩, ⟨ti4_ok, ⟨ti5_ok, ti6_ok⟩⟩⟩, ⟨⟨ti7_ok, ⟨ti8_ok, ti9_ok⟩⟩, ⟨ti10_ok, ⟨ti11_ok, ti12_ok⟩⟩⟩⟩, tt3_ok⟩
noncomputable def tt5 : TT := .node 33 (.node 30 (.node 28 (.one 28 ti28) (.node 29 (.one 29 ti29) (.one 30 ti30))) (.node 31 (.one 31 ti31) (.node 32 (.one 32 ti32) (.one 33 ti33)))) (.node 37 (.node 35 (.one 35 ti35) (.node 36 (.one 36 ti36) (.one 37 ti37))) (.node 40 (.node 39 (.one 39 ti39) (.one 40 ti40)) (.node 41 (.one 41 ti41) (.one 42 ti42))))
theorem tt5_ok : tt5.Ok Try.prog := ⟨⟨⟨ti28_ok, ⟨ti29_ok, ti30_ok⟩⟩, ⟨ti31_ok, ⟨ti32_ok, ti33_ok⟩⟩⟩, ⟨⟨ti35_ok, ⟨ti36_ok, ti37_ok⟩⟩, ⟨⟨ti39_ok, ti40_ok⟩, ⟨ti41_ok, ti42_ok⟩⟩⟩⟩
noncomputable def tt6 : TT := .node 48 (.node 45 (.node 43 (.one 43 ti43) (.node 44 (.one 44 ti44) (.one 45 ti45))) (.node 46 (.one 46 ti46) (.node 47 (.one 47 ti47) (.one 48 ti48)))) (.node 51 (.node 49 (.one 49 ti49) (.node 50 (.one 50 ti50) (.one 51 ti51))) (.node 53 (.node 52 (.one 52 ti52) (.one 53 ti53)) (.node 54 (.one 54 ti54) (.one 55 ti55))))
theorem tt6_ok : tt6.Ok Try.prog := ⟨⟨⟨ti43_ok, ⟨ti44_ok, ti45_ok⟩⟩, ⟨ti46_ok, ⟨ti47_ok, ti48_ok⟩⟩⟩, ⟨⟨ti49_ok, ⟨ti50_ok, ti51_ok⟩⟩, ⟨⟨ti52_ok, ti53_ok⟩, ⟨ti54_ok, ti55_ok⟩⟩⟩⟩
noncomputable def tt4 : TT := .node 42 tt5 tt6
theorem tt4_ok : tt4.Ok Try.prog := ⟨tt5_ok, tt6_ok⟩
noncomputable def tt1 : TT := .node 27 tt2 tt4
theorem tt1_ok : tt1.Ok Try.prog := ⟨tt2_ok, tt4_ok⟩
noncomputable def tt9 : TT := .node 77 (.node 74 (.node 71 (.one 71 ti71) (.node 72 (.one 72 ti72) (.one 74 ti74))) (.node 75 (.one 75 ti75) (.node 76 (.one 76 ti76) (.one 77 ti77)))) (.node 80 (.node 78 (.one 78 ti78) (.node 79 (.one 79 ti79) (.one 80 ti80))) (.node 82 (.node 81 (.one 81 ti81) (.one 82 ti82)) (.node 83 (.one 83 ti83) (.one 84 ti84))))
theorem tt9_ok : tt9.Ok Try.prog := ⟨⟨⟨ti71_ok, ⟨ti72_ok, ti74_ok⟩⟩, ⟨ti75_ok, ⟨ti76_ok, ti77_ok⟩⟩⟩, ⟨⟨ti78_ok, ⟨ti79_ok, ti80_ok⟩⟩, ⟨⟨ti81_ok, ti82_ok⟩, ⟨ti83_ok, ti84_ok⟩⟩⟩⟩
noncomputable def tt8 : TT := .node 70 (.node 62 (.node 58 (.node 56 (.one 56 ti56) (.node 57 (.one 57 ti57) (.one 58 ti58))) (.node 59 (.one 59 ti59) (.node 60 (.one 60 ti60) (.one 62 ti62)))) (.node 66 (.node 63 (.one 63 ti63) (.node 64 (.one 64 ti64) (.one 66 ti66))) (.node 68 (.one 68 ti68) (.node 69 (.one 69 ti69) (.one 70 ti70))))) tt9
theorem tt8_ok : tt8.Ok Try.prog := ⟨⟨⟨⟨ti56_ok, ⟨ti57_ok, ti58_ok⟩⟩, ⟨ti59_ok, ⟨ti60_ok, ti62_ok⟩⟩⟩, ⟨⟨ti63_ok, ⟨ti64_ok, ti66_ok⟩⟩, ⟨ti68_ok, ⟨ti69_ok, ti70_ok⟩⟩⟩⟩, tt9_ok⟩
noncomputable def tt11 : TT := .node 90 (.node 87 (.node 85 (.one 85 ti85) (.node 86 (.one 86 ti86) (.one 87 ti87))) (.node 88 (.one 88 ti88) (.node 89 (.one 89 ti89) (.one 90 ti90)))) (.node 94 (.node 91 (.one 91 ti91) (.node 93 (.one 93 ti93) (.one 94 ti94))) (.node 96 (.node 95 (.one 95 ti95) (.one 96 ti96)) (.node 97 (.one 97 ti97) (.one 98 ti98))))
theorem tt11_ok : tt11.Ok Try.prog := ⟨⟨⟨ti85_ok, ⟨ti86_ok, ti87_ok⟩⟩, ⟨ti88_ok, ⟨ti89_ok, ti90_ok⟩⟩⟩, ⟨⟨ti91_ok, ⟨ti93_ok, ti94_ok⟩⟩, ⟨⟨ti95_ok, ti96_ok⟩, ⟨ti97_ok, ti98_ok⟩⟩⟩⟩
noncomputable def tt12 : TT := .node 107 (.node 101 (.node 99 (.one 99 ti99) (.node 100 (.one 100 ti100) (.one 101 ti101))) (.node 105 (.one 105 ti105) (.node 106 (.one 106 ti106) (.one 107 ti107)))) (.node 110 (.node 108 (.one 108 ti108) (.node 109 (.one 109 ti109) (.one 110 ti110))) (.node 112 (.node 111 (.one 111 ti111) (.one 112 ti112)) (.node 113 (.one 113 ti113) (.one 114 ti114))))
theorem tt12_ok : tt12.Ok Try.prog := ⟨⟨⟨ti99_ok, ⟨ti100_ok, ti101_ok⟩⟩, ⟨ti105_ok, ⟨ti106_ok, ti107_ok⟩⟩⟩, ⟨⟨ti108_ok, ⟨ti109_ok, ti110_ok⟩⟩, ⟨⟨ti111_ok, ti112_ok⟩, ⟨ti113_ok, ti114_ok⟩⟩⟩⟩
noncomputable def tt10 : TT := .node 98 tt11 tt12
theorem tt10_ok : tt10.Ok Try.prog := ⟨tt11_ok, tt12_ok⟩
noncomputable def tt7 : TT := .node 84 tt8 tt10
theorem tt7_ok : tt7.Ok Try.prog := ⟨tt8_ok, tt10_ok⟩
noncomputable def tt0 : TT := .node 55 tt1 tt7
theorem tt0_ok : tt0.Ok Try.prog := ⟨tt1_ok, tt7_ok⟩
noncomputable def S : Sig := ⟨Try.prog, tt0.look⟩
theorem S_ok : S.Ok := fun t i h => TT.ok tt0 tt0_ok t i h
theorem S_mixed : S.P.follows .mixedOrders = true := by kernel_rfl
end Go.Proofs.Ytloknkdomgeolaa.She
