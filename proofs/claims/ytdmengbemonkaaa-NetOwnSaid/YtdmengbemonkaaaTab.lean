/- OWN WORK, by a program (gentab.py): the seat's types and functions, told to the flow engine, each with its proof. -/
import Derived.Test.YtdmengbemonkaaaFlowB
import Derived.Test.YtdmengbemonkaaaProg
import Derived.KernelRfl
set_option linter.unusedVariables false
namespace Go.Proofs.Ytdmengbemonkaaa.T
open Go Go.Flow
def i1 : TyI := ⟨.func, 1, 8, [.nilFunc]⟩
theorem g1 : Good Try.prog 1 i1 := ⟨⟨(Try.prog.info? 1).getD default, by kernel_rfl, by kernel_rfl, by kernel_rfl, by kernel_rfl⟩, ⟨_, Try.underlying1, by first | trivial | rfl | exact ⟨rfl, rfl⟩⟩, rfl⟩
def i2 : TyI := ⟨.int .i64, 1, 8, [.int .i64 0]⟩
theorem g2 : Good Try.prog 2 i2 := ⟨⟨(Try.prog.info? 2).getD default, by kernel_rfl, by kernel_rfl, by kernel_rfl, by kernel_rfl⟩, ⟨_, Try.underlying2, by first | trivial | rfl | exact ⟨rfl, rfl⟩⟩, rfl⟩
def i3 : TyI := ⟨.int .i64, 1, 8, [.int .i64 0]⟩
theorem g3 : Good Try.prog 3 i3 := ⟨⟨(Try.prog.info? 3).getD default, by kernel_rfl, by kernel_rfl, by kernel_rfl, by kernel_rfl⟩, ⟨_, Try.underlying3, by first | trivial | rfl | exact ⟨rfl, rfl⟩⟩, rfl⟩
def i4 : TyI := ⟨.bool, 1, 1, [.bool false]⟩
theorem g4 : Good Try.prog 4 i4 := ⟨⟨(Try.prog.info? 4).getD default, by kernel_rfl, by kernel_rfl, by kernel_rfl, by kernel_rfl⟩, ⟨_, Try.underlying4, by first | trivial | rfl | exact ⟨rfl, rfl⟩⟩, rfl⟩
def i5 : TyI := ⟨.int .u8, 1, 1, [.int .u8 0]⟩
theorem g5 : Good Try.prog 5 i5 := ⟨⟨(Try.prog.info? 5).getD default, by kernel_rfl, by kernel_rfl, by kernel_rfl, by kernel_rfl⟩, ⟨_, Try.underlying5, by first | trivial | rfl | exact ⟨rfl, rfl⟩⟩, rfl⟩
def i6 : TyI := ⟨.int .u8, 1, 1, [.int .u8 0]⟩
theorem g6 : Good Try.prog 6 i6 := ⟨⟨(Try.prog.info? 6).getD default, by kernel_rfl, by kernel_rfl, by kernel_rfl, by kernel_rfl⟩, ⟨_, Try.underlying6, by first | trivial | rfl | exact ⟨rfl, rfl⟩⟩, rfl⟩
def i7 : TyI := ⟨.struct [(0, 2), (1, 3), (2, 4), (3, 6)], 4, 24, [.int .i64 0, .int .i64 0, .bool false, .int .u8 0]⟩
theorem g7 : Good Try.prog 7 i7 := ⟨⟨(Try.prog.info? 7).getD default, by kernel_rfl, by kernel_rfl, by kernel_rfl, by kernel_rfl⟩, ⟨_, Try.underlying7, by first | trivial | rfl | exact ⟨rfl, rfl⟩⟩, rfl⟩
def i8 : TyI := ⟨.struct [(0, 2), (1, 3), (2, 4), (3, 6)], 4, 24, [.int .i64 0, .int .i64 0, .bool false, .int .u8 0]⟩
theorem g8 : Good Try.prog 8 i8 := ⟨⟨(Try.prog.info? 8).getD default, by kernel_rfl, by kernel_rfl, by kernel_rfl, by kernel_rfl⟩, ⟨_, Try.underlying8, by first | trivial | rfl | exact ⟨rfl, rfl⟩⟩, rfl⟩
def i9 : TyI := ⟨.string, 1, 16, [.string ⟨#[]⟩]⟩
theorem g9 : Good Try.prog 9 i9 := ⟨⟨(Try.prog.info? 9).getD default, by kernel_rfl, by kernel_rfl, by kernel_rfl, by kernel_rfl⟩, ⟨_, Try.underlying9, by first | trivial | rfl | exact ⟨rfl, rfl⟩⟩, rfl⟩
def i10 : TyI := ⟨.string, 1, 16, [.string ⟨#[]⟩]⟩
theorem g10 : Good Try.prog 10 i10 := ⟨⟨(Try.prog.info? 10).getD default, by kernel_rfl, by kernel_rfl, by kernel_rfl, by kernel_rfl⟩, ⟨_, Try.underlying10, by first | trivial | rfl | exact ⟨rfl, rfl⟩⟩, rfl⟩
def i11 : TyI := ⟨.string, 1, 16, [.string ⟨#[]⟩]⟩
theorem g11 : Good Try.prog 11 i11 := ⟨⟨(Try.prog.info? 11).getD default, by kernel_rfl, by kernel_rfl, by kernel_rfl, by kernel_rfl⟩, ⟨_, Try.underlying11, by first | trivial | rfl | exact ⟨rfl, rfl⟩⟩, rfl⟩
def i12 : TyI := ⟨.int .u64, 1, 8, [.int .u64 0]⟩
theorem g12 : Good Try.prog 12 i12 := ⟨⟨(Try.prog.info? 12).getD default, by kernel_rfl, by kernel_rfl, by kernel_rfl, by kernel_rfl⟩, ⟨_, Try.underlying12, by first | trivial | rfl | exact ⟨rfl, rfl⟩⟩, rfl⟩
def i13 : TyI := ⟨.struct [(0, 9), (1, 12)], 2, 24, [.string ⟨#[]⟩, .int .u64 0]⟩
theorem g13 : Good Try.prog 13 i13 := ⟨⟨(Try.prog.info? 13).getD default, by kernel_rfl, by kernel_rfl, by kernel_rfl, by kernel_rfl⟩, ⟨_, Try.underlying13, by first | trivial | rfl | exact ⟨rfl, rfl⟩⟩, rfl⟩
def i14 : TyI := ⟨.struct [(0, 9), (1, 12)], 2, 24, [.string ⟨#[]⟩, .int .u64 0]⟩
theorem g14 : Good Try.prog 14 i14 := ⟨⟨(Try.prog.info? 14).getD default, by kernel_rfl, by kernel_rfl, by kernel_rfl, by kernel_rfl⟩, ⟨_, Try.underlying14, by first | trivial | rfl | exact ⟨rfl, rfl⟩⟩, rfl⟩
def i15 : TyI := ⟨.ptr 50, 1, 8, [.pointer none]⟩
theorem g15 : Good Try.prog 15 i15 := ⟨⟨(Try.prog.info? 15).getD default, by kernel_rfl, by kernel_rfl, by kernel_rfl, by kernel_rfl⟩, ⟨_, Try.underlying15, by first | trivial | rfl | exact ⟨rfl, rfl⟩⟩, rfl⟩
def i16 : TyI := ⟨.ptr 53, 1, 8, [.pointer none]⟩
theorem g16 : Good Try.prog 16 i16 := ⟨⟨(Try.prog.info? 16).getD default, by kernel_rfl, by kernel_rfl, by kernel_rfl, by kernel_rfl⟩, ⟨_, Try.underlying16, by first | trivial | rfl | exact ⟨rfl, rfl⟩⟩, rfl⟩
def i17 : TyI := ⟨.ptr 63, 1, 8, [.pointer none]⟩
theorem g17 : Good Try.prog 17 i17 := ⟨⟨(Try.prog.info? 17).getD default, by kernel_rfl, by kernel_rfl, by kernel_rfl, by kernel_rfl⟩, ⟨_, Try.underlying17, by first | trivial | rfl | exact ⟨rfl, rfl⟩⟩, rfl⟩
def i18 : TyI := ⟨.struct [(0, 17)], 1, 8, [.pointer none]⟩
theorem g18 : Good Try.prog 18 i18 := ⟨⟨(Try.prog.info? 18).getD default, by kernel_rfl, by kernel_rfl, by kernel_rfl, by kernel_rfl⟩, ⟨_, Try.underlying18, by first | trivial | rfl | exact ⟨rfl, rfl⟩⟩, rfl⟩
def i19 : TyI := ⟨.struct [(0, 17)], 1, 8, [.pointer none]⟩
theorem g19 : Good Try.prog 19 i19 := ⟨⟨(Try.prog.info? 19).getD default, by kernel_rfl, by kernel_rfl, by kernel_rfl, by kernel_rfl⟩, ⟨_, Try.underlying19, by first | trivial | rfl | exact ⟨rfl, rfl⟩⟩, rfl⟩
def i21 : TyI := ⟨.int .i32, 1, 4, [.int .i32 0]⟩
theorem g21 : Good Try.prog 21 i21 := ⟨⟨(Try.prog.info? 21).getD default, by kernel_rfl, by kernel_rfl, by kernel_rfl, by kernel_rfl⟩, ⟨_, Try.underlying21, by first | trivial | rfl | exact ⟨rfl, rfl⟩⟩, rfl⟩
def i22 : TyI := ⟨.slice 27, 1, 24, [.slice none 0 0]⟩
theorem g22 : Good Try.prog 22 i22 := ⟨⟨(Try.prog.info? 22).getD default, by kernel_rfl, by kernel_rfl, by kernel_rfl, by kernel_rfl⟩, ⟨_, Try.underlying22, by first | trivial | rfl | exact ⟨rfl, rfl⟩⟩, rfl⟩
def i23 : TyI := ⟨.slice 3, 1, 24, [.slice none 0 0]⟩
theorem g23 : Good Try.prog 23 i23 := ⟨⟨(Try.prog.info? 23).getD default, by kernel_rfl, by kernel_rfl, by kernel_rfl, by kernel_rfl⟩, ⟨_, Try.underlying23, by first | trivial | rfl | exact ⟨rfl, rfl⟩⟩, rfl⟩
def i24 : TyI := ⟨.func, 1, 8, [.nilFunc]⟩
theorem g24 : Good Try.prog 24 i24 := ⟨⟨(Try.prog.info? 24).getD default, by kernel_rfl, by kernel_rfl, by kernel_rfl, by kernel_rfl⟩, ⟨_, Try.underlying24, by first | trivial | rfl | exact ⟨rfl, rfl⟩⟩, rfl⟩
def i25 : TyI := ⟨.slice 29, 1, 24, [.slice none 0 0]⟩
theorem g25 : Good Try.prog 25 i25 := ⟨⟨(Try.prog.info? 25).getD default, by kernel_rfl, by kernel_rfl, by kernel_rfl, by kernel_rfl⟩, ⟨_, Try.underlying25, by first | trivial | rfl | exact ⟨rfl, rfl⟩⟩, rfl⟩
def i26 : TyI := ⟨.func, 1, 8, [.nilFunc]⟩
theorem g26 : Good Try.prog 26 i26 := ⟨⟨(Try.prog.info? 26).getD default, by kernel_rfl, by kernel_rfl, by kernel_rfl, by kernel_rfl⟩, ⟨_, Try.underlying26, by first | trivial | rfl | exact ⟨rfl, rfl⟩⟩, rfl⟩
def i27 : TyI := ⟨.slice 5, 1, 24, [.slice none 0 0]⟩
theorem g27 : Good Try.prog 27 i27 := ⟨⟨(Try.prog.info? 27).getD default, by kernel_rfl, by kernel_rfl, by kernel_rfl, by kernel_rfl⟩, ⟨_, Try.underlying27, by first | trivial | rfl | exact ⟨rfl, rfl⟩⟩, rfl⟩
def i28 : TyI := ⟨.struct [(0, 3), (1, 27)], 2, 32, [.int .i64 0, .slice none 0 0]⟩
theorem g28 : Good Try.prog 28 i28 := ⟨⟨(Try.prog.info? 28).getD default, by kernel_rfl, by kernel_rfl, by kernel_rfl, by kernel_rfl⟩, ⟨_, Try.underlying28, by first | trivial | rfl | exact ⟨rfl, rfl⟩⟩, rfl⟩
def i29 : TyI := ⟨.struct [(0, 3), (1, 27)], 2, 32, [.int .i64 0, .slice none 0 0]⟩
theorem g29 : Good Try.prog 29 i29 := ⟨⟨(Try.prog.info? 29).getD default, by kernel_rfl, by kernel_rfl, by kernel_rfl, by kernel_rfl⟩, ⟨_, Try.underlying29, by first | trivial | rfl | exact ⟨rfl, rfl⟩⟩, rfl⟩
def i31 : TyI := ⟨.func, 1, 8, [.nilFunc]⟩
theorem g31 : Good Try.prog 31 i31 := ⟨⟨(Try.prog.info? 31).getD default, by kernel_rfl, by kernel_rfl, by kernel_rfl, by kernel_rfl⟩, ⟨_, Try.underlying31, by first | trivial | rfl | exact ⟨rfl, rfl⟩⟩, rfl⟩
def i32 : TyI := ⟨.func, 1, 8, [.nilFunc]⟩
theorem g32 : Good Try.prog 32 i32 := ⟨⟨(Try.prog.info? 32).getD default, by kernel_rfl, by kernel_rfl, by kernel_rfl, by kernel_rfl⟩, ⟨_, Try.underlying32, by first | trivial | rfl | exact ⟨rfl, rfl⟩⟩, rfl⟩
def i33 : TyI := ⟨.func, 1, 8, [.nilFunc]⟩
theorem g33 : Good Try.prog 33 i33 := ⟨⟨(Try.prog.info? 33).getD default, by kernel_rfl, by kernel_rfl, by kernel_rfl, by kernel_rfl⟩, ⟨_, Try.underlying33, by first | trivial | rfl | exact ⟨rfl, rfl⟩⟩, rfl⟩
def i34 : TyI := ⟨.func, 1, 8, [.nilFunc]⟩
theorem g34 : Good Try.prog 34 i34 := ⟨⟨(Try.prog.info? 34).getD default, by kernel_rfl, by kernel_rfl, by kernel_rfl, by kernel_rfl⟩, ⟨_, Try.underlying34, by first | trivial | rfl | exact ⟨rfl, rfl⟩⟩, rfl⟩
def i35 : TyI := ⟨.func, 1, 8, [.nilFunc]⟩
theorem g35 : Good Try.prog 35 i35 := ⟨⟨(Try.prog.info? 35).getD default, by kernel_rfl, by kernel_rfl, by kernel_rfl, by kernel_rfl⟩, ⟨_, Try.underlying35, by first | trivial | rfl | exact ⟨rfl, rfl⟩⟩, rfl⟩
def i36 : TyI := ⟨.func, 1, 8, [.nilFunc]⟩
theorem g36 : Good Try.prog 36 i36 := ⟨⟨(Try.prog.info? 36).getD default, by kernel_rfl, by kernel_rfl, by kernel_rfl, by kernel_rfl⟩, ⟨_, Try.underlying36, by first | trivial | rfl | exact ⟨rfl, rfl⟩⟩, rfl⟩
def i37 : TyI := ⟨.func, 1, 8, [.nilFunc]⟩
theorem g37 : Good Try.prog 37 i37 := ⟨⟨(Try.prog.info? 37).getD default, by kernel_rfl, by kernel_rfl, by kernel_rfl, by kernel_rfl⟩, ⟨_, Try.underlying37, by first | trivial | rfl | exact ⟨rfl, rfl⟩⟩, rfl⟩
def i38 : TyI := ⟨.func, 1, 8, [.nilFunc]⟩
theorem g38 : Good Try.prog 38 i38 := ⟨⟨(Try.prog.info? 38).getD default, by kernel_rfl, by kernel_rfl, by kernel_rfl, by kernel_rfl⟩, ⟨_, Try.underlying38, by first | trivial | rfl | exact ⟨rfl, rfl⟩⟩, rfl⟩
def i39 : TyI := ⟨.func, 1, 8, [.nilFunc]⟩
theorem g39 : Good Try.prog 39 i39 := ⟨⟨(Try.prog.info? 39).getD default, by kernel_rfl, by kernel_rfl, by kernel_rfl, by kernel_rfl⟩, ⟨_, Try.underlying39, by first | trivial | rfl | exact ⟨rfl, rfl⟩⟩, rfl⟩
def i40 : TyI := ⟨.func, 1, 8, [.nilFunc]⟩
theorem g40 : Good Try.prog 40 i40 := ⟨⟨(Try.prog.info? 40).getD default, by kernel_rfl, by kernel_rfl, by kernel_rfl, by kernel_rfl⟩, ⟨_, Try.underlying40, by first | trivial | rfl | exact ⟨rfl, rfl⟩⟩, rfl⟩
def i41 : TyI := ⟨.func, 1, 8, [.nilFunc]⟩
theorem g41 : Good Try.prog 41 i41 := ⟨⟨(Try.prog.info? 41).getD default, by kernel_rfl, by kernel_rfl, by kernel_rfl, by kernel_rfl⟩, ⟨_, Try.underlying41, by first | trivial | rfl | exact ⟨rfl, rfl⟩⟩, rfl⟩
def i42 : TyI := ⟨.func, 1, 8, [.nilFunc]⟩
theorem g42 : Good Try.prog 42 i42 := ⟨⟨(Try.prog.info? 42).getD default, by kernel_rfl, by kernel_rfl, by kernel_rfl, by kernel_rfl⟩, ⟨_, Try.underlying42, by first | trivial | rfl | exact ⟨rfl, rfl⟩⟩, rfl⟩
def i43 : TyI := ⟨.func, 1, 8, [.nilFunc]⟩
theorem g43 : Good Try.prog 43 i43 := ⟨⟨(Try.prog.info? 43).getD default, by kernel_rfl, by kernel_rfl, by kernel_rfl, by kernel_rfl⟩, ⟨_, Try.underlying43, by first | trivial | rfl | exact ⟨rfl, rfl⟩⟩, rfl⟩
def i44 : TyI := ⟨.func, 1, 8, [.nilFunc]⟩
theorem g44 : Good Try.prog 44 i44 := ⟨⟨(Try.prog.info? 44).getD default, by kernel_rfl, by kernel_rfl, by kernel_rfl, by kernel_rfl⟩, ⟨_, Try.underlying44, by first | trivial | rfl | exact ⟨rfl, rfl⟩⟩, rfl⟩
def i45 : TyI := ⟨.func, 1, 8, [.nilFunc]⟩
theorem g45 : Good Try.prog 45 i45 := ⟨⟨(Try.prog.info? 45).getD default, by kernel_rfl, by kernel_rfl, by kernel_rfl, by kernel_rfl⟩, ⟨_, Try.underlying45, by first | trivial | rfl | exact ⟨rfl, rfl⟩⟩, rfl⟩
def i46 : TyI := ⟨.func, 1, 8, [.nilFunc]⟩
theorem g46 : Good Try.prog 46 i46 := ⟨⟨(Try.prog.info? 46).getD default, by kernel_rfl, by kernel_rfl, by kernel_rfl, by kernel_rfl⟩, ⟨_, Try.underlying46, by first | trivial | rfl | exact ⟨rfl, rfl⟩⟩, rfl⟩
def i47 : TyI := ⟨.func, 1, 8, [.nilFunc]⟩
theorem g47 : Good Try.prog 47 i47 := ⟨⟨(Try.prog.info? 47).getD default, by kernel_rfl, by kernel_rfl, by kernel_rfl, by kernel_rfl⟩, ⟨_, Try.underlying47, by first | trivial | rfl | exact ⟨rfl, rfl⟩⟩, rfl⟩
def i48 : TyI := ⟨.func, 1, 8, [.nilFunc]⟩
theorem g48 : Good Try.prog 48 i48 := ⟨⟨(Try.prog.info? 48).getD default, by kernel_rfl, by kernel_rfl, by kernel_rfl, by kernel_rfl⟩, ⟨_, Try.underlying48, by first | trivial | rfl | exact ⟨rfl, rfl⟩⟩, rfl⟩
def i49 : TyI := ⟨.struct [(0, 17), (1, 17), (2, 17), (3, 9)], 4, 40, [.pointer none, .pointer none, .pointer none, .string ⟨#[]⟩]⟩
theorem g49 : Good Try.prog 49 i49 := ⟨⟨(Try.prog.info? 49).getD default, by kernel_rfl, by kernel_rfl, by kernel_rfl, by kernel_rfl⟩, ⟨_, Try.underlying49, by first | trivial | rfl | exact ⟨rfl, rfl⟩⟩, rfl⟩
def i50 : TyI := ⟨.struct [(0, 17), (1, 17), (2, 17), (3, 9)], 4, 40, [.pointer none, .pointer none, .pointer none, .string ⟨#[]⟩]⟩
theorem g50 : Good Try.prog 50 i50 := ⟨⟨(Try.prog.info? 50).getD default, by kernel_rfl, by kernel_rfl, by kernel_rfl, by kernel_rfl⟩, ⟨_, Try.underlying50, by first | trivial | rfl | exact ⟨rfl, rfl⟩⟩, rfl⟩
def i51 : TyI := ⟨.arr 0 16, 0, 0, []⟩
theorem g51 : Good Try.prog 51 i51 := ⟨⟨(Try.prog.info? 51).getD default, by kernel_rfl, by kernel_rfl, by kernel_rfl, by kernel_rfl⟩, ⟨_, Try.underlying51, by first | trivial | rfl | exact ⟨rfl, rfl⟩⟩, rfl⟩
def i52 : TyI := ⟨.struct [(0, 51)], 0, 0, []⟩
theorem g52 : Good Try.prog 52 i52 := ⟨⟨(Try.prog.info? 52).getD default, by kernel_rfl, by kernel_rfl, by kernel_rfl, by kernel_rfl⟩, ⟨_, Try.underlying52, by first | trivial | rfl | exact ⟨rfl, rfl⟩⟩, rfl⟩
def i53 : TyI := ⟨.struct [(0, 51)], 0, 0, []⟩
theorem g53 : Good Try.prog 53 i53 := ⟨⟨(Try.prog.info? 53).getD default, by kernel_rfl, by kernel_rfl, by kernel_rfl, by kernel_rfl⟩, ⟨_, Try.underlying53, by first | trivial | rfl | exact ⟨rfl, rfl⟩⟩, rfl⟩
def i54 : TyI := ⟨.func, 1, 8, [.nilFunc]⟩
theorem g54 : Good Try.prog 54 i54 := ⟨⟨(Try.prog.info? 54).getD default, by kernel_rfl, by kernel_rfl, by kernel_rfl, by kernel_rfl⟩, ⟨_, Try.underlying54, by first | trivial | rfl | exact ⟨rfl, rfl⟩⟩, rfl⟩
def i55 : TyI := ⟨.int .u32, 1, 4, [.int .u32 0]⟩
theorem g55 : Good Try.prog 55 i55 := ⟨⟨(Try.prog.info? 55).getD default, by kernel_rfl, by kernel_rfl, by kernel_rfl, by kernel_rfl⟩, ⟨_, Try.underlying55, by first | trivial | rfl | exact ⟨rfl, rfl⟩⟩, rfl⟩
def i56 : TyI := ⟨.int .u8, 1, 1, [.int .u8 0]⟩
theorem g56 : Good Try.prog 56 i56 := ⟨⟨(Try.prog.info? 56).getD default, by kernel_rfl, by kernel_rfl, by kernel_rfl, by kernel_rfl⟩, ⟨_, Try.underlying56, by first | trivial | rfl | exact ⟨rfl, rfl⟩⟩, rfl⟩
def i57 : TyI := ⟨.int .u8, 1, 1, [.int .u8 0]⟩
theorem g57 : Good Try.prog 57 i57 := ⟨⟨(Try.prog.info? 57).getD default, by kernel_rfl, by kernel_rfl, by kernel_rfl, by kernel_rfl⟩, ⟨_, Try.underlying57, by first | trivial | rfl | exact ⟨rfl, rfl⟩⟩, rfl⟩
def i58 : TyI := ⟨.func, 1, 8, [.nilFunc]⟩
theorem g58 : Good Try.prog 58 i58 := ⟨⟨(Try.prog.info? 58).getD default, by kernel_rfl, by kernel_rfl, by kernel_rfl, by kernel_rfl⟩, ⟨_, Try.underlying58, by first | trivial | rfl | exact ⟨rfl, rfl⟩⟩, rfl⟩
def i59 : TyI := ⟨.ptr 5, 1, 8, [.pointer none]⟩
theorem g59 : Good Try.prog 59 i59 := ⟨⟨(Try.prog.info? 59).getD default, by kernel_rfl, by kernel_rfl, by kernel_rfl, by kernel_rfl⟩, ⟨_, Try.underlying59, by first | trivial | rfl | exact ⟨rfl, rfl⟩⟩, rfl⟩
def i60 : TyI := ⟨.int .i32, 1, 4, [.int .i32 0]⟩
theorem g60 : Good Try.prog 60 i60 := ⟨⟨(Try.prog.info? 60).getD default, by kernel_rfl, by kernel_rfl, by kernel_rfl, by kernel_rfl⟩, ⟨_, Try.underlying60, by first | trivial | rfl | exact ⟨rfl, rfl⟩⟩, rfl⟩
def i61 : TyI := ⟨.int .i32, 1, 4, [.int .i32 0]⟩
theorem g61 : Good Try.prog 61 i61 := ⟨⟨(Try.prog.info? 61).getD default, by kernel_rfl, by kernel_rfl, by kernel_rfl, by kernel_rfl⟩, ⟨_, Try.underlying61, by first | trivial | rfl | exact ⟨rfl, rfl⟩⟩, rfl⟩
def i62 : TyI := ⟨.struct [(0, 12), (1, 12), (2, 55), (3, 56), (4, 5), (5, 5), (6, 57), (7, 58), (8, 59), (9, 60), (10, 61)], 11, 48, [.int .u64 0, .int .u64 0, .int .u32 0, .int .u8 0, .int .u8 0, .int .u8 0, .int .u8 0, .nilFunc, .pointer none, .int .i32 0, .int .i32 0]⟩
theorem g62 : Good Try.prog 62 i62 := ⟨⟨(Try.prog.info? 62).getD default, by kernel_rfl, by kernel_rfl, by kernel_rfl, by kernel_rfl⟩, ⟨_, Try.underlying62, by first | trivial | rfl | exact ⟨rfl, rfl⟩⟩, rfl⟩
def i63 : TyI := ⟨.struct [(0, 12), (1, 12), (2, 55), (3, 56), (4, 5), (5, 5), (6, 57), (7, 58), (8, 59), (9, 60), (10, 61)], 11, 48, [.int .u64 0, .int .u64 0, .int .u32 0, .int .u8 0, .int .u8 0, .int .u8 0, .int .u8 0, .nilFunc, .pointer none, .int .i32 0, .int .i32 0]⟩
theorem g63 : Good Try.prog 63 i63 := ⟨⟨(Try.prog.info? 63).getD default, by kernel_rfl, by kernel_rfl, by kernel_rfl, by kernel_rfl⟩, ⟨_, Try.underlying63, by first | trivial | rfl | exact ⟨rfl, rfl⟩⟩, rfl⟩
def ty : Nat → Option TyI
  | 1 => some i1
  | 2 => some i2
  | 3 => some i3
  | 4 => some i4
  | 5 => some i5
  | 6 => some i6
  | 7 => some i7
  | 8 => some i8
  | 9 => some i9
  | 10 => some i10
  | 11 => some i11
  | 12 => some i12
  | 13 => some i13
  | 14 => some i14
  | 15 => some i15
  | 16 => some i16
  | 17 => some i17
  | 18 => some i18
  | 19 => some i19
  | 21 => some i21
  | 22 => some i22
  | 23 => some i23
  | 24 => some i24
  | 25 => some i25
  | 26 => some i26
  | 27 => some i27
  | 28 => some i28
  | 29 => some i29
  | 31 => some i31
  | 32 => some i32
  | 33 => some i33
  | 34 => some i34
  | 35 => some i35
  | 36 => some i36
  | 37 => some i37
  | 38 => some i38
  | 39 => some i39
  | 40 => some i40
  | 41 => some i41
  | 42 => some i42
  | 43 => some i43
  | 44 => some i44
  | 45 => some i45
  | 46 => some i46
  | 47 => some i47
  | 48 => some i48
  | 49 => some i49
  | 50 => some i50
  | 51 => some i51
  | 52 => some i52
  | 53 => some i53
  | 54 => some i54
  | 55 => some i55
  | 56 => some i56
  | 57 => some i57
  | 58 => some i58
  | 59 => some i59
  | 60 => some i60
  | 61 => some i61
  | 62 => some i62
  | 63 => some i63
  | _ => none
theorem tyOk : ∀ t i, ty t = some i → Good Try.prog t i := by
  intro t i h
  unfold ty at h
  split at h
  · injection h with h; subst h; exact g1
  · injection h with h; subst h; exact g2
  · injection h with h; subst h; exact g3
  · injection h with h; subst h; exact g4
  · injection h with h; subst h; exact g5
  · injection h with h; subst h; exact g6
  · injection h with h; subst h; exact g7
  · injection h with h; subst h; exact g8
  · injection h with h; subst h; exact g9
  · injection h with h; subst h; exact g10
  · injection h with h; subst h; exact g11
  · injection h with h; subst h; exact g12
  · injection h with h; subst h; exact g13
  · injection h with h; subst h; exact g14
  · injection h with h; subst h; exact g15
  · injection h with h; subst h; exact g16
  · injection h with h; subst h; exact g17
  · injection h with h; subst h; exact g18
  · injection h with h; subst h; exact g19
  · injection h with h; subst h; exact g21
  · injection h with h; subst h; exact g22
  · injection h with h; subst h; exact g23
  · injection h with h; subst h; exact g24
  · injection h with h; subst h; exact g25
  · injection h with h; subst h; exact g26
  · injection h with h; subst h; exact g27
  · injection h with h; subst h; exact g28
  · injection h with h; subst h; exact g29
  · injection h with h; subst h; exact g31
  · injection h with h; subst h; exact g32
  · injection h with h; subst h; exact g33
  · injection h with h; subst h; exact g34
  · injection h with h; subst h; exact g35
  · injection h with h; subst h; exact g36
  · injection h with h; subst h; exact g37
  · injection h with h; subst h; exact g38
  · injection h with h; subst h; exact g39
  · injection h with h; subst h; exact g40
  · injection h with h; subst h; exact g41
  · injection h with h; subst h; exact g42
  · injection h with h; subst h; exact g43
  · injection h with h; subst h; exact g44
  · injection h with h; subst h; exact g45
  · injection h with h; subst h; exact g46
  · injection h with h; subst h; exact g47
  · injection h with h; subst h; exact g48
  · injection h with h; subst h; exact g49
  · injection h with h; subst h; exact g50
  · injection h with h; subst h; exact g51
  · injection h with h; subst h; exact g52
  · injection h with h; subst h; exact g53
  · injection h with h; subst h; exact g54
  · injection h with h; subst h; exact g55
  · injection h with h; subst h; exact g56
  · injection h with h; subst h; exact g57
  · injection h with h; subst h; exact g58
  · injection h with h; subst h; exact g59
  · injection h with h; subst h; exact g60
  · injection h with h; subst h; exact g61
  · injection h with h; subst h; exact g62
  · injection h with h; subst h; exact g63
  · cases h
def fn (f : Nat) : Bool := Nat.ble 3 f && Nat.blt f 23
theorem fnAll : ((List.range 23).all fun f => Nat.blt f 3 || match Try.prog.funcs[f]? with | some g => !g.body.isNone && !(g.name == "runtime.NumGoroutine") | none => false) = true := by kernel_rfl
theorem fnOk : ∀ f, fn f = true → ∃ g, Try.prog.funcs[f]? = some g ∧ g.body.isNone = false ∧ (g.name == "runtime.NumGoroutine") = false := by
  intro f h
  simp only [fn, Bool.and_eq_true] at h
  have h1 := Nat.le_of_ble_eq_true h.1
  have h2 : f < 23 := Nat.blt_eq.mp h.2
  have h3 := List.all_eq_true.1 fnAll f (List.mem_range.2 h2)
  rw [Bool.or_eq_true] at h3
  rcases h3 with h3 | h3
  · have h4 : f < 3 := Nat.blt_eq.mp h3
    omega
  · split at h3
    · rename_i g hg
      simp only [Bool.and_eq_true, Bool.not_eq_true'] at h3
      exact ⟨g, hg, h3.1, h3.2⟩
    · cases h3
theorem mix : Try.prog.follows .mixedOrders = true := by kernel_rfl
noncomputable def C : Ctx := ⟨Try.prog, ty, fn, tyOk, fnOk, mix⟩
end Go.Proofs.Ytdmengbemonkaaa.T
