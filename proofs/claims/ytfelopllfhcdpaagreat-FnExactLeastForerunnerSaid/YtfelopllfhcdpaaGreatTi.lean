/- The table of this seat's types, and that it is the program's. -/
import Derived.Test.YtfelopllfhcdpaaGreatV11
import Derived.Test.YtfelopllfhcdpaaGreatProg
import Derived.KernelRfl
set_option linter.all false
namespace Go.Proofs.YtfelopllfhcdpaaGreat.V
def zz0 : Nat → SV := fun _ => .bad
def zz_cb9c04 : Nat → SV := fun _ => .raw .nilFunc
@[go_sem] theorem zz_cb9c04_eq (j : Nat) : zz_cb9c04 j = .raw .nilFunc := rfl
def zz_d2316c : Nat → SV := fun _ => .int .i64 0
@[go_sem] theorem zz_d2316c_eq (j : Nat) : zz_d2316c j = .int .i64 0 := rfl
def zz_a010c9 : Nat → SV := fun _ => .bool false
@[go_sem] theorem zz_a010c9_eq (j : Nat) : zz_a010c9 j = .bool false := rfl
def zz_2e582a : Nat → SV := fun _ => .int .u8 0
@[go_sem] theorem zz_2e582a_eq (j : Nat) : zz_2e582a j = .int .u8 0 := rfl
def zz_a13ee9 : Nat → SV := cl [.int .i64 0, .int .i64 0, .bool false, .int .u8 0]
@[go_sem] theorem zz_a13ee9_eq : zz_a13ee9 = cl [.int .i64 0, .int .i64 0, .bool false, .int .u8 0] := rfl
def zz_113ef6 : Nat → SV := fun _ => .str ⟨#[]⟩
@[go_sem] theorem zz_113ef6_eq (j : Nat) : zz_113ef6 j = .str ⟨#[]⟩ := rfl
def zz_ad32d5 : Nat → SV := fun _ => .int .u64 0
@[go_sem] theorem zz_ad32d5_eq (j : Nat) : zz_ad32d5 j = .int .u64 0 := rfl
def zz_4f6a4f : Nat → SV := cl [.str ⟨#[]⟩, .int .u64 0]
@[go_sem] theorem zz_4f6a4f_eq : zz_4f6a4f = cl [.str ⟨#[]⟩, .int .u64 0] := rfl
def zz_fbd960 : Nat → SV := fun _ => .raw (.pointer none)
@[go_sem] theorem zz_fbd960_eq (j : Nat) : zz_fbd960 j = .raw (.pointer none) := rfl
def zz_fe4aff : Nat → SV := fun _ => .raw .nilIface
@[go_sem] theorem zz_fe4aff_eq (j : Nat) : zz_fe4aff j = .raw .nilIface := rfl
def zz_2cc614 : Nat → SV := fun _ => .int .i32 0
@[go_sem] theorem zz_2cc614_eq (j : Nat) : zz_2cc614 j = .int .i32 0 := rfl
def zz_96d04d : Nat → SV := fun _ => .int .i8 0
@[go_sem] theorem zz_96d04d_eq (j : Nat) : zz_96d04d j = .int .i8 0 := rfl
def zz_057838 : Nat → SV := fun _ => .int .i16 0
@[go_sem] theorem zz_057838_eq (j : Nat) : zz_057838 j = .int .i16 0 := rfl
def zz_f5ab8e : Nat → SV := cl [.int .i16 0, .int .i16 0, .int .i16 0]
@[go_sem] theorem zz_f5ab8e_eq : zz_f5ab8e = cl [.int .i16 0, .int .i16 0, .int .i16 0] := rfl
def zz_873988 : Nat → SV := fun j => if j < 2 then .int .i8 0 else if j < 258 then .int .i16 0 else .int .u8 0
@[go_sem] theorem zz_873988_eq (j : Nat) : zz_873988 j = if j < 2 then .int .i8 0 else if j < 258 then .int .i16 0 else .int .u8 0 := rfl
def zz_64443b : Nat → SV := fun _ => .nils
@[go_sem] theorem zz_64443b_eq (j : Nat) : zz_64443b j = .nils := rfl
def zz_6a3a6b : Nat → SV := cl [.int .i8 0, .int .i8 0]
@[go_sem] theorem zz_6a3a6b_eq : zz_6a3a6b = cl [.int .i8 0, .int .i8 0] := rfl
def zz_cfde55 : Nat → SV := cl [.nils, .int .i64 0, .int .u64 0]
@[go_sem] theorem zz_cfde55_eq : zz_cfde55 = cl [.nils, .int .i64 0, .int .u64 0] := rfl
def zz_ab4133 : Nat → SV := fun _ => .int .u32 0
@[go_sem] theorem zz_ab4133_eq (j : Nat) : zz_ab4133 j = .int .u32 0 := rfl
def zz_eb535d : Nat → SV := cl [.raw (.pointer none), .raw (.pointer none), .raw (.pointer none), .str ⟨#[]⟩]
@[go_sem] theorem zz_eb535d_eq : zz_eb535d = cl [.raw (.pointer none), .raw (.pointer none), .raw (.pointer none), .str ⟨#[]⟩] := rfl
def zz_e9c5bd : Nat → SV := fun _ => .bad
@[go_sem] theorem zz_e9c5bd_eq (j : Nat) : zz_e9c5bd j = .bad := rfl
def zz_f6e34c : Nat → SV := fun j => if j < 2 then .int .u64 0 else if j < 3 then .int .u32 0 else if j < 7 then .int .u8 0 else if j < 8 then .raw .nilFunc else if j < 9 then .raw (.pointer none) else .int .i32 0
@[go_sem] theorem zz_f6e34c_eq (j : Nat) : zz_f6e34c j = if j < 2 then .int .u64 0 else if j < 3 then .int .u32 0 else if j < 7 then .int .u8 0 else if j < 8 then .raw .nilFunc else if j < 9 then .raw (.pointer none) else .int .i32 0 := rfl
def tiL : List TI := [⟨.oth, 0, 0, zz0⟩,
  ⟨.ptr, 1, 16, zz_cb9c04⟩,
  ⟨.int .i64, 1, 16, zz_d2316c⟩,
  ⟨.int .i64, 1, 16, zz_d2316c⟩,
  ⟨.bool, 1, 2, zz_a010c9⟩,
  ⟨.int .u8, 1, 2, zz_2e582a⟩,
  ⟨.int .u8, 1, 2, zz_2e582a⟩,
  ⟨.st [(0, 2), (1, 3), (2, 4), (3, 6)], 4, 48, zz_a13ee9⟩,
  ⟨.st [(0, 2), (1, 3), (2, 4), (3, 6)], 4, 48, zz_a13ee9⟩,
  ⟨.str, 1, 33, zz_113ef6⟩,
  ⟨.str, 1, 32, zz_113ef6⟩,
  ⟨.str, 1, 32, zz_113ef6⟩,
  ⟨.int .u64, 1, 16, zz_ad32d5⟩,
  ⟨.st [(0, 9), (1, 12)], 2, 48, zz_4f6a4f⟩,
  ⟨.st [(0, 9), (1, 12)], 2, 48, zz_4f6a4f⟩,
  ⟨.ptr, 1, 16, zz_fbd960⟩,
  ⟨.ptr, 1, 16, zz_fbd960⟩,
  ⟨.ptr, 1, 16, zz_fbd960⟩,
  ⟨.st [(0, 17)], 1, 16, zz_fbd960⟩,
  ⟨.st [(0, 17)], 1, 16, zz_fbd960⟩,
  ⟨.ptr, 1, 32, zz_fe4aff⟩,
  ⟨.int .i32, 1, 8, zz_2cc614⟩,
  ⟨.int .i8, 1, 2, zz_96d04d⟩,
  ⟨.int .i16, 1, 4, zz_057838⟩,
  ⟨.arr 8 23, 8, 33, zz_057838⟩,
  ⟨.arr 8 24, 64, 257, zz_057838⟩,
  ⟨.arr 3 23, 3, 13, zz_f5ab8e⟩,
  ⟨.arr 8 26, 24, 97, zz_057838⟩,
  ⟨.arr 8 27, 192, 769, zz_057838⟩,
  ⟨.arr 8 5, 8, 17, zz_2e582a⟩,
  ⟨.st [(0, 22), (1, 22), (2, 25), (66, 28), (258, 29)], 266, 1044, zz_873988⟩,
  ⟨.st [(0, 22), (1, 22), (2, 25), (66, 28), (258, 29)], 266, 1045, zz_873988⟩,
  ⟨.sl 68, 1, 48, zz_64443b⟩,
  ⟨.ptr, 1, 16, zz_cb9c04⟩,
  ⟨.sl 58, 1, 48, zz_64443b⟩,
  ⟨.oth, 0, 0, zz0⟩,
  ⟨.ptr, 1, 16, zz_cb9c04⟩,
  ⟨.st [(0, 22), (1, 22), (2, 25), (66, 28), (258, 29)], 266, 1045, zz_873988⟩,
  ⟨.ptr, 1, 16, zz_cb9c04⟩,
  ⟨.ptr, 1, 16, zz_cb9c04⟩,
  ⟨.ptr, 1, 16, zz_cb9c04⟩,
  ⟨.ptr, 1, 16, zz_cb9c04⟩,
  ⟨.ptr, 1, 16, zz_cb9c04⟩,
  ⟨.sl 34, 1, 48, zz_64443b⟩,
  ⟨.oth, 0, 0, zz0⟩,
  ⟨.ptr, 1, 16, zz_cb9c04⟩,
  ⟨.ptr, 1, 16, zz_cb9c04⟩,
  ⟨.ptr, 1, 16, zz_cb9c04⟩,
  ⟨.sl 5, 1, 48, zz_64443b⟩,
  ⟨.ptr, 1, 16, zz_cb9c04⟩,
  ⟨.ptr, 1, 16, zz_cb9c04⟩,
  ⟨.ptr, 1, 16, zz_cb9c04⟩,
  ⟨.oth, 0, 0, zz0⟩,
  ⟨.ptr, 1, 16, zz_cb9c04⟩,
  ⟨.oth, 0, 0, zz0⟩,
  ⟨.ptr, 1, 16, zz_cb9c04⟩,
  ⟨.ptr, 1, 16, zz_cb9c04⟩,
  ⟨.st [(0, 22), (1, 22)], 2, 4, zz_6a3a6b⟩,
  ⟨.st [(0, 22), (1, 22)], 2, 5, zz_6a3a6b⟩,
  ⟨.ptr, 1, 16, zz_cb9c04⟩,
  ⟨.ptr, 1, 16, zz_cb9c04⟩,
  ⟨.ptr, 1, 16, zz_cb9c04⟩,
  ⟨.ptr, 1, 16, zz_fbd960⟩,
  ⟨.ptr, 1, 16, zz_cb9c04⟩,
  ⟨.ptr, 1, 16, zz_cb9c04⟩,
  ⟨.ptr, 1, 16, zz_cb9c04⟩,
  ⟨.ptr, 1, 16, zz_cb9c04⟩,
  ⟨.ptr, 1, 16, zz_cb9c04⟩,
  ⟨.st [(0, 22), (1, 22)], 2, 5, zz_6a3a6b⟩,
  ⟨.ptr, 1, 16, zz_cb9c04⟩,
  ⟨.ptr, 1, 16, zz_cb9c04⟩,
  ⟨.ptr, 1, 16, zz_fbd960⟩,
  ⟨.ptr, 1, 16, zz_cb9c04⟩,
  ⟨.ptr, 1, 16, zz_cb9c04⟩,
  ⟨.ptr, 1, 16, zz_cb9c04⟩,
  ⟨.ptr, 1, 16, zz_cb9c04⟩,
  ⟨.ptr, 1, 16, zz_cb9c04⟩,
  ⟨.arr 8 4, 8, 17, zz_a010c9⟩,
  ⟨.arr 8 77, 64, 129, zz_a010c9⟩,
  ⟨.ptr, 1, 16, zz_cb9c04⟩,
  ⟨.ptr, 1, 16, zz_cb9c04⟩,
  ⟨.ptr, 1, 16, zz_fbd960⟩,
  ⟨.ptr, 1, 16, zz_cb9c04⟩,
  ⟨.ptr, 1, 16, zz_cb9c04⟩,
  ⟨.ptr, 1, 16, zz_cb9c04⟩,
  ⟨.ptr, 1, 16, zz_cb9c04⟩,
  ⟨.ptr, 1, 16, zz_cb9c04⟩,
  ⟨.ptr, 1, 16, zz_cb9c04⟩,
  ⟨.ptr, 1, 16, zz_cb9c04⟩,
  ⟨.int .u64, 1, 16, zz_ad32d5⟩,
  ⟨.ptr, 1, 16, zz_cb9c04⟩,
  ⟨.ptr, 1, 16, zz_cb9c04⟩,
  ⟨.ptr, 1, 16, zz_cb9c04⟩,
  ⟨.ptr, 1, 16, zz_cb9c04⟩,
  ⟨.ptr, 1, 16, zz_cb9c04⟩,
  ⟨.ptr, 1, 16, zz_cb9c04⟩,
  ⟨.ptr, 1, 16, zz_cb9c04⟩,
  ⟨.ptr, 1, 16, zz_cb9c04⟩,
  ⟨.int .u64, 1, 16, zz_ad32d5⟩,
  ⟨.st [(0, 48), (1, 3), (2, 98)], 3, 80, zz_cfde55⟩,
  ⟨.st [(0, 48), (1, 3), (2, 98)], 3, 80, zz_cfde55⟩,
  ⟨.ptr, 1, 16, zz_cb9c04⟩,
  ⟨.ptr, 1, 16, zz_cb9c04⟩,
  ⟨.ptr, 1, 16, zz_cb9c04⟩,
  ⟨.ptr, 1, 16, zz_cb9c04⟩,
  ⟨.ptr, 1, 16, zz_cb9c04⟩,
  ⟨.ptr, 1, 16, zz_cb9c04⟩,
  ⟨.ptr, 1, 16, zz_cb9c04⟩,
  ⟨.ptr, 1, 16, zz_cb9c04⟩,
  ⟨.ptr, 1, 16, zz_cb9c04⟩,
  ⟨.ptr, 1, 16, zz_cb9c04⟩,
  ⟨.ptr, 1, 16, zz_cb9c04⟩,
  ⟨.ptr, 1, 16, zz_cb9c04⟩,
  ⟨.sl 3, 1, 48, zz_64443b⟩,
  ⟨.ptr, 1, 16, zz_cb9c04⟩,
  ⟨.ptr, 1, 16, zz_cb9c04⟩,
  ⟨.ptr, 1, 16, zz_cb9c04⟩,
  ⟨.ptr, 1, 16, zz_cb9c04⟩,
  ⟨.ptr, 1, 16, zz_cb9c04⟩,
  ⟨.ptr, 1, 16, zz_cb9c04⟩,
  ⟨.ptr, 1, 16, zz_cb9c04⟩,
  ⟨.ptr, 1, 16, zz_cb9c04⟩,
  ⟨.ptr, 1, 16, zz_cb9c04⟩,
  ⟨.int .i64, 1, 16, zz_d2316c⟩,
  ⟨.oth, 0, 0, zz0⟩,
  ⟨.ptr, 1, 16, zz_cb9c04⟩,
  ⟨.ptr, 1, 16, zz_cb9c04⟩,
  ⟨.ptr, 1, 16, zz_cb9c04⟩,
  ⟨.oth, 0, 0, zz0⟩,
  ⟨.ptr, 1, 16, zz_cb9c04⟩,
  ⟨.ptr, 1, 16, zz_cb9c04⟩,
  ⟨.int .u32, 1, 8, zz_ab4133⟩,
  ⟨.ptr, 1, 16, zz_cb9c04⟩,
  ⟨.ptr, 1, 16, zz_cb9c04⟩,
  ⟨.ptr, 1, 16, zz_cb9c04⟩,
  ⟨.ptr, 1, 16, zz_cb9c04⟩,
  ⟨.ptr, 1, 16, zz_cb9c04⟩,
  ⟨.ptr, 1, 16, zz_cb9c04⟩,
  ⟨.ptr, 1, 16, zz_cb9c04⟩,
  ⟨.int .u64, 1, 16, zz_ad32d5⟩,
  ⟨.ptr, 1, 16, zz_cb9c04⟩,
  ⟨.ptr, 1, 16, zz_cb9c04⟩,
  ⟨.ptr, 1, 16, zz_cb9c04⟩,
  ⟨.ptr, 1, 16, zz_fbd960⟩,
  ⟨.ptr, 1, 16, zz_cb9c04⟩,
  ⟨.ptr, 1, 16, zz_cb9c04⟩,
  ⟨.ptr, 1, 16, zz_cb9c04⟩,
  ⟨.ptr, 1, 16, zz_fbd960⟩,
  ⟨.oth, 0, 0, zz0⟩,
  ⟨.ptr, 1, 16, zz_cb9c04⟩,
  ⟨.ptr, 1, 16, zz_cb9c04⟩,
  ⟨.ptr, 1, 16, zz_cb9c04⟩,
  ⟨.st [(0, 17), (1, 17), (2, 17), (3, 9)], 4, 80, zz_eb535d⟩,
  ⟨.st [(0, 17), (1, 17), (2, 17), (3, 9)], 4, 80, zz_eb535d⟩,
  ⟨.arr 0 16, 0, 0, zz_e9c5bd⟩,
  ⟨.st [(0, 154)], 0, 0, zz_e9c5bd⟩,
  ⟨.st [(0, 154)], 0, 0, zz_e9c5bd⟩,
  ⟨.ptr, 1, 16, zz_cb9c04⟩,
  ⟨.int .u8, 1, 2, zz_2e582a⟩,
  ⟨.int .u8, 1, 2, zz_2e582a⟩,
  ⟨.ptr, 1, 16, zz_cb9c04⟩,
  ⟨.ptr, 1, 16, zz_fbd960⟩,
  ⟨.int .i32, 1, 8, zz_2cc614⟩,
  ⟨.int .i32, 1, 8, zz_2cc614⟩,
  ⟨.st [(0, 12), (1, 12), (2, 131), (3, 158), (4, 5), (5, 5), (6, 159), (7, 160), (8, 161), (9, 162), (10, 163)], 11, 96, zz_f6e34c⟩,
  ⟨.st [(0, 12), (1, 12), (2, 131), (3, 158), (4, 5), (5, 5), (6, 159), (7, 160), (8, 161), (9, 162), (10, 163)], 11, 96, zz_f6e34c⟩,
  ⟨.ptr, 1, 16, zz_cb9c04⟩,
  ⟨.oth, 0, 0, zz0⟩,
  ⟨.arr 8 24, 64, 257, zz_057838⟩]
def ti (t : Nat) : TI := (tiL[t]?).getD ⟨.oth, 0, 0, zz0⟩
@[go_sem] theorem ti_1 : ti 1 = ⟨.ptr, 1, 16, zz_cb9c04⟩ := rfl
@[go_sem] theorem ti_2 : ti 2 = ⟨.int .i64, 1, 16, zz_d2316c⟩ := rfl
@[go_sem] theorem ti_3 : ti 3 = ⟨.int .i64, 1, 16, zz_d2316c⟩ := rfl
@[go_sem] theorem ti_4 : ti 4 = ⟨.bool, 1, 2, zz_a010c9⟩ := rfl
@[go_sem] theorem ti_5 : ti 5 = ⟨.int .u8, 1, 2, zz_2e582a⟩ := rfl
@[go_sem] theorem ti_6 : ti 6 = ⟨.int .u8, 1, 2, zz_2e582a⟩ := rfl
@[go_sem] theorem ti_7 : ti 7 = ⟨.st [(0, 2), (1, 3), (2, 4), (3, 6)], 4, 48, zz_a13ee9⟩ := rfl
@[go_sem] theorem ti_8 : ti 8 = ⟨.st [(0, 2), (1, 3), (2, 4), (3, 6)], 4, 48, zz_a13ee9⟩ := rfl
@[go_sem] theorem ti_9 : ti 9 = ⟨.str, 1, 33, zz_113ef6⟩ := rfl
@[go_sem] theorem ti_10 : ti 10 = ⟨.str, 1, 32, zz_113ef6⟩ := rfl
@[go_sem] theorem ti_11 : ti 11 = ⟨.str, 1, 32, zz_113ef6⟩ := rfl
@[go_sem] theorem ti_12 : ti 12 = ⟨.int .u64, 1, 16, zz_ad32d5⟩ := rfl
@[go_sem] theorem ti_13 : ti 13 = ⟨.st [(0, 9), (1, 12)], 2, 48, zz_4f6a4f⟩ := rfl
@[go_sem] theorem ti_14 : ti 14 = ⟨.st [(0, 9), (1, 12)], 2, 48, zz_4f6a4f⟩ := rfl
@[go_sem] theorem ti_15 : ti 15 = ⟨.ptr, 1, 16, zz_fbd960⟩ := rfl
@[go_sem] theorem ti_16 : ti 16 = ⟨.ptr, 1, 16, zz_fbd960⟩ := rfl
@[go_sem] theorem ti_17 : ti 17 = ⟨.ptr, 1, 16, zz_fbd960⟩ := rfl
@[go_sem] theorem ti_18 : ti 18 = ⟨.st [(0, 17)], 1, 16, zz_fbd960⟩ := rfl
@[go_sem] theorem ti_19 : ti 19 = ⟨.st [(0, 17)], 1, 16, zz_fbd960⟩ := rfl
@[go_sem] theorem ti_20 : ti 20 = ⟨.ptr, 1, 32, zz_fe4aff⟩ := rfl
@[go_sem] theorem ti_21 : ti 21 = ⟨.int .i32, 1, 8, zz_2cc614⟩ := rfl
@[go_sem] theorem ti_22 : ti 22 = ⟨.int .i8, 1, 2, zz_96d04d⟩ := rfl
@[go_sem] theorem ti_23 : ti 23 = ⟨.int .i16, 1, 4, zz_057838⟩ := rfl
@[go_sem] theorem ti_24 : ti 24 = ⟨.arr 8 23, 8, 33, zz_057838⟩ := rfl
@[go_sem] theorem ti_25 : ti 25 = ⟨.arr 8 24, 64, 257, zz_057838⟩ := rfl
@[go_sem] theorem ti_26 : ti 26 = ⟨.arr 3 23, 3, 13, zz_f5ab8e⟩ := rfl
@[go_sem] theorem ti_27 : ti 27 = ⟨.arr 8 26, 24, 97, zz_057838⟩ := rfl
@[go_sem] theorem ti_28 : ti 28 = ⟨.arr 8 27, 192, 769, zz_057838⟩ := rfl
@[go_sem] theorem ti_29 : ti 29 = ⟨.arr 8 5, 8, 17, zz_2e582a⟩ := rfl
@[go_sem] theorem ti_30 : ti 30 = ⟨.st [(0, 22), (1, 22), (2, 25), (66, 28), (258, 29)], 266, 1044, zz_873988⟩ := rfl
@[go_sem] theorem ti_31 : ti 31 = ⟨.st [(0, 22), (1, 22), (2, 25), (66, 28), (258, 29)], 266, 1045, zz_873988⟩ := rfl
@[go_sem] theorem ti_32 : ti 32 = ⟨.sl 68, 1, 48, zz_64443b⟩ := rfl
@[go_sem] theorem ti_33 : ti 33 = ⟨.ptr, 1, 16, zz_cb9c04⟩ := rfl
@[go_sem] theorem ti_34 : ti 34 = ⟨.sl 58, 1, 48, zz_64443b⟩ := rfl
@[go_sem] theorem ti_36 : ti 36 = ⟨.ptr, 1, 16, zz_cb9c04⟩ := rfl
@[go_sem] theorem ti_37 : ti 37 = ⟨.st [(0, 22), (1, 22), (2, 25), (66, 28), (258, 29)], 266, 1045, zz_873988⟩ := rfl
@[go_sem] theorem ti_38 : ti 38 = ⟨.ptr, 1, 16, zz_cb9c04⟩ := rfl
@[go_sem] theorem ti_39 : ti 39 = ⟨.ptr, 1, 16, zz_cb9c04⟩ := rfl
@[go_sem] theorem ti_40 : ti 40 = ⟨.ptr, 1, 16, zz_cb9c04⟩ := rfl
@[go_sem] theorem ti_41 : ti 41 = ⟨.ptr, 1, 16, zz_cb9c04⟩ := rfl
@[go_sem] theorem ti_42 : ti 42 = ⟨.ptr, 1, 16, zz_cb9c04⟩ := rfl
@[go_sem] theorem ti_43 : ti 43 = ⟨.sl 34, 1, 48, zz_64443b⟩ := rfl
@[go_sem] theorem ti_45 : ti 45 = ⟨.ptr, 1, 16, zz_cb9c04⟩ := rfl
@[go_sem] theorem ti_46 : ti 46 = ⟨.ptr, 1, 16, zz_cb9c04⟩ := rfl
@[go_sem] theorem ti_47 : ti 47 = ⟨.ptr, 1, 16, zz_cb9c04⟩ := rfl
@[go_sem] theorem ti_48 : ti 48 = ⟨.sl 5, 1, 48, zz_64443b⟩ := rfl
@[go_sem] theorem ti_49 : ti 49 = ⟨.ptr, 1, 16, zz_cb9c04⟩ := rfl
@[go_sem] theorem ti_50 : ti 50 = ⟨.ptr, 1, 16, zz_cb9c04⟩ := rfl
@[go_sem] theorem ti_51 : ti 51 = ⟨.ptr, 1, 16, zz_cb9c04⟩ := rfl
@[go_sem] theorem ti_53 : ti 53 = ⟨.ptr, 1, 16, zz_cb9c04⟩ := rfl
@[go_sem] theorem ti_55 : ti 55 = ⟨.ptr, 1, 16, zz_cb9c04⟩ := rfl
@[go_sem] theorem ti_56 : ti 56 = ⟨.ptr, 1, 16, zz_cb9c04⟩ := rfl
@[go_sem] theorem ti_57 : ti 57 = ⟨.st [(0, 22), (1, 22)], 2, 4, zz_6a3a6b⟩ := rfl
@[go_sem] theorem ti_58 : ti 58 = ⟨.st [(0, 22), (1, 22)], 2, 5, zz_6a3a6b⟩ := rfl
@[go_sem] theorem ti_59 : ti 59 = ⟨.ptr, 1, 16, zz_cb9c04⟩ := rfl
@[go_sem] theorem ti_60 : ti 60 = ⟨.ptr, 1, 16, zz_cb9c04⟩ := rfl
@[go_sem] theorem ti_61 : ti 61 = ⟨.ptr, 1, 16, zz_cb9c04⟩ := rfl
@[go_sem] theorem ti_62 : ti 62 = ⟨.ptr, 1, 16, zz_fbd960⟩ := rfl
@[go_sem] theorem ti_63 : ti 63 = ⟨.ptr, 1, 16, zz_cb9c04⟩ := rfl
@[go_sem] theorem ti_64 : ti 64 = ⟨.ptr, 1, 16, zz_cb9c04⟩ := rfl
@[go_sem] theorem ti_65 : ti 65 = ⟨.ptr, 1, 16, zz_cb9c04⟩ := rfl
@[go_sem] theorem ti_66 : ti 66 = ⟨.ptr, 1, 16, zz_cb9c04⟩ := rfl
@[go_sem] theorem ti_67 : ti 67 = ⟨.ptr, 1, 16, zz_cb9c04⟩ := rfl
@[go_sem] theorem ti_68 : ti 68 = ⟨.st [(0, 22), (1, 22)], 2, 5, zz_6a3a6b⟩ := rfl
@[go_sem] theorem ti_69 : ti 69 = ⟨.ptr, 1, 16, zz_cb9c04⟩ := rfl
@[go_sem] theorem ti_70 : ti 70 = ⟨.ptr, 1, 16, zz_cb9c04⟩ := rfl
@[go_sem] theorem ti_71 : ti 71 = ⟨.ptr, 1, 16, zz_fbd960⟩ := rfl
@[go_sem] theorem ti_72 : ti 72 = ⟨.ptr, 1, 16, zz_cb9c04⟩ := rfl
@[go_sem] theorem ti_73 : ti 73 = ⟨.ptr, 1, 16, zz_cb9c04⟩ := rfl
@[go_sem] theorem ti_74 : ti 74 = ⟨.ptr, 1, 16, zz_cb9c04⟩ := rfl
@[go_sem] theorem ti_75 : ti 75 = ⟨.ptr, 1, 16, zz_cb9c04⟩ := rfl
@[go_sem] theorem ti_76 : ti 76 = ⟨.ptr, 1, 16, zz_cb9c04⟩ := rfl
@[go_sem] theorem ti_77 : ti 77 = ⟨.arr 8 4, 8, 17, zz_a010c9⟩ := rfl
@[go_sem] theorem ti_78 : ti 78 = ⟨.arr 8 77, 64, 129, zz_a010c9⟩ := rfl
@[go_sem] theorem ti_79 : ti 79 = ⟨.ptr, 1, 16, zz_cb9c04⟩ := rfl
@[go_sem] theorem ti_80 : ti 80 = ⟨.ptr, 1, 16, zz_cb9c04⟩ := rfl
@[go_sem] theorem ti_81 : ti 81 = ⟨.ptr, 1, 16, zz_fbd960⟩ := rfl
@[go_sem] theorem ti_82 : ti 82 = ⟨.ptr, 1, 16, zz_cb9c04⟩ := rfl
@[go_sem] theorem ti_83 : ti 83 = ⟨.ptr, 1, 16, zz_cb9c04⟩ := rfl
@[go_sem] theorem ti_84 : ti 84 = ⟨.ptr, 1, 16, zz_cb9c04⟩ := rfl
@[go_sem] theorem ti_85 : ti 85 = ⟨.ptr, 1, 16, zz_cb9c04⟩ := rfl
@[go_sem] theorem ti_86 : ti 86 = ⟨.ptr, 1, 16, zz_cb9c04⟩ := rfl
@[go_sem] theorem ti_87 : ti 87 = ⟨.ptr, 1, 16, zz_cb9c04⟩ := rfl
@[go_sem] theorem ti_88 : ti 88 = ⟨.ptr, 1, 16, zz_cb9c04⟩ := rfl
@[go_sem] theorem ti_89 : ti 89 = ⟨.int .u64, 1, 16, zz_ad32d5⟩ := rfl
@[go_sem] theorem ti_90 : ti 90 = ⟨.ptr, 1, 16, zz_cb9c04⟩ := rfl
@[go_sem] theorem ti_91 : ti 91 = ⟨.ptr, 1, 16, zz_cb9c04⟩ := rfl
@[go_sem] theorem ti_92 : ti 92 = ⟨.ptr, 1, 16, zz_cb9c04⟩ := rfl
@[go_sem] theorem ti_93 : ti 93 = ⟨.ptr, 1, 16, zz_cb9c04⟩ := rfl
@[go_sem] theorem ti_94 : ti 94 = ⟨.ptr, 1, 16, zz_cb9c04⟩ := rfl
@[go_sem] theorem ti_95 : ti 95 = ⟨.ptr, 1, 16, zz_cb9c04⟩ := rfl
@[go_sem] theorem ti_96 : ti 96 = ⟨.ptr, 1, 16, zz_cb9c04⟩ := rfl
@[go_sem] theorem ti_97 : ti 97 = ⟨.ptr, 1, 16, zz_cb9c04⟩ := rfl
@[go_sem] theorem ti_98 : ti 98 = ⟨.int .u64, 1, 16, zz_ad32d5⟩ := rfl
@[go_sem] theorem ti_99 : ti 99 = ⟨.st [(0, 48), (1, 3), (2, 98)], 3, 80, zz_cfde55⟩ := rfl
@[go_sem] theorem ti_100 : ti 100 = ⟨.st [(0, 48), (1, 3), (2, 98)], 3, 80, zz_cfde55⟩ := rfl
@[go_sem] theorem ti_101 : ti 101 = ⟨.ptr, 1, 16, zz_cb9c04⟩ := rfl
@[go_sem] theorem ti_102 : ti 102 = ⟨.ptr, 1, 16, zz_cb9c04⟩ := rfl
@[go_sem] theorem ti_103 : ti 103 = ⟨.ptr, 1, 16, zz_cb9c04⟩ := rfl
@[go_sem] theorem ti_104 : ti 104 = ⟨.ptr, 1, 16, zz_cb9c04⟩ := rfl
@[go_sem] theorem ti_105 : ti 105 = ⟨.ptr, 1, 16, zz_cb9c04⟩ := rfl
@[go_sem] theorem ti_106 : ti 106 = ⟨.ptr, 1, 16, zz_cb9c04⟩ := rfl
@[go_sem] theorem ti_107 : ti 107 = ⟨.ptr, 1, 16, zz_cb9c04⟩ := rfl
@[go_sem] theorem ti_108 : ti 108 = ⟨.ptr, 1, 16, zz_cb9c04⟩ := rfl
@[go_sem] theorem ti_109 : ti 109 = ⟨.ptr, 1, 16, zz_cb9c04⟩ := rfl
@[go_sem] theorem ti_110 : ti 110 = ⟨.ptr, 1, 16, zz_cb9c04⟩ := rfl
@[go_sem] theorem ti_111 : ti 111 = ⟨.ptr, 1, 16, zz_cb9c04⟩ := rfl
@[go_sem] theorem ti_112 : ti 112 = ⟨.ptr, 1, 16, zz_cb9c04⟩ := rfl
@[go_sem] theorem ti_113 : ti 113 = ⟨.sl 3, 1, 48, zz_64443b⟩ := rfl
@[go_sem] theorem ti_114 : ti 114 = ⟨.ptr, 1, 16, zz_cb9c04⟩ := rfl
@[go_sem] theorem ti_115 : ti 115 = ⟨.ptr, 1, 16, zz_cb9c04⟩ := rfl
@[go_sem] theorem ti_116 : ti 116 = ⟨.ptr, 1, 16, zz_cb9c04⟩ := rfl
@[go_sem] theorem ti_117 : ti 117 = ⟨.ptr, 1, 16, zz_cb9c04⟩ := rfl
@[go_sem] theorem ti_118 : ti 118 = ⟨.ptr, 1, 16, zz_cb9c04⟩ := rfl
@[go_sem] theorem ti_119 : ti 119 = ⟨.ptr, 1, 16, zz_cb9c04⟩ := rfl
@[go_sem] theorem ti_120 : ti 120 = ⟨.ptr, 1, 16, zz_cb9c04⟩ := rfl
@[go_sem] theorem ti_121 : ti 121 = ⟨.ptr, 1, 16, zz_cb9c04⟩ := rfl
@[go_sem] theorem ti_122 : ti 122 = ⟨.ptr, 1, 16, zz_cb9c04⟩ := rfl
@[go_sem] theorem ti_123 : ti 123 = ⟨.int .i64, 1, 16, zz_d2316c⟩ := rfl
@[go_sem] theorem ti_125 : ti 125 = ⟨.ptr, 1, 16, zz_cb9c04⟩ := rfl
@[go_sem] theorem ti_126 : ti 126 = ⟨.ptr, 1, 16, zz_cb9c04⟩ := rfl
@[go_sem] theorem ti_127 : ti 127 = ⟨.ptr, 1, 16, zz_cb9c04⟩ := rfl
@[go_sem] theorem ti_129 : ti 129 = ⟨.ptr, 1, 16, zz_cb9c04⟩ := rfl
@[go_sem] theorem ti_130 : ti 130 = ⟨.ptr, 1, 16, zz_cb9c04⟩ := rfl
@[go_sem] theorem ti_131 : ti 131 = ⟨.int .u32, 1, 8, zz_ab4133⟩ := rfl
@[go_sem] theorem ti_132 : ti 132 = ⟨.ptr, 1, 16, zz_cb9c04⟩ := rfl
@[go_sem] theorem ti_133 : ti 133 = ⟨.ptr, 1, 16, zz_cb9c04⟩ := rfl
@[go_sem] theorem ti_134 : ti 134 = ⟨.ptr, 1, 16, zz_cb9c04⟩ := rfl
@[go_sem] theorem ti_135 : ti 135 = ⟨.ptr, 1, 16, zz_cb9c04⟩ := rfl
@[go_sem] theorem ti_136 : ti 136 = ⟨.ptr, 1, 16, zz_cb9c04⟩ := rfl
@[go_sem] theorem ti_137 : ti 137 = ⟨.ptr, 1, 16, zz_cb9c04⟩ := rfl
@[go_sem] theorem ti_138 : ti 138 = ⟨.ptr, 1, 16, zz_cb9c04⟩ := rfl
@[go_sem] theorem ti_139 : ti 139 = ⟨.int .u64, 1, 16, zz_ad32d5⟩ := rfl
@[go_sem] theorem ti_140 : ti 140 = ⟨.ptr, 1, 16, zz_cb9c04⟩ := rfl
@[go_sem] theorem ti_141 : ti 141 = ⟨.ptr, 1, 16, zz_cb9c04⟩ := rfl
@[go_sem] theorem ti_142 : ti 142 = ⟨.ptr, 1, 16, zz_cb9c04⟩ := rfl
@[go_sem] theorem ti_143 : ti 143 = ⟨.ptr, 1, 16, zz_fbd960⟩ := rfl
@[go_sem] theorem ti_144 : ti 144 = ⟨.ptr, 1, 16, zz_cb9c04⟩ := rfl
@[go_sem] theorem ti_145 : ti 145 = ⟨.ptr, 1, 16, zz_cb9c04⟩ := rfl
@[go_sem] theorem ti_146 : ti 146 = ⟨.ptr, 1, 16, zz_cb9c04⟩ := rfl
@[go_sem] theorem ti_147 : ti 147 = ⟨.ptr, 1, 16, zz_fbd960⟩ := rfl
@[go_sem] theorem ti_149 : ti 149 = ⟨.ptr, 1, 16, zz_cb9c04⟩ := rfl
@[go_sem] theorem ti_150 : ti 150 = ⟨.ptr, 1, 16, zz_cb9c04⟩ := rfl
@[go_sem] theorem ti_151 : ti 151 = ⟨.ptr, 1, 16, zz_cb9c04⟩ := rfl
@[go_sem] theorem ti_152 : ti 152 = ⟨.st [(0, 17), (1, 17), (2, 17), (3, 9)], 4, 80, zz_eb535d⟩ := rfl
@[go_sem] theorem ti_153 : ti 153 = ⟨.st [(0, 17), (1, 17), (2, 17), (3, 9)], 4, 80, zz_eb535d⟩ := rfl
@[go_sem] theorem ti_154 : ti 154 = ⟨.arr 0 16, 0, 0, zz_e9c5bd⟩ := rfl
@[go_sem] theorem ti_155 : ti 155 = ⟨.st [(0, 154)], 0, 0, zz_e9c5bd⟩ := rfl
@[go_sem] theorem ti_156 : ti 156 = ⟨.st [(0, 154)], 0, 0, zz_e9c5bd⟩ := rfl
@[go_sem] theorem ti_157 : ti 157 = ⟨.ptr, 1, 16, zz_cb9c04⟩ := rfl
@[go_sem] theorem ti_158 : ti 158 = ⟨.int .u8, 1, 2, zz_2e582a⟩ := rfl
@[go_sem] theorem ti_159 : ti 159 = ⟨.int .u8, 1, 2, zz_2e582a⟩ := rfl
@[go_sem] theorem ti_160 : ti 160 = ⟨.ptr, 1, 16, zz_cb9c04⟩ := rfl
@[go_sem] theorem ti_161 : ti 161 = ⟨.ptr, 1, 16, zz_fbd960⟩ := rfl
@[go_sem] theorem ti_162 : ti 162 = ⟨.int .i32, 1, 8, zz_2cc614⟩ := rfl
@[go_sem] theorem ti_163 : ti 163 = ⟨.int .i32, 1, 8, zz_2cc614⟩ := rfl
@[go_sem] theorem ti_164 : ti 164 = ⟨.st [(0, 12), (1, 12), (2, 131), (3, 158), (4, 5), (5, 5), (6, 159), (7, 160), (8, 161), (9, 162), (10, 163)], 11, 96, zz_f6e34c⟩ := rfl
@[go_sem] theorem ti_165 : ti 165 = ⟨.st [(0, 12), (1, 12), (2, 131), (3, 158), (4, 5), (5, 5), (6, 159), (7, 160), (8, 161), (9, 162), (10, 163)], 11, 96, zz_f6e34c⟩ := rfl
@[go_sem] theorem ti_166 : ti 166 = ⟨.ptr, 1, 16, zz_cb9c04⟩ := rfl
@[go_sem] theorem ti_168 : ti 168 = ⟨.arr 8 24, 64, 257, zz_057838⟩ := rfl
@[congr] theorem ti_congr (t : Nat) : ti t = ti t := rfl
theorem tiAll : (List.range tiL.length).all (fun t => okB Tryz.prog t (ti t)) = true := by kernel_rfl
theorem hti (t : Nat) : TyOK Tryz.prog t (ti t) := by
  by_cases h : t < tiL.length
  · exact okB_sound (List.all_eq_true.1 tiAll t (List.mem_range.2 h))
  · have : ti t = ⟨.oth, 0, 0, zz0⟩ := by simp only [ti]; rw [List.getElem?_eq_none (by omega)]; rfl
    rw [this]
    exact ⟨trivial, fun h => h.elim, fun h => (by cases h), fun h => h.elim, fun h => (by cases h)⟩
end Go.Proofs.YtfelopllfhcdpaaGreat.V
