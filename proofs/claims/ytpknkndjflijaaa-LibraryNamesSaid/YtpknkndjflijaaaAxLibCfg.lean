/- The table of this seat for the abstract run. Printed by gencfg.py of this session. -/
import Derived.Test.YtpknkndjflijaaaAxRun
import Derived.Test.YtpknkndjflijaaaProg
namespace Go.Ax.Try
open Go.Proofs

def ty1 : ATy := ⟨.func, 1, 8, [.nil .func]⟩
def ty2 : ATy := ⟨.int .i64, 1, 8, [.int .i64 0]⟩
def ty3 : ATy := ⟨.int .i64, 1, 8, [.int .i64 0]⟩
def ty4 : ATy := ⟨.bool, 1, 1, [.bool false]⟩
def ty5 : ATy := ⟨.int .u8, 1, 1, [.int .u8 0]⟩
def ty6 : ATy := ⟨.int .u8, 1, 1, [.int .u8 0]⟩
def ty7 : ATy := ⟨.struct [(0, 1, 2), (1, 1, 3), (2, 1, 4), (3, 1, 6)], 4, 24, [.int .i64 0, .int .i64 0, .bool false, .int .u8 0]⟩
def ty8 : ATy := ⟨.struct [(0, 1, 2), (1, 1, 3), (2, 1, 4), (3, 1, 6)], 4, 24, [.int .i64 0, .int .i64 0, .bool false, .int .u8 0]⟩
def ty9 : ATy := ⟨.string, 1, 16, [.str []]⟩
def ty10 : ATy := ⟨.string, 1, 16, [.str []]⟩
def ty11 : ATy := ⟨.string, 1, 16, [.str []]⟩
def ty12 : ATy := ⟨.int .u64, 1, 8, [.int .u64 0]⟩
def ty13 : ATy := ⟨.struct [(0, 1, 9), (1, 1, 12)], 2, 24, [.str [], .int .u64 0]⟩
def ty14 : ATy := ⟨.struct [(0, 1, 9), (1, 1, 12)], 2, 24, [.str [], .int .u64 0]⟩
def ty15 : ATy := ⟨.pointer 42, 1, 8, [.nil .ptr]⟩
def ty16 : ATy := ⟨.pointer 45, 1, 8, [.nil .ptr]⟩
def ty17 : ATy := ⟨.pointer 55, 1, 8, [.nil .ptr]⟩
def ty18 : ATy := ⟨.struct [(0, 1, 17)], 1, 8, [.nil .ptr]⟩
def ty19 : ATy := ⟨.struct [(0, 1, 17)], 1, 8, [.nil .ptr]⟩
def ty20 : ATy := ⟨.iface, 1, 16, [.nil .iface]⟩
def ty21 : ATy := ⟨.int .i32, 1, 4, [.int .i32 0]⟩
def ty22 : ATy := ⟨.slice 9, 1, 24, [.nil .slice]⟩
def ty23 : ATy := ⟨.func, 1, 8, [.nil .func]⟩
def ty24 : ATy := ⟨.func, 1, 8, [.nil .func]⟩
def ty25 : ATy := ⟨.int .i64, 1, 8, [.int .i64 0]⟩
def ty27 : ATy := ⟨.func, 1, 8, [.nil .func]⟩
def ty29 : ATy := ⟨.func, 1, 8, [.nil .func]⟩
def ty30 : ATy := ⟨.func, 1, 8, [.nil .func]⟩
def ty31 : ATy := ⟨.func, 1, 8, [.nil .func]⟩
def ty32 : ATy := ⟨.slice 35, 1, 24, [.nil .slice]⟩
def ty33 : ATy := ⟨.func, 1, 8, [.nil .func]⟩
def ty34 : ATy := ⟨.struct [(0, 1, 9), (1, 1, 22), (2, 1, 9)], 3, 56, [.str [], .nil .slice, .str []]⟩
def ty35 : ATy := ⟨.struct [(0, 1, 9), (1, 1, 22), (2, 1, 9)], 3, 56, [.str [], .nil .slice, .str []]⟩
def ty37 : ATy := ⟨.func, 1, 8, [.nil .func]⟩
def ty38 : ATy := ⟨.func, 1, 8, [.nil .func]⟩
def ty39 : ATy := ⟨.func, 1, 8, [.nil .func]⟩
def ty40 : ATy := ⟨.func, 1, 8, [.nil .func]⟩
def ty41 : ATy := ⟨.struct [(0, 1, 17), (1, 1, 17), (2, 1, 17), (3, 1, 9)], 4, 40, [.nil .ptr, .nil .ptr, .nil .ptr, .str []]⟩
def ty42 : ATy := ⟨.struct [(0, 1, 17), (1, 1, 17), (2, 1, 17), (3, 1, 9)], 4, 40, [.nil .ptr, .nil .ptr, .nil .ptr, .str []]⟩
def ty43 : ATy := ⟨.array 0 16, 0, 0, []⟩
def ty44 : ATy := ⟨.struct [(0, 0, 43)], 0, 0, []⟩
def ty45 : ATy := ⟨.struct [(0, 0, 43)], 0, 0, []⟩
def ty46 : ATy := ⟨.func, 1, 8, [.nil .func]⟩
def ty47 : ATy := ⟨.int .u32, 1, 4, [.int .u32 0]⟩
def ty48 : ATy := ⟨.int .u8, 1, 1, [.int .u8 0]⟩
def ty49 : ATy := ⟨.int .u8, 1, 1, [.int .u8 0]⟩
def ty50 : ATy := ⟨.func, 1, 8, [.nil .func]⟩
def ty51 : ATy := ⟨.pointer 5, 1, 8, [.nil .ptr]⟩
def ty52 : ATy := ⟨.int .i32, 1, 4, [.int .i32 0]⟩
def ty53 : ATy := ⟨.int .i32, 1, 4, [.int .i32 0]⟩
def ty54 : ATy := ⟨.struct [(0, 1, 12), (1, 1, 12), (2, 1, 47), (3, 1, 48), (4, 1, 5), (5, 1, 5), (6, 1, 49), (7, 1, 50), (8, 1, 51), (9, 1, 52), (10, 1, 53)], 11, 48, [.int .u64 0, .int .u64 0, .int .u32 0, .int .u8 0, .int .u8 0, .int .u8 0, .int .u8 0, .nil .func, .nil .ptr, .int .i32 0, .int .i32 0]⟩
def ty55 : ATy := ⟨.struct [(0, 1, 12), (1, 1, 12), (2, 1, 47), (3, 1, 48), (4, 1, 5), (5, 1, 5), (6, 1, 49), (7, 1, 50), (8, 1, 51), (9, 1, 52), (10, 1, 53)], 11, 48, [.int .u64 0, .int .u64 0, .int .u32 0, .int .u8 0, .int .u8 0, .int .u8 0, .int .u8 0, .nil .func, .nil .ptr, .int .i32 0, .int .i32 0]⟩
def ty (t : Nat) : Option ATy :=
  (bif Nat.ble t 27 then (bif Nat.ble t 13 then (bif Nat.ble t 6 then (bif Nat.ble t 3 then (bif Nat.ble t 1 then (bif Nat.beq t 1 then some ty1 else none) else (bif Nat.ble t 2 then (bif Nat.beq t 2 then some ty2 else none) else (bif Nat.beq t 3 then some ty3 else none))) else (bif Nat.ble t 4 then (bif Nat.beq t 4 then some ty4 else none) else (bif Nat.ble t 5 then (bif Nat.beq t 5 then some ty5 else none) else (bif Nat.beq t 6 then some ty6 else none)))) else (bif Nat.ble t 9 then (bif Nat.ble t 7 then (bif Nat.beq t 7 then some ty7 else none) else (bif Nat.ble t 8 then (bif Nat.beq t 8 then some ty8 else none) else (bif Nat.beq t 9 then some ty9 else none))) else (bif Nat.ble t 11 then (bif Nat.ble t 10 then (bif Nat.beq t 10 then some ty10 else none) else (bif Nat.beq t 11 then some ty11 else none)) else (bif Nat.ble t 12 then (bif Nat.beq t 12 then some ty12 else none) else (bif Nat.beq t 13 then some ty13 else none))))) else (bif Nat.ble t 19 then (bif Nat.ble t 16 then (bif Nat.ble t 14 then (bif Nat.beq t 14 then some ty14 else none) else (bif Nat.ble t 15 then (bif Nat.beq t 15 then some ty15 else none) else (bif Nat.beq t 16 then some ty16 else none))) else (bif Nat.ble t 17 then (bif Nat.beq t 17 then some ty17 else none) else (bif Nat.ble t 18 then (bif Nat.beq t 18 then some ty18 else none) else (bif Nat.beq t 19 then some ty19 else none)))) else (bif Nat.ble t 22 then (bif Nat.ble t 20 then (bif Nat.beq t 20 then some ty20 else none) else (bif Nat.ble t 21 then (bif Nat.beq t 21 then some ty21 else none) else (bif Nat.beq t 22 then some ty22 else none))) else (bif Nat.ble t 24 then (bif Nat.ble t 23 then (bif Nat.beq t 23 then some ty23 else none) else (bif Nat.beq t 24 then some ty24 else none)) else (bif Nat.ble t 25 then (bif Nat.beq t 25 then some ty25 else none) else (bif Nat.beq t 27 then some ty27 else none)))))) else (bif Nat.ble t 42 then (bif Nat.ble t 34 then (bif Nat.ble t 31 then (bif Nat.ble t 29 then (bif Nat.beq t 29 then some ty29 else none) else (bif Nat.ble t 30 then (bif Nat.beq t 30 then some ty30 else none) else (bif Nat.beq t 31 then some ty31 else none))) else (bif Nat.ble t 32 then (bif Nat.beq t 32 then some ty32 else none) else (bif Nat.ble t 33 then (bif Nat.beq t 33 then some ty33 else none) else (bif Nat.beq t 34 then some ty34 else none)))) else (bif Nat.ble t 38 then (bif Nat.ble t 35 then (bif Nat.beq t 35 then some ty35 else none) else (bif Nat.ble t 37 then (bif Nat.beq t 37 then some ty37 else none) else (bif Nat.beq t 38 then some ty38 else none))) else (bif Nat.ble t 40 then (bif Nat.ble t 39 then (bif Nat.beq t 39 then some ty39 else none) else (bif Nat.beq t 40 then some ty40 else none)) else (bif Nat.ble t 41 then (bif Nat.beq t 41 then some ty41 else none) else (bif Nat.beq t 42 then some ty42 else none))))) else (bif Nat.ble t 48 then (bif Nat.ble t 45 then (bif Nat.ble t 43 then (bif Nat.beq t 43 then some ty43 else none) else (bif Nat.ble t 44 then (bif Nat.beq t 44 then some ty44 else none) else (bif Nat.beq t 45 then some ty45 else none))) else (bif Nat.ble t 46 then (bif Nat.beq t 46 then some ty46 else none) else (bif Nat.ble t 47 then (bif Nat.beq t 47 then some ty47 else none) else (bif Nat.beq t 48 then some ty48 else none)))) else (bif Nat.ble t 51 then (bif Nat.ble t 49 then (bif Nat.beq t 49 then some ty49 else none) else (bif Nat.ble t 50 then (bif Nat.beq t 50 then some ty50 else none) else (bif Nat.beq t 51 then some ty51 else none))) else (bif Nat.ble t 53 then (bif Nat.ble t 52 then (bif Nat.beq t 52 then some ty52 else none) else (bif Nat.beq t 53 then some ty53 else none)) else (bif Nat.ble t 54 then (bif Nat.beq t 54 then some ty54 else none) else (bif Nat.beq t 55 then some ty55 else none)))))))

noncomputable def fn (t : Nat) : Option Func :=
  (bif Nat.ble t 8 then (bif Nat.ble t 5 then (bif Nat.ble t 3 then (bif Nat.beq t 3 then some Try.f3 else none) else (bif Nat.ble t 4 then (bif Nat.beq t 4 then some Try.f4 else none) else (bif Nat.beq t 5 then some Try.f5 else none))) else (bif Nat.ble t 6 then (bif Nat.beq t 6 then some Try.f6 else none) else (bif Nat.ble t 7 then (bif Nat.beq t 7 then some Try.f7 else none) else (bif Nat.beq t 8 then some Try.f8 else none)))) else (bif Nat.ble t 11 then (bif Nat.ble t 9 then (bif Nat.beq t 9 then some Try.f9 else none) else (bif Nat.ble t 10 then (bif Nat.beq t 10 then some Try.f10 else none) else (bif Nat.beq t 11 then some Try.f11 else none))) else (bif Nat.ble t 12 then (bif Nat.beq t 12 then some Try.f12 else none) else (bif Nat.ble t 13 then (bif Nat.beq t 13 then some Try.f13 else none) else (bif Nat.beq t 14 then some Try.f14 else none)))))

/-- sextant/sextantlaw24.LibraryNames -/
def live3 (t : Nat) : Option (List Nat) :=
  (bif Nat.ble t 9 then (bif Nat.ble t 4 then (bif Nat.ble t 1 then (bif Nat.ble t 0 then (bif Nat.beq t 0 then some [] else none) else (bif Nat.beq t 1 then some [] else none)) else (bif Nat.ble t 2 then (bif Nat.beq t 2 then some [1] else none) else (bif Nat.ble t 3 then (bif Nat.beq t 3 then some [1] else none) else (bif Nat.beq t 4 then some [1] else none)))) else (bif Nat.ble t 6 then (bif Nat.ble t 5 then (bif Nat.beq t 5 then some [1, 2] else none) else (bif Nat.beq t 6 then some [] else none)) else (bif Nat.ble t 7 then (bif Nat.beq t 7 then some [1, 2] else none) else (bif Nat.ble t 8 then (bif Nat.beq t 8 then some [1, 2, 3] else none) else (bif Nat.beq t 9 then some [1, 2, 3] else none))))) else (bif Nat.ble t 14 then (bif Nat.ble t 11 then (bif Nat.ble t 10 then (bif Nat.beq t 10 then some [1, 2, 3] else none) else (bif Nat.beq t 11 then some [1, 2, 3, 4, 5] else none)) else (bif Nat.ble t 12 then (bif Nat.beq t 12 then some [1, 2, 3, 4, 5, 6, 7] else none) else (bif Nat.ble t 13 then (bif Nat.beq t 13 then some [] else none) else (bif Nat.beq t 14 then some [1, 2, 3, 4] else none)))) else (bif Nat.ble t 17 then (bif Nat.ble t 15 then (bif Nat.beq t 15 then some [1, 2, 3, 4, 8] else none) else (bif Nat.ble t 16 then (bif Nat.beq t 16 then some [1, 2, 3, 4, 8] else none) else (bif Nat.beq t 17 then some [1, 2, 3, 4, 8] else none))) else (bif Nat.ble t 18 then (bif Nat.beq t 18 then some [1, 2, 3] else none) else (bif Nat.ble t 19 then (bif Nat.beq t 19 then some [] else none) else (bif Nat.beq t 20 then some [10] else none))))))

/-- sextant/library.Names -/
def live4 (t : Nat) : Option (List Nat) :=
  (bif Nat.ble t 3 then (bif Nat.ble t 1 then (bif Nat.ble t 0 then (bif Nat.beq t 0 then some [] else none) else (bif Nat.beq t 1 then some [] else none)) else (bif Nat.ble t 2 then (bif Nat.beq t 2 then some [1] else none) else (bif Nat.beq t 3 then some [1, 4, 5, 6] else none))) else (bif Nat.ble t 5 then (bif Nat.ble t 4 then (bif Nat.beq t 4 then some [1, 4, 5, 6] else none) else (bif Nat.beq t 5 then some [1, 3, 4, 5, 6] else none)) else (bif Nat.ble t 6 then (bif Nat.beq t 6 then some [1, 4, 5, 6] else none) else (bif Nat.beq t 7 then some [1] else none))))

/-- sextant/sextantlaw24.texts -/
def live5 (t : Nat) : Option (List Nat) :=
  (bif Nat.ble t 3 then (bif Nat.ble t 1 then (bif Nat.ble t 0 then (bif Nat.beq t 0 then some [0, 1] else none) else (bif Nat.beq t 1 then some [0, 1] else none)) else (bif Nat.ble t 2 then (bif Nat.beq t 2 then some [] else none) else (bif Nat.beq t 3 then some [0, 1] else none))) else (bif Nat.ble t 5 then (bif Nat.ble t 4 then (bif Nat.beq t 4 then some [0, 1, 5] else none) else (bif Nat.beq t 5 then some [0, 1, 5] else none)) else (bif Nat.ble t 6 then (bif Nat.beq t 6 then some [0, 1, 5] else none) else (bif Nat.ble t 7 then (bif Nat.beq t 7 then some [] else none) else (bif Nat.beq t 8 then some [] else none)))))

/-- sextant/sextantref24.Names -/
def live6 (t : Nat) : Option (List Nat) :=
  (bif Nat.ble t 0 then (bif Nat.beq t 0 then some [] else none) else (bif Nat.beq t 1 then some [] else none))

/-- sextant/library.Ops -/
def live7 (t : Nat) : Option (List Nat) :=
  (bif Nat.ble t 0 then (bif Nat.beq t 0 then some [0] else none) else (bif Nat.ble t 1 then (bif Nat.beq t 1 then some [0] else none) else (bif Nat.beq t 2 then some [4, 5] else none)))

/-- sextant/sextantref24.Ops -/
def live8 (t : Nat) : Option (List Nat) :=
  (bif Nat.ble t 24 then (bif Nat.ble t 11 then (bif Nat.ble t 5 then (bif Nat.ble t 2 then (bif Nat.ble t 0 then (bif Nat.beq t 0 then some [0] else none) else (bif Nat.ble t 1 then (bif Nat.beq t 1 then some [0] else none) else (bif Nat.beq t 2 then some [4] else none))) else (bif Nat.ble t 3 then (bif Nat.beq t 3 then some [] else none) else (bif Nat.ble t 4 then (bif Nat.beq t 4 then some [4] else none) else (bif Nat.beq t 5 then some [] else none)))) else (bif Nat.ble t 8 then (bif Nat.ble t 6 then (bif Nat.beq t 6 then some [4] else none) else (bif Nat.ble t 7 then (bif Nat.beq t 7 then some [] else none) else (bif Nat.beq t 8 then some [4] else none))) else (bif Nat.ble t 9 then (bif Nat.beq t 9 then some [] else none) else (bif Nat.ble t 10 then (bif Nat.beq t 10 then some [4] else none) else (bif Nat.beq t 11 then some [] else none))))) else (bif Nat.ble t 17 then (bif Nat.ble t 14 then (bif Nat.ble t 12 then (bif Nat.beq t 12 then some [4] else none) else (bif Nat.ble t 13 then (bif Nat.beq t 13 then some [4] else none) else (bif Nat.beq t 14 then some [] else none))) else (bif Nat.ble t 15 then (bif Nat.beq t 15 then some [4] else none) else (bif Nat.ble t 16 then (bif Nat.beq t 16 then some [] else none) else (bif Nat.beq t 17 then some [4] else none)))) else (bif Nat.ble t 20 then (bif Nat.ble t 18 then (bif Nat.beq t 18 then some [] else none) else (bif Nat.ble t 19 then (bif Nat.beq t 19 then some [4] else none) else (bif Nat.beq t 20 then some [4] else none))) else (bif Nat.ble t 22 then (bif Nat.ble t 21 then (bif Nat.beq t 21 then some [] else none) else (bif Nat.beq t 22 then some [4] else none)) else (bif Nat.ble t 23 then (bif Nat.beq t 23 then some [] else none) else (bif Nat.beq t 24 then some [4] else none)))))) else (bif Nat.ble t 37 then (bif Nat.ble t 30 then (bif Nat.ble t 27 then (bif Nat.ble t 25 then (bif Nat.beq t 25 then some [] else none) else (bif Nat.ble t 26 then (bif Nat.beq t 26 then some [4] else none) else (bif Nat.beq t 27 then some [] else none))) else (bif Nat.ble t 28 then (bif Nat.beq t 28 then some [4] else none) else (bif Nat.ble t 29 then (bif Nat.beq t 29 then some [] else none) else (bif Nat.beq t 30 then some [4] else none)))) else (bif Nat.ble t 33 then (bif Nat.ble t 31 then (bif Nat.beq t 31 then some [] else none) else (bif Nat.ble t 32 then (bif Nat.beq t 32 then some [4] else none) else (bif Nat.beq t 33 then some [] else none))) else (bif Nat.ble t 35 then (bif Nat.ble t 34 then (bif Nat.beq t 34 then some [4] else none) else (bif Nat.beq t 35 then some [] else none)) else (bif Nat.ble t 36 then (bif Nat.beq t 36 then some [4] else none) else (bif Nat.beq t 37 then some [] else none))))) else (bif Nat.ble t 43 then (bif Nat.ble t 40 then (bif Nat.ble t 38 then (bif Nat.beq t 38 then some [4] else none) else (bif Nat.ble t 39 then (bif Nat.beq t 39 then some [] else none) else (bif Nat.beq t 40 then some [4] else none))) else (bif Nat.ble t 41 then (bif Nat.beq t 41 then some [] else none) else (bif Nat.ble t 42 then (bif Nat.beq t 42 then some [4] else none) else (bif Nat.beq t 43 then some [4] else none)))) else (bif Nat.ble t 46 then (bif Nat.ble t 44 then (bif Nat.beq t 44 then some [] else none) else (bif Nat.ble t 45 then (bif Nat.beq t 45 then some [4] else none) else (bif Nat.beq t 46 then some [4] else none))) else (bif Nat.ble t 48 then (bif Nat.ble t 47 then (bif Nat.beq t 47 then some [] else none) else (bif Nat.beq t 48 then some [4] else none)) else (bif Nat.ble t 49 then (bif Nat.beq t 49 then some [] else none) else (bif Nat.beq t 50 then some [] else none)))))))

/-- sextant/sextantlaw24.num -/
def live9 (t : Nat) : Option (List Nat) :=
  (bif Nat.ble t 0 then (bif Nat.beq t 0 then some [0] else none) else (bif Nat.beq t 1 then some [0] else none))

/-- sextant/library.kinds -/
def live10 (t : Nat) : Option (List Nat) :=
  (bif Nat.ble t 6 then (bif Nat.ble t 2 then (bif Nat.ble t 0 then (bif Nat.beq t 0 then some [] else none) else (bif Nat.ble t 1 then (bif Nat.beq t 1 then some [] else none) else (bif Nat.beq t 2 then some [1] else none))) else (bif Nat.ble t 4 then (bif Nat.ble t 3 then (bif Nat.beq t 3 then some [1, 2] else none) else (bif Nat.beq t 4 then some [1, 2, 3] else none)) else (bif Nat.ble t 5 then (bif Nat.beq t 5 then some [1, 2, 3, 4] else none) else (bif Nat.beq t 6 then some [1, 2, 3, 4, 5] else none)))) else (bif Nat.ble t 9 then (bif Nat.ble t 7 then (bif Nat.beq t 7 then some [1, 2, 3, 4, 5, 6] else none) else (bif Nat.ble t 8 then (bif Nat.beq t 8 then some [1, 2, 3, 4, 5, 6, 7] else none) else (bif Nat.beq t 9 then some [1, 2, 3, 4, 5, 6, 7, 8] else none))) else (bif Nat.ble t 11 then (bif Nat.ble t 10 then (bif Nat.beq t 10 then some [1, 2, 3, 4, 5, 6, 7, 8, 9] else none) else (bif Nat.beq t 11 then some [1, 2, 3, 4, 5, 6, 7, 8, 9, 10] else none)) else (bif Nat.ble t 12 then (bif Nat.beq t 12 then some [1, 2, 3, 4, 5, 6, 7, 8, 9, 10, 11] else none) else (bif Nat.beq t 13 then some [1, 2, 3, 4, 5, 6, 7, 8, 9, 10, 11, 12] else none)))))

/-- sextant/library.find -/
def live11 (t : Nat) : Option (List Nat) :=
  (bif Nat.ble t 3 then (bif Nat.ble t 1 then (bif Nat.ble t 0 then (bif Nat.beq t 0 then some [0] else none) else (bif Nat.beq t 1 then some [0, 2] else none)) else (bif Nat.ble t 2 then (bif Nat.beq t 2 then some [0, 2, 6, 7, 8] else none) else (bif Nat.beq t 3 then some [0, 2, 6, 7, 8] else none))) else (bif Nat.ble t 5 then (bif Nat.ble t 4 then (bif Nat.beq t 4 then some [0, 2, 5, 6, 7, 8] else none) else (bif Nat.beq t 5 then some [2, 5] else none)) else (bif Nat.ble t 6 then (bif Nat.beq t 6 then some [0, 2, 6, 7, 8] else none) else (bif Nat.beq t 7 then some [2] else none))))

/-- sextant/library.kinds$1 -/
def live12 (t : Nat) : Option (List Nat) :=
  (bif Nat.ble t 0 then (bif Nat.beq t 0 then some [0, 1, 2] else none) else (bif Nat.beq t 1 then some [0, 1, 2] else none))

/-- sextant/library.all -/
def live13 (t : Nat) : Option (List Nat) :=
  (bif Nat.ble t 0 then (bif Nat.beq t 0 then some [0] else none) else (bif Nat.beq t 1 then some [0] else none))

/-- sextant/library.each -/
def live14 (t : Nat) : Option (List Nat) :=
  (bif Nat.ble t 0 then (bif Nat.beq t 0 then some [0] else none) else (bif Nat.beq t 1 then some [0] else none))

def live (t : Nat) : Nat → Option (List Nat) :=
  (bif Nat.ble t 8 then (bif Nat.ble t 5 then (bif Nat.ble t 3 then (bif Nat.beq t 3 then live3 else (fun _ => none)) else (bif Nat.ble t 4 then (bif Nat.beq t 4 then live4 else (fun _ => none)) else (bif Nat.beq t 5 then live5 else (fun _ => none)))) else (bif Nat.ble t 6 then (bif Nat.beq t 6 then live6 else (fun _ => none)) else (bif Nat.ble t 7 then (bif Nat.beq t 7 then live7 else (fun _ => none)) else (bif Nat.beq t 8 then live8 else (fun _ => none))))) else (bif Nat.ble t 11 then (bif Nat.ble t 9 then (bif Nat.beq t 9 then live9 else (fun _ => none)) else (bif Nat.ble t 10 then (bif Nat.beq t 10 then live10 else (fun _ => none)) else (bif Nat.beq t 11 then live11 else (fun _ => none)))) else (bif Nat.ble t 12 then (bif Nat.beq t 12 then live12 else (fun _ => none)) else (bif Nat.ble t 13 then (bif Nat.beq t 13 then live13 else (fun _ => none)) else (bif Nat.beq t 14 then live14 else (fun _ => none))))))

def sw (t : Nat) : Nat → Bool :=
  (bif Nat.ble t 4 then (bif Nat.ble t 3 then (bif Nat.beq t 3 then (fun r => Nat.beq r 2 || Nat.beq r 8 || Nat.beq r 15) else (fun _ => false)) else (bif Nat.beq t 4 then (fun r => Nat.beq r 3) else (fun _ => false))) else (bif Nat.ble t 5 then (bif Nat.beq t 5 then (fun r => Nat.beq r 4) else (fun _ => false)) else (bif Nat.beq t 11 then (fun r => Nat.beq r 2) else (fun _ => false))))

end Go.Ax.Try
