/- The law FnRanks: for every input its call returns true and its arguments read as before. No condition besides what the row itself says. Here: functions of the program as plain functions, and plain lemmas. -/
import Derived.Test.YtkeockkepmljjaaEv2
import Derived.KernelRfl
import Derived.Test.YtkeockkepmljjaaProg
import Derived.KernelRfl
import Derived.Test.YtkeockkepmljjaaProg
set_option linter.unusedVariables false
set_option linter.unusedSimpArgs false
set_option maxRecDepth 100000
section
namespace Go.Proofs.Ytkeockkepmljjaa
open Go Ev Go.Proofs
def TL : List (Nat × TI) := [(2, ⟨.int .i64, 8, 1, false, some (.int .i64)⟩),
  (3, ⟨.int .i64, 8, 1, false, some (.int .i64)⟩),
  (4, ⟨.bool, 1, 1, false, some .bool⟩),
  (5, ⟨.int .u8, 1, 1, false, some (.int .u8)⟩),
  (6, ⟨.int .u8, 1, 1, false, some (.int .u8)⟩),
  (7, ⟨.struct [(2, 0), (3, 1), (4, 2), (6, 3)], 24, 4, true, some (.st (.pair (.int .i64) (.pair (.int .i64) (.pair .bool (.int .u8)))))⟩),
  (8, ⟨.struct [(2, 0), (3, 1), (4, 2), (6, 3)], 24, 4, true, some (.st (.pair (.int .i64) (.pair (.int .i64) (.pair .bool (.int .u8)))))⟩),
  (9, ⟨.str, 16, 1, false, some .str⟩),
  (10, ⟨.str, 16, 1, false, some .str⟩),
  (11, ⟨.str, 16, 1, false, some .str⟩),
  (12, ⟨.int .u64, 8, 1, false, some (.int .u64)⟩),
  (13, ⟨.struct [(9, 0), (12, 1)], 24, 2, true, none⟩),
  (14, ⟨.struct [(9, 0), (12, 1)], 24, 2, true, none⟩),
  (15, ⟨.ptr 76, 8, 1, false, none⟩),
  (16, ⟨.ptr 79, 8, 1, false, none⟩),
  (17, ⟨.ptr 89, 8, 1, false, none⟩),
  (18, ⟨.struct [(17, 0)], 8, 1, true, none⟩),
  (19, ⟨.struct [(17, 0)], 8, 1, true, none⟩),
  (21, ⟨.int .i32, 4, 1, false, some (.int .i32)⟩),
  (22, ⟨.slice 5, 24, 1, false, some (.sl (.int .u8))⟩),
  (24, ⟨.slice 2, 24, 1, false, some (.sl (.int .i64))⟩),
  (34, ⟨.slice 4, 24, 1, false, some (.sl .bool)⟩),
  (38, ⟨.slice 42, 24, 1, false, some (.sl (.st (.pair (.int .i64) (.int .i64))))⟩),
  (41, ⟨.struct [(2, 0), (2, 1)], 16, 2, true, some (.st (.pair (.int .i64) (.int .i64)))⟩),
  (42, ⟨.struct [(2, 0), (2, 1)], 16, 2, true, some (.st (.pair (.int .i64) (.int .i64)))⟩),
  (45, ⟨.ptr 64, 8, 1, false, none⟩),
  (47, ⟨.int .u64, 8, 1, false, some (.int .u64)⟩),
  (50, ⟨.ptr 67, 8, 1, false, none⟩),
  (63, ⟨.struct [(22, 0), (3, 1), (47, 2)], 40, 3, true, some (.st (.pair (.sl (.int .u8)) (.pair (.int .i64) (.int .u64))))⟩),
  (64, ⟨.struct [(22, 0), (3, 1), (47, 2)], 40, 3, true, some (.st (.pair (.sl (.int .u8)) (.pair (.int .i64) (.int .u64))))⟩),
  (66, ⟨.struct [(22, 0), (3, 1), (2, 2)], 40, 3, true, some (.st (.pair (.sl (.int .u8)) (.pair (.int .i64) (.int .i64))))⟩),
  (67, ⟨.struct [(22, 0), (3, 1), (2, 2)], 40, 3, true, some (.st (.pair (.sl (.int .u8)) (.pair (.int .i64) (.int .i64))))⟩),
  (71, ⟨.int .u64, 8, 1, false, some (.int .u64)⟩),
  (75, ⟨.struct [(17, 0), (17, 1), (17, 2), (9, 3)], 40, 4, true, none⟩),
  (76, ⟨.struct [(17, 0), (17, 1), (17, 2), (9, 3)], 40, 4, true, none⟩),
  (77, ⟨.array 0 16, 0, 0, true, none⟩),
  (78, ⟨.struct [(77, 0)], 0, 0, true, none⟩),
  (79, ⟨.struct [(77, 0)], 0, 0, true, none⟩),
  (81, ⟨.int .u32, 4, 1, false, some (.int .u32)⟩),
  (82, ⟨.int .u8, 1, 1, false, some (.int .u8)⟩),
  (83, ⟨.int .u8, 1, 1, false, some (.int .u8)⟩),
  (85, ⟨.ptr 5, 8, 1, false, none⟩),
  (86, ⟨.int .i32, 4, 1, false, some (.int .i32)⟩),
  (87, ⟨.int .i32, 4, 1, false, some (.int .i32)⟩),
  (88, ⟨.struct [(12, 0), (12, 1), (81, 2), (82, 3), (5, 4), (5, 5), (83, 6), (84, 7), (85, 8), (86, 9), (87, 10)], 48, 11, true, none⟩),
  (89, ⟨.struct [(12, 0), (12, 1), (81, 2), (82, 3), (5, 4), (5, 5), (83, 6), (84, 7), (85, 8), (86, 9), (87, 10)], 48, 11, true, none⟩)]
def TT : TypeId → Option TI := fun t => ttGet t TL
theorem tone2 : TOne Try.prog 2 ⟨.int .i64, 8, 1, false, some (.int .i64)⟩ := ⟨⟨_, rfl, rfl, rfl, fun τ h => by cases h; exact ⟨rfl, rfl, rfl, _, rfl, valOf_one rfl rfl⟩⟩, ⟨_, rfl, .int _, rfl⟩, fun _ => rfl, (fun gs h => by cases h)⟩
theorem tone3 : TOne Try.prog 3 ⟨.int .i64, 8, 1, false, some (.int .i64)⟩ := ⟨⟨_, rfl, rfl, rfl, fun τ h => by cases h; exact ⟨rfl, rfl, rfl, _, rfl, valOf_one rfl rfl⟩⟩, ⟨_, rfl, .int _, rfl⟩, fun _ => rfl, (fun gs h => by cases h)⟩
theorem tone4 : TOne Try.prog 4 ⟨.bool, 1, 1, false, some .bool⟩ := ⟨⟨_, rfl, rfl, rfl, fun τ h => by cases h; exact ⟨rfl, rfl, rfl, _, rfl, valOf_one rfl rfl⟩⟩, ⟨_, rfl, .bool, rfl⟩, fun _ => rfl, (fun gs h => by cases h)⟩
theorem tone5 : TOne Try.prog 5 ⟨.int .u8, 1, 1, false, some (.int .u8)⟩ := ⟨⟨_, rfl, rfl, rfl, fun τ h => by cases h; exact ⟨rfl, rfl, rfl, _, rfl, valOf_one rfl rfl⟩⟩, ⟨_, rfl, .int _, rfl⟩, fun _ => rfl, (fun gs h => by cases h)⟩
theorem tone6 : TOne Try.prog 6 ⟨.int .u8, 1, 1, false, some (.int .u8)⟩ := ⟨⟨_, rfl, rfl, rfl, fun τ h => by cases h; exact ⟨rfl, rfl, rfl, _, rfl, valOf_one rfl rfl⟩⟩, ⟨_, rfl, .int _, rfl⟩, fun _ => rfl, (fun gs h => by cases h)⟩
theorem tone7 : TOne Try.prog 7 ⟨.struct [(2, 0), (3, 1), (4, 2), (6, 3)], 24, 4, true, some (.st (.pair (.int .i64) (.pair (.int .i64) (.pair .bool (.int .u8)))))⟩ := ⟨⟨_, rfl, rfl, rfl, fun τ h => by cases h; exact ⟨rfl, rfl, rfl, _, rfl, valOf_agg rfl rfl⟩⟩, ⟨_, rfl, .struct _ _ rfl, rfl⟩, (fun h => by cases h), fun gs h _ => ⟨by kernel_rfl, by kernel_rfl, fun fs h => by cases h; rfl⟩⟩
theorem tone8 : TOne Try.prog 8 ⟨.struct [(2, 0), (3, 1), (4, 2), (6, 3)], 24, 4, true, some (.st (.pair (.int .i64) (.pair (.int .i64) (.pair .bool (.int .u8)))))⟩ := ⟨⟨_, rfl, rfl, rfl, fun τ h => by cases h; exact ⟨rfl, rfl, rfl, _, rfl, valOf_agg rfl rfl⟩⟩, ⟨_, rfl, .struct _ _ rfl, rfl⟩, (fun h => by cases h), fun gs h _ => ⟨by kernel_rfl, by kernel_rfl, fun fs h => by cases h; rfl⟩⟩
theorem tone9 : TOne Try.prog 9 ⟨.str, 16, 1, false, some .str⟩ := ⟨⟨_, rfl, rfl, rfl, fun τ h => by cases h; exact ⟨rfl, rfl, rfl, _, rfl, valOf_one rfl rfl⟩⟩, ⟨_, rfl, .str, rfl⟩, fun _ => rfl, (fun gs h => by cases h)⟩
theorem tone10 : TOne Try.prog 10 ⟨.str, 16, 1, false, some .str⟩ := ⟨⟨_, rfl, rfl, rfl, fun τ h => by cases h; exact ⟨rfl, rfl, rfl, _, rfl, valOf_one rfl rfl⟩⟩, ⟨_, rfl, .str, rfl⟩, fun _ => rfl, (fun gs h => by cases h)⟩
theorem tone11 : TOne Try.prog 11 ⟨.str, 16, 1, false, some .str⟩ := ⟨⟨_, rfl, rfl, rfl, fun τ h => by cases h; exact ⟨rfl, rfl, rfl, _, rfl, valOf_one rfl rfl⟩⟩, ⟨_, rfl, .str, rfl⟩, fun _ => rfl, (fun gs h => by cases h)⟩
theorem tone12 : TOne Try.prog 12 ⟨.int .u64, 8, 1, false, some (.int .u64)⟩ := ⟨⟨_, rfl, rfl, rfl, fun τ h => by cases h; exact ⟨rfl, rfl, rfl, _, rfl, valOf_one rfl rfl⟩⟩, ⟨_, rfl, .int _, rfl⟩, fun _ => rfl, (fun gs h => by cases h)⟩
theorem tone13 : TOne Try.prog 13 ⟨.struct [(9, 0), (12, 1)], 24, 2, true, none⟩ := ⟨⟨_, rfl, rfl, rfl, fun τ h => by cases h⟩, ⟨_, rfl, .struct _ _ rfl, rfl⟩, (fun h => by cases h), (fun gs h k => by cases k)⟩
theorem tone14 : TOne Try.prog 14 ⟨.struct [(9, 0), (12, 1)], 24, 2, true, none⟩ := ⟨⟨_, rfl, rfl, rfl, fun τ h => by cases h⟩, ⟨_, rfl, .struct _ _ rfl, rfl⟩, (fun h => by cases h), (fun gs h k => by cases k)⟩
theorem tone15 : TOne Try.prog 15 ⟨.ptr 76, 8, 1, false, none⟩ := ⟨⟨_, rfl, rfl, rfl, fun τ h => by cases h⟩, ⟨_, rfl, .ptr _, rfl⟩, fun _ => rfl, (fun gs h => by cases h)⟩
theorem tone16 : TOne Try.prog 16 ⟨.ptr 79, 8, 1, false, none⟩ := ⟨⟨_, rfl, rfl, rfl, fun τ h => by cases h⟩, ⟨_, rfl, .ptr _, rfl⟩, fun _ => rfl, (fun gs h => by cases h)⟩
theorem tone17 : TOne Try.prog 17 ⟨.ptr 89, 8, 1, false, none⟩ := ⟨⟨_, rfl, rfl, rfl, fun τ h => by cases h⟩, ⟨_, rfl, .ptr _, rfl⟩, fun _ => rfl, (fun gs h => by cases h)⟩
theorem tone18 : TOne Try.prog 18 ⟨.struct [(17, 0)], 8, 1, true, none⟩ := ⟨⟨_, rfl, rfl, rfl, fun τ h => by cases h⟩, ⟨_, rfl, .struct _ _ rfl, rfl⟩, (fun h => by cases h), (fun gs h k => by cases k)⟩
theorem tone19 : TOne Try.prog 19 ⟨.struct [(17, 0)], 8, 1, true, none⟩ := ⟨⟨_, rfl, rfl, rfl, fun τ h => by cases h⟩, ⟨_, rfl, .struct _ _ rfl, rfl⟩, (fun h => by cases h), (fun gs h k => by cases k)⟩
theorem tone21 : TOne Try.prog 21 ⟨.int .i32, 4, 1, false, some (.int .i32)⟩ := ⟨⟨_, rfl, rfl, rfl, fun τ h => by cases h; exact ⟨rfl, rfl, rfl, _, rfl, valOf_one rfl rfl⟩⟩, ⟨_, rfl, .int _, rfl⟩, fun _ => rfl, (fun gs h => by cases h)⟩
theorem tone22 : TOne Try.prog 22 ⟨.slice 5, 24, 1, false, some (.sl (.int .u8))⟩ := ⟨⟨_, rfl, rfl, rfl, fun τ h => by cases h; exact ⟨rfl, rfl, rfl, _, rfl, valOf_one rfl rfl⟩⟩, ⟨_, rfl, .slice _, rfl⟩, fun _ => rfl, (fun gs h => by cases h)⟩
theorem tone24 : TOne Try.prog 24 ⟨.slice 2, 24, 1, false, some (.sl (.int .i64))⟩ := ⟨⟨_, rfl, rfl, rfl, fun τ h => by cases h; exact ⟨rfl, rfl, rfl, _, rfl, valOf_one rfl rfl⟩⟩, ⟨_, rfl, .slice _, rfl⟩, fun _ => rfl, (fun gs h => by cases h)⟩
theorem tone34 : TOne Try.prog 34 ⟨.slice 4, 24, 1, false, some (.sl .bool)⟩ := ⟨⟨_, rfl, rfl, rfl, fun τ h => by cases h; exact ⟨rfl, rfl, rfl, _, rfl, valOf_one rfl rfl⟩⟩, ⟨_, rfl, .slice _, rfl⟩, fun _ => rfl, (fun gs h => by cases h)⟩
theorem tone38 : TOne Try.prog 38 ⟨.slice 42, 24, 1, false, some (.sl (.st (.pair (.int .i64) (.int .i64))))⟩ := ⟨⟨_, rfl, rfl, rfl, fun τ h => by cases h; exact ⟨rfl, rfl, rfl, _, rfl, valOf_one rfl rfl⟩⟩, ⟨_, rfl, .slice _, rfl⟩, fun _ => rfl, (fun gs h => by cases h)⟩
theorem tone41 : TOne Try.prog 41 ⟨.struct [(2, 0), (2, 1)], 16, 2, true, some (.st (.pair (.int .i64) (.int .i64)))⟩ := ⟨⟨_, rfl, rfl, rfl, fun τ h => by cases h; exact ⟨rfl, rfl, rfl, _, rfl, valOf_agg rfl rfl⟩⟩, ⟨_, rfl, .struct _ _ rfl, rfl⟩, (fun h => by cases h), fun gs h _ => ⟨by kernel_rfl, by kernel_rfl, fun fs h => by cases h; rfl⟩⟩
theorem tone42 : TOne Try.prog 42 ⟨.struct [(2, 0), (2, 1)], 16, 2, true, some (.st (.pair (.int .i64) (.int .i64)))⟩ := ⟨⟨_, rfl, rfl, rfl, fun τ h => by cases h; exact ⟨rfl, rfl, rfl, _, rfl, valOf_agg rfl rfl⟩⟩, ⟨_, rfl, .struct _ _ rfl, rfl⟩, (fun h => by cases h), fun gs h _ => ⟨by kernel_rfl, by kernel_rfl, fun fs h => by cases h; rfl⟩⟩
theorem tone45 : TOne Try.prog 45 ⟨.ptr 64, 8, 1, false, none⟩ := ⟨⟨_, rfl, rfl, rfl, fun τ h => by cases h⟩, ⟨_, rfl, .ptr _, rfl⟩, fun _ => rfl, (fun gs h => by cases h)⟩
theorem tone47 : TOne Try.prog 47 ⟨.int .u64, 8, 1, false, some (.int .u64)⟩ := ⟨⟨_, rfl, rfl, rfl, fun τ h => by cases h; exact ⟨rfl, rfl, rfl, _, rfl, valOf_one rfl rfl⟩⟩, ⟨_, rfl, .int _, rfl⟩, fun _ => rfl, (fun gs h => by cases h)⟩
theorem tone50 : TOne Try.prog 50 ⟨.ptr 67, 8, 1, false, none⟩ := ⟨⟨_, rfl, rfl, rfl, fun τ h => by cases h⟩, ⟨_, rfl, .ptr _, rfl⟩, fun _ => rfl, (fun gs h => by cases h)⟩
theorem tone63 : TOne Try.prog 63 ⟨.struct [(22, 0), (3, 1), (47, 2)], 40, 3, true, some (.st (.pair (.sl (.int .u8)) (.pair (.int .i64) (.int .u64))))⟩ := ⟨⟨_, rfl, rfl, rfl, fun τ h => by cases h; exact ⟨rfl, rfl, rfl, _, rfl, valOf_agg rfl rfl⟩⟩, ⟨_, rfl, .struct _ _ rfl, rfl⟩, (fun h => by cases h), fun gs h _ => ⟨by kernel_rfl, by kernel_rfl, fun fs h => by cases h; rfl⟩⟩
theorem tone64 : TOne Try.prog 64 ⟨.struct [(22, 0), (3, 1), (47, 2)], 40, 3, true, some (.st (.pair (.sl (.int .u8)) (.pair (.int .i64) (.int .u64))))⟩ := ⟨⟨_, rfl, rfl, rfl, fun τ h => by cases h; exact ⟨rfl, rfl, rfl, _, rfl, valOf_agg rfl rfl⟩⟩, ⟨_, rfl, .struct _ _ rfl, rfl⟩, (fun h => by cases h), fun gs h _ => ⟨by kernel_rfl, by kernel_rfl, fun fs h => by cases h; rfl⟩⟩
theorem tone66 : TOne Try.prog 66 ⟨.struct [(22, 0), (3, 1), (2, 2)], 40, 3, true, some (.st (.pair (.sl (.int .u8)) (.pair (.int .i64) (.int .i64))))⟩ := ⟨⟨_, rfl, rfl, rfl, fun τ h => by cases h; exact ⟨rfl, rfl, rfl, _, rfl, valOf_agg rfl rfl⟩⟩, ⟨_, rfl, .struct _ _ rfl, rfl⟩, (fun h => by cases h), fun gs h _ => ⟨by kernel_rfl, by kernel_rfl, fun fs h => by cases h; rfl⟩⟩
theorem tone67 : TOne Try.prog 67 ⟨.struct [(22, 0), (3, 1), (2, 2)], 40, 3, true, some (.st (.pair (.sl (.int .u8)) (.pair (.int .i64) (.int .i64))))⟩ := ⟨⟨_, rfl, rfl, rfl, fun τ h => by cases h; exact ⟨rfl, rfl, rfl, _, rfl, valOf_agg rfl rfl⟩⟩, ⟨_, rfl, .struct _ _ rfl, rfl⟩, (fun h => by cases h), fun gs h _ => ⟨by kernel_rfl, by kernel_rfl, fun fs h => by cases h; rfl⟩⟩
theorem tone71 : TOne Try.prog 71 ⟨.int .u64, 8, 1, false, some (.int .u64)⟩ := ⟨⟨_, rfl, rfl, rfl, fun τ h => by cases h; exact ⟨rfl, rfl, rfl, _, rfl, valOf_one rfl rfl⟩⟩, ⟨_, rfl, .int _, rfl⟩, fun _ => rfl, (fun gs h => by cases h)⟩
theorem tone75 : TOne Try.prog 75 ⟨.struct [(17, 0), (17, 1), (17, 2), (9, 3)], 40, 4, true, none⟩ := ⟨⟨_, rfl, rfl, rfl, fun τ h => by cases h⟩, ⟨_, rfl, .struct _ _ rfl, rfl⟩, (fun h => by cases h), (fun gs h k => by cases k)⟩
theorem tone76 : TOne Try.prog 76 ⟨.struct [(17, 0), (17, 1), (17, 2), (9, 3)], 40, 4, true, none⟩ := ⟨⟨_, rfl, rfl, rfl, fun τ h => by cases h⟩, ⟨_, rfl, .struct _ _ rfl, rfl⟩, (fun h => by cases h), (fun gs h k => by cases k)⟩
theorem tone77 : TOne Try.prog 77 ⟨.array 0 16, 0, 0, true, none⟩ := ⟨⟨_, rfl, rfl, rfl, fun τ h => by cases h⟩, ⟨_, rfl, .array _ _, rfl⟩, (fun h => by cases h), (fun gs h => by cases h)⟩
theorem tone78 : TOne Try.prog 78 ⟨.struct [(77, 0)], 0, 0, true, none⟩ := ⟨⟨_, rfl, rfl, rfl, fun τ h => by cases h⟩, ⟨_, rfl, .struct _ _ rfl, rfl⟩, (fun h => by cases h), (fun gs h k => by cases k)⟩
theorem tone79 : TOne Try.prog 79 ⟨.struct [(77, 0)], 0, 0, true, none⟩ := ⟨⟨_, rfl, rfl, rfl, fun τ h => by cases h⟩, ⟨_, rfl, .struct _ _ rfl, rfl⟩, (fun h => by cases h), (fun gs h k => by cases k)⟩
theorem tone81 : TOne Try.prog 81 ⟨.int .u32, 4, 1, false, some (.int .u32)⟩ := ⟨⟨_, rfl, rfl, rfl, fun τ h => by cases h; exact ⟨rfl, rfl, rfl, _, rfl, valOf_one rfl rfl⟩⟩, ⟨_, rfl, .int _, rfl⟩, fun _ => rfl, (fun gs h => by cases h)⟩
theorem tone82 : TOne Try.prog 82 ⟨.int .u8, 1, 1, false, some (.int .u8)⟩ := ⟨⟨_, rfl, rfl, rfl, fun τ h => by cases h; exact ⟨rfl, rfl, rfl, _, rfl, valOf_one rfl rfl⟩⟩, ⟨_, rfl, .int _, rfl⟩, fun _ => rfl, (fun gs h => by cases h)⟩
theorem tone83 : TOne Try.prog 83 ⟨.int .u8, 1, 1, false, some (.int .u8)⟩ := ⟨⟨_, rfl, rfl, rfl, fun τ h => by cases h; exact ⟨rfl, rfl, rfl, _, rfl, valOf_one rfl rfl⟩⟩, ⟨_, rfl, .int _, rfl⟩, fun _ => rfl, (fun gs h => by cases h)⟩
theorem tone85 : TOne Try.prog 85 ⟨.ptr 5, 8, 1, false, none⟩ := ⟨⟨_, rfl, rfl, rfl, fun τ h => by cases h⟩, ⟨_, rfl, .ptr _, rfl⟩, fun _ => rfl, (fun gs h => by cases h)⟩
theorem tone86 : TOne Try.prog 86 ⟨.int .i32, 4, 1, false, some (.int .i32)⟩ := ⟨⟨_, rfl, rfl, rfl, fun τ h => by cases h; exact ⟨rfl, rfl, rfl, _, rfl, valOf_one rfl rfl⟩⟩, ⟨_, rfl, .int _, rfl⟩, fun _ => rfl, (fun gs h => by cases h)⟩
theorem tone87 : TOne Try.prog 87 ⟨.int .i32, 4, 1, false, some (.int .i32)⟩ := ⟨⟨_, rfl, rfl, rfl, fun τ h => by cases h; exact ⟨rfl, rfl, rfl, _, rfl, valOf_one rfl rfl⟩⟩, ⟨_, rfl, .int _, rfl⟩, fun _ => rfl, (fun gs h => by cases h)⟩
theorem tone88 : TOne Try.prog 88 ⟨.struct [(12, 0), (12, 1), (81, 2), (82, 3), (5, 4), (5, 5), (83, 6), (84, 7), (85, 8), (86, 9), (87, 10)], 48, 11, true, none⟩ := ⟨⟨_, rfl, rfl, rfl, fun τ h => by cases h⟩, ⟨_, rfl, .struct _ _ rfl, rfl⟩, (fun h => by cases h), (fun gs h k => by cases k)⟩
theorem tone89 : TOne Try.prog 89 ⟨.struct [(12, 0), (12, 1), (81, 2), (82, 3), (5, 4), (5, 5), (83, 6), (84, 7), (85, 8), (86, 9), (87, 10)], 48, 11, true, none⟩ := ⟨⟨_, rfl, rfl, rfl, fun τ h => by cases h⟩, ⟨_, rfl, .struct _ _ rfl, rfl⟩, (fun h => by cases h), (fun gs h k => by cases k)⟩
theorem tok : TOk Try.prog TT := tok_of (l := TL) ⟨tone2, tone3, tone4, tone5, tone6, tone7, tone8, tone9, tone10, tone11, tone12, tone13, tone14, tone15, tone16, tone17, tone18, tone19, tone21, tone22, tone24, tone34, tone38, tone41, tone42, tone45, tone47, tone50, tone63, tone64, tone66, tone67, tone71, tone75, tone76, tone77, tone78, tone79, tone81, tone82, tone83, tone85, tone86, tone87, tone88, tone89, trivial⟩
theorem mix : Try.prog.follows .mixedOrders = true := rfl
end Go.Proofs.Ytkeockkepmljjaa
end

section
namespace Go.Proofs.Ytkeockkepmljjaa
open Go Ev Go.Proofs
set_option maxRecDepth 100000

/-! laws_toInt64S -/
noncomputable def laws_toInt64S.E : Env := ⟨TT, [], []⟩
noncomputable def laws_toInt64S.f : List Int → Option (List Int) := fnOf laws_toInt64S.E [] Try.f17 [.imm (.sl (.int .i64))] [((.sl (.int .i64)), (.sl .sh))]
noncomputable def laws_toInt64S.m : FM := ⟨17, [.imm (.sl (.int .i64))], [((.sl (.int .i64)), (.sl .sh))], laws_toInt64S.f⟩
theorem laws_toInt64S.sound : Sound Try.prog laws_toInt64S.m := sound_of (E := laws_toInt64S.E) tok trivial mix Try.func17 (by kernel_rfl)
noncomputable def laws_toInt64S.l1 (a0 : List Int) (i4 : Int) (out3 : List Int) : Option (List Int) := runOf laws_toInt64S.E [] Try.f17 [.imm (.sl (.int .i64))] [((.sl (.int .i64)), (.sl .sh))] 1 ⟨[(0, [.imm (.sl (.int .i64)) a0]), (3, [.ref 0 [] 0]), (4, [.imm (.int .i64) i4])], [(0, ⟨(.sl (.int .i64)), out3, (.sl .sh), false, false, 0⟩)], 1⟩
theorem laws_toInt64S.l1_eq (a0 : List Int) (i4 : Int) (out3 : List Int) : laws_toInt64S.l1 a0 i4 out3 =
  (bif (decide (i4 < ((List.length a0) : Int))) then (bif (decide ((0 : Int) ≤ i4)) then (bif (decide (i4 < ((List.length a0) : Int))) then (bif (decide ((0 : Int) ≤ i4)) then (bif (decide (i4 < ((List.length out3) : Int))) then (laws_toInt64S.l1 a0 (IntKind.wrap .i64 (i4 + (1 : Int))) (List.set out3 (Int.toNat i4) (List.getD a0 (Int.toNat i4) (0 : Int))))
          else none)
        else none)
      else none)
    else none)
  else (some out3)) :=
  (runOf_eq laws_toInt64S.E [] Try.f17 [.imm (.sl (.int .i64))] [((.sl (.int .i64)), (.sl .sh))] 1 _).trans (by kernel_rfl)
theorem laws_toInt64S.eq (a0 : List Int) : laws_toInt64S.f a0 =
  (bif (decide ((0 : Int) ≤ ((List.length a0) : Int))) then (bif (decide (((List.length a0) : Int) ≤ ((List.length a0) : Int))) then (bif (decide (((List.length a0) : Int) ≤ (17592186044416 : Int))) then (laws_toInt64S.l1 a0 (0 : Int) (List.replicate (Int.toNat ((List.length a0) : Int)) (0 : Int)))
      else none)
    else none)
  else none) :=
  (fnOf_eq laws_toInt64S.E [] Try.f17 [.imm (.sl (.int .i64))] [((.sl (.int .i64)), (.sl .sh))] a0).trans (by kernel_rfl)

/-! spec_l01In -/
noncomputable def spec_l01In.E : Env := ⟨TT, [], []⟩
noncomputable def spec_l01In.f : Int × Int × Int → Option Bool := fnOf spec_l01In.E [] Try.f49 [.imm (.int .i64), .imm (.int .i64), .imm (.int .i64)] [(.bool, .sh)]
noncomputable def spec_l01In.m : FM := ⟨49, [.imm (.int .i64), .imm (.int .i64), .imm (.int .i64)], [(.bool, .sh)], spec_l01In.f⟩
theorem spec_l01In.sound : Sound Try.prog spec_l01In.m := sound_of (E := spec_l01In.E) tok trivial mix Try.func49 (by kernel_rfl)
theorem spec_l01In.eq (n0 : Int) (low1 : Int) (high2 : Int) : spec_l01In.f (n0, low1, high2) =
  (bif (decide (n0 ≥ low1)) then (some (decide (n0 ≤ high2)))
  else (some false)) :=
  (fnOf_eq spec_l01In.E [] Try.f49 [.imm (.int .i64), .imm (.int .i64), .imm (.int .i64)] [(.bool, .sh)] (n0, low1, high2)).trans (by kernel_rfl)

/-! spec_l33Ranks -/
noncomputable def spec_l33Ranks.E : Env := ⟨TT, [], []⟩
noncomputable def spec_l33Ranks.f : List Int → Option (List Int) := fnOf spec_l33Ranks.E [] Try.f51 [.imm (.sl (.int .i64))] [((.sl (.int .i64)), (.sl .sh))]
noncomputable def spec_l33Ranks.m : FM := ⟨51, [.imm (.sl (.int .i64))], [((.sl (.int .i64)), (.sl .sh))], spec_l33Ranks.f⟩
theorem spec_l33Ranks.sound : Sound Try.prog spec_l33Ranks.m := sound_of (E := spec_l33Ranks.E) tok trivial mix Try.func51 (by kernel_rfl)
noncomputable def spec_l33Ranks.l1 (scores0 : List Int) (i4 : Int) (out3 : List Int) : Option (List Int) := runOf spec_l33Ranks.E [] Try.f51 [.imm (.sl (.int .i64))] [((.sl (.int .i64)), (.sl .sh))] 1 ⟨[(0, [.imm (.sl (.int .i64)) scores0]), (3, [.ref 0 [] 0]), (4, [.imm (.int .i64) i4])], [(0, ⟨(.sl (.int .i64)), out3, (.sl .sh), false, false, 0⟩)], 1⟩
noncomputable def spec_l33Ranks.l2 (scores0 : List Int) (i4 : Int) (rank5 : Int) (k6 : Int) (out3 : List Int) : Option (List Int) := runOf spec_l33Ranks.E [] Try.f51 [.imm (.sl (.int .i64))] [((.sl (.int .i64)), (.sl .sh))] 2 ⟨[(0, [.imm (.sl (.int .i64)) scores0]), (3, [.ref 0 [] 0]), (4, [.imm (.int .i64) i4]), (5, [.imm (.int .i64) rank5]), (6, [.imm (.int .i64) k6])], [(0, ⟨(.sl (.int .i64)), out3, (.sl .sh), false, false, 0⟩)], 1⟩
noncomputable def spec_l33Ranks.l3 (scores0 : List Int) (i4 : Int) (rank5 : Int) (k6 : Int) (out3 : List Int) : Option (List Int) := runOf spec_l33Ranks.E [] Try.f51 [.imm (.sl (.int .i64))] [((.sl (.int .i64)), (.sl .sh))] 3 ⟨[(0, [.imm (.sl (.int .i64)) scores0]), (3, [.ref 0 [] 0]), (4, [.imm (.int .i64) i4]), (5, [.imm (.int .i64) rank5]), (6, [.imm (.int .i64) k6])], [(0, ⟨(.sl (.int .i64)), out3, (.sl .sh), false, false, 0⟩)], 1⟩
theorem spec_l33Ranks.l1_eq (scores0 : List Int) (i4 : Int) (out3 : List Int) : spec_l33Ranks.l1 scores0 i4 out3 =
  (bif (decide (i4 < ((List.length scores0) : Int))) then (spec_l33Ranks.l2 scores0 i4 (1 : Int) (0 : Int) out3)
  else (some out3)) :=
  (runOf_eq spec_l33Ranks.E [] Try.f51 [.imm (.sl (.int .i64))] [((.sl (.int .i64)), (.sl .sh))] 1 _).trans (by kernel_rfl)
theorem spec_l33Ranks.l2_eq (scores0 : List Int) (i4 : Int) (rank5 : Int) (k6 : Int) (out3 : List Int) : spec_l33Ranks.l2 scores0 i4 rank5 k6 out3 =
  (bif (decide (k6 < ((List.length scores0) : Int))) then (bif (decide ((0 : Int) ≤ k6)) then (bif (decide (k6 < ((List.length scores0) : Int))) then (bif (decide ((0 : Int) ≤ i4)) then (bif (decide (i4 < ((List.length scores0) : Int))) then (bif (decide ((List.getD scores0 (Int.toNat k6) (0 : Int)) > (List.getD scores0 (Int.toNat i4) (0 : Int)))) then (spec_l33Ranks.l3 scores0 i4 (IntKind.wrap .i64 (rank5 + (1 : Int))) k6 out3)
            else (spec_l33Ranks.l3 scores0 i4 rank5 k6 out3))
          else none)
        else none)
      else none)
    else none)
  else (bif (decide (((List.length out3) + 1) ≤ 17592186044416)) then (spec_l33Ranks.l1 scores0 (IntKind.wrap .i64 (i4 + (1 : Int))) (out3 ++ [rank5]))
    else none)) :=
  (runOf_eq spec_l33Ranks.E [] Try.f51 [.imm (.sl (.int .i64))] [((.sl (.int .i64)), (.sl .sh))] 2 _).trans (by kernel_rfl)
theorem spec_l33Ranks.l3_eq (scores0 : List Int) (i4 : Int) (rank5 : Int) (k6 : Int) (out3 : List Int) : spec_l33Ranks.l3 scores0 i4 rank5 k6 out3 =
  (spec_l33Ranks.l2 scores0 i4 rank5 (IntKind.wrap .i64 (k6 + (1 : Int))) out3) :=
  (runOf_eq spec_l33Ranks.E [] Try.f51 [.imm (.sl (.int .i64))] [((.sl (.int .i64)), (.sl .sh))] 3 _).trans (by kernel_rfl)
theorem spec_l33Ranks.eq (scores0 : List Int) : spec_l33Ranks.f scores0 =
  (spec_l33Ranks.l1 scores0 (0 : Int) []) :=
  (fnOf_eq spec_l33Ranks.E [] Try.f51 [.imm (.sl (.int .i64))] [((.sl (.int .i64)), (.sl .sh))] scores0).trans (by kernel_rfl)

/-! impl_within -/
noncomputable def impl_within.E : Env := ⟨TT, [], []⟩
noncomputable def impl_within.f : Int × Int × Int → Option Bool := fnOf impl_within.E [] Try.f44 [.imm (.int .i64), .imm (.int .i64), .imm (.int .i64)] [(.bool, .sh)]
noncomputable def impl_within.m : FM := ⟨44, [.imm (.int .i64), .imm (.int .i64), .imm (.int .i64)], [(.bool, .sh)], impl_within.f⟩
theorem impl_within.sound : Sound Try.prog impl_within.m := sound_of (E := impl_within.E) tok trivial mix Try.func44 (by kernel_rfl)
theorem impl_within.eq (n0 : Int) (low1 : Int) (high2 : Int) : impl_within.f (n0, low1, high2) =
  (bif (decide (low1 ≤ n0)) then (some (decide (n0 ≤ high2)))
  else (some false)) :=
  (fnOf_eq impl_within.E [] Try.f44 [.imm (.int .i64), .imm (.int .i64), .imm (.int .i64)] [(.bool, .sh)] (n0, low1, high2)).trans (by kernel_rfl)

/-! impl_flag -/
noncomputable def impl_flag.E : Env := ⟨TT, [], []⟩
noncomputable def impl_flag.f : Bool → Option Int := fnOf impl_flag.E [] Try.f65 [.imm .bool] [((.int .i64), .sh)]
noncomputable def impl_flag.m : FM := ⟨65, [.imm .bool], [((.int .i64), .sh)], impl_flag.f⟩
theorem impl_flag.sound : Sound Try.prog impl_flag.m := sound_of (E := impl_flag.E) tok trivial mix Try.func65 (by kernel_rfl)
theorem impl_flag.eq (is0 : Bool) : impl_flag.f is0 =
  (bif is0 then (some (1 : Int))
  else (some (0 : Int))) :=
  (fnOf_eq impl_flag.E [] Try.f65 [.imm .bool] [((.int .i64), .sh)] is0).trans (by kernel_rfl)

/-! laws_eqInt64S -/
noncomputable def laws_eqInt64S.E : Env := ⟨TT, [], []⟩
noncomputable def laws_eqInt64S.f : (List Int) × List Int → Option Bool := fnOf laws_eqInt64S.E [] Try.f19 [.imm (.sl (.int .i64)), .imm (.sl (.int .i64))] [(.bool, .sh)]
noncomputable def laws_eqInt64S.m : FM := ⟨19, [.imm (.sl (.int .i64)), .imm (.sl (.int .i64))], [(.bool, .sh)], laws_eqInt64S.f⟩
theorem laws_eqInt64S.sound : Sound Try.prog laws_eqInt64S.m := sound_of (E := laws_eqInt64S.E) tok trivial mix Try.func19 (by kernel_rfl)
noncomputable def laws_eqInt64S.l1 (a0 : List Int) (b1 : List Int) (i5 : Int) : Option Bool := runOf laws_eqInt64S.E [] Try.f19 [.imm (.sl (.int .i64)), .imm (.sl (.int .i64))] [(.bool, .sh)] 1 ⟨[(0, [.imm (.sl (.int .i64)) a0]), (1, [.imm (.sl (.int .i64)) b1]), (5, [.imm (.int .i64) i5])], [], 0⟩
theorem laws_eqInt64S.l1_eq (a0 : List Int) (b1 : List Int) (i5 : Int) : laws_eqInt64S.l1 a0 b1 i5 =
  (bif (decide (i5 < ((List.length a0) : Int))) then (bif (decide ((0 : Int) ≤ i5)) then (bif (decide (i5 < ((List.length a0) : Int))) then (bif (decide ((0 : Int) ≤ i5)) then (bif (decide (i5 < ((List.length b1) : Int))) then (bif ((List.getD a0 (Int.toNat i5) (0 : Int)) != (List.getD b1 (Int.toNat i5) (0 : Int))) then (some false)
            else (laws_eqInt64S.l1 a0 b1 (IntKind.wrap .i64 (i5 + (1 : Int)))))
          else none)
        else none)
      else none)
    else none)
  else (some true)) :=
  (runOf_eq laws_eqInt64S.E [] Try.f19 [.imm (.sl (.int .i64)), .imm (.sl (.int .i64))] [(.bool, .sh)] 1 _).trans (by kernel_rfl)
theorem laws_eqInt64S.eq (a0 : List Int) (b1 : List Int) : laws_eqInt64S.f (a0, b1) =
  (bif (((List.length a0) : Int) != ((List.length b1) : Int)) then (some false)
  else (laws_eqInt64S.l1 a0 b1 (0 : Int))) :=
  (fnOf_eq laws_eqInt64S.E [] Try.f19 [.imm (.sl (.int .i64)), .imm (.sl (.int .i64))] [(.bool, .sh)] (a0, b1)).trans (by kernel_rfl)

/-! laws_markInt64S_1 -/
noncomputable def laws_markInt64S_1.E : Env := ⟨TT, [], []⟩
noncomputable def laws_markInt64S_1.f : (List Int) × Int → Option (Int × (List Int) × Unit) := fnOf laws_markInt64S_1.E [19] Try.f20 [.io (.sl (.int .i64)) (.sl .sh) false, .imm (.int .i64)] [((.int .i64), .sh)]
noncomputable def laws_markInt64S_1.m : FM := ⟨20, [.io (.sl (.int .i64)) (.sl .sh) false, .imm (.int .i64)], [((.int .i64), .sh)], laws_markInt64S_1.f⟩
theorem laws_markInt64S_1.sound : Sound Try.prog laws_markInt64S_1.m := sound_of (E := laws_markInt64S_1.E) tok trivial mix Try.func20 (by kernel_rfl)
noncomputable def laws_markInt64S_1.l1 (k1 : Int) (i5 : Int) (a0 : List Int) : Option (Int × (List Int) × Unit) := runOf laws_markInt64S_1.E [19] Try.f20 [.io (.sl (.int .i64)) (.sl .sh) false, .imm (.int .i64)] [((.int .i64), .sh)] 1 ⟨[(19, [.ref 0 [] 0]), (0, [.ref 0 [] 0]), (1, [.imm (.int .i64) k1]), (5, [.imm (.int .i64) i5])], [(0, ⟨(.sl (.int .i64)), a0, (.sl .sh), false, false, 0⟩)], 1⟩
theorem laws_markInt64S_1.l1_eq (k1 : Int) (i5 : Int) (a0 : List Int) : laws_markInt64S_1.l1 k1 i5 a0 =
  (bif (decide (i5 < ((List.length a0) : Int))) then (bif (decide ((0 : Int) ≤ i5)) then (bif (decide (i5 < ((List.length a0) : Int))) then (laws_markInt64S_1.l1 (IntKind.wrap .i64 (k1 + (1 : Int))) (IntKind.wrap .i64 (i5 + (1 : Int))) (List.set a0 (Int.toNat i5) k1))
      else none)
    else none)
  else (some (k1, (a0, ())))) :=
  (runOf_eq laws_markInt64S_1.E [19] Try.f20 [.io (.sl (.int .i64)) (.sl .sh) false, .imm (.int .i64)] [((.int .i64), .sh)] 1 _).trans (by kernel_rfl)
theorem laws_markInt64S_1.eq (a0 : List Int) (k1 : Int) : laws_markInt64S_1.f (a0, k1) =
  (laws_markInt64S_1.l1 k1 (0 : Int) a0) :=
  (fnOf_eq laws_markInt64S_1.E [19] Try.f20 [.io (.sl (.int .i64)) (.sl .sh) false, .imm (.int .i64)] [((.int .i64), .sh)] (a0, k1)).trans (by kernel_rfl)

/-! laws_heldInt64S -/
noncomputable def laws_heldInt64S.E : Env := ⟨TT, [], []⟩
noncomputable def laws_heldInt64S.f : (List Int) × Int → Option Int := fnOf laws_heldInt64S.E [] Try.f21 [.imm (.sl (.int .i64)), .imm (.int .i64)] [((.int .i64), .sh)]
noncomputable def laws_heldInt64S.m : FM := ⟨21, [.imm (.sl (.int .i64)), .imm (.int .i64)], [((.int .i64), .sh)], laws_heldInt64S.f⟩
theorem laws_heldInt64S.sound : Sound Try.prog laws_heldInt64S.m := sound_of (E := laws_heldInt64S.E) tok trivial mix Try.func21 (by kernel_rfl)
noncomputable def laws_heldInt64S.l1 (a0 : List Int) (k1 : Int) (i5 : Int) : Option Int := runOf laws_heldInt64S.E [] Try.f21 [.imm (.sl (.int .i64)), .imm (.int .i64)] [((.int .i64), .sh)] 1 ⟨[(0, [.imm (.sl (.int .i64)) a0]), (1, [.imm (.int .i64) k1]), (5, [.imm (.int .i64) i5])], [], 0⟩
theorem laws_heldInt64S.l1_eq (a0 : List Int) (k1 : Int) (i5 : Int) : laws_heldInt64S.l1 a0 k1 i5 =
  (bif (decide (i5 < ((List.length a0) : Int))) then (bif (decide ((0 : Int) ≤ i5)) then (bif (decide (i5 < ((List.length a0) : Int))) then (bif ((List.getD a0 (Int.toNat i5) (0 : Int)) != k1) then (some (-1 : Int))
        else (laws_heldInt64S.l1 a0 (IntKind.wrap .i64 (k1 + (1 : Int))) (IntKind.wrap .i64 (i5 + (1 : Int)))))
      else none)
    else none)
  else (some k1)) :=
  (runOf_eq laws_heldInt64S.E [] Try.f21 [.imm (.sl (.int .i64)), .imm (.int .i64)] [((.int .i64), .sh)] 1 _).trans (by kernel_rfl)
theorem laws_heldInt64S.eq (a0 : List Int) (k1 : Int) : laws_heldInt64S.f (a0, k1) =
  (laws_heldInt64S.l1 a0 k1 (0 : Int)) :=
  (fnOf_eq laws_heldInt64S.E [] Try.f21 [.imm (.sl (.int .i64)), .imm (.int .i64)] [((.int .i64), .sh)] (a0, k1)).trans (by kernel_rfl)

/-! spec_l33Round -/
noncomputable def spec_l33Round.E : Env := ⟨TT, [], []⟩
noncomputable def spec_l33Round.f : Int × Int → Option Int := fnOf spec_l33Round.E [] Try.f50 [.imm (.int .i64), .imm (.int .i64)] [((.int .i64), .sh)]
noncomputable def spec_l33Round.m : FM := ⟨50, [.imm (.int .i64), .imm (.int .i64)], [((.int .i64), .sh)], spec_l33Round.f⟩
theorem spec_l33Round.sound : Sound Try.prog spec_l33Round.m := sound_of (E := spec_l33Round.E) tok trivial mix Try.func50 (by kernel_rfl)
noncomputable def spec_l33Round.l1 (q6 : Int) : Option Int := runOf spec_l33Round.E [] Try.f50 [.imm (.int .i64), .imm (.int .i64)] [((.int .i64), .sh)] 1 ⟨[(6, [.imm (.int .i64) q6])], [], 0⟩
theorem spec_l33Round.l1_eq (q6 : Int) : spec_l33Round.l1 q6 =
  (some q6) :=
  (runOf_eq spec_l33Round.E [] Try.f50 [.imm (.int .i64), .imm (.int .i64)] [((.int .i64), .sh)] 1 _).trans (by kernel_rfl)
theorem spec_l33Round.eq (num0 : Int) (den1 : Int) : spec_l33Round.f (num0, den1) =
  (bif (decide ((IntKind.wrap .i64 ((2 : Int) * den1)) = (0 : Int))) then none
  else (bif (decide ((IntKind.wrap .i64 ((2 : Int) * den1)) = (0 : Int))) then none
    else (bif (decide ((Int.tmod (IntKind.wrap .i64 ((IntKind.wrap .i64 ((2 : Int) * num0)) + den1)) (IntKind.wrap .i64 ((2 : Int) * den1))) < (0 : Int))) then (spec_l33Round.l1 (IntKind.wrap .i64 ((IntKind.wrap .i64 (Int.tdiv (IntKind.wrap .i64 ((IntKind.wrap .i64 ((2 : Int) * num0)) + den1)) (IntKind.wrap .i64 ((2 : Int) * den1)))) - (1 : Int))))
      else (spec_l33Round.l1 (IntKind.wrap .i64 (Int.tdiv (IntKind.wrap .i64 ((IntKind.wrap .i64 ((2 : Int) * num0)) + den1)) (IntKind.wrap .i64 ((2 : Int) * den1)))))))) :=
  (fnOf_eq spec_l33Round.E [] Try.f50 [.imm (.int .i64), .imm (.int .i64)] [((.int .i64), .sh)] (num0, den1)).trans (by kernel_rfl)

/-! impl_rounded -/
noncomputable def impl_rounded.E : Env := ⟨TT, [], []⟩
noncomputable def impl_rounded.f : Int × Int → Option Int := fnOf impl_rounded.E [] Try.f47 [.imm (.int .i64), .imm (.int .i64)] [((.int .i64), .sh)]
noncomputable def impl_rounded.m : FM := ⟨47, [.imm (.int .i64), .imm (.int .i64)], [((.int .i64), .sh)], impl_rounded.f⟩
theorem impl_rounded.sound : Sound Try.prog impl_rounded.m := sound_of (E := impl_rounded.E) tok trivial mix Try.func47 (by kernel_rfl)
noncomputable def impl_rounded.l1 (out6 : Int) : Option Int := runOf impl_rounded.E [] Try.f47 [.imm (.int .i64), .imm (.int .i64)] [((.int .i64), .sh)] 1 ⟨[(6, [.imm (.int .i64) out6])], [], 0⟩
theorem impl_rounded.l1_eq (out6 : Int) : impl_rounded.l1 out6 =
  (some out6) :=
  (runOf_eq impl_rounded.E [] Try.f47 [.imm (.int .i64), .imm (.int .i64)] [((.int .i64), .sh)] 1 _).trans (by kernel_rfl)
theorem impl_rounded.eq (num0 : Int) (den1 : Int) : impl_rounded.f (num0, den1) =
  (bif (decide ((IntKind.wrap .i64 ((2 : Int) * den1)) = (0 : Int))) then none
  else (bif (decide ((IntKind.wrap .i64 ((IntKind.wrap .i64 ((2 : Int) * num0)) + den1)) < (0 : Int))) then (bif (decide ((IntKind.wrap .i64 ((2 : Int) * den1)) = (0 : Int))) then none
      else (bif ((Int.tmod (IntKind.wrap .i64 ((IntKind.wrap .i64 ((2 : Int) * num0)) + den1)) (IntKind.wrap .i64 ((2 : Int) * den1))) != (0 : Int)) then (impl_rounded.l1 (IntKind.wrap .i64 ((IntKind.wrap .i64 (Int.tdiv (IntKind.wrap .i64 ((IntKind.wrap .i64 ((2 : Int) * num0)) + den1)) (IntKind.wrap .i64 ((2 : Int) * den1)))) - (1 : Int))))
        else (impl_rounded.l1 (IntKind.wrap .i64 (Int.tdiv (IntKind.wrap .i64 ((IntKind.wrap .i64 ((2 : Int) * num0)) + den1)) (IntKind.wrap .i64 ((2 : Int) * den1)))))))
    else (impl_rounded.l1 (IntKind.wrap .i64 (Int.tdiv (IntKind.wrap .i64 ((IntKind.wrap .i64 ((2 : Int) * num0)) + den1)) (IntKind.wrap .i64 ((2 : Int) * den1))))))) :=
  (fnOf_eq impl_rounded.E [] Try.f47 [.imm (.int .i64), .imm (.int .i64)] [((.int .i64), .sh)] (num0, den1)).trans (by kernel_rfl)

/-! impl_Percentages_1 -/
noncomputable def impl_Percentages_1.E : Env := ⟨TT, [impl_within.m], []⟩
noncomputable def impl_Percentages_1.f : Int × Int → Option Bool := fnOf impl_Percentages_1.E [] Try.f46 [.imm (.int .i64), .imm (.ip (.int .i64))] [(.bool, .sh)]
noncomputable def impl_Percentages_1.m : FM := ⟨46, [.imm (.int .i64), .imm (.ip (.int .i64))], [(.bool, .sh)], impl_Percentages_1.f⟩
theorem impl_Percentages_1.sound : Sound Try.prog impl_Percentages_1.m := sound_of (E := impl_Percentages_1.E) tok ⟨impl_within.sound, trivial⟩ mix Try.func46 (by kernel_rfl)
theorem impl_Percentages_1.eq (n0 : Int) (x1 : Int) : impl_Percentages_1.f (n0, x1) =
  ((impl_within.f (n0, ((0 : Int), x1))).bind fun (r240 : Bool) =>
  (some (!r240))) :=
  (fnOf_eq impl_Percentages_1.E [] Try.f46 [.imm (.int .i64), .imm (.ip (.int .i64))] [(.bool, .sh)] (n0, x1)).trans (by kernel_rfl)

/-! spec_l33Equal -/
noncomputable def spec_l33Equal.E : Env := ⟨TT, [], []⟩
noncomputable def spec_l33Equal.f : (List Int) × Int → Option Int := fnOf spec_l33Equal.E [] Try.f56 [.imm (.sl (.int .i64)), .imm (.int .i64)] [((.int .i64), .sh)]
noncomputable def spec_l33Equal.m : FM := ⟨56, [.imm (.sl (.int .i64)), .imm (.int .i64)], [((.int .i64), .sh)], spec_l33Equal.f⟩
theorem spec_l33Equal.sound : Sound Try.prog spec_l33Equal.m := sound_of (E := spec_l33Equal.E) tok trivial mix Try.func56 (by kernel_rfl)
noncomputable def spec_l33Equal.l1 (scores0 : List Int) (score1 : Int) (n5 : Int) (i6 : Int) : Option Int := runOf spec_l33Equal.E [] Try.f56 [.imm (.sl (.int .i64)), .imm (.int .i64)] [((.int .i64), .sh)] 1 ⟨[(0, [.imm (.sl (.int .i64)) scores0]), (1, [.imm (.int .i64) score1]), (5, [.imm (.int .i64) n5]), (6, [.imm (.int .i64) i6])], [], 0⟩
noncomputable def spec_l33Equal.l2 (scores0 : List Int) (score1 : Int) (n5 : Int) (i6 : Int) : Option Int := runOf spec_l33Equal.E [] Try.f56 [.imm (.sl (.int .i64)), .imm (.int .i64)] [((.int .i64), .sh)] 2 ⟨[(0, [.imm (.sl (.int .i64)) scores0]), (1, [.imm (.int .i64) score1]), (5, [.imm (.int .i64) n5]), (6, [.imm (.int .i64) i6])], [], 0⟩
theorem spec_l33Equal.l1_eq (scores0 : List Int) (score1 : Int) (n5 : Int) (i6 : Int) : spec_l33Equal.l1 scores0 score1 n5 i6 =
  (bif (decide (i6 < ((List.length scores0) : Int))) then (bif (decide ((0 : Int) ≤ i6)) then (bif (decide (i6 < ((List.length scores0) : Int))) then (bif ((List.getD scores0 (Int.toNat i6) (0 : Int)) == score1) then (spec_l33Equal.l2 scores0 score1 (IntKind.wrap .i64 (n5 + (1 : Int))) i6)
        else (spec_l33Equal.l2 scores0 score1 n5 i6))
      else none)
    else none)
  else (some n5)) :=
  (runOf_eq spec_l33Equal.E [] Try.f56 [.imm (.sl (.int .i64)), .imm (.int .i64)] [((.int .i64), .sh)] 1 _).trans (by kernel_rfl)
theorem spec_l33Equal.l2_eq (scores0 : List Int) (score1 : Int) (n5 : Int) (i6 : Int) : spec_l33Equal.l2 scores0 score1 n5 i6 =
  (spec_l33Equal.l1 scores0 score1 n5 (IntKind.wrap .i64 (i6 + (1 : Int)))) :=
  (runOf_eq spec_l33Equal.E [] Try.f56 [.imm (.sl (.int .i64)), .imm (.int .i64)] [((.int .i64), .sh)] 2 _).trans (by kernel_rfl)
theorem spec_l33Equal.eq (scores0 : List Int) (score1 : Int) : spec_l33Equal.f (scores0, score1) =
  (spec_l33Equal.l1 scores0 score1 (0 : Int) (0 : Int)) :=
  (fnOf_eq spec_l33Equal.E [] Try.f56 [.imm (.sl (.int .i64)), .imm (.int .i64)] [((.int .i64), .sh)] (scores0, score1)).trans (by kernel_rfl)

/-! spec_l27Reduced -/
noncomputable def spec_l27Reduced.E : Env := ⟨TT, [], []⟩
noncomputable def spec_l27Reduced.f : Int × Int → Option (Int × Int) := fnOf spec_l27Reduced.E [] Try.f57 [.imm (.int .i64), .imm (.int .i64)] [((.st (.pair (.int .i64) (.int .i64))), .sh)]
noncomputable def spec_l27Reduced.m : FM := ⟨57, [.imm (.int .i64), .imm (.int .i64)], [((.st (.pair (.int .i64) (.int .i64))), .sh)], spec_l27Reduced.f⟩
theorem spec_l27Reduced.sound : Sound Try.prog spec_l27Reduced.m := sound_of (E := spec_l27Reduced.E) tok trivial mix Try.func57 (by kernel_rfl)
noncomputable def spec_l27Reduced.l1 (num0 : Int) (den1 : Int) (a5 : Int) (b6 : Int) (x4 : Int × Int) : Option (Int × Int) := runOf spec_l27Reduced.E [] Try.f57 [.imm (.int .i64), .imm (.int .i64)] [((.st (.pair (.int .i64) (.int .i64))), .sh)] 1 ⟨[(0, [.imm (.int .i64) num0]), (1, [.imm (.int .i64) den1]), (4, [.adr 0 [] 0]), (5, [.imm (.int .i64) a5]), (6, [.imm (.int .i64) b6])], [(0, ⟨(.st (.pair (.int .i64) (.int .i64))), x4, .sh, true, false, 0⟩)], 1⟩
theorem spec_l27Reduced.l1_eq (num0 : Int) (den1 : Int) (a5 : Int) (b6 : Int) (x4 : Int × Int) : spec_l27Reduced.l1 num0 den1 a5 b6 x4 =
  (bif (decide (b6 > (0 : Int))) then (bif (decide (b6 = (0 : Int))) then none
    else (spec_l27Reduced.l1 num0 den1 b6 (Int.tmod a5 b6) x4))
  else (bif (decide (a5 = (0 : Int))) then none
    else (bif (decide (a5 = (0 : Int))) then none
      else (some ((IntKind.wrap .i64 (Int.tdiv num0 a5)), (IntKind.wrap .i64 (Int.tdiv den1 a5))))))) :=
  (runOf_eq spec_l27Reduced.E [] Try.f57 [.imm (.int .i64), .imm (.int .i64)] [((.st (.pair (.int .i64) (.int .i64))), .sh)] 1 _).trans (by kernel_rfl)
theorem spec_l27Reduced.eq (num0 : Int) (den1 : Int) : spec_l27Reduced.f (num0, den1) =
  (spec_l27Reduced.l1 num0 den1 den1 num0 ((0 : Int), (0 : Int))) :=
  (fnOf_eq spec_l27Reduced.E [] Try.f57 [.imm (.int .i64), .imm (.int .i64)] [((.st (.pair (.int .i64) (.int .i64))), .sh)] (num0, den1)).trans (by kernel_rfl)

/-! impl_ShareOfPrizes_1 -/
noncomputable def impl_ShareOfPrizes_1.E : Env := ⟨TT, [impl_within.m], []⟩
noncomputable def impl_ShareOfPrizes_1.f : Int → Option Bool := fnOf impl_ShareOfPrizes_1.E [] Try.f53 [.imm (.int .i64)] [(.bool, .sh)]
noncomputable def impl_ShareOfPrizes_1.m : FM := ⟨53, [.imm (.int .i64)], [(.bool, .sh)], impl_ShareOfPrizes_1.f⟩
theorem impl_ShareOfPrizes_1.sound : Sound Try.prog impl_ShareOfPrizes_1.m := sound_of (E := impl_ShareOfPrizes_1.E) tok ⟨impl_within.sound, trivial⟩ mix Try.func53 (by kernel_rfl)
theorem impl_ShareOfPrizes_1.eq (n0 : Int) : impl_ShareOfPrizes_1.f n0 =
  ((impl_within.f (n0, ((0 : Int), (1000000000 : Int)))).bind fun (r416 : Bool) =>
  (some (!r416))) :=
  (fnOf_eq impl_ShareOfPrizes_1.E [] Try.f53 [.imm (.int .i64)] [(.bool, .sh)] n0).trans (by kernel_rfl)

/-! impl_equals -/
noncomputable def impl_equals.E : Env := ⟨TT, [impl_flag.m], []⟩
noncomputable def impl_equals.f : (List Int) × Int → Option Int := fnOf impl_equals.E [] Try.f54 [.imm (.sl (.int .i64)), .imm (.int .i64)] [((.int .i64), .sh)]
noncomputable def impl_equals.m : FM := ⟨54, [.imm (.sl (.int .i64)), .imm (.int .i64)], [((.int .i64), .sh)], impl_equals.f⟩
theorem impl_equals.sound : Sound Try.prog impl_equals.m := sound_of (E := impl_equals.E) tok ⟨impl_flag.sound, trivial⟩ mix Try.func54 (by kernel_rfl)
noncomputable def impl_equals.l1 (rank1 : Int) (many5 : Int) (x8 : List Int) (x9 : Int) (x10 : Int) : Option Int := runOf impl_equals.E [] Try.f54 [.imm (.sl (.int .i64)), .imm (.int .i64)] [((.int .i64), .sh)] 1 ⟨[(1, [.imm (.int .i64) rank1]), (5, [.imm (.int .i64) many5]), (8, [.imm (.sl (.int .i64)) x8]), (9, [.imm (.int .i64) x9]), (10, [.imm (.int .i64) x10])], [], 0⟩
theorem impl_equals.l1_eq (rank1 : Int) (many5 : Int) (x8 : List Int) (x9 : Int) (x10 : Int) : impl_equals.l1 rank1 many5 x8 x9 x10 =
  (bif (decide (x10 < x9)) then (bif (decide ((0 : Int) ≤ x10)) then (bif (decide (x10 < ((List.length x8) : Int))) then ((impl_flag.f ((List.getD x8 (Int.toNat x10) (0 : Int)) == rank1)).bind fun (r438 : Int) =>
        (impl_equals.l1 rank1 (IntKind.wrap .i64 (many5 + r438)) x8 x9 (IntKind.wrap .i64 (x10 + (1 : Int)))))
      else none)
    else none)
  else (some many5)) :=
  (runOf_eq impl_equals.E [] Try.f54 [.imm (.sl (.int .i64)), .imm (.int .i64)] [((.int .i64), .sh)] 1 _).trans (by kernel_rfl)
theorem impl_equals.eq (list0 : List Int) (rank1 : Int) : impl_equals.f (list0, rank1) =
  (impl_equals.l1 rank1 (0 : Int) list0 ((List.length list0) : Int) (0 : Int)) :=
  (fnOf_eq impl_equals.E [] Try.f54 [.imm (.sl (.int .i64)), .imm (.int .i64)] [((.int .i64), .sh)] (list0, rank1)).trans (by kernel_rfl)

/-! impl_gcd -/
noncomputable def impl_gcd.E : Env := ⟨TT, [], []⟩
noncomputable def impl_gcd.f : Int × Int → Option Int := fnOf impl_gcd.E [] Try.f66 [.imm (.int .i64), .imm (.int .i64)] [((.int .i64), .sh)]
noncomputable def impl_gcd.m : FM := ⟨66, [.imm (.int .i64), .imm (.int .i64)], [((.int .i64), .sh)], impl_gcd.f⟩
theorem impl_gcd.sound : Sound Try.prog impl_gcd.m := sound_of (E := impl_gcd.E) tok trivial mix Try.func66 (by kernel_rfl)
noncomputable def impl_gcd.l1 (a0 : Int) (b1 : Int) : Option Int := runOf impl_gcd.E [] Try.f66 [.imm (.int .i64), .imm (.int .i64)] [((.int .i64), .sh)] 1 ⟨[(0, [.imm (.int .i64) a0]), (1, [.imm (.int .i64) b1])], [], 0⟩
theorem impl_gcd.l1_eq (a0 : Int) (b1 : Int) : impl_gcd.l1 a0 b1 =
  (bif (b1 != (0 : Int)) then (bif (decide (b1 = (0 : Int))) then none
    else (impl_gcd.l1 b1 (Int.tmod a0 b1)))
  else (some (if a0 < (IntKind.wrap .i64 ((0 : Int) - a0)) then (IntKind.wrap .i64 ((0 : Int) - a0)) else a0))) :=
  (runOf_eq impl_gcd.E [] Try.f66 [.imm (.int .i64), .imm (.int .i64)] [((.int .i64), .sh)] 1 _).trans (by kernel_rfl)
theorem impl_gcd.eq (a0 : Int) (b1 : Int) : impl_gcd.f (a0, b1) =
  (impl_gcd.l1 a0 b1) :=
  (fnOf_eq impl_gcd.E [] Try.f66 [.imm (.int .i64), .imm (.int .i64)] [((.int .i64), .sh)] (a0, b1)).trans (by kernel_rfl)

/-! laws_eqChance -/
noncomputable def laws_eqChance.E : Env := ⟨TT, [], []⟩
noncomputable def laws_eqChance.f : (Int × Int) × Int × Int → Option Bool := fnOf laws_eqChance.E [] Try.f58 [.imm (.st (.pair (.int .i64) (.int .i64))), .imm (.st (.pair (.int .i64) (.int .i64)))] [(.bool, .sh)]
noncomputable def laws_eqChance.m : FM := ⟨58, [.imm (.st (.pair (.int .i64) (.int .i64))), .imm (.st (.pair (.int .i64) (.int .i64)))], [(.bool, .sh)], laws_eqChance.f⟩
theorem laws_eqChance.sound : Sound Try.prog laws_eqChance.m := sound_of (E := laws_eqChance.E) tok trivial mix Try.func58 (by kernel_rfl)
theorem laws_eqChance.eq (a0 : Int × Int) (b1 : Int × Int) : laws_eqChance.f (a0, b1) =
  (bif (a0.1 != b1.1) then (some false)
  else (bif (a0.2 != b1.2) then (some false)
    else (some true))) :=
  (fnOf_eq laws_eqChance.E [] Try.f58 [.imm (.st (.pair (.int .i64) (.int .i64))), .imm (.st (.pair (.int .i64) (.int .i64)))] [(.bool, .sh)] (a0, b1)).trans (by kernel_rfl)

/-! laws_markChanceS_1 -/
noncomputable def laws_markChanceS_1.E : Env := ⟨TT, [], []⟩
noncomputable def laws_markChanceS_1.f : (List (Int × Int)) × Int → Option (Int × (List (Int × Int)) × Unit) := fnOf laws_markChanceS_1.E [27] Try.f33 [.io (.sl (.st (.pair (.int .i64) (.int .i64)))) (.sl .sh) false, .imm (.int .i64)] [((.int .i64), .sh)]
noncomputable def laws_markChanceS_1.m : FM := ⟨33, [.io (.sl (.st (.pair (.int .i64) (.int .i64)))) (.sl .sh) false, .imm (.int .i64)], [((.int .i64), .sh)], laws_markChanceS_1.f⟩
theorem laws_markChanceS_1.sound : Sound Try.prog laws_markChanceS_1.m := sound_of (E := laws_markChanceS_1.E) tok trivial mix Try.func33 (by kernel_rfl)
noncomputable def laws_markChanceS_1.l1 (k1 : Int) (i5 : Int) (a0 : List (Int × Int)) : Option (Int × (List (Int × Int)) × Unit) := runOf laws_markChanceS_1.E [27] Try.f33 [.io (.sl (.st (.pair (.int .i64) (.int .i64)))) (.sl .sh) false, .imm (.int .i64)] [((.int .i64), .sh)] 1 ⟨[(27, [.ref 0 [] 0]), (0, [.ref 0 [] 0]), (1, [.imm (.int .i64) k1]), (5, [.imm (.int .i64) i5])], [(0, ⟨(.sl (.st (.pair (.int .i64) (.int .i64)))), a0, (.sl .sh), false, false, 0⟩)], 1⟩
theorem laws_markChanceS_1.l1_eq (k1 : Int) (i5 : Int) (a0 : List (Int × Int)) : laws_markChanceS_1.l1 k1 i5 a0 =
  (bif (decide (i5 < ((List.length a0) : Int))) then (bif (decide ((0 : Int) ≤ i5)) then (bif (decide (i5 < ((List.length a0) : Int))) then (bif (decide ((0 : Int) ≤ i5)) then (bif (decide (i5 < ((List.length (List.set a0 (Int.toNat i5) (k1, (List.getD a0 (Int.toNat i5) ((0 : Int), (0 : Int))).2))) : Int))) then (laws_markChanceS_1.l1 (IntKind.wrap .i64 ((IntKind.wrap .i64 (k1 + (1 : Int))) + (1 : Int))) (IntKind.wrap .i64 (i5 + (1 : Int))) (List.set (List.set a0 (Int.toNat i5) (k1, (List.getD a0 (Int.toNat i5) ((0 : Int), (0 : Int))).2)) (Int.toNat i5) ((List.getD (List.set a0 (Int.toNat i5) (k1, (List.getD a0 (Int.toNat i5) ((0 : Int), (0 : Int))).2)) (Int.toNat i5) ((0 : Int), (0 : Int))).1, (IntKind.wrap .i64 (k1 + (1 : Int))))))
          else none)
        else none)
      else none)
    else none)
  else (some (k1, (a0, ())))) :=
  (runOf_eq laws_markChanceS_1.E [27] Try.f33 [.io (.sl (.st (.pair (.int .i64) (.int .i64)))) (.sl .sh) false, .imm (.int .i64)] [((.int .i64), .sh)] 1 _).trans (by kernel_rfl)
theorem laws_markChanceS_1.eq (a0 : List (Int × Int)) (k1 : Int) : laws_markChanceS_1.f (a0, k1) =
  (laws_markChanceS_1.l1 k1 (0 : Int) a0) :=
  (fnOf_eq laws_markChanceS_1.E [27] Try.f33 [.io (.sl (.st (.pair (.int .i64) (.int .i64)))) (.sl .sh) false, .imm (.int .i64)] [((.int .i64), .sh)] (a0, k1)).trans (by kernel_rfl)

/-! laws_heldChanceS -/
noncomputable def laws_heldChanceS.E : Env := ⟨TT, [], []⟩
noncomputable def laws_heldChanceS.f : (List (Int × Int)) × Int → Option Int := fnOf laws_heldChanceS.E [] Try.f34 [.imm (.sl (.st (.pair (.int .i64) (.int .i64)))), .imm (.int .i64)] [((.int .i64), .sh)]
noncomputable def laws_heldChanceS.m : FM := ⟨34, [.imm (.sl (.st (.pair (.int .i64) (.int .i64)))), .imm (.int .i64)], [((.int .i64), .sh)], laws_heldChanceS.f⟩
theorem laws_heldChanceS.sound : Sound Try.prog laws_heldChanceS.m := sound_of (E := laws_heldChanceS.E) tok trivial mix Try.func34 (by kernel_rfl)
noncomputable def laws_heldChanceS.l1 (a0 : List (Int × Int)) (k1 : Int) (i5 : Int) : Option Int := runOf laws_heldChanceS.E [] Try.f34 [.imm (.sl (.st (.pair (.int .i64) (.int .i64)))), .imm (.int .i64)] [((.int .i64), .sh)] 1 ⟨[(0, [.imm (.sl (.st (.pair (.int .i64) (.int .i64)))) a0]), (1, [.imm (.int .i64) k1]), (5, [.imm (.int .i64) i5])], [], 0⟩
theorem laws_heldChanceS.l1_eq (a0 : List (Int × Int)) (k1 : Int) (i5 : Int) : laws_heldChanceS.l1 a0 k1 i5 =
  (bif (decide (i5 < ((List.length a0) : Int))) then (bif (decide ((0 : Int) ≤ i5)) then (bif (decide (i5 < ((List.length a0) : Int))) then (bif ((List.getD a0 (Int.toNat i5) ((0 : Int), (0 : Int))).1 != k1) then (some (-1 : Int))
        else (bif (decide ((0 : Int) ≤ i5)) then (bif (decide (i5 < ((List.length a0) : Int))) then (bif ((List.getD a0 (Int.toNat i5) ((0 : Int), (0 : Int))).2 != (IntKind.wrap .i64 (k1 + (1 : Int)))) then (some (-1 : Int))
              else (laws_heldChanceS.l1 a0 (IntKind.wrap .i64 ((IntKind.wrap .i64 (k1 + (1 : Int))) + (1 : Int))) (IntKind.wrap .i64 (i5 + (1 : Int)))))
            else none)
          else none))
      else none)
    else none)
  else (some k1)) :=
  (runOf_eq laws_heldChanceS.E [] Try.f34 [.imm (.sl (.st (.pair (.int .i64) (.int .i64)))), .imm (.int .i64)] [((.int .i64), .sh)] 1 _).trans (by kernel_rfl)
theorem laws_heldChanceS.eq (a0 : List (Int × Int)) (k1 : Int) : laws_heldChanceS.f (a0, k1) =
  (laws_heldChanceS.l1 a0 k1 (0 : Int)) :=
  (fnOf_eq laws_heldChanceS.E [] Try.f34 [.imm (.sl (.st (.pair (.int .i64) (.int .i64)))), .imm (.int .i64)] [((.int .i64), .sh)] (a0, k1)).trans (by kernel_rfl)

/-! laws_big -/
noncomputable def laws_big.E : Env := ⟨TT, [], []⟩
noncomputable def laws_big.f : List Int → Option Bool := fnOf laws_big.E [] Try.f13 [.imm (.sl (.int .u8))] [(.bool, .sh)]
noncomputable def laws_big.m : FM := ⟨13, [.imm (.sl (.int .u8))], [(.bool, .sh)], laws_big.f⟩
theorem laws_big.sound : Sound Try.prog laws_big.m := sound_of (E := laws_big.E) tok trivial mix Try.func13 (by kernel_rfl)
theorem laws_big.eq (code0 : List Int) : laws_big.f code0 =
  (some (decide (((List.length code0) : Int) > (4096 : Int)))) :=
  (fnOf_eq laws_big.E [] Try.f13 [.imm (.sl (.int .u8))] [(.bool, .sh)] code0).trans (by kernel_rfl)

/-! spec_l01From -/
noncomputable def spec_l01From.E : Env := ⟨TT, [], []⟩
noncomputable def spec_l01From.f : List Int → Option ((List Int) × Int × Int) := fnOf spec_l01From.E [] Try.f40 [.imm (.sl (.int .u8))] [((.ip (.st (.pair (.sl (.int .u8)) (.pair (.int .i64) (.int .i64))))), (.ar .sh))]
noncomputable def spec_l01From.m : FM := ⟨40, [.imm (.sl (.int .u8))], [((.ip (.st (.pair (.sl (.int .u8)) (.pair (.int .i64) (.int .i64))))), (.ar .sh))], spec_l01From.f⟩
theorem spec_l01From.sound : Sound Try.prog spec_l01From.m := sound_of (E := spec_l01From.E) tok trivial mix Try.func40 (by kernel_rfl)
noncomputable def spec_l01From.l1 (code0 : List Int) (i4 : Int) (s3 : (List Int) × Int × Int) : Option ((List Int) × Int × Int) := runOf spec_l01From.E [] Try.f40 [.imm (.sl (.int .u8))] [((.ip (.st (.pair (.sl (.int .u8)) (.pair (.int .i64) (.int .i64))))), (.ar .sh))] 1 ⟨[(0, [.imm (.sl (.int .u8)) code0]), (3, [.adr 0 [] 0]), (4, [.imm (.int .i64) i4])], [(0, ⟨(.st (.pair (.sl (.int .u8)) (.pair (.int .i64) (.int .i64)))), s3, .sh, true, false, 0⟩)], 1⟩
theorem spec_l01From.l1_eq (code0 : List Int) (i4 : Int) (s3 : (List Int) × Int × Int) : spec_l01From.l1 code0 i4 s3 =
  (bif (decide (i4 < ((List.length code0) : Int))) then (bif (decide (i4 < (64 : Int))) then (bif (decide ((0 : Int) ≤ i4)) then (bif (decide (i4 < ((List.length code0) : Int))) then (spec_l01From.l1 code0 (IntKind.wrap .i64 (i4 + (1 : Int))) (s3.1, (s3.2.1, (Int.tmod (IntKind.wrap .i64 ((IntKind.wrap .i64 (s3.2.2 * (41 : Int))) + (IntKind.wrap .i64 (List.getD code0 (Int.toNat i4) (0 : Int))))) (2147483647 : Int)))))
        else none)
      else none)
    else (some s3))
  else (some s3)) :=
  (runOf_eq spec_l01From.E [] Try.f40 [.imm (.sl (.int .u8))] [((.ip (.st (.pair (.sl (.int .u8)) (.pair (.int .i64) (.int .i64))))), (.ar .sh))] 1 _).trans (by kernel_rfl)
theorem spec_l01From.eq (code0 : List Int) : spec_l01From.f code0 =
  (spec_l01From.l1 code0 (0 : Int) (code0, ((0 : Int), (86421 : Int)))) :=
  (fnOf_eq spec_l01From.E [] Try.f40 [.imm (.sl (.int .u8))] [((.ip (.st (.pair (.sl (.int .u8)) (.pair (.int .i64) (.int .i64))))), (.ar .sh))] code0).trans (by kernel_rfl)

/-! spec_l01Next_1 -/
noncomputable def spec_l01Next_1.E : Env := ⟨TT, [], []⟩
noncomputable def spec_l01Next_1.f : ((List Int) × Int × Int) × Int → Option (Int × ((List Int) × Int × Int) × Unit) := fnOf spec_l01Next_1.E [78] Try.f42 [.io (.st (.pair (.sl (.int .u8)) (.pair (.int .i64) (.int .i64)))) .sh true, .imm (.int .i64)] [((.int .i64), .sh)]
noncomputable def spec_l01Next_1.m : FM := ⟨42, [.io (.st (.pair (.sl (.int .u8)) (.pair (.int .i64) (.int .i64)))) .sh true, .imm (.int .i64)], [((.int .i64), .sh)], spec_l01Next_1.f⟩
theorem spec_l01Next_1.sound : Sound Try.prog spec_l01Next_1.m := sound_of (E := spec_l01Next_1.E) tok trivial mix Try.func42 (by kernel_rfl)
noncomputable def spec_l01Next_1.l1 (n1 : Int) (x5 : Int) (e0 : (List Int) × Int × Int) : Option (Int × ((List Int) × Int × Int) × Unit) := runOf spec_l01Next_1.E [78] Try.f42 [.io (.st (.pair (.sl (.int .u8)) (.pair (.int .i64) (.int .i64)))) .sh true, .imm (.int .i64)] [((.int .i64), .sh)] 2 ⟨[(78, [.adr 0 [] 0]), (1, [.imm (.int .i64) n1]), (5, [.imm (.int .i64) x5])], [(0, ⟨(.st (.pair (.sl (.int .u8)) (.pair (.int .i64) (.int .i64)))), e0, .sh, true, false, 0⟩)], 1⟩
noncomputable def spec_l01Next_1.l2 (n1 : Int) (x5 : Int) (e0 : (List Int) × Int × Int) : Option (Int × ((List Int) × Int × Int) × Unit) := runOf spec_l01Next_1.E [78] Try.f42 [.io (.st (.pair (.sl (.int .u8)) (.pair (.int .i64) (.int .i64)))) .sh true, .imm (.int .i64)] [((.int .i64), .sh)] 1 ⟨[(78, [.adr 0 [] 0]), (1, [.imm (.int .i64) n1]), (5, [.imm (.int .i64) x5])], [(0, ⟨(.st (.pair (.sl (.int .u8)) (.pair (.int .i64) (.int .i64)))), e0, .sh, true, false, 0⟩)], 1⟩
theorem spec_l01Next_1.l1_eq (n1 : Int) (x5 : Int) (e0 : (List Int) × Int × Int) : spec_l01Next_1.l1 n1 x5 e0 =
  (spec_l01Next_1.l2 n1 x5 e0) :=
  (runOf_eq spec_l01Next_1.E [78] Try.f42 [.io (.st (.pair (.sl (.int .u8)) (.pair (.int .i64) (.int .i64)))) .sh true, .imm (.int .i64)] [((.int .i64), .sh)] 2 _).trans (by kernel_rfl)
theorem spec_l01Next_1.l2_eq (n1 : Int) (x5 : Int) (e0 : (List Int) × Int × Int) : spec_l01Next_1.l2 n1 x5 e0 =
  (bif (decide (n1 = (0 : Int))) then none
  else (some ((Int.tmod x5 n1), (e0, ())))) :=
  (runOf_eq spec_l01Next_1.E [78] Try.f42 [.io (.st (.pair (.sl (.int .u8)) (.pair (.int .i64) (.int .i64)))) .sh true, .imm (.int .i64)] [((.int .i64), .sh)] 1 _).trans (by kernel_rfl)
theorem spec_l01Next_1.eq (s0 : (List Int) × Int × Int) (n1 : Int) : spec_l01Next_1.f (s0, n1) =
  (bif (decide (n1 ≤ (1 : Int))) then (some ((0 : Int), (s0, ())))
  else (bif (decide (s0.2.1 < ((List.length s0.1) : Int))) then (bif (decide ((0 : Int) ≤ s0.2.1)) then (bif (decide (s0.2.1 < ((List.length s0.1) : Int))) then (bif (decide (n1 ≤ (256 : Int))) then (bif ((Int.tmod (IntKind.wrap .i64 (s0.2.1 + (1 : Int))) (2 : Int)) == (0 : Int)) then (bif (decide ((0 : Int) ≤ (IntKind.wrap .i64 ((IntKind.wrap .i64 (s0.2.1 + (1 : Int))) - (1 : Int))))) then (bif (decide ((IntKind.wrap .i64 ((IntKind.wrap .i64 (s0.2.1 + (1 : Int))) - (1 : Int))) < ((List.length s0.1) : Int))) then (spec_l01Next_1.l1 n1 (IntKind.wrap .i64 (List.getD s0.1 (Int.toNat (IntKind.wrap .i64 ((IntKind.wrap .i64 (s0.2.1 + (1 : Int))) - (1 : Int)))) (0 : Int))) (s0.1, ((IntKind.wrap .i64 (s0.2.1 + (1 : Int))), (Int.tmod (IntKind.wrap .i64 ((IntKind.wrap .i64 (s0.2.2 * (48271 : Int))) + (13 : Int))) (2147483647 : Int)))))
                else none)
              else none)
            else (spec_l01Next_1.l1 n1 (IntKind.wrap .i64 ((IntKind.wrap .i64 (Int.tdiv (Int.tmod (IntKind.wrap .i64 ((IntKind.wrap .i64 (s0.2.2 * (48271 : Int))) + (13 : Int))) (2147483647 : Int)) (13 : Int))) + (IntKind.wrap .i64 (List.getD s0.1 (Int.toNat s0.2.1) (0 : Int))))) (s0.1, ((IntKind.wrap .i64 (s0.2.1 + (1 : Int))), (Int.tmod (IntKind.wrap .i64 ((IntKind.wrap .i64 (s0.2.2 * (48271 : Int))) + (13 : Int))) (2147483647 : Int))))))
          else (spec_l01Next_1.l1 n1 (IntKind.wrap .i64 ((IntKind.wrap .i64 (Int.tdiv (Int.tmod (IntKind.wrap .i64 ((IntKind.wrap .i64 (s0.2.2 * (48271 : Int))) + (13 : Int))) (2147483647 : Int)) (13 : Int))) + (IntKind.wrap .i64 (List.getD s0.1 (Int.toNat s0.2.1) (0 : Int))))) (s0.1, ((IntKind.wrap .i64 (s0.2.1 + (1 : Int))), (Int.tmod (IntKind.wrap .i64 ((IntKind.wrap .i64 (s0.2.2 * (48271 : Int))) + (13 : Int))) (2147483647 : Int))))))
        else none)
      else none)
    else (spec_l01Next_1.l2 n1 (IntKind.wrap .i64 (Int.tdiv (Int.tmod (IntKind.wrap .i64 ((IntKind.wrap .i64 (s0.2.2 * (48271 : Int))) + (13 : Int))) (2147483647 : Int)) (13 : Int))) (s0.1, (s0.2.1, (Int.tmod (IntKind.wrap .i64 ((IntKind.wrap .i64 (s0.2.2 * (48271 : Int))) + (13 : Int))) (2147483647 : Int))))))) :=
  (fnOf_eq spec_l01Next_1.E [78] Try.f42 [.io (.st (.pair (.sl (.int .u8)) (.pair (.int .i64) (.int .i64)))) .sh true, .imm (.int .i64)] [((.int .i64), .sh)] (s0, n1)).trans (by kernel_rfl)

/-! laws_hasInt -/
noncomputable def laws_hasInt.E : Env := ⟨TT, [], []⟩
noncomputable def laws_hasInt.f : (List Int) × Int → Option Bool := fnOf laws_hasInt.E [] Try.f26 [.imm (.sl (.int .i64)), .imm (.int .i64)] [(.bool, .sh)]
noncomputable def laws_hasInt.m : FM := ⟨26, [.imm (.sl (.int .i64)), .imm (.int .i64)], [(.bool, .sh)], laws_hasInt.f⟩
theorem laws_hasInt.sound : Sound Try.prog laws_hasInt.m := sound_of (E := laws_hasInt.E) tok trivial mix Try.func26 (by kernel_rfl)
noncomputable def laws_hasInt.l1 (list0 : List Int) (x1 : Int) (i5 : Int) : Option Bool := runOf laws_hasInt.E [] Try.f26 [.imm (.sl (.int .i64)), .imm (.int .i64)] [(.bool, .sh)] 1 ⟨[(0, [.imm (.sl (.int .i64)) list0]), (1, [.imm (.int .i64) x1]), (5, [.imm (.int .i64) i5])], [], 0⟩
theorem laws_hasInt.l1_eq (list0 : List Int) (x1 : Int) (i5 : Int) : laws_hasInt.l1 list0 x1 i5 =
  (bif (decide (i5 < ((List.length list0) : Int))) then (bif (decide ((0 : Int) ≤ i5)) then (bif (decide (i5 < ((List.length list0) : Int))) then (bif ((List.getD list0 (Int.toNat i5) (0 : Int)) == x1) then (some true)
        else (laws_hasInt.l1 list0 x1 (IntKind.wrap .i64 (i5 + (1 : Int)))))
      else none)
    else none)
  else (some false)) :=
  (runOf_eq laws_hasInt.E [] Try.f26 [.imm (.sl (.int .i64)), .imm (.int .i64)] [(.bool, .sh)] 1 _).trans (by kernel_rfl)
theorem laws_hasInt.eq (list0 : List Int) (x1 : Int) : laws_hasInt.f (list0, x1) =
  (laws_hasInt.l1 list0 x1 (0 : Int)) :=
  (fnOf_eq laws_hasInt.E [] Try.f26 [.imm (.sl (.int .i64)), .imm (.int .i64)] [(.bool, .sh)] (list0, x1)).trans (by kernel_rfl)

/-! laws_roll -/
noncomputable def laws_roll.E : Env := ⟨TT, [], []⟩
noncomputable def laws_roll.f : (List Int) × Int → Option ((List Int) × Int × Int) := fnOf laws_roll.E [] Try.f37 [.imm (.sl (.int .u8)), .imm (.int .u64)] [((.ip (.st (.pair (.sl (.int .u8)) (.pair (.int .i64) (.int .u64))))), (.ar .sh))]
noncomputable def laws_roll.m : FM := ⟨37, [.imm (.sl (.int .u8)), .imm (.int .u64)], [((.ip (.st (.pair (.sl (.int .u8)) (.pair (.int .i64) (.int .u64))))), (.ar .sh))], laws_roll.f⟩
theorem laws_roll.sound : Sound Try.prog laws_roll.m := sound_of (E := laws_roll.E) tok trivial mix Try.func37 (by kernel_rfl)
noncomputable def laws_roll.l1 (code0 : List Int) (i6 : Int) (d5 : (List Int) × Int × Int) : Option ((List Int) × Int × Int) := runOf laws_roll.E [] Try.f37 [.imm (.sl (.int .u8)), .imm (.int .u64)] [((.ip (.st (.pair (.sl (.int .u8)) (.pair (.int .i64) (.int .u64))))), (.ar .sh))] 1 ⟨[(0, [.imm (.sl (.int .u8)) code0]), (5, [.adr 0 [] 0]), (6, [.imm (.int .i64) i6])], [(0, ⟨(.st (.pair (.sl (.int .u8)) (.pair (.int .i64) (.int .u64)))), d5, .sh, true, false, 0⟩)], 1⟩
theorem laws_roll.l1_eq (code0 : List Int) (i6 : Int) (d5 : (List Int) × Int × Int) : laws_roll.l1 code0 i6 d5 =
  (bif (decide (i6 < ((List.length code0) : Int))) then (bif (decide ((0 : Int) ≤ i6)) then (bif (decide (i6 < ((List.length code0) : Int))) then (laws_roll.l1 code0 (IntKind.wrap .i64 (i6 + (1 : Int))) (d5.1, (d5.2.1, (IntKind.wrap .u64 ((IntKind.wrap .u64 ((IntKind.wrap .u64 (d5.2.2 * (1099511628211 : Int))) + (IntKind.wrap .u64 (List.getD code0 (Int.toNat i6) (0 : Int))))) + (3 : Int))))))
      else none)
    else none)
  else (some d5)) :=
  (runOf_eq laws_roll.E [] Try.f37 [.imm (.sl (.int .u8)), .imm (.int .u64)] [((.ip (.st (.pair (.sl (.int .u8)) (.pair (.int .i64) (.int .u64))))), (.ar .sh))] 1 _).trans (by kernel_rfl)
theorem laws_roll.eq (code0 : List Int) (seed1 : Int) : laws_roll.f (code0, seed1) =
  (laws_roll.l1 code0 (0 : Int) (code0, ((0 : Int), (IntKind.wrap .u64 ((IntKind.wrap .u64 (seed1 * (7919 : Int))) + (IntKind.wrap .u64 ((List.length code0) : Int))))))) :=
  (fnOf_eq laws_roll.E [] Try.f37 [.imm (.sl (.int .u8)), .imm (.int .u64)] [((.ip (.st (.pair (.sl (.int .u8)) (.pair (.int .i64) (.int .u64))))), (.ar .sh))] (code0, seed1)).trans (by kernel_rfl)

/-! impl_RankOrder_1 -/
noncomputable def impl_RankOrder_1.E : Env := ⟨TT, [], []⟩
noncomputable def impl_RankOrder_1.f : Int × Int × List Int → Option Int := fnOf impl_RankOrder_1.E [] Try.f60 [.imm (.int .i64), .imm (.int .i64), .imm (.ip (.sl (.int .i64)))] [((.int .i64), .sh)]
noncomputable def impl_RankOrder_1.m : FM := ⟨60, [.imm (.int .i64), .imm (.int .i64), .imm (.ip (.sl (.int .i64)))], [((.int .i64), .sh)], impl_RankOrder_1.f⟩
theorem impl_RankOrder_1.sound : Sound Try.prog impl_RankOrder_1.m := sound_of (E := impl_RankOrder_1.E) tok trivial mix Try.func60 (by kernel_rfl)
theorem impl_RankOrder_1.eq (a0 : Int) (b1 : Int) (x2 : List Int) : impl_RankOrder_1.f (a0, b1, x2) =
  (bif (decide ((0 : Int) ≤ a0)) then (bif (decide (a0 < ((List.length x2) : Int))) then (bif (decide ((0 : Int) ≤ b1)) then (bif (decide (b1 < ((List.length x2) : Int))) then (some (IntKind.wrap .i64 ((List.getD x2 (Int.toNat a0) (0 : Int)) - (List.getD x2 (Int.toNat b1) (0 : Int)))))
        else none)
      else none)
    else none)
  else none) :=
  (fnOf_eq impl_RankOrder_1.E [] Try.f60 [.imm (.int .i64), .imm (.int .i64), .imm (.ip (.sl (.int .i64)))] [((.int .i64), .sh)] (a0, b1, x2)).trans (by kernel_rfl)

/-! slices_insertionSortCmpFunc_int64_1 -/
noncomputable def slices_insertionSortCmpFunc_int64_1.E : Env := ⟨TT, [impl_RankOrder_1.m], []⟩
noncomputable def slices_insertionSortCmpFunc_int64_1.f : (List Int) × Int × Int × List Int → Option (Unit × (List Int) × Unit) := fnOf slices_insertionSortCmpFunc_int64_1.E [53] Try.f68 [.io (.sl (.int .i64)) (.sl .sh) false, .imm (.int .i64), .imm (.int .i64), .imm (.fn 60 (.ip (.sl (.int .i64))))] []
noncomputable def slices_insertionSortCmpFunc_int64_1.m : FM := ⟨68, [.io (.sl (.int .i64)) (.sl .sh) false, .imm (.int .i64), .imm (.int .i64), .imm (.fn 60 (.ip (.sl (.int .i64))))], [], slices_insertionSortCmpFunc_int64_1.f⟩
theorem slices_insertionSortCmpFunc_int64_1.sound : Sound Try.prog slices_insertionSortCmpFunc_int64_1.m := sound_of (E := slices_insertionSortCmpFunc_int64_1.E) tok ⟨impl_RankOrder_1.sound, trivial⟩ mix Try.func68 (by kernel_rfl)
noncomputable def slices_insertionSortCmpFunc_int64_1.l1 (a1 : Int) (b2 : Int) (cmp3 : List Int) (i8 : Int) (data0 : List Int) : Option (Unit × (List Int) × Unit) := runOf slices_insertionSortCmpFunc_int64_1.E [53] Try.f68 [.io (.sl (.int .i64)) (.sl .sh) false, .imm (.int .i64), .imm (.int .i64), .imm (.fn 60 (.ip (.sl (.int .i64))))] [] 1 ⟨[(53, [.ref 0 [] 0]), (0, [.ref 0 [] 0]), (1, [.imm (.int .i64) a1]), (2, [.imm (.int .i64) b2]), (3, [.imm (.fn 60 (.ip (.sl (.int .i64)))) cmp3]), (8, [.imm (.int .i64) i8])], [(0, ⟨(.sl (.int .i64)), data0, (.sl .sh), false, false, 0⟩)], 1⟩
noncomputable def slices_insertionSortCmpFunc_int64_1.l2 (a1 : Int) (b2 : Int) (cmp3 : List Int) (i8 : Int) (j9 : Int) (data0 : List Int) : Option (Unit × (List Int) × Unit) := runOf slices_insertionSortCmpFunc_int64_1.E [53] Try.f68 [.io (.sl (.int .i64)) (.sl .sh) false, .imm (.int .i64), .imm (.int .i64), .imm (.fn 60 (.ip (.sl (.int .i64))))] [] 2 ⟨[(53, [.ref 0 [] 0]), (0, [.ref 0 [] 0]), (1, [.imm (.int .i64) a1]), (2, [.imm (.int .i64) b2]), (3, [.imm (.fn 60 (.ip (.sl (.int .i64)))) cmp3]), (8, [.imm (.int .i64) i8]), (9, [.imm (.int .i64) j9])], [(0, ⟨(.sl (.int .i64)), data0, (.sl .sh), false, false, 0⟩)], 1⟩
theorem slices_insertionSortCmpFunc_int64_1.l1_eq (a1 : Int) (b2 : Int) (cmp3 : List Int) (i8 : Int) (data0 : List Int) : slices_insertionSortCmpFunc_int64_1.l1 a1 b2 cmp3 i8 data0 =
  (bif (decide (i8 < b2)) then (slices_insertionSortCmpFunc_int64_1.l2 a1 b2 cmp3 i8 i8 data0)
  else (some ((), (data0, ())))) :=
  (runOf_eq slices_insertionSortCmpFunc_int64_1.E [53] Try.f68 [.io (.sl (.int .i64)) (.sl .sh) false, .imm (.int .i64), .imm (.int .i64), .imm (.fn 60 (.ip (.sl (.int .i64))))] [] 1 _).trans (by kernel_rfl)
theorem slices_insertionSortCmpFunc_int64_1.l2_eq (a1 : Int) (b2 : Int) (cmp3 : List Int) (i8 : Int) (j9 : Int) (data0 : List Int) : slices_insertionSortCmpFunc_int64_1.l2 a1 b2 cmp3 i8 j9 data0 =
  (bif (decide (j9 > a1)) then (bif (decide ((0 : Int) ≤ j9)) then (bif (decide (j9 < ((List.length data0) : Int))) then (bif (decide ((0 : Int) ≤ (IntKind.wrap .i64 (j9 - (1 : Int))))) then (bif (decide ((IntKind.wrap .i64 (j9 - (1 : Int))) < ((List.length data0) : Int))) then ((impl_RankOrder_1.f ((List.getD data0 (Int.toNat j9) (0 : Int)), ((List.getD data0 (Int.toNat (IntKind.wrap .i64 (j9 - (1 : Int)))) (0 : Int)), cmp3))).bind fun (r801 : Int) =>
            (bif (decide (r801 < (0 : Int))) then (bif (decide ((0 : Int) ≤ (IntKind.wrap .i64 (j9 - (1 : Int))))) then (bif (decide ((IntKind.wrap .i64 (j9 - (1 : Int))) < ((List.length data0) : Int))) then (bif (decide ((0 : Int) ≤ j9)) then (bif (decide (j9 < ((List.length data0) : Int))) then (bif (decide ((0 : Int) ≤ j9)) then (bif (decide (j9 < ((List.length data0) : Int))) then (bif (decide ((0 : Int) ≤ (IntKind.wrap .i64 (j9 - (1 : Int))))) then (bif (decide ((IntKind.wrap .i64 (j9 - (1 : Int))) < ((List.length (List.set data0 (Int.toNat j9) (List.getD data0 (Int.toNat (IntKind.wrap .i64 (j9 - (1 : Int)))) (0 : Int)))) : Int))) then (slices_insertionSortCmpFunc_int64_1.l2 a1 b2 cmp3 i8 (IntKind.wrap .i64 (j9 - (1 : Int))) (List.set (List.set data0 (Int.toNat j9) (List.getD data0 (Int.toNat (IntKind.wrap .i64 (j9 - (1 : Int)))) (0 : Int))) (Int.toNat (IntKind.wrap .i64 (j9 - (1 : Int)))) (List.getD data0 (Int.toNat j9) (0 : Int))))
                              else none)
                            else none)
                          else none)
                        else none)
                      else none)
                    else none)
                  else none)
                else none)
              else (slices_insertionSortCmpFunc_int64_1.l1 a1 b2 cmp3 (IntKind.wrap .i64 (i8 + (1 : Int))) data0)))
          else none)
        else none)
      else none)
    else none)
  else (slices_insertionSortCmpFunc_int64_1.l1 a1 b2 cmp3 (IntKind.wrap .i64 (i8 + (1 : Int))) data0)) :=
  (runOf_eq slices_insertionSortCmpFunc_int64_1.E [53] Try.f68 [.io (.sl (.int .i64)) (.sl .sh) false, .imm (.int .i64), .imm (.int .i64), .imm (.fn 60 (.ip (.sl (.int .i64))))] [] 2 _).trans (by kernel_rfl)
theorem slices_insertionSortCmpFunc_int64_1.eq (data0 : List Int) (a1 : Int) (b2 : Int) (cmp3 : List Int) : slices_insertionSortCmpFunc_int64_1.f (data0, a1, b2, cmp3) =
  (slices_insertionSortCmpFunc_int64_1.l1 a1 b2 cmp3 (IntKind.wrap .i64 (a1 + (1 : Int))) data0) :=
  (fnOf_eq slices_insertionSortCmpFunc_int64_1.E [53] Try.f68 [.io (.sl (.int .i64)) (.sl .sh) false, .imm (.int .i64), .imm (.int .i64), .imm (.fn 60 (.ip (.sl (.int .i64))))] [] (data0, a1, b2, cmp3)).trans (by kernel_rfl)

/-! slices_swapRangeCmpFunc_int64_1 -/
noncomputable def slices_swapRangeCmpFunc_int64_1.E : Env := ⟨TT, [], []⟩
noncomputable def slices_swapRangeCmpFunc_int64_1.f : (List Int) × Int × Int × Int × List Int → Option (Unit × (List Int) × Unit) := fnOf slices_swapRangeCmpFunc_int64_1.E [38] Try.f71 [.io (.sl (.int .i64)) (.sl .sh) false, .imm (.int .i64), .imm (.int .i64), .imm (.int .i64), .imm (.fn 60 (.ip (.sl (.int .i64))))] []
noncomputable def slices_swapRangeCmpFunc_int64_1.m : FM := ⟨71, [.io (.sl (.int .i64)) (.sl .sh) false, .imm (.int .i64), .imm (.int .i64), .imm (.int .i64), .imm (.fn 60 (.ip (.sl (.int .i64))))], [], slices_swapRangeCmpFunc_int64_1.f⟩
theorem slices_swapRangeCmpFunc_int64_1.sound : Sound Try.prog slices_swapRangeCmpFunc_int64_1.m := sound_of (E := slices_swapRangeCmpFunc_int64_1.E) tok trivial mix Try.func71 (by kernel_rfl)
noncomputable def slices_swapRangeCmpFunc_int64_1.l1 (a1 : Int) (b2 : Int) (n3 : Int) (i10 : Int) (data0 : List Int) : Option (Unit × (List Int) × Unit) := runOf slices_swapRangeCmpFunc_int64_1.E [38] Try.f71 [.io (.sl (.int .i64)) (.sl .sh) false, .imm (.int .i64), .imm (.int .i64), .imm (.int .i64), .imm (.fn 60 (.ip (.sl (.int .i64))))] [] 1 ⟨[(38, [.ref 0 [] 0]), (0, [.ref 0 [] 0]), (1, [.imm (.int .i64) a1]), (2, [.imm (.int .i64) b2]), (3, [.imm (.int .i64) n3]), (10, [.imm (.int .i64) i10])], [(0, ⟨(.sl (.int .i64)), data0, (.sl .sh), false, false, 0⟩)], 1⟩
theorem slices_swapRangeCmpFunc_int64_1.l1_eq (a1 : Int) (b2 : Int) (n3 : Int) (i10 : Int) (data0 : List Int) : slices_swapRangeCmpFunc_int64_1.l1 a1 b2 n3 i10 data0 =
  (bif (decide (i10 < n3)) then (bif (decide ((0 : Int) ≤ (IntKind.wrap .i64 (b2 + i10)))) then (bif (decide ((IntKind.wrap .i64 (b2 + i10)) < ((List.length data0) : Int))) then (bif (decide ((0 : Int) ≤ (IntKind.wrap .i64 (a1 + i10)))) then (bif (decide ((IntKind.wrap .i64 (a1 + i10)) < ((List.length data0) : Int))) then (bif (decide ((0 : Int) ≤ (IntKind.wrap .i64 (a1 + i10)))) then (bif (decide ((IntKind.wrap .i64 (a1 + i10)) < ((List.length data0) : Int))) then (bif (decide ((0 : Int) ≤ (IntKind.wrap .i64 (b2 + i10)))) then (bif (decide ((IntKind.wrap .i64 (b2 + i10)) < ((List.length (List.set data0 (Int.toNat (IntKind.wrap .i64 (a1 + i10))) (List.getD data0 (Int.toNat (IntKind.wrap .i64 (b2 + i10))) (0 : Int)))) : Int))) then (slices_swapRangeCmpFunc_int64_1.l1 a1 b2 n3 (IntKind.wrap .i64 (i10 + (1 : Int))) (List.set (List.set data0 (Int.toNat (IntKind.wrap .i64 (a1 + i10))) (List.getD data0 (Int.toNat (IntKind.wrap .i64 (b2 + i10))) (0 : Int))) (Int.toNat (IntKind.wrap .i64 (b2 + i10))) (List.getD data0 (Int.toNat (IntKind.wrap .i64 (a1 + i10))) (0 : Int))))
                  else none)
                else none)
              else none)
            else none)
          else none)
        else none)
      else none)
    else none)
  else (some ((), (data0, ())))) :=
  (runOf_eq slices_swapRangeCmpFunc_int64_1.E [38] Try.f71 [.io (.sl (.int .i64)) (.sl .sh) false, .imm (.int .i64), .imm (.int .i64), .imm (.int .i64), .imm (.fn 60 (.ip (.sl (.int .i64))))] [] 1 _).trans (by kernel_rfl)
theorem slices_swapRangeCmpFunc_int64_1.eq (data0 : List Int) (a1 : Int) (b2 : Int) (n3 : Int) (cmp4 : List Int) : slices_swapRangeCmpFunc_int64_1.f (data0, a1, b2, n3, cmp4) =
  (slices_swapRangeCmpFunc_int64_1.l1 a1 b2 n3 (0 : Int) data0) :=
  (fnOf_eq slices_swapRangeCmpFunc_int64_1.E [38] Try.f71 [.io (.sl (.int .i64)) (.sl .sh) false, .imm (.int .i64), .imm (.int .i64), .imm (.int .i64), .imm (.fn 60 (.ip (.sl (.int .i64))))] [] (data0, a1, b2, n3, cmp4)).trans (by kernel_rfl)

/-! laws_dice_below_1 -/
noncomputable def laws_dice_below_1.E : Env := ⟨TT, [], []⟩
noncomputable def laws_dice_below_1.f : ((List Int) × Int × Int) × Int → Option (Int × ((List Int) × Int × Int) × Unit) := fnOf laws_dice_below_1.E [56] Try.f61 [.io (.st (.pair (.sl (.int .u8)) (.pair (.int .i64) (.int .u64)))) .sh true, .imm (.int .i64)] [((.int .i64), .sh)]
noncomputable def laws_dice_below_1.m : FM := ⟨61, [.io (.st (.pair (.sl (.int .u8)) (.pair (.int .i64) (.int .u64)))) .sh true, .imm (.int .i64)], [((.int .i64), .sh)], laws_dice_below_1.f⟩
theorem laws_dice_below_1.sound : Sound Try.prog laws_dice_below_1.m := sound_of (E := laws_dice_below_1.E) tok trivial mix Try.func61 (by kernel_rfl)
noncomputable def laws_dice_below_1.l1 (n1 : Int) (x5 : Int) (e0 : (List Int) × Int × Int) : Option (Int × ((List Int) × Int × Int) × Unit) := runOf laws_dice_below_1.E [56] Try.f61 [.io (.st (.pair (.sl (.int .u8)) (.pair (.int .i64) (.int .u64)))) .sh true, .imm (.int .i64)] [((.int .i64), .sh)] 1 ⟨[(56, [.adr 0 [] 0]), (1, [.imm (.int .i64) n1]), (5, [.imm (.int .i64) x5])], [(0, ⟨(.st (.pair (.sl (.int .u8)) (.pair (.int .i64) (.int .u64)))), e0, .sh, true, false, 0⟩)], 1⟩
theorem laws_dice_below_1.l1_eq (n1 : Int) (x5 : Int) (e0 : (List Int) × Int × Int) : laws_dice_below_1.l1 n1 x5 e0 =
  (bif (decide (n1 = (0 : Int))) then none
  else (some ((Int.tmod x5 n1), (e0, ())))) :=
  (runOf_eq laws_dice_below_1.E [56] Try.f61 [.io (.st (.pair (.sl (.int .u8)) (.pair (.int .i64) (.int .u64)))) .sh true, .imm (.int .i64)] [((.int .i64), .sh)] 1 _).trans (by kernel_rfl)
theorem laws_dice_below_1.eq (d0 : (List Int) × Int × Int) (n1 : Int) : laws_dice_below_1.f (d0, n1) =
  (bif (decide (d0.2.1 < ((List.length d0.1) : Int))) then (bif (decide ((0 : Int) ≤ d0.2.1)) then (bif (decide (d0.2.1 < ((List.length d0.1) : Int))) then (laws_dice_below_1.l1 n1 (IntKind.wrap .i64 ((IntKind.wrap .i64 (ibits .and .u64 (Int.fdiv (IntKind.wrap .u64 ((IntKind.wrap .u64 (d0.2.2 * (6364136223846793005 : Int))) + (1442695040888963407 : Int))) ((2 : Int) ^ (min 33 64))) (16777215 : Int))) + (IntKind.wrap .i64 (List.getD d0.1 (Int.toNat d0.2.1) (0 : Int))))) (d0.1, ((IntKind.wrap .i64 (d0.2.1 + (1 : Int))), (IntKind.wrap .u64 ((IntKind.wrap .u64 (d0.2.2 * (6364136223846793005 : Int))) + (1442695040888963407 : Int))))))
      else none)
    else none)
  else (laws_dice_below_1.l1 n1 (IntKind.wrap .i64 (ibits .and .u64 (Int.fdiv (IntKind.wrap .u64 ((IntKind.wrap .u64 (d0.2.2 * (6364136223846793005 : Int))) + (1442695040888963407 : Int))) ((2 : Int) ^ (min 33 64))) (16777215 : Int))) (d0.1, (d0.2.1, (IntKind.wrap .u64 ((IntKind.wrap .u64 (d0.2.2 * (6364136223846793005 : Int))) + (1442695040888963407 : Int))))))) :=
  (fnOf_eq laws_dice_below_1.E [56] Try.f61 [.io (.st (.pair (.sl (.int .u8)) (.pair (.int .i64) (.int .u64)))) .sh true, .imm (.int .i64)] [((.int .i64), .sh)] (d0, n1)).trans (by kernel_rfl)

/-! spec_l33Scores -/
noncomputable def spec_l33Scores.E : Env := ⟨TT, [spec_l01In.m], []⟩
noncomputable def spec_l33Scores.f : List Int → Option Bool := fnOf spec_l33Scores.E [] Try.f48 [.imm (.sl (.int .i64))] [(.bool, .sh)]
noncomputable def spec_l33Scores.m : FM := ⟨48, [.imm (.sl (.int .i64))], [(.bool, .sh)], spec_l33Scores.f⟩
theorem spec_l33Scores.sound : Sound Try.prog spec_l33Scores.m := sound_of (E := spec_l33Scores.E) tok ⟨spec_l01In.sound, trivial⟩ mix Try.func48 (by kernel_rfl)
noncomputable def spec_l33Scores.l1 (scores0 : List Int) (i3 : Int) : Option Bool := runOf spec_l33Scores.E [] Try.f48 [.imm (.sl (.int .i64))] [(.bool, .sh)] 1 ⟨[(0, [.imm (.sl (.int .i64)) scores0]), (3, [.imm (.int .i64) i3])], [], 0⟩
theorem spec_l33Scores.l1_eq (scores0 : List Int) (i3 : Int) : spec_l33Scores.l1 scores0 i3 =
  (bif (decide (i3 < ((List.length scores0) : Int))) then (bif (decide ((0 : Int) ≤ i3)) then (bif (decide (i3 < ((List.length scores0) : Int))) then ((spec_l01In.f ((List.getD scores0 (Int.toNat i3) (0 : Int)), ((-1000000000 : Int), (1000000000 : Int)))).bind fun (r15 : Bool) =>
        (bif (!r15) then (some false)
          else (spec_l33Scores.l1 scores0 (IntKind.wrap .i64 (i3 + (1 : Int))))))
      else none)
    else none)
  else (some (decide (((List.length scores0) : Int) ≤ (64 : Int))))) :=
  (runOf_eq spec_l33Scores.E [] Try.f48 [.imm (.sl (.int .i64))] [(.bool, .sh)] 1 _).trans (by kernel_rfl)
theorem spec_l33Scores.eq (scores0 : List Int) : spec_l33Scores.f scores0 =
  (spec_l33Scores.l1 scores0 (0 : Int)) :=
  (fnOf_eq spec_l33Scores.E [] Try.f48 [.imm (.sl (.int .i64))] [(.bool, .sh)] scores0).trans (by kernel_rfl)

/-! impl_isRankScore -/
noncomputable def impl_isRankScore.E : Env := ⟨TT, [impl_within.m], []⟩
noncomputable def impl_isRankScore.f : Int → Option Bool := fnOf impl_isRankScore.E [] Try.f63 [.imm (.int .i64)] [(.bool, .sh)]
noncomputable def impl_isRankScore.m : FM := ⟨63, [.imm (.int .i64)], [(.bool, .sh)], impl_isRankScore.f⟩
theorem impl_isRankScore.sound : Sound Try.prog impl_isRankScore.m := sound_of (E := impl_isRankScore.E) tok ⟨impl_within.sound, trivial⟩ mix Try.func63 (by kernel_rfl)
theorem impl_isRankScore.eq (n0 : Int) : impl_isRankScore.f n0 =
  ((impl_within.f (n0, ((-1000000000 : Int), (1000000000 : Int)))).bind fun (r53 : Bool) =>
  (some r53)) :=
  (fnOf_eq impl_isRankScore.E [] Try.f63 [.imm (.int .i64)] [(.bool, .sh)] n0).trans (by kernel_rfl)

/-! impl_rankScores -/
noncomputable def impl_rankScores.E : Env := ⟨TT, [impl_flag.m], []⟩
noncomputable def impl_rankScores.f : List Int → Option (List Int) := fnOf impl_rankScores.E [] Try.f52 [.imm (.sl (.int .i64))] [((.sl (.int .i64)), (.sl .sh))]
noncomputable def impl_rankScores.m : FM := ⟨52, [.imm (.sl (.int .i64))], [((.sl (.int .i64)), (.sl .sh))], impl_rankScores.f⟩
theorem impl_rankScores.sound : Sound Try.prog impl_rankScores.m := sound_of (E := impl_rankScores.E) tok ⟨impl_flag.sound, trivial⟩ mix Try.func52 (by kernel_rfl)
noncomputable def impl_rankScores.l1 (scores0 : List Int) (x10 : List Int) (x11 : Int) (x12 : Int) (out3 : List Int) : Option (List Int) := runOf impl_rankScores.E [] Try.f52 [.imm (.sl (.int .i64))] [((.sl (.int .i64)), (.sl .sh))] 1 ⟨[(0, [.imm (.sl (.int .i64)) scores0]), (3, [.ref 0 [] 0]), (10, [.imm (.sl (.int .i64)) x10]), (11, [.imm (.int .i64) x11]), (12, [.imm (.int .i64) x12])], [(0, ⟨(.sl (.int .i64)), out3, (.sl .sh), false, false, 0⟩)], 1⟩
noncomputable def impl_rankScores.l2 (scores0 : List Int) (a5 : Int) (rank6 : Int) (x10 : List Int) (x11 : Int) (x12 : Int) (x16 : List Int) (x17 : Int) (x18 : Int) (out3 : List Int) : Option (List Int) := runOf impl_rankScores.E [] Try.f52 [.imm (.sl (.int .i64))] [((.sl (.int .i64)), (.sl .sh))] 2 ⟨[(0, [.imm (.sl (.int .i64)) scores0]), (3, [.ref 0 [] 0]), (5, [.imm (.int .i64) a5]), (6, [.imm (.int .i64) rank6]), (10, [.imm (.sl (.int .i64)) x10]), (11, [.imm (.int .i64) x11]), (12, [.imm (.int .i64) x12]), (16, [.imm (.sl (.int .i64)) x16]), (17, [.imm (.int .i64) x17]), (18, [.imm (.int .i64) x18])], [(0, ⟨(.sl (.int .i64)), out3, (.sl .sh), false, false, 0⟩)], 1⟩
theorem impl_rankScores.l1_eq (scores0 : List Int) (x10 : List Int) (x11 : Int) (x12 : Int) (out3 : List Int) : impl_rankScores.l1 scores0 x10 x11 x12 out3 =
  (bif (decide (x12 < x11)) then (bif (decide ((0 : Int) ≤ x12)) then (bif (decide (x12 < ((List.length x10) : Int))) then (impl_rankScores.l2 scores0 (List.getD x10 (Int.toNat x12) (0 : Int)) (1 : Int) x10 x11 x12 scores0 ((List.length scores0) : Int) (0 : Int) out3)
      else none)
    else none)
  else (some out3)) :=
  (runOf_eq impl_rankScores.E [] Try.f52 [.imm (.sl (.int .i64))] [((.sl (.int .i64)), (.sl .sh))] 1 _).trans (by kernel_rfl)
theorem impl_rankScores.l2_eq (scores0 : List Int) (a5 : Int) (rank6 : Int) (x10 : List Int) (x11 : Int) (x12 : Int) (x16 : List Int) (x17 : Int) (x18 : Int) (out3 : List Int) : impl_rankScores.l2 scores0 a5 rank6 x10 x11 x12 x16 x17 x18 out3 =
  (bif (decide (x18 < x17)) then (bif (decide ((0 : Int) ≤ x18)) then (bif (decide (x18 < ((List.length x16) : Int))) then ((impl_flag.f (decide ((List.getD x16 (Int.toNat x18) (0 : Int)) > a5))).bind fun (r82 : Int) =>
        (impl_rankScores.l2 scores0 a5 (IntKind.wrap .i64 (rank6 + r82)) x10 x11 x12 x16 x17 (IntKind.wrap .i64 (x18 + (1 : Int))) out3))
      else none)
    else none)
  else (bif (decide (((List.length out3) + 1) ≤ 17592186044416)) then (impl_rankScores.l1 scores0 x10 x11 (IntKind.wrap .i64 (x12 + (1 : Int))) (out3 ++ [rank6]))
    else none)) :=
  (runOf_eq impl_rankScores.E [] Try.f52 [.imm (.sl (.int .i64))] [((.sl (.int .i64)), (.sl .sh))] 2 _).trans (by kernel_rfl)
theorem impl_rankScores.eq (scores0 : List Int) : impl_rankScores.f scores0 =
  (impl_rankScores.l1 scores0 scores0 ((List.length scores0) : Int) (0 : Int) []) :=
  (fnOf_eq impl_rankScores.E [] Try.f52 [.imm (.sl (.int .i64))] [((.sl (.int .i64)), (.sl .sh))] scores0).trans (by kernel_rfl)

/-! spec_CarryOver -/
noncomputable def spec_CarryOver.E : Env := ⟨TT, [spec_l33Scores.m, spec_l01In.m, spec_l33Round.m], []⟩
noncomputable def spec_CarryOver.f : (List Int) × Int × Int → Option ((List Int) × Int) := fnOf spec_CarryOver.E [] Try.f16 [.imm (.sl (.int .i64)), .imm (.int .i64), .imm (.int .i64)] [((.sl (.int .i64)), (.sl .sh)), ((.int .i64), .sh)]
noncomputable def spec_CarryOver.m : FM := ⟨16, [.imm (.sl (.int .i64)), .imm (.int .i64), .imm (.int .i64)], [((.sl (.int .i64)), (.sl .sh)), ((.int .i64), .sh)], spec_CarryOver.f⟩
theorem spec_CarryOver.sound : Sound Try.prog spec_CarryOver.m := sound_of (E := spec_CarryOver.E) tok ⟨spec_l33Scores.sound, spec_l01In.sound, spec_l33Round.sound, trivial⟩ mix Try.func16 (by kernel_rfl)
noncomputable def spec_CarryOver.l1 (scores0 : List Int) (num1 : Int) (den2 : Int) (i9 : Int) (out8 : List Int) : Option ((List Int) × Int) := runOf spec_CarryOver.E [] Try.f16 [.imm (.sl (.int .i64)), .imm (.int .i64), .imm (.int .i64)] [((.sl (.int .i64)), (.sl .sh)), ((.int .i64), .sh)] 1 ⟨[(0, [.imm (.sl (.int .i64)) scores0]), (1, [.imm (.int .i64) num1]), (2, [.imm (.int .i64) den2]), (8, [.ref 0 [] 0]), (9, [.imm (.int .i64) i9])], [(0, ⟨(.sl (.int .i64)), out8, (.sl .sh), false, false, 0⟩)], 1⟩
theorem spec_CarryOver.l1_eq (scores0 : List Int) (num1 : Int) (den2 : Int) (i9 : Int) (out8 : List Int) : spec_CarryOver.l1 scores0 num1 den2 i9 out8 =
  (bif (decide (i9 < ((List.length scores0) : Int))) then (bif (decide ((0 : Int) ≤ i9)) then (bif (decide (i9 < ((List.length scores0) : Int))) then ((spec_l33Round.f ((IntKind.wrap .i64 ((List.getD scores0 (Int.toNat i9) (0 : Int)) * num1)), den2)).bind fun (r152 : Int) =>
        (bif (decide (((List.length out8) + 1) ≤ 17592186044416)) then (spec_CarryOver.l1 scores0 num1 den2 (IntKind.wrap .i64 (i9 + (1 : Int))) (out8 ++ [r152]))
          else none))
      else none)
    else none)
  else (some (out8, (0 : Int)))) :=
  (runOf_eq spec_CarryOver.E [] Try.f16 [.imm (.sl (.int .i64)), .imm (.int .i64), .imm (.int .i64)] [((.sl (.int .i64)), (.sl .sh)), ((.int .i64), .sh)] 1 _).trans (by kernel_rfl)
theorem spec_CarryOver.eq (scores0 : List Int) (num1 : Int) (den2 : Int) : spec_CarryOver.f (scores0, num1, den2) =
  ((spec_l33Scores.f scores0).bind fun (r138 : Bool) =>
  (bif (!r138) then (some ([], (1 : Int)))
    else ((spec_l01In.f (den2, ((1 : Int), (1000 : Int)))).bind fun (r140 : Bool) =>
      (bif (!r140) then (some ([], (2 : Int)))
        else ((spec_l01In.f (num1, ((0 : Int), den2))).bind fun (r142 : Bool) =>
          (bif (!r142) then (some ([], (2 : Int)))
            else (spec_CarryOver.l1 scores0 num1 den2 (0 : Int) []))))))) :=
  (fnOf_eq spec_CarryOver.E [] Try.f16 [.imm (.sl (.int .i64)), .imm (.int .i64), .imm (.int .i64)] [((.sl (.int .i64)), (.sl .sh)), ((.int .i64), .sh)] (scores0, num1, den2)).trans (by kernel_rfl)

/-! spec_Percentages -/
noncomputable def spec_Percentages.E : Env := ⟨TT, [spec_l33Scores.m, spec_l01In.m, spec_l33Round.m], []⟩
noncomputable def spec_Percentages.f : (List Int) × Int → Option ((List Int) × Int) := fnOf spec_Percentages.E [] Try.f27 [.imm (.sl (.int .i64)), .imm (.int .i64)] [((.sl (.int .i64)), (.sl .sh)), ((.int .i64), .sh)]
noncomputable def spec_Percentages.m : FM := ⟨27, [.imm (.sl (.int .i64)), .imm (.int .i64)], [((.sl (.int .i64)), (.sl .sh)), ((.int .i64), .sh)], spec_Percentages.f⟩
theorem spec_Percentages.sound : Sound Try.prog spec_Percentages.m := sound_of (E := spec_Percentages.E) tok ⟨spec_l33Scores.sound, spec_l01In.sound, spec_l33Round.sound, trivial⟩ mix Try.func27 (by kernel_rfl)
noncomputable def spec_Percentages.l1 (scores0 : List Int) (top1 : Int) (i7 : Int) (out6 : List Int) : Option ((List Int) × Int) := runOf spec_Percentages.E [] Try.f27 [.imm (.sl (.int .i64)), .imm (.int .i64)] [((.sl (.int .i64)), (.sl .sh)), ((.int .i64), .sh)] 1 ⟨[(0, [.imm (.sl (.int .i64)) scores0]), (1, [.imm (.int .i64) top1]), (6, [.ref 0 [] 0]), (7, [.imm (.int .i64) i7])], [(0, ⟨(.sl (.int .i64)), out6, (.sl .sh), false, false, 0⟩)], 1⟩
theorem spec_Percentages.l1_eq (scores0 : List Int) (top1 : Int) (i7 : Int) (out6 : List Int) : spec_Percentages.l1 scores0 top1 i7 out6 =
  (bif (decide (i7 < ((List.length scores0) : Int))) then (bif (decide ((0 : Int) ≤ i7)) then (bif (decide (i7 < ((List.length scores0) : Int))) then ((spec_l01In.f ((List.getD scores0 (Int.toNat i7) (0 : Int)), ((0 : Int), top1))).bind fun (r216 : Bool) =>
        (bif (!r216) then (some ([], (2 : Int)))
          else (bif (decide ((0 : Int) ≤ i7)) then (bif (decide (i7 < ((List.length scores0) : Int))) then ((spec_l33Round.f ((IntKind.wrap .i64 ((10000 : Int) * (List.getD scores0 (Int.toNat i7) (0 : Int)))), top1)).bind fun (r218 : Int) =>
                (bif (decide (((List.length out6) + 1) ≤ 17592186044416)) then (spec_Percentages.l1 scores0 top1 (IntKind.wrap .i64 (i7 + (1 : Int))) (out6 ++ [r218]))
                  else none))
              else none)
            else none)))
      else none)
    else none)
  else (some (out6, (0 : Int)))) :=
  (runOf_eq spec_Percentages.E [] Try.f27 [.imm (.sl (.int .i64)), .imm (.int .i64)] [((.sl (.int .i64)), (.sl .sh)), ((.int .i64), .sh)] 1 _).trans (by kernel_rfl)
theorem spec_Percentages.eq (scores0 : List Int) (top1 : Int) : spec_Percentages.f (scores0, top1) =
  ((spec_l33Scores.f scores0).bind fun (r208 : Bool) =>
  (bif (!r208) then (some ([], (1 : Int)))
    else ((spec_l01In.f (top1, ((1 : Int), (1000000000 : Int)))).bind fun (r210 : Bool) =>
      (bif (!r210) then (some ([], (2 : Int)))
        else (spec_Percentages.l1 scores0 top1 (0 : Int) []))))) :=
  (fnOf_eq spec_Percentages.E [] Try.f27 [.imm (.sl (.int .i64)), .imm (.int .i64)] [((.sl (.int .i64)), (.sl .sh)), ((.int .i64), .sh)] (scores0, top1)).trans (by kernel_rfl)

/-! slices_IndexFunc_int64_1 -/
noncomputable def slices_IndexFunc_int64_1.E : Env := ⟨TT, [impl_Percentages_1.m], []⟩
noncomputable def slices_IndexFunc_int64_1.f : (List Int) × Int → Option Int := fnOf slices_IndexFunc_int64_1.E [] Try.f64 [.imm (.sl (.int .i64)), .imm (.fn 46 (.ip (.int .i64)))] [((.int .i64), .sh)]
noncomputable def slices_IndexFunc_int64_1.m : FM := ⟨64, [.imm (.sl (.int .i64)), .imm (.fn 46 (.ip (.int .i64)))], [((.int .i64), .sh)], slices_IndexFunc_int64_1.f⟩
theorem slices_IndexFunc_int64_1.sound : Sound Try.prog slices_IndexFunc_int64_1.m := sound_of (E := slices_IndexFunc_int64_1.E) tok ⟨impl_Percentages_1.sound, trivial⟩ mix Try.func64 (by kernel_rfl)
noncomputable def slices_IndexFunc_int64_1.l1 (s0 : List Int) (f1 : Int) (x7 : Int) (x8 : Int) : Option Int := runOf slices_IndexFunc_int64_1.E [] Try.f64 [.imm (.sl (.int .i64)), .imm (.fn 46 (.ip (.int .i64)))] [((.int .i64), .sh)] 1 ⟨[(0, [.imm (.sl (.int .i64)) s0]), (1, [.imm (.fn 46 (.ip (.int .i64))) f1]), (7, [.imm (.int .i64) x7]), (8, [.imm (.int .i64) x8])], [], 0⟩
theorem slices_IndexFunc_int64_1.l1_eq (s0 : List Int) (f1 : Int) (x7 : Int) (x8 : Int) : slices_IndexFunc_int64_1.l1 s0 f1 x7 x8 =
  (bif (decide (x8 < x7)) then (bif (decide ((0 : Int) ≤ x8)) then (bif (decide (x8 < ((List.length s0) : Int))) then ((impl_Percentages_1.f ((List.getD s0 (Int.toNat x8) (0 : Int)), f1)).bind fun (r242 : Bool) =>
        (bif r242 then (some x8)
          else (slices_IndexFunc_int64_1.l1 s0 f1 x7 (IntKind.wrap .i64 (x8 + (1 : Int))))))
      else none)
    else none)
  else (some (-1 : Int))) :=
  (runOf_eq slices_IndexFunc_int64_1.E [] Try.f64 [.imm (.sl (.int .i64)), .imm (.fn 46 (.ip (.int .i64)))] [((.int .i64), .sh)] 1 _).trans (by kernel_rfl)
theorem slices_IndexFunc_int64_1.eq (s0 : List Int) (f1 : Int) : slices_IndexFunc_int64_1.f (s0, f1) =
  (slices_IndexFunc_int64_1.l1 s0 f1 ((List.length s0) : Int) (0 : Int)) :=
  (fnOf_eq slices_IndexFunc_int64_1.E [] Try.f64 [.imm (.sl (.int .i64)), .imm (.fn 46 (.ip (.int .i64)))] [((.int .i64), .sh)] (s0, f1)).trans (by kernel_rfl)

/-! spec_Qualifiers -/
noncomputable def spec_Qualifiers.E : Env := ⟨TT, [spec_l33Scores.m, spec_l01In.m, spec_l33Ranks.m], []⟩
noncomputable def spec_Qualifiers.f : (List Int) × Int → Option ((List Int) × Int) := fnOf spec_Qualifiers.E [] Try.f28 [.imm (.sl (.int .i64)), .imm (.int .i64)] [((.sl (.int .i64)), (.sl .sh)), ((.int .i64), .sh)]
noncomputable def spec_Qualifiers.m : FM := ⟨28, [.imm (.sl (.int .i64)), .imm (.int .i64)], [((.sl (.int .i64)), (.sl .sh)), ((.int .i64), .sh)], spec_Qualifiers.f⟩
theorem spec_Qualifiers.sound : Sound Try.prog spec_Qualifiers.m := sound_of (E := spec_Qualifiers.E) tok ⟨spec_l33Scores.sound, spec_l01In.sound, spec_l33Ranks.sound, trivial⟩ mix Try.func28 (by kernel_rfl)
noncomputable def spec_Qualifiers.l1 (n1 : Int) (i8 : Int) (out6 : List Int) (ranks7 : List Int) : Option ((List Int) × Int) := runOf spec_Qualifiers.E [] Try.f28 [.imm (.sl (.int .i64)), .imm (.int .i64)] [((.sl (.int .i64)), (.sl .sh)), ((.int .i64), .sh)] 1 ⟨[(1, [.imm (.int .i64) n1]), (6, [.ref 0 [] 0]), (7, [.ref 1 [] 0]), (8, [.imm (.int .i64) i8])], [(0, ⟨(.sl (.int .i64)), out6, (.sl .sh), false, false, 0⟩), (1, ⟨(.sl (.int .i64)), ranks7, (.sl .sh), false, false, 0⟩)], 2⟩
noncomputable def spec_Qualifiers.l2 (n1 : Int) (i8 : Int) (out6 : List Int) (ranks7 : List Int) : Option ((List Int) × Int) := runOf spec_Qualifiers.E [] Try.f28 [.imm (.sl (.int .i64)), .imm (.int .i64)] [((.sl (.int .i64)), (.sl .sh)), ((.int .i64), .sh)] 2 ⟨[(1, [.imm (.int .i64) n1]), (6, [.ref 0 [] 0]), (7, [.ref 1 [] 0]), (8, [.imm (.int .i64) i8])], [(0, ⟨(.sl (.int .i64)), out6, (.sl .sh), false, false, 0⟩), (1, ⟨(.sl (.int .i64)), ranks7, (.sl .sh), false, false, 0⟩)], 2⟩
theorem spec_Qualifiers.l1_eq (n1 : Int) (i8 : Int) (out6 : List Int) (ranks7 : List Int) : spec_Qualifiers.l1 n1 i8 out6 ranks7 =
  (bif (decide (i8 < ((List.length ranks7) : Int))) then (bif (decide ((0 : Int) ≤ i8)) then (bif (decide (i8 < ((List.length ranks7) : Int))) then (bif (decide ((List.getD ranks7 (Int.toNat i8) (0 : Int)) ≤ n1)) then (bif (decide (((List.length out6) + 1) ≤ 17592186044416)) then (spec_Qualifiers.l2 n1 i8 (out6 ++ [i8]) ranks7)
          else none)
        else (spec_Qualifiers.l2 n1 i8 out6 ranks7))
      else none)
    else none)
  else (some (out6, (0 : Int)))) :=
  (runOf_eq spec_Qualifiers.E [] Try.f28 [.imm (.sl (.int .i64)), .imm (.int .i64)] [((.sl (.int .i64)), (.sl .sh)), ((.int .i64), .sh)] 1 _).trans (by kernel_rfl)
theorem spec_Qualifiers.l2_eq (n1 : Int) (i8 : Int) (out6 : List Int) (ranks7 : List Int) : spec_Qualifiers.l2 n1 i8 out6 ranks7 =
  (spec_Qualifiers.l1 n1 (IntKind.wrap .i64 (i8 + (1 : Int))) out6 ranks7) :=
  (runOf_eq spec_Qualifiers.E [] Try.f28 [.imm (.sl (.int .i64)), .imm (.int .i64)] [((.sl (.int .i64)), (.sl .sh)), ((.int .i64), .sh)] 2 _).trans (by kernel_rfl)
theorem spec_Qualifiers.eq (scores0 : List Int) (n1 : Int) : spec_Qualifiers.f (scores0, n1) =
  ((spec_l33Scores.f scores0).bind fun (r285 : Bool) =>
  (bif (!r285) then (some ([], (1 : Int)))
    else ((spec_l01In.f (n1, ((0 : Int), (64 : Int)))).bind fun (r287 : Bool) =>
      (bif (!r287) then (some ([], (2 : Int)))
        else ((spec_l33Ranks.f scores0).bind fun (r289 : List Int) =>
          (spec_Qualifiers.l1 n1 (0 : Int) [] r289)))))) :=
  (fnOf_eq spec_Qualifiers.E [] Try.f28 [.imm (.sl (.int .i64)), .imm (.int .i64)] [((.sl (.int .i64)), (.sl .sh)), ((.int .i64), .sh)] (scores0, n1)).trans (by kernel_rfl)

/-! spec_ShareOfPrizes -/
noncomputable def spec_ShareOfPrizes.E : Env := ⟨TT, [spec_l33Scores.m, spec_l01In.m, spec_l33Ranks.m, spec_l33Equal.m, spec_l27Reduced.m], []⟩
noncomputable def spec_ShareOfPrizes.f : (List Int) × List Int → Option ((List (Int × Int)) × Int) := fnOf spec_ShareOfPrizes.E [] Try.f31 [.imm (.sl (.int .i64)), .imm (.sl (.int .i64))] [((.sl (.st (.pair (.int .i64) (.int .i64)))), (.sl .sh)), ((.int .i64), .sh)]
noncomputable def spec_ShareOfPrizes.m : FM := ⟨31, [.imm (.sl (.int .i64)), .imm (.sl (.int .i64))], [((.sl (.st (.pair (.int .i64) (.int .i64)))), (.sl .sh)), ((.int .i64), .sh)], spec_ShareOfPrizes.f⟩
theorem spec_ShareOfPrizes.sound : Sound Try.prog spec_ShareOfPrizes.m := sound_of (E := spec_ShareOfPrizes.E) tok ⟨spec_l33Scores.sound, spec_l01In.sound, spec_l33Ranks.sound, spec_l33Equal.sound, spec_l27Reduced.sound, trivial⟩ mix Try.func31 (by kernel_rfl)
noncomputable def spec_ShareOfPrizes.l1 (scores0 : List Int) (prizes1 : List Int) (i6 : Int) : Option ((List (Int × Int)) × Int) := runOf spec_ShareOfPrizes.E [] Try.f31 [.imm (.sl (.int .i64)), .imm (.sl (.int .i64))] [((.sl (.st (.pair (.int .i64) (.int .i64)))), (.sl .sh)), ((.int .i64), .sh)] 1 ⟨[(0, [.imm (.sl (.int .i64)) scores0]), (1, [.imm (.sl (.int .i64)) prizes1]), (6, [.imm (.int .i64) i6])], [], 0⟩
noncomputable def spec_ShareOfPrizes.l2 (scores0 : List Int) (prizes1 : List Int) (i9 : Int) (ranks7 : List Int) (out8 : List (Int × Int)) : Option ((List (Int × Int)) × Int) := runOf spec_ShareOfPrizes.E [] Try.f31 [.imm (.sl (.int .i64)), .imm (.sl (.int .i64))] [((.sl (.st (.pair (.int .i64) (.int .i64)))), (.sl .sh)), ((.int .i64), .sh)] 2 ⟨[(0, [.imm (.sl (.int .i64)) scores0]), (1, [.imm (.sl (.int .i64)) prizes1]), (7, [.ref 0 [] 0]), (8, [.ref 1 [] 0]), (9, [.imm (.int .i64) i9])], [(0, ⟨(.sl (.int .i64)), ranks7, (.sl .sh), false, false, 0⟩), (1, ⟨(.sl (.st (.pair (.int .i64) (.int .i64)))), out8, (.sl .sh), false, false, 0⟩)], 2⟩
noncomputable def spec_ShareOfPrizes.l3 (scores0 : List Int) (prizes1 : List Int) (i9 : Int) (n10 : Int) (sum11 : Int) (k12 : Int) (ranks7 : List Int) (out8 : List (Int × Int)) : Option ((List (Int × Int)) × Int) := runOf spec_ShareOfPrizes.E [] Try.f31 [.imm (.sl (.int .i64)), .imm (.sl (.int .i64))] [((.sl (.st (.pair (.int .i64) (.int .i64)))), (.sl .sh)), ((.int .i64), .sh)] 3 ⟨[(0, [.imm (.sl (.int .i64)) scores0]), (1, [.imm (.sl (.int .i64)) prizes1]), (7, [.ref 0 [] 0]), (8, [.ref 1 [] 0]), (9, [.imm (.int .i64) i9]), (10, [.imm (.int .i64) n10]), (11, [.imm (.int .i64) sum11]), (12, [.imm (.int .i64) k12])], [(0, ⟨(.sl (.int .i64)), ranks7, (.sl .sh), false, false, 0⟩), (1, ⟨(.sl (.st (.pair (.int .i64) (.int .i64)))), out8, (.sl .sh), false, false, 0⟩)], 2⟩
theorem spec_ShareOfPrizes.l1_eq (scores0 : List Int) (prizes1 : List Int) (i6 : Int) : spec_ShareOfPrizes.l1 scores0 prizes1 i6 =
  (bif (decide (i6 < ((List.length prizes1) : Int))) then (bif (decide ((0 : Int) ≤ i6)) then (bif (decide (i6 < ((List.length prizes1) : Int))) then ((spec_l01In.f ((List.getD prizes1 (Int.toNat i6) (0 : Int)), ((0 : Int), (1000000000 : Int)))).bind fun (r358 : Bool) =>
        (bif (!r358) then (some ([], (2 : Int)))
          else (spec_ShareOfPrizes.l1 scores0 prizes1 (IntKind.wrap .i64 (i6 + (1 : Int))))))
      else none)
    else none)
  else (bif (decide (((List.length prizes1) : Int) > (64 : Int))) then (some ([], (2 : Int)))
    else ((spec_l33Ranks.f scores0).bind fun (r360 : List Int) =>
      (spec_ShareOfPrizes.l2 scores0 prizes1 (0 : Int) r360 [])))) :=
  (runOf_eq spec_ShareOfPrizes.E [] Try.f31 [.imm (.sl (.int .i64)), .imm (.sl (.int .i64))] [((.sl (.st (.pair (.int .i64) (.int .i64)))), (.sl .sh)), ((.int .i64), .sh)] 1 _).trans (by kernel_rfl)
theorem spec_ShareOfPrizes.l2_eq (scores0 : List Int) (prizes1 : List Int) (i9 : Int) (ranks7 : List Int) (out8 : List (Int × Int)) : spec_ShareOfPrizes.l2 scores0 prizes1 i9 ranks7 out8 =
  (bif (decide (i9 < ((List.length scores0) : Int))) then (bif (decide ((0 : Int) ≤ i9)) then (bif (decide (i9 < ((List.length scores0) : Int))) then ((spec_l33Equal.f (scores0, (List.getD scores0 (Int.toNat i9) (0 : Int)))).bind fun (r377 : Int) =>
        (bif (decide ((0 : Int) ≤ i9)) then (bif (decide (i9 < ((List.length ranks7) : Int))) then (spec_ShareOfPrizes.l3 scores0 prizes1 i9 r377 (0 : Int) (IntKind.wrap .i64 ((List.getD ranks7 (Int.toNat i9) (0 : Int)) - (1 : Int))) ranks7 out8)
            else none)
          else none))
      else none)
    else none)
  else (some (out8, (0 : Int)))) :=
  (runOf_eq spec_ShareOfPrizes.E [] Try.f31 [.imm (.sl (.int .i64)), .imm (.sl (.int .i64))] [((.sl (.st (.pair (.int .i64) (.int .i64)))), (.sl .sh)), ((.int .i64), .sh)] 2 _).trans (by kernel_rfl)
theorem spec_ShareOfPrizes.l3_eq (scores0 : List Int) (prizes1 : List Int) (i9 : Int) (n10 : Int) (sum11 : Int) (k12 : Int) (ranks7 : List Int) (out8 : List (Int × Int)) : spec_ShareOfPrizes.l3 scores0 prizes1 i9 n10 sum11 k12 ranks7 out8 =
  (bif (decide ((0 : Int) ≤ i9)) then (bif (decide (i9 < ((List.length ranks7) : Int))) then (bif (decide (k12 < (IntKind.wrap .i64 ((IntKind.wrap .i64 ((List.getD ranks7 (Int.toNat i9) (0 : Int)) - (1 : Int))) + n10)))) then (bif (decide (k12 < ((List.length prizes1) : Int))) then (bif (decide ((0 : Int) ≤ k12)) then (bif (decide (k12 < ((List.length prizes1) : Int))) then (spec_ShareOfPrizes.l3 scores0 prizes1 i9 n10 (IntKind.wrap .i64 (sum11 + (List.getD prizes1 (Int.toNat k12) (0 : Int)))) (IntKind.wrap .i64 (k12 + (1 : Int))) ranks7 out8)
            else none)
          else none)
        else ((spec_l27Reduced.f (sum11, n10)).bind fun (r394 : Int × Int) =>
          (bif (decide (((List.length out8) + 1) ≤ 8796093022208)) then (spec_ShareOfPrizes.l2 scores0 prizes1 (IntKind.wrap .i64 (i9 + (1 : Int))) ranks7 (out8 ++ [r394]))
            else none)))
      else ((spec_l27Reduced.f (sum11, n10)).bind fun (r396 : Int × Int) =>
        (bif (decide (((List.length out8) + 1) ≤ 8796093022208)) then (spec_ShareOfPrizes.l2 scores0 prizes1 (IntKind.wrap .i64 (i9 + (1 : Int))) ranks7 (out8 ++ [r396]))
          else none)))
    else none)
  else none) :=
  (runOf_eq spec_ShareOfPrizes.E [] Try.f31 [.imm (.sl (.int .i64)), .imm (.sl (.int .i64))] [((.sl (.st (.pair (.int .i64) (.int .i64)))), (.sl .sh)), ((.int .i64), .sh)] 3 _).trans (by kernel_rfl)
theorem spec_ShareOfPrizes.eq (scores0 : List Int) (prizes1 : List Int) : spec_ShareOfPrizes.f (scores0, prizes1) =
  ((spec_l33Scores.f scores0).bind fun (r353 : Bool) =>
  (bif (!r353) then (some ([], (1 : Int)))
    else (spec_ShareOfPrizes.l1 scores0 prizes1 (0 : Int)))) :=
  (fnOf_eq spec_ShareOfPrizes.E [] Try.f31 [.imm (.sl (.int .i64)), .imm (.sl (.int .i64))] [((.sl (.st (.pair (.int .i64) (.int .i64)))), (.sl .sh)), ((.int .i64), .sh)] (scores0, prizes1)).trans (by kernel_rfl)

/-! slices_IndexFunc_int64_2 -/
noncomputable def slices_IndexFunc_int64_2.E : Env := ⟨TT, [impl_ShareOfPrizes_1.m], []⟩
noncomputable def slices_IndexFunc_int64_2.f : (List Int) × Unit → Option Int := fnOf slices_IndexFunc_int64_2.E [] Try.f64 [.imm (.sl (.int .i64)), .imm (.fn 53 .unit)] [((.int .i64), .sh)]
noncomputable def slices_IndexFunc_int64_2.m : FM := ⟨64, [.imm (.sl (.int .i64)), .imm (.fn 53 .unit)], [((.int .i64), .sh)], slices_IndexFunc_int64_2.f⟩
theorem slices_IndexFunc_int64_2.sound : Sound Try.prog slices_IndexFunc_int64_2.m := sound_of (E := slices_IndexFunc_int64_2.E) tok ⟨impl_ShareOfPrizes_1.sound, trivial⟩ mix Try.func64 (by kernel_rfl)
noncomputable def slices_IndexFunc_int64_2.l1 (s0 : List Int) (x7 : Int) (x8 : Int) : Option Int := runOf slices_IndexFunc_int64_2.E [] Try.f64 [.imm (.sl (.int .i64)), .imm (.fn 53 .unit)] [((.int .i64), .sh)] 1 ⟨[(0, [.imm (.sl (.int .i64)) s0]), (1, [.imm (.fn 53 .unit) ()]), (7, [.imm (.int .i64) x7]), (8, [.imm (.int .i64) x8])], [], 0⟩
theorem slices_IndexFunc_int64_2.l1_eq (s0 : List Int) (x7 : Int) (x8 : Int) : slices_IndexFunc_int64_2.l1 s0 x7 x8 =
  (bif (decide (x8 < x7)) then (bif (decide ((0 : Int) ≤ x8)) then (bif (decide (x8 < ((List.length s0) : Int))) then ((impl_ShareOfPrizes_1.f (List.getD s0 (Int.toNat x8) (0 : Int))).bind fun (r418 : Bool) =>
        (bif r418 then (some x8)
          else (slices_IndexFunc_int64_2.l1 s0 x7 (IntKind.wrap .i64 (x8 + (1 : Int))))))
      else none)
    else none)
  else (some (-1 : Int))) :=
  (runOf_eq slices_IndexFunc_int64_2.E [] Try.f64 [.imm (.sl (.int .i64)), .imm (.fn 53 .unit)] [((.int .i64), .sh)] 1 _).trans (by kernel_rfl)
theorem slices_IndexFunc_int64_2.eq (s0 : List Int) (f1 : Unit) : slices_IndexFunc_int64_2.f (s0, f1) =
  (slices_IndexFunc_int64_2.l1 s0 ((List.length s0) : Int) (0 : Int)) :=
  (fnOf_eq slices_IndexFunc_int64_2.E [] Try.f64 [.imm (.sl (.int .i64)), .imm (.fn 53 .unit)] [((.int .i64), .sh)] (s0, f1)).trans (by kernel_rfl)

/-! impl_chance -/
noncomputable def impl_chance.E : Env := ⟨TT, [impl_gcd.m], []⟩
noncomputable def impl_chance.f : Int × Int → Option (Int × Int) := fnOf impl_chance.E [] Try.f55 [.imm (.int .i64), .imm (.int .i64)] [((.st (.pair (.int .i64) (.int .i64))), .sh)]
noncomputable def impl_chance.m : FM := ⟨55, [.imm (.int .i64), .imm (.int .i64)], [((.st (.pair (.int .i64) (.int .i64))), .sh)], impl_chance.f⟩
theorem impl_chance.sound : Sound Try.prog impl_chance.m := sound_of (E := impl_chance.E) tok ⟨impl_gcd.sound, trivial⟩ mix Try.func55 (by kernel_rfl)
theorem impl_chance.eq (num0 : Int) (den1 : Int) : impl_chance.f (num0, den1) =
  ((impl_gcd.f (num0, den1)).bind fun (r457 : Int) =>
  (bif (decide (r457 = (0 : Int))) then none
    else (bif (decide (r457 = (0 : Int))) then none
      else (some ((IntKind.wrap .i64 (Int.tdiv num0 r457)), (IntKind.wrap .i64 (Int.tdiv den1 r457))))))) :=
  (fnOf_eq impl_chance.E [] Try.f55 [.imm (.int .i64), .imm (.int .i64)] [((.st (.pair (.int .i64) (.int .i64))), .sh)] (num0, den1)).trans (by kernel_rfl)

/-! laws_eqChanceS -/
noncomputable def laws_eqChanceS.E : Env := ⟨TT, [laws_eqChance.m], []⟩
noncomputable def laws_eqChanceS.f : (List (Int × Int)) × List (Int × Int) → Option Bool := fnOf laws_eqChanceS.E [] Try.f32 [.imm (.sl (.st (.pair (.int .i64) (.int .i64)))), .imm (.sl (.st (.pair (.int .i64) (.int .i64))))] [(.bool, .sh)]
noncomputable def laws_eqChanceS.m : FM := ⟨32, [.imm (.sl (.st (.pair (.int .i64) (.int .i64)))), .imm (.sl (.st (.pair (.int .i64) (.int .i64))))], [(.bool, .sh)], laws_eqChanceS.f⟩
theorem laws_eqChanceS.sound : Sound Try.prog laws_eqChanceS.m := sound_of (E := laws_eqChanceS.E) tok ⟨laws_eqChance.sound, trivial⟩ mix Try.func32 (by kernel_rfl)
noncomputable def laws_eqChanceS.l1 (a0 : List (Int × Int)) (b1 : List (Int × Int)) (i5 : Int) : Option Bool := runOf laws_eqChanceS.E [] Try.f32 [.imm (.sl (.st (.pair (.int .i64) (.int .i64)))), .imm (.sl (.st (.pair (.int .i64) (.int .i64))))] [(.bool, .sh)] 1 ⟨[(0, [.imm (.sl (.st (.pair (.int .i64) (.int .i64)))) a0]), (1, [.imm (.sl (.st (.pair (.int .i64) (.int .i64)))) b1]), (5, [.imm (.int .i64) i5])], [], 0⟩
theorem laws_eqChanceS.l1_eq (a0 : List (Int × Int)) (b1 : List (Int × Int)) (i5 : Int) : laws_eqChanceS.l1 a0 b1 i5 =
  (bif (decide (i5 < ((List.length a0) : Int))) then (bif (decide ((0 : Int) ≤ i5)) then (bif (decide (i5 < ((List.length a0) : Int))) then (bif (decide ((0 : Int) ≤ i5)) then (bif (decide (i5 < ((List.length b1) : Int))) then ((laws_eqChance.f ((List.getD a0 (Int.toNat i5) ((0 : Int), (0 : Int))), (List.getD b1 (Int.toNat i5) ((0 : Int), (0 : Int))))).bind fun (r472 : Bool) =>
            (bif (!r472) then (some false)
              else (laws_eqChanceS.l1 a0 b1 (IntKind.wrap .i64 (i5 + (1 : Int))))))
          else none)
        else none)
      else none)
    else none)
  else (some true)) :=
  (runOf_eq laws_eqChanceS.E [] Try.f32 [.imm (.sl (.st (.pair (.int .i64) (.int .i64)))), .imm (.sl (.st (.pair (.int .i64) (.int .i64))))] [(.bool, .sh)] 1 _).trans (by kernel_rfl)
theorem laws_eqChanceS.eq (a0 : List (Int × Int)) (b1 : List (Int × Int)) : laws_eqChanceS.f (a0, b1) =
  (bif (((List.length a0) : Int) != ((List.length b1) : Int)) then (some false)
  else (laws_eqChanceS.l1 a0 b1 (0 : Int))) :=
  (fnOf_eq laws_eqChanceS.E [] Try.f32 [.imm (.sl (.st (.pair (.int .i64) (.int .i64)))), .imm (.sl (.st (.pair (.int .i64) (.int .i64))))] [(.bool, .sh)] (a0, b1)).trans (by kernel_rfl)

/-! spec_l33Draw_1 -/
noncomputable def spec_l33Draw_1.E : Env := ⟨TT, [spec_l01Next_1.m], []⟩
noncomputable def spec_l33Draw_1.f : (List Int) × Int × Int → Option ((List Int) × ((List Int) × Int × Int) × Unit) := fnOf spec_l33Draw_1.E [54] Try.f41 [.io (.st (.pair (.sl (.int .u8)) (.pair (.int .i64) (.int .i64)))) .sh true] [((.sl (.int .i64)), (.sl .sh))]
noncomputable def spec_l33Draw_1.m : FM := ⟨41, [.io (.st (.pair (.sl (.int .u8)) (.pair (.int .i64) (.int .i64)))) .sh true], [((.sl (.int .i64)), (.sl .sh))], spec_l33Draw_1.f⟩
theorem spec_l33Draw_1.sound : Sound Try.prog spec_l33Draw_1.m := sound_of (E := spec_l33Draw_1.E) tok ⟨spec_l01Next_1.sound, trivial⟩ mix Try.func41 (by kernel_rfl)
noncomputable def spec_l33Draw_1.l1 (width4 : Int) (k5 : Int) (s0 : (List Int) × Int × Int) (out3 : List Int) : Option ((List Int) × ((List Int) × Int × Int) × Unit) := runOf spec_l33Draw_1.E [54] Try.f41 [.io (.st (.pair (.sl (.int .u8)) (.pair (.int .i64) (.int .i64)))) .sh true] [((.sl (.int .i64)), (.sl .sh))] 1 ⟨[(54, [.adr 0 [] 0]), (0, [.adr 0 [] 0]), (3, [.ref 1 [] 0]), (4, [.imm (.int .i64) width4]), (5, [.imm (.int .i64) k5])], [(0, ⟨(.st (.pair (.sl (.int .u8)) (.pair (.int .i64) (.int .i64)))), s0, .sh, true, false, 0⟩), (1, ⟨(.sl (.int .i64)), out3, (.sl .sh), false, false, 0⟩)], 2⟩
noncomputable def spec_l33Draw_1.l2 (e0 : (List Int) × Int × Int) (out3 : List Int) : Option ((List Int) × ((List Int) × Int × Int) × Unit) := runOf spec_l33Draw_1.E [54] Try.f41 [.io (.st (.pair (.sl (.int .u8)) (.pair (.int .i64) (.int .i64)))) .sh true] [((.sl (.int .i64)), (.sl .sh))] 2 ⟨[(54, [.adr 0 [] 0]), (3, [.ref 1 [] 0])], [(0, ⟨(.st (.pair (.sl (.int .u8)) (.pair (.int .i64) (.int .i64)))), e0, .sh, true, false, 0⟩), (1, ⟨(.sl (.int .i64)), out3, (.sl .sh), false, false, 0⟩)], 2⟩
noncomputable def spec_l33Draw_1.l3 (n6 : Int) (s0 : (List Int) × Int × Int) (out3 : List Int) : Option ((List Int) × ((List Int) × Int × Int) × Unit) := runOf spec_l33Draw_1.E [54] Try.f41 [.io (.st (.pair (.sl (.int .u8)) (.pair (.int .i64) (.int .i64)))) .sh true] [((.sl (.int .i64)), (.sl .sh))] 4 ⟨[(54, [.adr 0 [] 0]), (0, [.adr 0 [] 0]), (3, [.ref 1 [] 0]), (6, [.imm (.int .i64) n6])], [(0, ⟨(.st (.pair (.sl (.int .u8)) (.pair (.int .i64) (.int .i64)))), s0, .sh, true, false, 0⟩), (1, ⟨(.sl (.int .i64)), out3, (.sl .sh), false, false, 0⟩)], 2⟩
noncomputable def spec_l33Draw_1.l4 (e0 : (List Int) × Int × Int) (out3 : List Int) : Option ((List Int) × ((List Int) × Int × Int) × Unit) := runOf spec_l33Draw_1.E [54] Try.f41 [.io (.st (.pair (.sl (.int .u8)) (.pair (.int .i64) (.int .i64)))) .sh true] [((.sl (.int .i64)), (.sl .sh))] 3 ⟨[(54, [.adr 0 [] 0]), (3, [.ref 1 [] 0])], [(0, ⟨(.st (.pair (.sl (.int .u8)) (.pair (.int .i64) (.int .i64)))), e0, .sh, true, false, 0⟩), (1, ⟨(.sl (.int .i64)), out3, (.sl .sh), false, false, 0⟩)], 2⟩
theorem spec_l33Draw_1.l1_eq (width4 : Int) (k5 : Int) (s0 : (List Int) × Int × Int) (out3 : List Int) : spec_l33Draw_1.l1 width4 k5 s0 out3 =
  (bif (decide (k5 > (0 : Int))) then ((spec_l01Next_1.f (s0, (IntKind.wrap .i64 ((2 : Int) * width4)))).bind fun (r550 : Int × ((List Int) × Int × Int) × Unit) =>
    (bif (decide (((List.length out3) + 1) ≤ 17592186044416)) then (spec_l33Draw_1.l1 width4 (IntKind.wrap .i64 (k5 - (1 : Int))) r550.2.1 (out3 ++ [(IntKind.wrap .i64 (r550.1 - (IntKind.wrap .i64 (Int.tdiv width4 (2 : Int)))))]))
      else none))
  else ((spec_l01Next_1.f (s0, (24 : Int))).bind fun (r552 : Int × ((List Int) × Int × Int) × Unit) =>
    (bif (r552.1 == (0 : Int)) then ((spec_l01Next_1.f (r552.2.1, (4 : Int))).bind fun (r554 : Int × ((List Int) × Int × Int) × Unit) =>
        (bif (decide ((0 : Int) ≤ r554.1)) then (bif (decide (r554.1 < (4 : Int))) then (bif (decide (((List.length out3) + 1) ≤ 17592186044416)) then (spec_l33Draw_1.l2 r554.2.1 (out3 ++ [(List.getD [(1000000000 : Int), (1000000001 : Int), (-1000000001 : Int), (-1000000000 : Int)] (Int.toNat r554.1) (0 : Int))]))
              else none)
            else none)
          else none))
      else (bif (r552.1 == (1 : Int)) then ((spec_l01Next_1.f (r552.2.1, (2 : Int))).bind fun (r558 : Int × ((List Int) × Int × Int) × Unit) =>
          (spec_l33Draw_1.l3 (IntKind.wrap .i64 ((64 : Int) + r558.1)) r558.2.1 out3))
        else (spec_l33Draw_1.l4 r552.2.1 out3))))) :=
  (runOf_eq spec_l33Draw_1.E [54] Try.f41 [.io (.st (.pair (.sl (.int .u8)) (.pair (.int .i64) (.int .i64)))) .sh true] [((.sl (.int .i64)), (.sl .sh))] 1 _).trans (by kernel_rfl)
theorem spec_l33Draw_1.l2_eq (e0 : (List Int) × Int × Int) (out3 : List Int) : spec_l33Draw_1.l2 e0 out3 =
  (some (out3, (e0, ()))) :=
  (runOf_eq spec_l33Draw_1.E [54] Try.f41 [.io (.st (.pair (.sl (.int .u8)) (.pair (.int .i64) (.int .i64)))) .sh true] [((.sl (.int .i64)), (.sl .sh))] 2 _).trans (by kernel_rfl)
theorem spec_l33Draw_1.l3_eq (n6 : Int) (s0 : (List Int) × Int × Int) (out3 : List Int) : spec_l33Draw_1.l3 n6 s0 out3 =
  (bif (decide (((List.length out3) : Int) < n6)) then ((spec_l01Next_1.f (s0, (30 : Int))).bind fun (r565 : Int × ((List Int) × Int × Int) × Unit) =>
    (bif (decide (((List.length out3) + 1) ≤ 17592186044416)) then (spec_l33Draw_1.l3 n6 r565.2.1 (out3 ++ [r565.1]))
      else none))
  else (spec_l33Draw_1.l4 s0 out3)) :=
  (runOf_eq spec_l33Draw_1.E [54] Try.f41 [.io (.st (.pair (.sl (.int .u8)) (.pair (.int .i64) (.int .i64)))) .sh true] [((.sl (.int .i64)), (.sl .sh))] 4 _).trans (by kernel_rfl)
theorem spec_l33Draw_1.l4_eq (e0 : (List Int) × Int × Int) (out3 : List Int) : spec_l33Draw_1.l4 e0 out3 =
  (spec_l33Draw_1.l2 e0 out3) :=
  (runOf_eq spec_l33Draw_1.E [54] Try.f41 [.io (.st (.pair (.sl (.int .u8)) (.pair (.int .i64) (.int .i64)))) .sh true] [((.sl (.int .i64)), (.sl .sh))] 3 _).trans (by kernel_rfl)
theorem spec_l33Draw_1.eq (s0 : (List Int) × Int × Int) : spec_l33Draw_1.f s0 =
  ((spec_l01Next_1.f (s0, (8 : Int))).bind fun (r542 : Int × ((List Int) × Int × Int) × Unit) =>
  ((spec_l01Next_1.f (r542.2.1, (9 : Int))).bind fun (r544 : Int × ((List Int) × Int × Int) × Unit) =>
    (spec_l33Draw_1.l1 (IntKind.wrap .i64 ((1 : Int) + r542.1)) r544.1 r544.2.1 []))) :=
  (fnOf_eq spec_l33Draw_1.E [54] Try.f41 [.io (.st (.pair (.sl (.int .u8)) (.pair (.int .i64) (.int .i64)))) .sh true] [((.sl (.int .i64)), (.sl .sh))] s0).trans (by kernel_rfl)

/-! spec_DrawQualifiers -/
noncomputable def spec_DrawQualifiers.E : Env := ⟨TT, [spec_l01From.m, spec_l01Next_1.m, spec_l33Draw_1.m], []⟩
noncomputable def spec_DrawQualifiers.f : List Int → Option ((List Int) × Int) := fnOf spec_DrawQualifiers.E [] Try.f24 [.imm (.sl (.int .u8))] [((.sl (.int .i64)), (.sl .sh)), ((.int .i64), .sh)]
noncomputable def spec_DrawQualifiers.m : FM := ⟨24, [.imm (.sl (.int .u8))], [((.sl (.int .i64)), (.sl .sh)), ((.int .i64), .sh)], spec_DrawQualifiers.f⟩
theorem spec_DrawQualifiers.sound : Sound Try.prog spec_DrawQualifiers.m := sound_of (E := spec_DrawQualifiers.E) tok ⟨spec_l01From.sound, spec_l01Next_1.sound, spec_l33Draw_1.sound, trivial⟩ mix Try.func24 (by kernel_rfl)
theorem spec_DrawQualifiers.eq (code0 : List Int) : spec_DrawQualifiers.f code0 =
  ((spec_l01From.f code0).bind fun (r604 : (List Int) × Int × Int) =>
  ((spec_l01Next_1.f (r604, (12 : Int))).bind fun (r606 : Int × ((List Int) × Int × Int) × Unit) =>
    (bif (r606.1 == (0 : Int)) then ((spec_l33Draw_1.f r606.2.1).bind fun (r608 : (List Int) × ((List Int) × Int × Int) × Unit) =>
        ((spec_l01Next_1.f (r608.2.1, (3 : Int))).bind fun (r610 : Int × ((List Int) × Int × Int) × Unit) =>
          (bif (decide ((0 : Int) ≤ r610.1)) then (bif (decide (r610.1 < (3 : Int))) then (some (r608.1, (List.getD [(-1 : Int), (64 : Int), (65 : Int)] (Int.toNat r610.1) (0 : Int))))
              else none)
            else none)))
      else ((spec_l33Draw_1.f r606.2.1).bind fun (r612 : (List Int) × ((List Int) × Int × Int) × Unit) =>
        ((spec_l01Next_1.f (r612.2.1, (8 : Int))).bind fun (r614 : Int × ((List Int) × Int × Int) × Unit) =>
          (some (r612.1, r614.1))))))) :=
  (fnOf_eq spec_DrawQualifiers.E [] Try.f24 [.imm (.sl (.int .u8))] [((.sl (.int .i64)), (.sl .sh)), ((.int .i64), .sh)] code0).trans (by kernel_rfl)

/-! spec_DrawShareOfPrizes -/
noncomputable def spec_DrawShareOfPrizes.E : Env := ⟨TT, [spec_l01From.m, spec_l01Next_1.m, spec_l33Draw_1.m], []⟩
noncomputable def spec_DrawShareOfPrizes.f : List Int → Option ((List Int) × List Int) := fnOf spec_DrawShareOfPrizes.E [] Try.f29 [.imm (.sl (.int .u8))] [((.sl (.int .i64)), (.sl .sh)), ((.sl (.int .i64)), (.sl .sh))]
noncomputable def spec_DrawShareOfPrizes.m : FM := ⟨29, [.imm (.sl (.int .u8))], [((.sl (.int .i64)), (.sl .sh)), ((.sl (.int .i64)), (.sl .sh))], spec_DrawShareOfPrizes.f⟩
theorem spec_DrawShareOfPrizes.sound : Sound Try.prog spec_DrawShareOfPrizes.m := sound_of (E := spec_DrawShareOfPrizes.E) tok ⟨spec_l01From.sound, spec_l01Next_1.sound, spec_l33Draw_1.sound, trivial⟩ mix Try.func29 (by kernel_rfl)
noncomputable def spec_DrawShareOfPrizes.l1 (k6 : Int) (s4 : (List Int) × Int × Int) (prizes5 : List Int) : Option ((List Int) × List Int) := runOf spec_DrawShareOfPrizes.E [] Try.f29 [.imm (.sl (.int .u8))] [((.sl (.int .i64)), (.sl .sh)), ((.sl (.int .i64)), (.sl .sh))] 1 ⟨[(4, [.adr 0 [] 0]), (5, [.ref 1 [] 0]), (6, [.imm (.int .i64) k6])], [(0, ⟨(.st (.pair (.sl (.int .u8)) (.pair (.int .i64) (.int .i64)))), s4, .sh, true, false, 0⟩), (1, ⟨(.sl (.int .i64)), prizes5, (.sl .sh), false, false, 0⟩)], 2⟩
noncomputable def spec_DrawShareOfPrizes.l2 (s4 : (List Int) × Int × Int) (prizes5 : List Int) : Option ((List Int) × List Int) := runOf spec_DrawShareOfPrizes.E [] Try.f29 [.imm (.sl (.int .u8))] [((.sl (.int .i64)), (.sl .sh)), ((.sl (.int .i64)), (.sl .sh))] 2 ⟨[(4, [.adr 0 [] 0]), (5, [.ref 1 [] 0])], [(0, ⟨(.st (.pair (.sl (.int .u8)) (.pair (.int .i64) (.int .i64)))), s4, .sh, true, false, 0⟩), (1, ⟨(.sl (.int .i64)), prizes5, (.sl .sh), false, false, 0⟩)], 2⟩
noncomputable def spec_DrawShareOfPrizes.l3 (n7 : Int) (s4 : (List Int) × Int × Int) (prizes5 : List Int) : Option ((List Int) × List Int) := runOf spec_DrawShareOfPrizes.E [] Try.f29 [.imm (.sl (.int .u8))] [((.sl (.int .i64)), (.sl .sh)), ((.sl (.int .i64)), (.sl .sh))] 4 ⟨[(4, [.adr 0 [] 0]), (5, [.ref 1 [] 0]), (7, [.imm (.int .i64) n7])], [(0, ⟨(.st (.pair (.sl (.int .u8)) (.pair (.int .i64) (.int .i64)))), s4, .sh, true, false, 0⟩), (1, ⟨(.sl (.int .i64)), prizes5, (.sl .sh), false, false, 0⟩)], 2⟩
noncomputable def spec_DrawShareOfPrizes.l4 (s4 : (List Int) × Int × Int) (prizes5 : List Int) : Option ((List Int) × List Int) := runOf spec_DrawShareOfPrizes.E [] Try.f29 [.imm (.sl (.int .u8))] [((.sl (.int .i64)), (.sl .sh)), ((.sl (.int .i64)), (.sl .sh))] 3 ⟨[(4, [.adr 0 [] 0]), (5, [.ref 1 [] 0])], [(0, ⟨(.st (.pair (.sl (.int .u8)) (.pair (.int .i64) (.int .i64)))), s4, .sh, true, false, 0⟩), (1, ⟨(.sl (.int .i64)), prizes5, (.sl .sh), false, false, 0⟩)], 2⟩
theorem spec_DrawShareOfPrizes.l1_eq (k6 : Int) (s4 : (List Int) × Int × Int) (prizes5 : List Int) : spec_DrawShareOfPrizes.l1 k6 s4 prizes5 =
  (bif (decide (k6 > (0 : Int))) then ((spec_l01Next_1.f (s4, (30 : Int))).bind fun (r659 : Int × ((List Int) × Int × Int) × Unit) =>
    (bif (decide (((List.length prizes5) + 1) ≤ 17592186044416)) then (spec_DrawShareOfPrizes.l1 (IntKind.wrap .i64 (k6 - (1 : Int))) r659.2.1 (prizes5 ++ [r659.1]))
      else none))
  else ((spec_l01Next_1.f (s4, (16 : Int))).bind fun (r661 : Int × ((List Int) × Int × Int) × Unit) =>
    (bif (r661.1 == (0 : Int)) then ((spec_l01Next_1.f (r661.2.1, (3 : Int))).bind fun (r663 : Int × ((List Int) × Int × Int) × Unit) =>
        (bif (decide ((0 : Int) ≤ r663.1)) then (bif (decide (r663.1 < (3 : Int))) then (bif (decide (((List.length prizes5) + 1) ≤ 17592186044416)) then (spec_DrawShareOfPrizes.l2 r663.2.1 (prizes5 ++ [(List.getD [(-1 : Int), (1000000000 : Int), (1000000001 : Int)] (Int.toNat r663.1) (0 : Int))]))
              else none)
            else none)
          else none))
      else (bif (r661.1 == (1 : Int)) then ((spec_l01Next_1.f (r661.2.1, (2 : Int))).bind fun (r667 : Int × ((List Int) × Int × Int) × Unit) =>
          (spec_DrawShareOfPrizes.l3 (IntKind.wrap .i64 ((64 : Int) + r667.1)) r667.2.1 prizes5))
        else (spec_DrawShareOfPrizes.l4 r661.2.1 prizes5))))) :=
  (runOf_eq spec_DrawShareOfPrizes.E [] Try.f29 [.imm (.sl (.int .u8))] [((.sl (.int .i64)), (.sl .sh)), ((.sl (.int .i64)), (.sl .sh))] 1 _).trans (by kernel_rfl)
theorem spec_DrawShareOfPrizes.l2_eq (s4 : (List Int) × Int × Int) (prizes5 : List Int) : spec_DrawShareOfPrizes.l2 s4 prizes5 =
  ((spec_l33Draw_1.f s4).bind fun (r674 : (List Int) × ((List Int) × Int × Int) × Unit) =>
  (some (r674.1, prizes5))) :=
  (runOf_eq spec_DrawShareOfPrizes.E [] Try.f29 [.imm (.sl (.int .u8))] [((.sl (.int .i64)), (.sl .sh)), ((.sl (.int .i64)), (.sl .sh))] 2 _).trans (by kernel_rfl)
theorem spec_DrawShareOfPrizes.l3_eq (n7 : Int) (s4 : (List Int) × Int × Int) (prizes5 : List Int) : spec_DrawShareOfPrizes.l3 n7 s4 prizes5 =
  (bif (decide (((List.length prizes5) : Int) < n7)) then (bif (decide (((List.length prizes5) + 1) ≤ 17592186044416)) then (spec_DrawShareOfPrizes.l3 n7 s4 (prizes5 ++ [(1 : Int)]))
    else none)
  else (spec_DrawShareOfPrizes.l4 s4 prizes5)) :=
  (runOf_eq spec_DrawShareOfPrizes.E [] Try.f29 [.imm (.sl (.int .u8))] [((.sl (.int .i64)), (.sl .sh)), ((.sl (.int .i64)), (.sl .sh))] 4 _).trans (by kernel_rfl)
theorem spec_DrawShareOfPrizes.l4_eq (s4 : (List Int) × Int × Int) (prizes5 : List Int) : spec_DrawShareOfPrizes.l4 s4 prizes5 =
  (spec_DrawShareOfPrizes.l2 s4 prizes5) :=
  (runOf_eq spec_DrawShareOfPrizes.E [] Try.f29 [.imm (.sl (.int .u8))] [((.sl (.int .i64)), (.sl .sh)), ((.sl (.int .i64)), (.sl .sh))] 3 _).trans (by kernel_rfl)
theorem spec_DrawShareOfPrizes.eq (code0 : List Int) : spec_DrawShareOfPrizes.f code0 =
  ((spec_l01From.f code0).bind fun (r652 : (List Int) × Int × Int) =>
  ((spec_l01Next_1.f (r652, (6 : Int))).bind fun (r654 : Int × ((List Int) × Int × Int) × Unit) =>
    (spec_DrawShareOfPrizes.l1 r654.1 r654.2.1 []))) :=
  (fnOf_eq spec_DrawShareOfPrizes.E [] Try.f29 [.imm (.sl (.int .u8))] [((.sl (.int .i64)), (.sl .sh)), ((.sl (.int .i64)), (.sl .sh))] code0).trans (by kernel_rfl)

/-! spec_DrawRankScores -/
noncomputable def spec_DrawRankScores.E : Env := ⟨TT, [spec_l01From.m, spec_l33Draw_1.m], []⟩
noncomputable def spec_DrawRankScores.f : List Int → Option (List Int) := fnOf spec_DrawRankScores.E [] Try.f38 [.imm (.sl (.int .u8))] [((.sl (.int .i64)), (.sl .sh))]
noncomputable def spec_DrawRankScores.m : FM := ⟨38, [.imm (.sl (.int .u8))], [((.sl (.int .i64)), (.sl .sh))], spec_DrawRankScores.f⟩
theorem spec_DrawRankScores.sound : Sound Try.prog spec_DrawRankScores.m := sound_of (E := spec_DrawRankScores.E) tok ⟨spec_l01From.sound, spec_l33Draw_1.sound, trivial⟩ mix Try.func38 (by kernel_rfl)
theorem spec_DrawRankScores.eq (code0 : List Int) : spec_DrawRankScores.f code0 =
  ((spec_l01From.f code0).bind fun (r727 : (List Int) × Int × Int) =>
  ((spec_l33Draw_1.f r727).bind fun (r729 : (List Int) × ((List Int) × Int × Int) × Unit) =>
    (some r729.1))) :=
  (fnOf_eq spec_DrawRankScores.E [] Try.f38 [.imm (.sl (.int .u8))] [((.sl (.int .i64)), (.sl .sh))] code0).trans (by kernel_rfl)

/-! slices_rotateCmpFunc_int64_1 -/
noncomputable def slices_rotateCmpFunc_int64_1.E : Env := ⟨TT, [slices_swapRangeCmpFunc_int64_1.m], []⟩
noncomputable def slices_rotateCmpFunc_int64_1.f : (List Int) × Int × Int × Int × List Int → Option (Unit × (List Int) × Unit) := fnOf slices_rotateCmpFunc_int64_1.E [58] Try.f70 [.io (.sl (.int .i64)) (.sl .sh) false, .imm (.int .i64), .imm (.int .i64), .imm (.int .i64), .imm (.fn 60 (.ip (.sl (.int .i64))))] []
noncomputable def slices_rotateCmpFunc_int64_1.m : FM := ⟨70, [.io (.sl (.int .i64)) (.sl .sh) false, .imm (.int .i64), .imm (.int .i64), .imm (.int .i64), .imm (.fn 60 (.ip (.sl (.int .i64))))], [], slices_rotateCmpFunc_int64_1.f⟩
theorem slices_rotateCmpFunc_int64_1.sound : Sound Try.prog slices_rotateCmpFunc_int64_1.m := sound_of (E := slices_rotateCmpFunc_int64_1.E) tok ⟨slices_swapRangeCmpFunc_int64_1.sound, trivial⟩ mix Try.func70 (by kernel_rfl)
noncomputable def slices_rotateCmpFunc_int64_1.l1 (m2 : Int) (cmp4 : List Int) (i10 : Int) (j11 : Int) (data0 : List Int) : Option (Unit × (List Int) × Unit) := runOf slices_rotateCmpFunc_int64_1.E [58] Try.f70 [.io (.sl (.int .i64)) (.sl .sh) false, .imm (.int .i64), .imm (.int .i64), .imm (.int .i64), .imm (.fn 60 (.ip (.sl (.int .i64))))] [] 1 ⟨[(58, [.ref 0 [] 0]), (0, [.ref 0 [] 0]), (2, [.imm (.int .i64) m2]), (4, [.imm (.fn 60 (.ip (.sl (.int .i64)))) cmp4]), (10, [.imm (.int .i64) i10]), (11, [.imm (.int .i64) j11])], [(0, ⟨(.sl (.int .i64)), data0, (.sl .sh), false, false, 0⟩)], 1⟩
noncomputable def slices_rotateCmpFunc_int64_1.l2 (m2 : Int) (cmp4 : List Int) (i10 : Int) (j11 : Int) (data0 : List Int) : Option (Unit × (List Int) × Unit) := runOf slices_rotateCmpFunc_int64_1.E [58] Try.f70 [.io (.sl (.int .i64)) (.sl .sh) false, .imm (.int .i64), .imm (.int .i64), .imm (.int .i64), .imm (.fn 60 (.ip (.sl (.int .i64))))] [] 2 ⟨[(58, [.ref 0 [] 0]), (0, [.ref 0 [] 0]), (2, [.imm (.int .i64) m2]), (4, [.imm (.fn 60 (.ip (.sl (.int .i64)))) cmp4]), (10, [.imm (.int .i64) i10]), (11, [.imm (.int .i64) j11])], [(0, ⟨(.sl (.int .i64)), data0, (.sl .sh), false, false, 0⟩)], 1⟩
theorem slices_rotateCmpFunc_int64_1.l1_eq (m2 : Int) (cmp4 : List Int) (i10 : Int) (j11 : Int) (data0 : List Int) : slices_rotateCmpFunc_int64_1.l1 m2 cmp4 i10 j11 data0 =
  (bif (i10 != j11) then (bif (decide (i10 > j11)) then ((slices_swapRangeCmpFunc_int64_1.f (data0, ((IntKind.wrap .i64 (m2 - i10)), (m2, (j11, cmp4))))).bind fun (r977 : Unit × (List Int) × Unit) =>
      (slices_rotateCmpFunc_int64_1.l2 m2 cmp4 (IntKind.wrap .i64 (i10 - j11)) j11 r977.2.1))
    else ((slices_swapRangeCmpFunc_int64_1.f (data0, ((IntKind.wrap .i64 (m2 - i10)), ((IntKind.wrap .i64 ((IntKind.wrap .i64 (m2 + j11)) - i10)), (i10, cmp4))))).bind fun (r984 : Unit × (List Int) × Unit) =>
      (slices_rotateCmpFunc_int64_1.l2 m2 cmp4 i10 (IntKind.wrap .i64 (j11 - i10)) r984.2.1)))
  else ((slices_swapRangeCmpFunc_int64_1.f (data0, ((IntKind.wrap .i64 (m2 - i10)), (m2, (i10, cmp4))))).bind fun (r986 : Unit × (List Int) × Unit) =>
    (some ((), (r986.2.1, ()))))) :=
  (runOf_eq slices_rotateCmpFunc_int64_1.E [58] Try.f70 [.io (.sl (.int .i64)) (.sl .sh) false, .imm (.int .i64), .imm (.int .i64), .imm (.int .i64), .imm (.fn 60 (.ip (.sl (.int .i64))))] [] 1 _).trans (by kernel_rfl)
theorem slices_rotateCmpFunc_int64_1.l2_eq (m2 : Int) (cmp4 : List Int) (i10 : Int) (j11 : Int) (data0 : List Int) : slices_rotateCmpFunc_int64_1.l2 m2 cmp4 i10 j11 data0 =
  (slices_rotateCmpFunc_int64_1.l1 m2 cmp4 i10 j11 data0) :=
  (runOf_eq slices_rotateCmpFunc_int64_1.E [58] Try.f70 [.io (.sl (.int .i64)) (.sl .sh) false, .imm (.int .i64), .imm (.int .i64), .imm (.int .i64), .imm (.fn 60 (.ip (.sl (.int .i64))))] [] 2 _).trans (by kernel_rfl)
theorem slices_rotateCmpFunc_int64_1.eq (data0 : List Int) (a1 : Int) (m2 : Int) (b3 : Int) (cmp4 : List Int) : slices_rotateCmpFunc_int64_1.f (data0, a1, m2, b3, cmp4) =
  (slices_rotateCmpFunc_int64_1.l1 m2 cmp4 (IntKind.wrap .i64 (m2 - a1)) (IntKind.wrap .i64 (b3 - m2)) data0) :=
  (fnOf_eq slices_rotateCmpFunc_int64_1.E [58] Try.f70 [.io (.sl (.int .i64)) (.sl .sh) false, .imm (.int .i64), .imm (.int .i64), .imm (.int .i64), .imm (.fn 60 (.ip (.sl (.int .i64))))] [] (data0, a1, m2, b3, cmp4)).trans (by kernel_rfl)

/-! laws_shuffled_1 -/
noncomputable def laws_shuffled_1.E : Env := ⟨TT, [laws_dice_below_1.m], []⟩
noncomputable def laws_shuffled_1.f : ((List Int) × Int × Int) × Int → Option ((List Int) × ((List Int) × Int × Int) × Unit) := fnOf laws_shuffled_1.E [46] Try.f39 [.io (.st (.pair (.sl (.int .u8)) (.pair (.int .i64) (.int .u64)))) .sh true, .imm (.int .i64)] [((.sl (.int .i64)), (.sl .sh))]
noncomputable def laws_shuffled_1.m : FM := ⟨39, [.io (.st (.pair (.sl (.int .u8)) (.pair (.int .i64) (.int .u64)))) .sh true, .imm (.int .i64)], [((.sl (.int .i64)), (.sl .sh))], laws_shuffled_1.f⟩
theorem laws_shuffled_1.sound : Sound Try.prog laws_shuffled_1.m := sound_of (E := laws_shuffled_1.E) tok ⟨laws_dice_below_1.sound, trivial⟩ mix Try.func39 (by kernel_rfl)
noncomputable def laws_shuffled_1.l1 (n1 : Int) (i6 : Int) (d0 : (List Int) × Int × Int) (p5 : List Int) : Option ((List Int) × ((List Int) × Int × Int) × Unit) := runOf laws_shuffled_1.E [46] Try.f39 [.io (.st (.pair (.sl (.int .u8)) (.pair (.int .i64) (.int .u64)))) .sh true, .imm (.int .i64)] [((.sl (.int .i64)), (.sl .sh))] 1 ⟨[(46, [.adr 0 [] 0]), (0, [.adr 0 [] 0]), (1, [.imm (.int .i64) n1]), (5, [.ref 1 [] 0]), (6, [.imm (.int .i64) i6])], [(0, ⟨(.st (.pair (.sl (.int .u8)) (.pair (.int .i64) (.int .u64)))), d0, .sh, true, false, 0⟩), (1, ⟨(.sl (.int .i64)), p5, (.sl .sh), false, false, 0⟩)], 2⟩
noncomputable def laws_shuffled_1.l2 (i7 : Int) (d0 : (List Int) × Int × Int) (p5 : List Int) : Option ((List Int) × ((List Int) × Int × Int) × Unit) := runOf laws_shuffled_1.E [46] Try.f39 [.io (.st (.pair (.sl (.int .u8)) (.pair (.int .i64) (.int .u64)))) .sh true, .imm (.int .i64)] [((.sl (.int .i64)), (.sl .sh))] 2 ⟨[(46, [.adr 0 [] 0]), (0, [.adr 0 [] 0]), (5, [.ref 1 [] 0]), (7, [.imm (.int .i64) i7])], [(0, ⟨(.st (.pair (.sl (.int .u8)) (.pair (.int .i64) (.int .u64)))), d0, .sh, true, false, 0⟩), (1, ⟨(.sl (.int .i64)), p5, (.sl .sh), false, false, 0⟩)], 2⟩
theorem laws_shuffled_1.l1_eq (n1 : Int) (i6 : Int) (d0 : (List Int) × Int × Int) (p5 : List Int) : laws_shuffled_1.l1 n1 i6 d0 p5 =
  (bif (decide (i6 < n1)) then (bif (decide (((List.length p5) + 1) ≤ 17592186044416)) then (laws_shuffled_1.l1 n1 (IntKind.wrap .i64 (i6 + (1 : Int))) d0 (p5 ++ [i6]))
    else none)
  else (laws_shuffled_1.l2 (IntKind.wrap .i64 (n1 - (1 : Int))) d0 p5)) :=
  (runOf_eq laws_shuffled_1.E [46] Try.f39 [.io (.st (.pair (.sl (.int .u8)) (.pair (.int .i64) (.int .u64)))) .sh true, .imm (.int .i64)] [((.sl (.int .i64)), (.sl .sh))] 1 _).trans (by kernel_rfl)
theorem laws_shuffled_1.l2_eq (i7 : Int) (d0 : (List Int) × Int × Int) (p5 : List Int) : laws_shuffled_1.l2 i7 d0 p5 =
  (bif (decide (i7 > (0 : Int))) then ((laws_dice_below_1.f (d0, (IntKind.wrap .i64 (i7 + (1 : Int))))).bind fun (r1053 : Int × ((List Int) × Int × Int) × Unit) =>
    (bif (decide ((0 : Int) ≤ i7)) then (bif (decide (i7 < ((List.length p5) : Int))) then (bif (decide ((0 : Int) ≤ r1053.1)) then (bif (decide (r1053.1 < ((List.length p5) : Int))) then (bif (decide ((0 : Int) ≤ i7)) then (bif (decide (i7 < ((List.length p5) : Int))) then (bif (decide ((0 : Int) ≤ r1053.1)) then (bif (decide (r1053.1 < ((List.length (List.set p5 (Int.toNat i7) (List.getD p5 (Int.toNat r1053.1) (0 : Int)))) : Int))) then (laws_shuffled_1.l2 (IntKind.wrap .i64 (i7 - (1 : Int))) r1053.2.1 (List.set (List.set p5 (Int.toNat i7) (List.getD p5 (Int.toNat r1053.1) (0 : Int))) (Int.toNat r1053.1) (List.getD p5 (Int.toNat i7) (0 : Int))))
                    else none)
                  else none)
                else none)
              else none)
            else none)
          else none)
        else none)
      else none))
  else (some (p5, (d0, ())))) :=
  (runOf_eq laws_shuffled_1.E [46] Try.f39 [.io (.st (.pair (.sl (.int .u8)) (.pair (.int .i64) (.int .u64)))) .sh true, .imm (.int .i64)] [((.sl (.int .i64)), (.sl .sh))] 2 _).trans (by kernel_rfl)
theorem laws_shuffled_1.eq (d0 : (List Int) × Int × Int) (n1 : Int) : laws_shuffled_1.f (d0, n1) =
  (laws_shuffled_1.l1 n1 (0 : Int) d0 []) :=
  (fnOf_eq laws_shuffled_1.E [46] Try.f39 [.io (.st (.pair (.sl (.int .u8)) (.pair (.int .i64) (.int .u64)))) .sh true, .imm (.int .i64)] [((.sl (.int .i64)), (.sl .sh))] (d0, n1)).trans (by kernel_rfl)

/-! spec_RankOrder -/
noncomputable def spec_RankOrder.E : Env := ⟨TT, [spec_l33Scores.m, spec_l33Ranks.m], []⟩
noncomputable def spec_RankOrder.f : List Int → Option (List Int) := fnOf spec_RankOrder.E [] Try.f35 [.imm (.sl (.int .i64))] [((.sl (.int .i64)), (.sl .sh))]
noncomputable def spec_RankOrder.m : FM := ⟨35, [.imm (.sl (.int .i64))], [((.sl (.int .i64)), (.sl .sh))], spec_RankOrder.f⟩
theorem spec_RankOrder.sound : Sound Try.prog spec_RankOrder.m := sound_of (E := spec_RankOrder.E) tok ⟨spec_l33Scores.sound, spec_l33Ranks.sound, trivial⟩ mix Try.func35 (by kernel_rfl)
noncomputable def spec_RankOrder.l1 (scores0 : List Int) (rank5 : Int) (out3 : List Int) (ranks4 : List Int) : Option (List Int) := runOf spec_RankOrder.E [] Try.f35 [.imm (.sl (.int .i64))] [((.sl (.int .i64)), (.sl .sh))] 1 ⟨[(0, [.imm (.sl (.int .i64)) scores0]), (3, [.ref 0 [] 0]), (4, [.ref 1 [] 0]), (5, [.imm (.int .i64) rank5])], [(0, ⟨(.sl (.int .i64)), out3, (.sl .sh), false, false, 0⟩), (1, ⟨(.sl (.int .i64)), ranks4, (.sl .sh), false, false, 0⟩)], 2⟩
noncomputable def spec_RankOrder.l2 (scores0 : List Int) (rank5 : Int) (i6 : Int) (out3 : List Int) (ranks4 : List Int) : Option (List Int) := runOf spec_RankOrder.E [] Try.f35 [.imm (.sl (.int .i64))] [((.sl (.int .i64)), (.sl .sh))] 2 ⟨[(0, [.imm (.sl (.int .i64)) scores0]), (3, [.ref 0 [] 0]), (4, [.ref 1 [] 0]), (5, [.imm (.int .i64) rank5]), (6, [.imm (.int .i64) i6])], [(0, ⟨(.sl (.int .i64)), out3, (.sl .sh), false, false, 0⟩), (1, ⟨(.sl (.int .i64)), ranks4, (.sl .sh), false, false, 0⟩)], 2⟩
noncomputable def spec_RankOrder.l3 (scores0 : List Int) (rank5 : Int) (i6 : Int) (out3 : List Int) (ranks4 : List Int) : Option (List Int) := runOf spec_RankOrder.E [] Try.f35 [.imm (.sl (.int .i64))] [((.sl (.int .i64)), (.sl .sh))] 3 ⟨[(0, [.imm (.sl (.int .i64)) scores0]), (3, [.ref 0 [] 0]), (4, [.ref 1 [] 0]), (5, [.imm (.int .i64) rank5]), (6, [.imm (.int .i64) i6])], [(0, ⟨(.sl (.int .i64)), out3, (.sl .sh), false, false, 0⟩), (1, ⟨(.sl (.int .i64)), ranks4, (.sl .sh), false, false, 0⟩)], 2⟩
theorem spec_RankOrder.l1_eq (scores0 : List Int) (rank5 : Int) (out3 : List Int) (ranks4 : List Int) : spec_RankOrder.l1 scores0 rank5 out3 ranks4 =
  (bif (decide (rank5 ≤ ((List.length scores0) : Int))) then (spec_RankOrder.l2 scores0 rank5 (0 : Int) out3 ranks4)
  else (some out3)) :=
  (runOf_eq spec_RankOrder.E [] Try.f35 [.imm (.sl (.int .i64))] [((.sl (.int .i64)), (.sl .sh))] 1 _).trans (by kernel_rfl)
theorem spec_RankOrder.l2_eq (scores0 : List Int) (rank5 : Int) (i6 : Int) (out3 : List Int) (ranks4 : List Int) : spec_RankOrder.l2 scores0 rank5 i6 out3 ranks4 =
  (bif (decide (i6 < ((List.length ranks4) : Int))) then (bif (decide ((0 : Int) ≤ i6)) then (bif (decide (i6 < ((List.length ranks4) : Int))) then (bif ((List.getD ranks4 (Int.toNat i6) (0 : Int)) == rank5) then (bif (decide (((List.length out3) + 1) ≤ 17592186044416)) then (spec_RankOrder.l3 scores0 rank5 i6 (out3 ++ [i6]) ranks4)
          else none)
        else (spec_RankOrder.l3 scores0 rank5 i6 out3 ranks4))
      else none)
    else none)
  else (spec_RankOrder.l1 scores0 (IntKind.wrap .i64 (rank5 + (1 : Int))) out3 ranks4)) :=
  (runOf_eq spec_RankOrder.E [] Try.f35 [.imm (.sl (.int .i64))] [((.sl (.int .i64)), (.sl .sh))] 2 _).trans (by kernel_rfl)
theorem spec_RankOrder.l3_eq (scores0 : List Int) (rank5 : Int) (i6 : Int) (out3 : List Int) (ranks4 : List Int) : spec_RankOrder.l3 scores0 rank5 i6 out3 ranks4 =
  (spec_RankOrder.l2 scores0 rank5 (IntKind.wrap .i64 (i6 + (1 : Int))) out3 ranks4) :=
  (runOf_eq spec_RankOrder.E [] Try.f35 [.imm (.sl (.int .i64))] [((.sl (.int .i64)), (.sl .sh))] 3 _).trans (by kernel_rfl)
theorem spec_RankOrder.eq (scores0 : List Int) : spec_RankOrder.f scores0 =
  ((spec_l33Scores.f scores0).bind fun (r1075 : Bool) =>
  (bif (!r1075) then (some [])
    else ((spec_l33Ranks.f scores0).bind fun (r1077 : List Int) =>
      (spec_RankOrder.l1 scores0 (1 : Int) [] r1077)))) :=
  (fnOf_eq spec_RankOrder.E [] Try.f35 [.imm (.sl (.int .i64))] [((.sl (.int .i64)), (.sl .sh))] scores0).trans (by kernel_rfl)

/-! spec_RankScores -/
noncomputable def spec_RankScores.E : Env := ⟨TT, [spec_l33Scores.m, spec_l33Ranks.m], []⟩
noncomputable def spec_RankScores.f : List Int → Option (List Int) := fnOf spec_RankScores.E [] Try.f22 [.imm (.sl (.int .i64))] [((.sl (.int .i64)), (.sl .sh))]
noncomputable def spec_RankScores.m : FM := ⟨22, [.imm (.sl (.int .i64))], [((.sl (.int .i64)), (.sl .sh))], spec_RankScores.f⟩
theorem spec_RankScores.sound : Sound Try.prog spec_RankScores.m := sound_of (E := spec_RankScores.E) tok ⟨spec_l33Scores.sound, spec_l33Ranks.sound, trivial⟩ mix Try.func22 (by kernel_rfl)
theorem spec_RankScores.eq (scores0 : List Int) : spec_RankScores.f scores0 =
  ((spec_l33Scores.f scores0).bind fun (r17 : Bool) =>
  (bif (!r17) then (some [])
    else ((spec_l33Ranks.f scores0).bind fun (r33 : List Int) =>
      (some r33)))) :=
  (fnOf_eq spec_RankScores.E [] Try.f22 [.imm (.sl (.int .i64))] [((.sl (.int .i64)), (.sl .sh))] scores0).trans (by kernel_rfl)

/-! impl_isScoreList_1 -/
noncomputable def impl_isScoreList_1.E : Env := ⟨TT, [impl_isRankScore.m], []⟩
noncomputable def impl_isScoreList_1.f : Int → Option Bool := fnOf impl_isScoreList_1.E [] Try.f62 [.imm (.int .i64)] [(.bool, .sh)]
noncomputable def impl_isScoreList_1.m : FM := ⟨62, [.imm (.int .i64)], [(.bool, .sh)], impl_isScoreList_1.f⟩
theorem impl_isScoreList_1.sound : Sound Try.prog impl_isScoreList_1.m := sound_of (E := impl_isScoreList_1.E) tok ⟨impl_isRankScore.sound, trivial⟩ mix Try.func62 (by kernel_rfl)
theorem impl_isScoreList_1.eq (n0 : Int) : impl_isScoreList_1.f n0 =
  ((impl_isRankScore.f n0).bind fun (r55 : Bool) =>
  (some (!r55))) :=
  (fnOf_eq impl_isScoreList_1.E [] Try.f62 [.imm (.int .i64)] [(.bool, .sh)] n0).trans (by kernel_rfl)

/-! slices_ContainsFunc_int64_1 -/
noncomputable def slices_ContainsFunc_int64_1.E : Env := ⟨TT, [slices_IndexFunc_int64_1.m], []⟩
noncomputable def slices_ContainsFunc_int64_1.f : (List Int) × Int → Option Bool := fnOf slices_ContainsFunc_int64_1.E [] Try.f45 [.imm (.sl (.int .i64)), .imm (.fn 46 (.ip (.int .i64)))] [(.bool, .sh)]
noncomputable def slices_ContainsFunc_int64_1.m : FM := ⟨45, [.imm (.sl (.int .i64)), .imm (.fn 46 (.ip (.int .i64)))], [(.bool, .sh)], slices_ContainsFunc_int64_1.f⟩
theorem slices_ContainsFunc_int64_1.sound : Sound Try.prog slices_ContainsFunc_int64_1.m := sound_of (E := slices_ContainsFunc_int64_1.E) tok ⟨slices_IndexFunc_int64_1.sound, trivial⟩ mix Try.func45 (by kernel_rfl)
theorem slices_ContainsFunc_int64_1.eq (s0 : List Int) (f1 : Int) : slices_ContainsFunc_int64_1.f (s0, f1) =
  ((slices_IndexFunc_int64_1.f (s0, f1)).bind fun (r244 : Int) =>
  (some (decide (r244 ≥ (0 : Int))))) :=
  (fnOf_eq slices_ContainsFunc_int64_1.E [] Try.f45 [.imm (.sl (.int .i64)), .imm (.fn 46 (.ip (.int .i64)))] [(.bool, .sh)] (s0, f1)).trans (by kernel_rfl)

/-! slices_ContainsFunc_int64_2 -/
noncomputable def slices_ContainsFunc_int64_2.E : Env := ⟨TT, [slices_IndexFunc_int64_2.m], []⟩
noncomputable def slices_ContainsFunc_int64_2.f : (List Int) × Unit → Option Bool := fnOf slices_ContainsFunc_int64_2.E [] Try.f45 [.imm (.sl (.int .i64)), .imm (.fn 53 .unit)] [(.bool, .sh)]
noncomputable def slices_ContainsFunc_int64_2.m : FM := ⟨45, [.imm (.sl (.int .i64)), .imm (.fn 53 .unit)], [(.bool, .sh)], slices_ContainsFunc_int64_2.f⟩
theorem slices_ContainsFunc_int64_2.sound : Sound Try.prog slices_ContainsFunc_int64_2.m := sound_of (E := slices_ContainsFunc_int64_2.E) tok ⟨slices_IndexFunc_int64_2.sound, trivial⟩ mix Try.func45 (by kernel_rfl)
theorem slices_ContainsFunc_int64_2.eq (s0 : List Int) (f1 : Unit) : slices_ContainsFunc_int64_2.f (s0, f1) =
  ((slices_IndexFunc_int64_2.f (s0, f1)).bind fun (r420 : Int) =>
  (some (decide (r420 ≥ (0 : Int))))) :=
  (fnOf_eq slices_ContainsFunc_int64_2.E [] Try.f45 [.imm (.sl (.int .i64)), .imm (.fn 53 .unit)] [(.bool, .sh)] (s0, f1)).trans (by kernel_rfl)

/-! spec_DrawPercentages -/
noncomputable def spec_DrawPercentages.E : Env := ⟨TT, [spec_l01From.m, spec_l33Draw_1.m, spec_l01Next_1.m], []⟩
noncomputable def spec_DrawPercentages.f : List Int → Option ((List Int) × Int) := fnOf spec_DrawPercentages.E [] Try.f14 [.imm (.sl (.int .u8))] [((.sl (.int .i64)), (.sl .sh)), ((.int .i64), .sh)]
noncomputable def spec_DrawPercentages.m : FM := ⟨14, [.imm (.sl (.int .u8))], [((.sl (.int .i64)), (.sl .sh)), ((.int .i64), .sh)], spec_DrawPercentages.f⟩
theorem spec_DrawPercentages.sound : Sound Try.prog spec_DrawPercentages.m := sound_of (E := spec_DrawPercentages.E) tok ⟨spec_l01From.sound, spec_l33Draw_1.sound, spec_l01Next_1.sound, trivial⟩ mix Try.func14 (by kernel_rfl)
noncomputable def spec_DrawPercentages.l1 (i6 : Int) (s4 : (List Int) × Int × Int) (list5 : List Int) : Option ((List Int) × Int) := runOf spec_DrawPercentages.E [] Try.f14 [.imm (.sl (.int .u8))] [((.sl (.int .i64)), (.sl .sh)), ((.int .i64), .sh)] 1 ⟨[(4, [.adr 0 [] 0]), (5, [.ref 1 [] 0]), (6, [.imm (.int .i64) i6])], [(0, ⟨(.st (.pair (.sl (.int .u8)) (.pair (.int .i64) (.int .i64)))), s4, .sh, true, false, 0⟩), (1, ⟨(.sl (.int .i64)), list5, (.sl .sh), false, false, 0⟩)], 2⟩
theorem spec_DrawPercentages.l1_eq (i6 : Int) (s4 : (List Int) × Int × Int) (list5 : List Int) : spec_DrawPercentages.l1 i6 s4 list5 =
  (bif (decide (i6 < ((List.length list5) : Int))) then ((spec_l01Next_1.f (s4, (12 : Int))).bind fun (r572 : Int × ((List Int) × Int × Int) × Unit) =>
    (bif (decide (r572.1 > (0 : Int))) then (bif (decide ((0 : Int) ≤ i6)) then (bif (decide (i6 < ((List.length list5) : Int))) then (bif (decide ((0 : Int) ≤ i6)) then (bif (decide (i6 < ((List.length list5) : Int))) then (bif (decide ((0 : Int) ≤ i6)) then (bif (decide (i6 < ((List.length list5) : Int))) then (spec_DrawPercentages.l1 (IntKind.wrap .i64 (i6 + (1 : Int))) r572.2.1 (List.set list5 (Int.toNat i6) (if (List.getD list5 (Int.toNat i6) (0 : Int)) < (IntKind.wrap .i64 ((0 : Int) - (List.getD list5 (Int.toNat i6) (0 : Int)))) then (IntKind.wrap .i64 ((0 : Int) - (List.getD list5 (Int.toNat i6) (0 : Int)))) else (List.getD list5 (Int.toNat i6) (0 : Int)))))
                  else none)
                else none)
              else none)
            else none)
          else none)
        else none)
      else ((spec_l01Next_1.f (r572.2.1, (8 : Int))).bind fun (r574 : Int × ((List Int) × Int × Int) × Unit) =>
        (bif (decide ((0 : Int) ≤ r574.1)) then (bif (decide (r574.1 < (8 : Int))) then (some (list5, (List.getD [(7 : Int), (9 : Int), (12 : Int), (16 : Int), (1000000000 : Int), (1000000001 : Int), (0 : Int), (20 : Int)] (Int.toNat r574.1) (0 : Int))))
            else none)
          else none))))
  else ((spec_l01Next_1.f (s4, (8 : Int))).bind fun (r576 : Int × ((List Int) × Int × Int) × Unit) =>
    (bif (decide ((0 : Int) ≤ r576.1)) then (bif (decide (r576.1 < (8 : Int))) then (some (list5, (List.getD [(7 : Int), (9 : Int), (12 : Int), (16 : Int), (1000000000 : Int), (1000000001 : Int), (0 : Int), (20 : Int)] (Int.toNat r576.1) (0 : Int))))
        else none)
      else none))) :=
  (runOf_eq spec_DrawPercentages.E [] Try.f14 [.imm (.sl (.int .u8))] [((.sl (.int .i64)), (.sl .sh)), ((.int .i64), .sh)] 1 _).trans (by kernel_rfl)
theorem spec_DrawPercentages.eq (code0 : List Int) : spec_DrawPercentages.f code0 =
  ((spec_l01From.f code0).bind fun (r528 : (List Int) × Int × Int) =>
  ((spec_l33Draw_1.f r528).bind fun (r567 : (List Int) × ((List Int) × Int × Int) × Unit) =>
    (spec_DrawPercentages.l1 (0 : Int) r567.2.1 r567.1))) :=
  (fnOf_eq spec_DrawPercentages.E [] Try.f14 [.imm (.sl (.int .u8))] [((.sl (.int .i64)), (.sl .sh)), ((.int .i64), .sh)] code0).trans (by kernel_rfl)

/-! slices_symMergeCmpFunc_int64_1 -/
noncomputable def slices_symMergeCmpFunc_int64_1.D : Fam := ⟨fun _ => ⟨TT, [impl_RankOrder_1.m, slices_rotateCmpFunc_int64_1.m], []⟩, fun _ => 69, fun _ => [.io (.sl (.int .i64)) (.sl .sh) false, .imm (.int .i64), .imm (.int .i64), .imm (.int .i64), .imm (.fn 60 (.ip (.sl (.int .i64))))], fun _ => [], fun _ => Try.f69, fun _ => [220], 1⟩
theorem slices_symMergeCmpFunc_int64_1.D_ok : slices_symMergeCmpFunc_int64_1.D.Ok Try.prog slices_symMergeCmpFunc_int64_1.D.n := ⟨⟨tok, ⟨impl_RankOrder_1.sound, slices_rotateCmpFunc_int64_1.sound, trivial⟩, Try.func69, by kernel_rfl⟩, trivial⟩
noncomputable def slices_symMergeCmpFunc_int64_1.f : (List Int) × Int × Int × Int × List Int → Option (Unit × (List Int) × Unit) := slices_symMergeCmpFunc_int64_1.D.lim 0
noncomputable def slices_symMergeCmpFunc_int64_1.m : FM := ⟨69, [.io (.sl (.int .i64)) (.sl .sh) false, .imm (.int .i64), .imm (.int .i64), .imm (.int .i64), .imm (.fn 60 (.ip (.sl (.int .i64))))], [], slices_symMergeCmpFunc_int64_1.f⟩
noncomputable def slices_symMergeCmpFunc_int64_1.E : Env := slices_symMergeCmpFunc_int64_1.D.env 0 slices_symMergeCmpFunc_int64_1.D.lim
theorem slices_symMergeCmpFunc_int64_1.sound : Sound Try.prog slices_symMergeCmpFunc_int64_1.m := slices_symMergeCmpFunc_int64_1.D.sound mix slices_symMergeCmpFunc_int64_1.D_ok 0 (by decide)
theorem slices_symMergeCmpFunc_int64_1.eq0 (x : (List Int) × Int × Int × Int × List Int) : slices_symMergeCmpFunc_int64_1.f x = fnOf slices_symMergeCmpFunc_int64_1.E [220] Try.f69 [.io (.sl (.int .i64)) (.sl .sh) false, .imm (.int .i64), .imm (.int .i64), .imm (.int .i64), .imm (.fn 60 (.ip (.sl (.int .i64))))] [] x := slices_symMergeCmpFunc_int64_1.D.lim_eq 0 x
noncomputable def slices_symMergeCmpFunc_int64_1.l1 (a1 : Int) (cmp4 : List Int) (i10 : Int) (j11 : Int) (data0 : List Int) : Option (Unit × (List Int) × Unit) := runOf slices_symMergeCmpFunc_int64_1.E [220] Try.f69 [.io (.sl (.int .i64)) (.sl .sh) false, .imm (.int .i64), .imm (.int .i64), .imm (.int .i64), .imm (.fn 60 (.ip (.sl (.int .i64))))] [] 1 ⟨[(220, [.ref 0 [] 0]), (0, [.ref 0 [] 0]), (1, [.imm (.int .i64) a1]), (4, [.imm (.fn 60 (.ip (.sl (.int .i64)))) cmp4]), (10, [.imm (.int .i64) i10]), (11, [.imm (.int .i64) j11])], [(0, ⟨(.sl (.int .i64)), data0, (.sl .sh), false, false, 0⟩)], 1⟩
noncomputable def slices_symMergeCmpFunc_int64_1.l2 (m2 : Int) (cmp4 : List Int) (i14 : Int) (j15 : Int) (data0 : List Int) : Option (Unit × (List Int) × Unit) := runOf slices_symMergeCmpFunc_int64_1.E [220] Try.f69 [.io (.sl (.int .i64)) (.sl .sh) false, .imm (.int .i64), .imm (.int .i64), .imm (.int .i64), .imm (.fn 60 (.ip (.sl (.int .i64))))] [] 4 ⟨[(220, [.ref 0 [] 0]), (0, [.ref 0 [] 0]), (2, [.imm (.int .i64) m2]), (4, [.imm (.fn 60 (.ip (.sl (.int .i64)))) cmp4]), (14, [.imm (.int .i64) i14]), (15, [.imm (.int .i64) j15])], [(0, ⟨(.sl (.int .i64)), data0, (.sl .sh), false, false, 0⟩)], 1⟩
noncomputable def slices_symMergeCmpFunc_int64_1.l3 (a1 : Int) (m2 : Int) (b3 : Int) (cmp4 : List Int) (mid18 : Int) (n19 : Int) (start20 : Int) (r21 : Int) (data0 : List Int) : Option (Unit × (List Int) × Unit) := runOf slices_symMergeCmpFunc_int64_1.E [220] Try.f69 [.io (.sl (.int .i64)) (.sl .sh) false, .imm (.int .i64), .imm (.int .i64), .imm (.int .i64), .imm (.fn 60 (.ip (.sl (.int .i64))))] [] 7 ⟨[(220, [.ref 0 [] 0]), (0, [.ref 0 [] 0]), (1, [.imm (.int .i64) a1]), (2, [.imm (.int .i64) m2]), (3, [.imm (.int .i64) b3]), (4, [.imm (.fn 60 (.ip (.sl (.int .i64)))) cmp4]), (18, [.imm (.int .i64) mid18]), (19, [.imm (.int .i64) n19]), (20, [.imm (.int .i64) start20]), (21, [.imm (.int .i64) r21])], [(0, ⟨(.sl (.int .i64)), data0, (.sl .sh), false, false, 0⟩)], 1⟩
noncomputable def slices_symMergeCmpFunc_int64_1.l4 (a1 : Int) (cmp4 : List Int) (i10 : Int) (j11 : Int) (data0 : List Int) : Option (Unit × (List Int) × Unit) := runOf slices_symMergeCmpFunc_int64_1.E [220] Try.f69 [.io (.sl (.int .i64)) (.sl .sh) false, .imm (.int .i64), .imm (.int .i64), .imm (.int .i64), .imm (.fn 60 (.ip (.sl (.int .i64))))] [] 2 ⟨[(220, [.ref 0 [] 0]), (0, [.ref 0 [] 0]), (1, [.imm (.int .i64) a1]), (4, [.imm (.fn 60 (.ip (.sl (.int .i64)))) cmp4]), (10, [.imm (.int .i64) i10]), (11, [.imm (.int .i64) j11])], [(0, ⟨(.sl (.int .i64)), data0, (.sl .sh), false, false, 0⟩)], 1⟩
noncomputable def slices_symMergeCmpFunc_int64_1.l5 (i10 : Int) (k13 : Int) (data0 : List Int) : Option (Unit × (List Int) × Unit) := runOf slices_symMergeCmpFunc_int64_1.E [220] Try.f69 [.io (.sl (.int .i64)) (.sl .sh) false, .imm (.int .i64), .imm (.int .i64), .imm (.int .i64), .imm (.fn 60 (.ip (.sl (.int .i64))))] [] 3 ⟨[(220, [.ref 0 [] 0]), (0, [.ref 0 [] 0]), (10, [.imm (.int .i64) i10]), (13, [.imm (.int .i64) k13])], [(0, ⟨(.sl (.int .i64)), data0, (.sl .sh), false, false, 0⟩)], 1⟩
noncomputable def slices_symMergeCmpFunc_int64_1.l6 (m2 : Int) (cmp4 : List Int) (i14 : Int) (j15 : Int) (data0 : List Int) : Option (Unit × (List Int) × Unit) := runOf slices_symMergeCmpFunc_int64_1.E [220] Try.f69 [.io (.sl (.int .i64)) (.sl .sh) false, .imm (.int .i64), .imm (.int .i64), .imm (.int .i64), .imm (.fn 60 (.ip (.sl (.int .i64))))] [] 5 ⟨[(220, [.ref 0 [] 0]), (0, [.ref 0 [] 0]), (2, [.imm (.int .i64) m2]), (4, [.imm (.fn 60 (.ip (.sl (.int .i64)))) cmp4]), (14, [.imm (.int .i64) i14]), (15, [.imm (.int .i64) j15])], [(0, ⟨(.sl (.int .i64)), data0, (.sl .sh), false, false, 0⟩)], 1⟩
noncomputable def slices_symMergeCmpFunc_int64_1.l7 (i14 : Int) (k17 : Int) (data0 : List Int) : Option (Unit × (List Int) × Unit) := runOf slices_symMergeCmpFunc_int64_1.E [220] Try.f69 [.io (.sl (.int .i64)) (.sl .sh) false, .imm (.int .i64), .imm (.int .i64), .imm (.int .i64), .imm (.fn 60 (.ip (.sl (.int .i64))))] [] 6 ⟨[(220, [.ref 0 [] 0]), (0, [.ref 0 [] 0]), (14, [.imm (.int .i64) i14]), (17, [.imm (.int .i64) k17])], [(0, ⟨(.sl (.int .i64)), data0, (.sl .sh), false, false, 0⟩)], 1⟩
noncomputable def slices_symMergeCmpFunc_int64_1.l8 (a1 : Int) (m2 : Int) (b3 : Int) (cmp4 : List Int) (mid18 : Int) (n19 : Int) (start20 : Int) (r21 : Int) (p22 : Int) (data0 : List Int) : Option (Unit × (List Int) × Unit) := runOf slices_symMergeCmpFunc_int64_1.E [220] Try.f69 [.io (.sl (.int .i64)) (.sl .sh) false, .imm (.int .i64), .imm (.int .i64), .imm (.int .i64), .imm (.fn 60 (.ip (.sl (.int .i64))))] [] 8 ⟨[(220, [.ref 0 [] 0]), (0, [.ref 0 [] 0]), (1, [.imm (.int .i64) a1]), (2, [.imm (.int .i64) m2]), (3, [.imm (.int .i64) b3]), (4, [.imm (.fn 60 (.ip (.sl (.int .i64)))) cmp4]), (18, [.imm (.int .i64) mid18]), (19, [.imm (.int .i64) n19]), (20, [.imm (.int .i64) start20]), (21, [.imm (.int .i64) r21]), (22, [.imm (.int .i64) p22])], [(0, ⟨(.sl (.int .i64)), data0, (.sl .sh), false, false, 0⟩)], 1⟩
noncomputable def slices_symMergeCmpFunc_int64_1.l9 (a1 : Int) (m2 : Int) (b3 : Int) (cmp4 : List Int) (mid18 : Int) (n19 : Int) (start20 : Int) (r21 : Int) (p22 : Int) (data0 : List Int) : Option (Unit × (List Int) × Unit) := runOf slices_symMergeCmpFunc_int64_1.E [220] Try.f69 [.io (.sl (.int .i64)) (.sl .sh) false, .imm (.int .i64), .imm (.int .i64), .imm (.int .i64), .imm (.fn 60 (.ip (.sl (.int .i64))))] [] 9 ⟨[(220, [.ref 0 [] 0]), (0, [.ref 0 [] 0]), (1, [.imm (.int .i64) a1]), (2, [.imm (.int .i64) m2]), (3, [.imm (.int .i64) b3]), (4, [.imm (.fn 60 (.ip (.sl (.int .i64)))) cmp4]), (18, [.imm (.int .i64) mid18]), (19, [.imm (.int .i64) n19]), (20, [.imm (.int .i64) start20]), (21, [.imm (.int .i64) r21]), (22, [.imm (.int .i64) p22])], [(0, ⟨(.sl (.int .i64)), data0, (.sl .sh), false, false, 0⟩)], 1⟩
noncomputable def slices_symMergeCmpFunc_int64_1.l10 (a1 : Int) (b3 : Int) (cmp4 : List Int) (mid18 : Int) (start20 : Int) (end24 : Int) (data0 : List Int) : Option (Unit × (List Int) × Unit) := runOf slices_symMergeCmpFunc_int64_1.E [220] Try.f69 [.io (.sl (.int .i64)) (.sl .sh) false, .imm (.int .i64), .imm (.int .i64), .imm (.int .i64), .imm (.fn 60 (.ip (.sl (.int .i64))))] [] 10 ⟨[(220, [.ref 0 [] 0]), (0, [.ref 0 [] 0]), (1, [.imm (.int .i64) a1]), (3, [.imm (.int .i64) b3]), (4, [.imm (.fn 60 (.ip (.sl (.int .i64)))) cmp4]), (18, [.imm (.int .i64) mid18]), (20, [.imm (.int .i64) start20]), (24, [.imm (.int .i64) end24])], [(0, ⟨(.sl (.int .i64)), data0, (.sl .sh), false, false, 0⟩)], 1⟩
noncomputable def slices_symMergeCmpFunc_int64_1.l11 (b3 : Int) (cmp4 : List Int) (mid18 : Int) (end24 : Int) (data0 : List Int) : Option (Unit × (List Int) × Unit) := runOf slices_symMergeCmpFunc_int64_1.E [220] Try.f69 [.io (.sl (.int .i64)) (.sl .sh) false, .imm (.int .i64), .imm (.int .i64), .imm (.int .i64), .imm (.fn 60 (.ip (.sl (.int .i64))))] [] 11 ⟨[(220, [.ref 0 [] 0]), (0, [.ref 0 [] 0]), (3, [.imm (.int .i64) b3]), (4, [.imm (.fn 60 (.ip (.sl (.int .i64)))) cmp4]), (18, [.imm (.int .i64) mid18]), (24, [.imm (.int .i64) end24])], [(0, ⟨(.sl (.int .i64)), data0, (.sl .sh), false, false, 0⟩)], 1⟩
noncomputable def slices_symMergeCmpFunc_int64_1.l12 (e0 : List Int) : Option (Unit × (List Int) × Unit) := runOf slices_symMergeCmpFunc_int64_1.E [220] Try.f69 [.io (.sl (.int .i64)) (.sl .sh) false, .imm (.int .i64), .imm (.int .i64), .imm (.int .i64), .imm (.fn 60 (.ip (.sl (.int .i64))))] [] 12 ⟨[(220, [.ref 0 [] 0])], [(0, ⟨(.sl (.int .i64)), e0, (.sl .sh), false, false, 0⟩)], 1⟩
theorem slices_symMergeCmpFunc_int64_1.l1_eq (a1 : Int) (cmp4 : List Int) (i10 : Int) (j11 : Int) (data0 : List Int) : slices_symMergeCmpFunc_int64_1.l1 a1 cmp4 i10 j11 data0 =
  (bif (decide (i10 < j11)) then (bif (decide ((0 : Int) ≤ (IntKind.wrap .i64 (Int.fdiv (IntKind.wrap .u64 (IntKind.wrap .i64 (i10 + j11))) ((2 : Int) ^ (min 1 64)))))) then (bif (decide ((IntKind.wrap .i64 (Int.fdiv (IntKind.wrap .u64 (IntKind.wrap .i64 (i10 + j11))) ((2 : Int) ^ (min 1 64)))) < ((List.length data0) : Int))) then (bif (decide ((0 : Int) ≤ a1)) then (bif (decide (a1 < ((List.length data0) : Int))) then ((impl_RankOrder_1.f ((List.getD data0 (Int.toNat (IntKind.wrap .i64 (Int.fdiv (IntKind.wrap .u64 (IntKind.wrap .i64 (i10 + j11))) ((2 : Int) ^ (min 1 64))))) (0 : Int)), ((List.getD data0 (Int.toNat a1) (0 : Int)), cmp4))).bind fun (r895 : Int) =>
            (bif (decide (r895 < (0 : Int))) then (slices_symMergeCmpFunc_int64_1.l4 a1 cmp4 (IntKind.wrap .i64 ((IntKind.wrap .i64 (Int.fdiv (IntKind.wrap .u64 (IntKind.wrap .i64 (i10 + j11))) ((2 : Int) ^ (min 1 64)))) + (1 : Int))) j11 data0)
              else (slices_symMergeCmpFunc_int64_1.l4 a1 cmp4 i10 (IntKind.wrap .i64 (Int.fdiv (IntKind.wrap .u64 (IntKind.wrap .i64 (i10 + j11))) ((2 : Int) ^ (min 1 64)))) data0)))
          else none)
        else none)
      else none)
    else none)
  else (slices_symMergeCmpFunc_int64_1.l5 i10 a1 data0)) :=
  (runOf_eq slices_symMergeCmpFunc_int64_1.E [220] Try.f69 [.io (.sl (.int .i64)) (.sl .sh) false, .imm (.int .i64), .imm (.int .i64), .imm (.int .i64), .imm (.fn 60 (.ip (.sl (.int .i64))))] [] 1 _).trans (by kernel_rfl)
theorem slices_symMergeCmpFunc_int64_1.l2_eq (m2 : Int) (cmp4 : List Int) (i14 : Int) (j15 : Int) (data0 : List Int) : slices_symMergeCmpFunc_int64_1.l2 m2 cmp4 i14 j15 data0 =
  (bif (decide (i14 < j15)) then (bif (decide ((0 : Int) ≤ m2)) then (bif (decide (m2 < ((List.length data0) : Int))) then (bif (decide ((0 : Int) ≤ (IntKind.wrap .i64 (Int.fdiv (IntKind.wrap .u64 (IntKind.wrap .i64 (i14 + j15))) ((2 : Int) ^ (min 1 64)))))) then (bif (decide ((IntKind.wrap .i64 (Int.fdiv (IntKind.wrap .u64 (IntKind.wrap .i64 (i14 + j15))) ((2 : Int) ^ (min 1 64)))) < ((List.length data0) : Int))) then ((impl_RankOrder_1.f ((List.getD data0 (Int.toNat m2) (0 : Int)), ((List.getD data0 (Int.toNat (IntKind.wrap .i64 (Int.fdiv (IntKind.wrap .u64 (IntKind.wrap .i64 (i14 + j15))) ((2 : Int) ^ (min 1 64))))) (0 : Int)), cmp4))).bind fun (r905 : Int) =>
            (bif (!(decide (r905 < (0 : Int)))) then (slices_symMergeCmpFunc_int64_1.l6 m2 cmp4 (IntKind.wrap .i64 ((IntKind.wrap .i64 (Int.fdiv (IntKind.wrap .u64 (IntKind.wrap .i64 (i14 + j15))) ((2 : Int) ^ (min 1 64)))) + (1 : Int))) j15 data0)
              else (slices_symMergeCmpFunc_int64_1.l6 m2 cmp4 i14 (IntKind.wrap .i64 (Int.fdiv (IntKind.wrap .u64 (IntKind.wrap .i64 (i14 + j15))) ((2 : Int) ^ (min 1 64)))) data0)))
          else none)
        else none)
      else none)
    else none)
  else (slices_symMergeCmpFunc_int64_1.l7 i14 m2 data0)) :=
  (runOf_eq slices_symMergeCmpFunc_int64_1.E [220] Try.f69 [.io (.sl (.int .i64)) (.sl .sh) false, .imm (.int .i64), .imm (.int .i64), .imm (.int .i64), .imm (.fn 60 (.ip (.sl (.int .i64))))] [] 4 _).trans (by kernel_rfl)
theorem slices_symMergeCmpFunc_int64_1.l3_eq (a1 : Int) (m2 : Int) (b3 : Int) (cmp4 : List Int) (mid18 : Int) (n19 : Int) (start20 : Int) (r21 : Int) (data0 : List Int) : slices_symMergeCmpFunc_int64_1.l3 a1 m2 b3 cmp4 mid18 n19 start20 r21 data0 =
  (slices_symMergeCmpFunc_int64_1.l8 a1 m2 b3 cmp4 mid18 n19 start20 r21 (IntKind.wrap .i64 (n19 - (1 : Int))) data0) :=
  (runOf_eq slices_symMergeCmpFunc_int64_1.E [220] Try.f69 [.io (.sl (.int .i64)) (.sl .sh) false, .imm (.int .i64), .imm (.int .i64), .imm (.int .i64), .imm (.fn 60 (.ip (.sl (.int .i64))))] [] 7 _).trans (by kernel_rfl)
theorem slices_symMergeCmpFunc_int64_1.l4_eq (a1 : Int) (cmp4 : List Int) (i10 : Int) (j11 : Int) (data0 : List Int) : slices_symMergeCmpFunc_int64_1.l4 a1 cmp4 i10 j11 data0 =
  (slices_symMergeCmpFunc_int64_1.l1 a1 cmp4 i10 j11 data0) :=
  (runOf_eq slices_symMergeCmpFunc_int64_1.E [220] Try.f69 [.io (.sl (.int .i64)) (.sl .sh) false, .imm (.int .i64), .imm (.int .i64), .imm (.int .i64), .imm (.fn 60 (.ip (.sl (.int .i64))))] [] 2 _).trans (by kernel_rfl)
theorem slices_symMergeCmpFunc_int64_1.l5_eq (i10 : Int) (k13 : Int) (data0 : List Int) : slices_symMergeCmpFunc_int64_1.l5 i10 k13 data0 =
  (bif (decide (k13 < (IntKind.wrap .i64 (i10 - (1 : Int))))) then (bif (decide ((0 : Int) ≤ (IntKind.wrap .i64 (k13 + (1 : Int))))) then (bif (decide ((IntKind.wrap .i64 (k13 + (1 : Int))) < ((List.length data0) : Int))) then (bif (decide ((0 : Int) ≤ k13)) then (bif (decide (k13 < ((List.length data0) : Int))) then (bif (decide ((0 : Int) ≤ k13)) then (bif (decide (k13 < ((List.length data0) : Int))) then (bif (decide ((0 : Int) ≤ (IntKind.wrap .i64 (k13 + (1 : Int))))) then (bif (decide ((IntKind.wrap .i64 (k13 + (1 : Int))) < ((List.length (List.set data0 (Int.toNat k13) (List.getD data0 (Int.toNat (IntKind.wrap .i64 (k13 + (1 : Int)))) (0 : Int)))) : Int))) then (slices_symMergeCmpFunc_int64_1.l5 i10 (IntKind.wrap .i64 (k13 + (1 : Int))) (List.set (List.set data0 (Int.toNat k13) (List.getD data0 (Int.toNat (IntKind.wrap .i64 (k13 + (1 : Int)))) (0 : Int))) (Int.toNat (IntKind.wrap .i64 (k13 + (1 : Int)))) (List.getD data0 (Int.toNat k13) (0 : Int))))
                  else none)
                else none)
              else none)
            else none)
          else none)
        else none)
      else none)
    else none)
  else (some ((), (data0, ())))) :=
  (runOf_eq slices_symMergeCmpFunc_int64_1.E [220] Try.f69 [.io (.sl (.int .i64)) (.sl .sh) false, .imm (.int .i64), .imm (.int .i64), .imm (.int .i64), .imm (.fn 60 (.ip (.sl (.int .i64))))] [] 3 _).trans (by kernel_rfl)
theorem slices_symMergeCmpFunc_int64_1.l6_eq (m2 : Int) (cmp4 : List Int) (i14 : Int) (j15 : Int) (data0 : List Int) : slices_symMergeCmpFunc_int64_1.l6 m2 cmp4 i14 j15 data0 =
  (slices_symMergeCmpFunc_int64_1.l2 m2 cmp4 i14 j15 data0) :=
  (runOf_eq slices_symMergeCmpFunc_int64_1.E [220] Try.f69 [.io (.sl (.int .i64)) (.sl .sh) false, .imm (.int .i64), .imm (.int .i64), .imm (.int .i64), .imm (.fn 60 (.ip (.sl (.int .i64))))] [] 5 _).trans (by kernel_rfl)
theorem slices_symMergeCmpFunc_int64_1.l7_eq (i14 : Int) (k17 : Int) (data0 : List Int) : slices_symMergeCmpFunc_int64_1.l7 i14 k17 data0 =
  (bif (decide (k17 > i14)) then (bif (decide ((0 : Int) ≤ (IntKind.wrap .i64 (k17 - (1 : Int))))) then (bif (decide ((IntKind.wrap .i64 (k17 - (1 : Int))) < ((List.length data0) : Int))) then (bif (decide ((0 : Int) ≤ k17)) then (bif (decide (k17 < ((List.length data0) : Int))) then (bif (decide ((0 : Int) ≤ k17)) then (bif (decide (k17 < ((List.length data0) : Int))) then (bif (decide ((0 : Int) ≤ (IntKind.wrap .i64 (k17 - (1 : Int))))) then (bif (decide ((IntKind.wrap .i64 (k17 - (1 : Int))) < ((List.length (List.set data0 (Int.toNat k17) (List.getD data0 (Int.toNat (IntKind.wrap .i64 (k17 - (1 : Int)))) (0 : Int)))) : Int))) then (slices_symMergeCmpFunc_int64_1.l7 i14 (IntKind.wrap .i64 (k17 - (1 : Int))) (List.set (List.set data0 (Int.toNat k17) (List.getD data0 (Int.toNat (IntKind.wrap .i64 (k17 - (1 : Int)))) (0 : Int))) (Int.toNat (IntKind.wrap .i64 (k17 - (1 : Int)))) (List.getD data0 (Int.toNat k17) (0 : Int))))
                  else none)
                else none)
              else none)
            else none)
          else none)
        else none)
      else none)
    else none)
  else (some ((), (data0, ())))) :=
  (runOf_eq slices_symMergeCmpFunc_int64_1.E [220] Try.f69 [.io (.sl (.int .i64)) (.sl .sh) false, .imm (.int .i64), .imm (.int .i64), .imm (.int .i64), .imm (.fn 60 (.ip (.sl (.int .i64))))] [] 6 _).trans (by kernel_rfl)
theorem slices_symMergeCmpFunc_int64_1.l8_eq (a1 : Int) (m2 : Int) (b3 : Int) (cmp4 : List Int) (mid18 : Int) (n19 : Int) (start20 : Int) (r21 : Int) (p22 : Int) (data0 : List Int) : slices_symMergeCmpFunc_int64_1.l8 a1 m2 b3 cmp4 mid18 n19 start20 r21 p22 data0 =
  (bif (decide (start20 < r21)) then (bif (decide ((0 : Int) ≤ (IntKind.wrap .i64 (p22 - (IntKind.wrap .i64 (Int.fdiv (IntKind.wrap .u64 (IntKind.wrap .i64 (start20 + r21))) ((2 : Int) ^ (min 1 64)))))))) then (bif (decide ((IntKind.wrap .i64 (p22 - (IntKind.wrap .i64 (Int.fdiv (IntKind.wrap .u64 (IntKind.wrap .i64 (start20 + r21))) ((2 : Int) ^ (min 1 64)))))) < ((List.length data0) : Int))) then (bif (decide ((0 : Int) ≤ (IntKind.wrap .i64 (Int.fdiv (IntKind.wrap .u64 (IntKind.wrap .i64 (start20 + r21))) ((2 : Int) ^ (min 1 64)))))) then (bif (decide ((IntKind.wrap .i64 (Int.fdiv (IntKind.wrap .u64 (IntKind.wrap .i64 (start20 + r21))) ((2 : Int) ^ (min 1 64)))) < ((List.length data0) : Int))) then ((impl_RankOrder_1.f ((List.getD data0 (Int.toNat (IntKind.wrap .i64 (p22 - (IntKind.wrap .i64 (Int.fdiv (IntKind.wrap .u64 (IntKind.wrap .i64 (start20 + r21))) ((2 : Int) ^ (min 1 64))))))) (0 : Int)), ((List.getD data0 (Int.toNat (IntKind.wrap .i64 (Int.fdiv (IntKind.wrap .u64 (IntKind.wrap .i64 (start20 + r21))) ((2 : Int) ^ (min 1 64))))) (0 : Int)), cmp4))).bind fun (r925 : Int) =>
            (bif (!(decide (r925 < (0 : Int)))) then (slices_symMergeCmpFunc_int64_1.l9 a1 m2 b3 cmp4 mid18 n19 (IntKind.wrap .i64 ((IntKind.wrap .i64 (Int.fdiv (IntKind.wrap .u64 (IntKind.wrap .i64 (start20 + r21))) ((2 : Int) ^ (min 1 64)))) + (1 : Int))) r21 p22 data0)
              else (slices_symMergeCmpFunc_int64_1.l9 a1 m2 b3 cmp4 mid18 n19 start20 (IntKind.wrap .i64 (Int.fdiv (IntKind.wrap .u64 (IntKind.wrap .i64 (start20 + r21))) ((2 : Int) ^ (min 1 64)))) p22 data0)))
          else none)
        else none)
      else none)
    else none)
  else (bif (decide (start20 < m2)) then (bif (decide (m2 < (IntKind.wrap .i64 (n19 - start20)))) then ((slices_rotateCmpFunc_int64_1.f (data0, (start20, (m2, ((IntKind.wrap .i64 (n19 - start20)), cmp4))))).bind fun (r988 : Unit × (List Int) × Unit) =>
        (slices_symMergeCmpFunc_int64_1.l10 a1 b3 cmp4 mid18 start20 (IntKind.wrap .i64 (n19 - start20)) r988.2.1))
      else (slices_symMergeCmpFunc_int64_1.l10 a1 b3 cmp4 mid18 start20 (IntKind.wrap .i64 (n19 - start20)) data0))
    else (slices_symMergeCmpFunc_int64_1.l10 a1 b3 cmp4 mid18 start20 (IntKind.wrap .i64 (n19 - start20)) data0))) :=
  (runOf_eq slices_symMergeCmpFunc_int64_1.E [220] Try.f69 [.io (.sl (.int .i64)) (.sl .sh) false, .imm (.int .i64), .imm (.int .i64), .imm (.int .i64), .imm (.fn 60 (.ip (.sl (.int .i64))))] [] 8 _).trans (by kernel_rfl)
theorem slices_symMergeCmpFunc_int64_1.l9_eq (a1 : Int) (m2 : Int) (b3 : Int) (cmp4 : List Int) (mid18 : Int) (n19 : Int) (start20 : Int) (r21 : Int) (p22 : Int) (data0 : List Int) : slices_symMergeCmpFunc_int64_1.l9 a1 m2 b3 cmp4 mid18 n19 start20 r21 p22 data0 =
  (slices_symMergeCmpFunc_int64_1.l8 a1 m2 b3 cmp4 mid18 n19 start20 r21 p22 data0) :=
  (runOf_eq slices_symMergeCmpFunc_int64_1.E [220] Try.f69 [.io (.sl (.int .i64)) (.sl .sh) false, .imm (.int .i64), .imm (.int .i64), .imm (.int .i64), .imm (.fn 60 (.ip (.sl (.int .i64))))] [] 9 _).trans (by kernel_rfl)
theorem slices_symMergeCmpFunc_int64_1.l10_eq (a1 : Int) (b3 : Int) (cmp4 : List Int) (mid18 : Int) (start20 : Int) (end24 : Int) (data0 : List Int) : slices_symMergeCmpFunc_int64_1.l10 a1 b3 cmp4 mid18 start20 end24 data0 =
  (bif (decide (a1 < start20)) then (bif (decide (start20 < mid18)) then ((slices_symMergeCmpFunc_int64_1.f (data0, (a1, (start20, (mid18, cmp4))))).bind fun (r997 : Unit × (List Int) × Unit) =>
      (slices_symMergeCmpFunc_int64_1.l11 b3 cmp4 mid18 end24 r997.2.1))
    else (slices_symMergeCmpFunc_int64_1.l11 b3 cmp4 mid18 end24 data0))
  else (slices_symMergeCmpFunc_int64_1.l11 b3 cmp4 mid18 end24 data0)) :=
  (runOf_eq slices_symMergeCmpFunc_int64_1.E [220] Try.f69 [.io (.sl (.int .i64)) (.sl .sh) false, .imm (.int .i64), .imm (.int .i64), .imm (.int .i64), .imm (.fn 60 (.ip (.sl (.int .i64))))] [] 10 _).trans (by kernel_rfl)
theorem slices_symMergeCmpFunc_int64_1.l11_eq (b3 : Int) (cmp4 : List Int) (mid18 : Int) (end24 : Int) (data0 : List Int) : slices_symMergeCmpFunc_int64_1.l11 b3 cmp4 mid18 end24 data0 =
  (bif (decide (mid18 < end24)) then (bif (decide (end24 < b3)) then ((slices_symMergeCmpFunc_int64_1.f (data0, (mid18, (end24, (b3, cmp4))))).bind fun (r1004 : Unit × (List Int) × Unit) =>
      (slices_symMergeCmpFunc_int64_1.l12 r1004.2.1))
    else (slices_symMergeCmpFunc_int64_1.l12 data0))
  else (slices_symMergeCmpFunc_int64_1.l12 data0)) :=
  (runOf_eq slices_symMergeCmpFunc_int64_1.E [220] Try.f69 [.io (.sl (.int .i64)) (.sl .sh) false, .imm (.int .i64), .imm (.int .i64), .imm (.int .i64), .imm (.fn 60 (.ip (.sl (.int .i64))))] [] 11 _).trans (by kernel_rfl)
theorem slices_symMergeCmpFunc_int64_1.l12_eq (e0 : List Int) : slices_symMergeCmpFunc_int64_1.l12 e0 =
  (some ((), (e0, ()))) :=
  (runOf_eq slices_symMergeCmpFunc_int64_1.E [220] Try.f69 [.io (.sl (.int .i64)) (.sl .sh) false, .imm (.int .i64), .imm (.int .i64), .imm (.int .i64), .imm (.fn 60 (.ip (.sl (.int .i64))))] [] 12 _).trans (by kernel_rfl)
theorem slices_symMergeCmpFunc_int64_1.eq (data0 : List Int) (a1 : Int) (m2 : Int) (b3 : Int) (cmp4 : List Int) : slices_symMergeCmpFunc_int64_1.f (data0, a1, m2, b3, cmp4) =
  (bif ((IntKind.wrap .i64 (m2 - a1)) == (1 : Int)) then (slices_symMergeCmpFunc_int64_1.l1 a1 cmp4 m2 b3 data0)
  else (bif ((IntKind.wrap .i64 (b3 - m2)) == (1 : Int)) then (slices_symMergeCmpFunc_int64_1.l2 m2 cmp4 a1 m2 data0)
    else (bif (decide (m2 > (IntKind.wrap .i64 (Int.fdiv (IntKind.wrap .u64 (IntKind.wrap .i64 (a1 + b3))) ((2 : Int) ^ (min 1 64)))))) then (slices_symMergeCmpFunc_int64_1.l3 a1 m2 b3 cmp4 (IntKind.wrap .i64 (Int.fdiv (IntKind.wrap .u64 (IntKind.wrap .i64 (a1 + b3))) ((2 : Int) ^ (min 1 64)))) (IntKind.wrap .i64 ((IntKind.wrap .i64 (Int.fdiv (IntKind.wrap .u64 (IntKind.wrap .i64 (a1 + b3))) ((2 : Int) ^ (min 1 64)))) + m2)) (IntKind.wrap .i64 ((IntKind.wrap .i64 ((IntKind.wrap .i64 (Int.fdiv (IntKind.wrap .u64 (IntKind.wrap .i64 (a1 + b3))) ((2 : Int) ^ (min 1 64)))) + m2)) - b3)) (IntKind.wrap .i64 (Int.fdiv (IntKind.wrap .u64 (IntKind.wrap .i64 (a1 + b3))) ((2 : Int) ^ (min 1 64)))) data0)
      else (slices_symMergeCmpFunc_int64_1.l3 a1 m2 b3 cmp4 (IntKind.wrap .i64 (Int.fdiv (IntKind.wrap .u64 (IntKind.wrap .i64 (a1 + b3))) ((2 : Int) ^ (min 1 64)))) (IntKind.wrap .i64 ((IntKind.wrap .i64 (Int.fdiv (IntKind.wrap .u64 (IntKind.wrap .i64 (a1 + b3))) ((2 : Int) ^ (min 1 64)))) + m2)) a1 m2 data0)))) :=
  ((slices_symMergeCmpFunc_int64_1.eq0 (data0, a1, m2, b3, cmp4)).trans (fnOf_eq slices_symMergeCmpFunc_int64_1.E [220] Try.f69 [.io (.sl (.int .i64)) (.sl .sh) false, .imm (.int .i64), .imm (.int .i64), .imm (.int .i64), .imm (.fn 60 (.ip (.sl (.int .i64))))] [] (data0, a1, m2, b3, cmp4))).trans (by kernel_rfl)

/-! slices_IndexFunc_int64 -/
noncomputable def slices_IndexFunc_int64.E : Env := ⟨TT, [impl_isScoreList_1.m], []⟩
noncomputable def slices_IndexFunc_int64.f : (List Int) × Unit → Option Int := fnOf slices_IndexFunc_int64.E [] Try.f64 [.imm (.sl (.int .i64)), .imm (.fn 62 .unit)] [((.int .i64), .sh)]
noncomputable def slices_IndexFunc_int64.m : FM := ⟨64, [.imm (.sl (.int .i64)), .imm (.fn 62 .unit)], [((.int .i64), .sh)], slices_IndexFunc_int64.f⟩
theorem slices_IndexFunc_int64.sound : Sound Try.prog slices_IndexFunc_int64.m := sound_of (E := slices_IndexFunc_int64.E) tok ⟨impl_isScoreList_1.sound, trivial⟩ mix Try.func64 (by kernel_rfl)
noncomputable def slices_IndexFunc_int64.l1 (s0 : List Int) (x7 : Int) (x8 : Int) : Option Int := runOf slices_IndexFunc_int64.E [] Try.f64 [.imm (.sl (.int .i64)), .imm (.fn 62 .unit)] [((.int .i64), .sh)] 1 ⟨[(0, [.imm (.sl (.int .i64)) s0]), (1, [.imm (.fn 62 .unit) ()]), (7, [.imm (.int .i64) x7]), (8, [.imm (.int .i64) x8])], [], 0⟩
theorem slices_IndexFunc_int64.l1_eq (s0 : List Int) (x7 : Int) (x8 : Int) : slices_IndexFunc_int64.l1 s0 x7 x8 =
  (bif (decide (x8 < x7)) then (bif (decide ((0 : Int) ≤ x8)) then (bif (decide (x8 < ((List.length s0) : Int))) then ((impl_isScoreList_1.f (List.getD s0 (Int.toNat x8) (0 : Int))).bind fun (r57 : Bool) =>
        (bif r57 then (some x8)
          else (slices_IndexFunc_int64.l1 s0 x7 (IntKind.wrap .i64 (x8 + (1 : Int))))))
      else none)
    else none)
  else (some (-1 : Int))) :=
  (runOf_eq slices_IndexFunc_int64.E [] Try.f64 [.imm (.sl (.int .i64)), .imm (.fn 62 .unit)] [((.int .i64), .sh)] 1 _).trans (by kernel_rfl)
theorem slices_IndexFunc_int64.eq (s0 : List Int) (f1 : Unit) : slices_IndexFunc_int64.f (s0, f1) =
  (slices_IndexFunc_int64.l1 s0 ((List.length s0) : Int) (0 : Int)) :=
  (fnOf_eq slices_IndexFunc_int64.E [] Try.f64 [.imm (.sl (.int .i64)), .imm (.fn 62 .unit)] [((.int .i64), .sh)] (s0, f1)).trans (by kernel_rfl)

/-! slices_stableCmpFunc_int64_1 -/
noncomputable def slices_stableCmpFunc_int64_1.E : Env := ⟨TT, [slices_insertionSortCmpFunc_int64_1.m, slices_symMergeCmpFunc_int64_1.m], []⟩
noncomputable def slices_stableCmpFunc_int64_1.f : (List Int) × Int × List Int → Option (Unit × (List Int) × Unit) := fnOf slices_stableCmpFunc_int64_1.E [63] Try.f67 [.io (.sl (.int .i64)) (.sl .sh) false, .imm (.int .i64), .imm (.fn 60 (.ip (.sl (.int .i64))))] []
noncomputable def slices_stableCmpFunc_int64_1.m : FM := ⟨67, [.io (.sl (.int .i64)) (.sl .sh) false, .imm (.int .i64), .imm (.fn 60 (.ip (.sl (.int .i64))))], [], slices_stableCmpFunc_int64_1.f⟩
theorem slices_stableCmpFunc_int64_1.sound : Sound Try.prog slices_stableCmpFunc_int64_1.m := sound_of (E := slices_stableCmpFunc_int64_1.E) tok ⟨slices_insertionSortCmpFunc_int64_1.sound, slices_symMergeCmpFunc_int64_1.sound, trivial⟩ mix Try.func67 (by kernel_rfl)
noncomputable def slices_stableCmpFunc_int64_1.l1 (n1 : Int) (cmp2 : List Int) (blockSize6 : Int) (a7 : Int) (b8 : Int) (data0 : List Int) : Option (Unit × (List Int) × Unit) := runOf slices_stableCmpFunc_int64_1.E [63] Try.f67 [.io (.sl (.int .i64)) (.sl .sh) false, .imm (.int .i64), .imm (.fn 60 (.ip (.sl (.int .i64))))] [] 1 ⟨[(63, [.ref 0 [] 0]), (0, [.ref 0 [] 0]), (1, [.imm (.int .i64) n1]), (2, [.imm (.fn 60 (.ip (.sl (.int .i64)))) cmp2]), (6, [.imm (.int .i64) blockSize6]), (7, [.imm (.int .i64) a7]), (8, [.imm (.int .i64) b8])], [(0, ⟨(.sl (.int .i64)), data0, (.sl .sh), false, false, 0⟩)], 1⟩
noncomputable def slices_stableCmpFunc_int64_1.l2 (n1 : Int) (cmp2 : List Int) (blockSize6 : Int) (data0 : List Int) : Option (Unit × (List Int) × Unit) := runOf slices_stableCmpFunc_int64_1.E [63] Try.f67 [.io (.sl (.int .i64)) (.sl .sh) false, .imm (.int .i64), .imm (.fn 60 (.ip (.sl (.int .i64))))] [] 2 ⟨[(63, [.ref 0 [] 0]), (0, [.ref 0 [] 0]), (1, [.imm (.int .i64) n1]), (2, [.imm (.fn 60 (.ip (.sl (.int .i64)))) cmp2]), (6, [.imm (.int .i64) blockSize6])], [(0, ⟨(.sl (.int .i64)), data0, (.sl .sh), false, false, 0⟩)], 1⟩
noncomputable def slices_stableCmpFunc_int64_1.l3 (n1 : Int) (cmp2 : List Int) (blockSize6 : Int) (a7 : Int) (b8 : Int) (data0 : List Int) : Option (Unit × (List Int) × Unit) := runOf slices_stableCmpFunc_int64_1.E [63] Try.f67 [.io (.sl (.int .i64)) (.sl .sh) false, .imm (.int .i64), .imm (.fn 60 (.ip (.sl (.int .i64))))] [] 3 ⟨[(63, [.ref 0 [] 0]), (0, [.ref 0 [] 0]), (1, [.imm (.int .i64) n1]), (2, [.imm (.fn 60 (.ip (.sl (.int .i64)))) cmp2]), (6, [.imm (.int .i64) blockSize6]), (7, [.imm (.int .i64) a7]), (8, [.imm (.int .i64) b8])], [(0, ⟨(.sl (.int .i64)), data0, (.sl .sh), false, false, 0⟩)], 1⟩
noncomputable def slices_stableCmpFunc_int64_1.l4 (n1 : Int) (cmp2 : List Int) (blockSize6 : Int) (data0 : List Int) : Option (Unit × (List Int) × Unit) := runOf slices_stableCmpFunc_int64_1.E [63] Try.f67 [.io (.sl (.int .i64)) (.sl .sh) false, .imm (.int .i64), .imm (.fn 60 (.ip (.sl (.int .i64))))] [] 4 ⟨[(63, [.ref 0 [] 0]), (0, [.ref 0 [] 0]), (1, [.imm (.int .i64) n1]), (2, [.imm (.fn 60 (.ip (.sl (.int .i64)))) cmp2]), (6, [.imm (.int .i64) blockSize6])], [(0, ⟨(.sl (.int .i64)), data0, (.sl .sh), false, false, 0⟩)], 1⟩
theorem slices_stableCmpFunc_int64_1.l1_eq (n1 : Int) (cmp2 : List Int) (blockSize6 : Int) (a7 : Int) (b8 : Int) (data0 : List Int) : slices_stableCmpFunc_int64_1.l1 n1 cmp2 blockSize6 a7 b8 data0 =
  (bif (decide (b8 ≤ n1)) then ((slices_insertionSortCmpFunc_int64_1.f (data0, (a7, (b8, cmp2)))).bind fun (r803 : Unit × (List Int) × Unit) =>
    (slices_stableCmpFunc_int64_1.l1 n1 cmp2 blockSize6 b8 (IntKind.wrap .i64 (b8 + blockSize6)) r803.2.1))
  else ((slices_insertionSortCmpFunc_int64_1.f (data0, (a7, (n1, cmp2)))).bind fun (r805 : Unit × (List Int) × Unit) =>
    (slices_stableCmpFunc_int64_1.l2 n1 cmp2 blockSize6 r805.2.1))) :=
  (runOf_eq slices_stableCmpFunc_int64_1.E [63] Try.f67 [.io (.sl (.int .i64)) (.sl .sh) false, .imm (.int .i64), .imm (.fn 60 (.ip (.sl (.int .i64))))] [] 1 _).trans (by kernel_rfl)
theorem slices_stableCmpFunc_int64_1.l2_eq (n1 : Int) (cmp2 : List Int) (blockSize6 : Int) (data0 : List Int) : slices_stableCmpFunc_int64_1.l2 n1 cmp2 blockSize6 data0 =
  (bif (decide (blockSize6 < n1)) then (slices_stableCmpFunc_int64_1.l3 n1 cmp2 blockSize6 (0 : Int) (IntKind.wrap .i64 ((2 : Int) * blockSize6)) data0)
  else (some ((), (data0, ())))) :=
  (runOf_eq slices_stableCmpFunc_int64_1.E [63] Try.f67 [.io (.sl (.int .i64)) (.sl .sh) false, .imm (.int .i64), .imm (.fn 60 (.ip (.sl (.int .i64))))] [] 2 _).trans (by kernel_rfl)
theorem slices_stableCmpFunc_int64_1.l3_eq (n1 : Int) (cmp2 : List Int) (blockSize6 : Int) (a7 : Int) (b8 : Int) (data0 : List Int) : slices_stableCmpFunc_int64_1.l3 n1 cmp2 blockSize6 a7 b8 data0 =
  (bif (decide (b8 ≤ n1)) then ((slices_symMergeCmpFunc_int64_1.f (data0, (a7, ((IntKind.wrap .i64 (a7 + blockSize6)), (b8, cmp2))))).bind fun (r1007 : Unit × (List Int) × Unit) =>
    (slices_stableCmpFunc_int64_1.l3 n1 cmp2 blockSize6 b8 (IntKind.wrap .i64 (b8 + (IntKind.wrap .i64 ((2 : Int) * blockSize6)))) r1007.2.1))
  else (bif (decide ((IntKind.wrap .i64 (a7 + blockSize6)) < n1)) then ((slices_symMergeCmpFunc_int64_1.f (data0, (a7, ((IntKind.wrap .i64 (a7 + blockSize6)), (n1, cmp2))))).bind fun (r1009 : Unit × (List Int) × Unit) =>
      (slices_stableCmpFunc_int64_1.l4 n1 cmp2 blockSize6 r1009.2.1))
    else (slices_stableCmpFunc_int64_1.l4 n1 cmp2 blockSize6 data0))) :=
  (runOf_eq slices_stableCmpFunc_int64_1.E [63] Try.f67 [.io (.sl (.int .i64)) (.sl .sh) false, .imm (.int .i64), .imm (.fn 60 (.ip (.sl (.int .i64))))] [] 3 _).trans (by kernel_rfl)
theorem slices_stableCmpFunc_int64_1.l4_eq (n1 : Int) (cmp2 : List Int) (blockSize6 : Int) (data0 : List Int) : slices_stableCmpFunc_int64_1.l4 n1 cmp2 blockSize6 data0 =
  (slices_stableCmpFunc_int64_1.l2 n1 cmp2 (IntKind.wrap .i64 (blockSize6 * (2 : Int))) data0) :=
  (runOf_eq slices_stableCmpFunc_int64_1.E [63] Try.f67 [.io (.sl (.int .i64)) (.sl .sh) false, .imm (.int .i64), .imm (.fn 60 (.ip (.sl (.int .i64))))] [] 4 _).trans (by kernel_rfl)
theorem slices_stableCmpFunc_int64_1.eq (data0 : List Int) (n1 : Int) (cmp2 : List Int) : slices_stableCmpFunc_int64_1.f (data0, n1, cmp2) =
  (slices_stableCmpFunc_int64_1.l1 n1 cmp2 (20 : Int) (0 : Int) (20 : Int) data0) :=
  (fnOf_eq slices_stableCmpFunc_int64_1.E [63] Try.f67 [.io (.sl (.int .i64)) (.sl .sh) false, .imm (.int .i64), .imm (.fn 60 (.ip (.sl (.int .i64))))] [] (data0, n1, cmp2)).trans (by kernel_rfl)

/-! slices_ContainsFunc_int64 -/
noncomputable def slices_ContainsFunc_int64.E : Env := ⟨TT, [slices_IndexFunc_int64.m], []⟩
noncomputable def slices_ContainsFunc_int64.f : (List Int) × Unit → Option Bool := fnOf slices_ContainsFunc_int64.E [] Try.f45 [.imm (.sl (.int .i64)), .imm (.fn 62 .unit)] [(.bool, .sh)]
noncomputable def slices_ContainsFunc_int64.m : FM := ⟨45, [.imm (.sl (.int .i64)), .imm (.fn 62 .unit)], [(.bool, .sh)], slices_ContainsFunc_int64.f⟩
theorem slices_ContainsFunc_int64.sound : Sound Try.prog slices_ContainsFunc_int64.m := sound_of (E := slices_ContainsFunc_int64.E) tok ⟨slices_IndexFunc_int64.sound, trivial⟩ mix Try.func45 (by kernel_rfl)
theorem slices_ContainsFunc_int64.eq (s0 : List Int) (f1 : Unit) : slices_ContainsFunc_int64.f (s0, f1) =
  ((slices_IndexFunc_int64.f (s0, f1)).bind fun (r59 : Int) =>
  (some (decide (r59 ≥ (0 : Int))))) :=
  (fnOf_eq slices_ContainsFunc_int64.E [] Try.f45 [.imm (.sl (.int .i64)), .imm (.fn 62 .unit)] [(.bool, .sh)] (s0, f1)).trans (by kernel_rfl)

/-! slices_SortStableFunc_int64_1 -/
noncomputable def slices_SortStableFunc_int64_1.E : Env := ⟨TT, [slices_stableCmpFunc_int64_1.m], []⟩
noncomputable def slices_SortStableFunc_int64_1.f : (List Int) × List Int → Option (Unit × (List Int) × Unit) := fnOf slices_SortStableFunc_int64_1.E [9] Try.f59 [.io (.sl (.int .i64)) (.sl .sh) false, .imm (.fn 60 (.ip (.sl (.int .i64))))] []
noncomputable def slices_SortStableFunc_int64_1.m : FM := ⟨59, [.io (.sl (.int .i64)) (.sl .sh) false, .imm (.fn 60 (.ip (.sl (.int .i64))))], [], slices_SortStableFunc_int64_1.f⟩
theorem slices_SortStableFunc_int64_1.sound : Sound Try.prog slices_SortStableFunc_int64_1.m := sound_of (E := slices_SortStableFunc_int64_1.E) tok ⟨slices_stableCmpFunc_int64_1.sound, trivial⟩ mix Try.func59 (by kernel_rfl)
theorem slices_SortStableFunc_int64_1.eq (x0 : List Int) (cmp1 : List Int) : slices_SortStableFunc_int64_1.f (x0, cmp1) =
  ((slices_stableCmpFunc_int64_1.f (x0, (((List.length x0) : Int), cmp1))).bind fun (r1015 : Unit × (List Int) × Unit) =>
  (some ((), (r1015.2.1, ())))) :=
  (fnOf_eq slices_SortStableFunc_int64_1.E [9] Try.f59 [.io (.sl (.int .i64)) (.sl .sh) false, .imm (.fn 60 (.ip (.sl (.int .i64))))] [] (x0, cmp1)).trans (by kernel_rfl)

/-! impl_isScoreList -/
noncomputable def impl_isScoreList.E : Env := ⟨TT, [slices_ContainsFunc_int64.m], []⟩
noncomputable def impl_isScoreList.f : List Int → Option Bool := fnOf impl_isScoreList.E [] Try.f43 [.imm (.sl (.int .i64))] [(.bool, .sh)]
noncomputable def impl_isScoreList.m : FM := ⟨43, [.imm (.sl (.int .i64))], [(.bool, .sh)], impl_isScoreList.f⟩
theorem impl_isScoreList.sound : Sound Try.prog impl_isScoreList.m := sound_of (E := impl_isScoreList.E) tok ⟨slices_ContainsFunc_int64.sound, trivial⟩ mix Try.func43 (by kernel_rfl)
theorem impl_isScoreList.eq (scores0 : List Int) : impl_isScoreList.f scores0 =
  (bif (decide (((List.length scores0) : Int) ≤ (64 : Int))) then ((slices_ContainsFunc_int64.f (scores0, ())).bind fun (r61 : Bool) =>
    (some (!r61)))
  else (some false)) :=
  (fnOf_eq impl_isScoreList.E [] Try.f43 [.imm (.sl (.int .i64))] [(.bool, .sh)] scores0).trans (by kernel_rfl)

/-! impl_CarryOver -/
noncomputable def impl_CarryOver.E : Env := ⟨TT, [impl_isScoreList.m, impl_within.m, impl_rounded.m], []⟩
noncomputable def impl_CarryOver.f : (List Int) × Int × Int → Option ((List Int) × Int) := fnOf impl_CarryOver.E [] Try.f18 [.imm (.sl (.int .i64)), .imm (.int .i64), .imm (.int .i64)] [((.sl (.int .i64)), (.sl .sh)), ((.int .i64), .sh)]
noncomputable def impl_CarryOver.m : FM := ⟨18, [.imm (.sl (.int .i64)), .imm (.int .i64), .imm (.int .i64)], [((.sl (.int .i64)), (.sl .sh)), ((.int .i64), .sh)], impl_CarryOver.f⟩
theorem impl_CarryOver.sound : Sound Try.prog impl_CarryOver.m := sound_of (E := impl_CarryOver.E) tok ⟨impl_isScoreList.sound, impl_within.sound, impl_rounded.sound, trivial⟩ mix Try.func18 (by kernel_rfl)
noncomputable def impl_CarryOver.l1 (num1 : Int) (den2 : Int) (x26 : List Int) (x27 : Int) (x28 : Int) (out8 : List Int) : Option ((List Int) × Int) := runOf impl_CarryOver.E [] Try.f18 [.imm (.sl (.int .i64)), .imm (.int .i64), .imm (.int .i64)] [((.sl (.int .i64)), (.sl .sh)), ((.int .i64), .sh)] 1 ⟨[(1, [.imm (.int .i64) num1]), (2, [.imm (.int .i64) den2]), (8, [.ref 0 [] 0]), (26, [.imm (.sl (.int .i64)) x26]), (27, [.imm (.int .i64) x27]), (28, [.imm (.int .i64) x28])], [(0, ⟨(.sl (.int .i64)), out8, (.sl .sh), false, false, 0⟩)], 1⟩
theorem impl_CarryOver.l1_eq (num1 : Int) (den2 : Int) (x26 : List Int) (x27 : Int) (x28 : Int) (out8 : List Int) : impl_CarryOver.l1 num1 den2 x26 x27 x28 out8 =
  (bif (decide (x28 < x27)) then (bif (decide ((0 : Int) ≤ x28)) then (bif (decide (x28 < ((List.length x26) : Int))) then ((impl_rounded.f ((IntKind.wrap .i64 ((List.getD x26 (Int.toNat x28) (0 : Int)) * num1)), den2)).bind fun (r176 : Int) =>
        (bif (decide (((List.length out8) + 1) ≤ 17592186044416)) then (impl_CarryOver.l1 num1 den2 x26 x27 (IntKind.wrap .i64 (x28 + (1 : Int))) (out8 ++ [r176]))
          else none))
      else none)
    else none)
  else (some (out8, (0 : Int)))) :=
  (runOf_eq impl_CarryOver.E [] Try.f18 [.imm (.sl (.int .i64)), .imm (.int .i64), .imm (.int .i64)] [((.sl (.int .i64)), (.sl .sh)), ((.int .i64), .sh)] 1 _).trans (by kernel_rfl)
theorem impl_CarryOver.eq (scores0 : List Int) (num1 : Int) (den2 : Int) : impl_CarryOver.f (scores0, num1, den2) =
  ((impl_isScoreList.f scores0).bind fun (r161 : Bool) =>
  (bif (!r161) then (some ([], (1 : Int)))
    else ((impl_within.f (den2, ((1 : Int), (1000 : Int)))).bind fun (r163 : Bool) =>
      (bif (!r163) then (some ([], (2 : Int)))
        else ((impl_within.f (num1, ((0 : Int), den2))).bind fun (r165 : Bool) =>
          (bif (!r165) then (some ([], (2 : Int)))
            else (impl_CarryOver.l1 num1 den2 scores0 ((List.length scores0) : Int) (0 : Int) []))))))) :=
  (fnOf_eq impl_CarryOver.E [] Try.f18 [.imm (.sl (.int .i64)), .imm (.int .i64), .imm (.int .i64)] [((.sl (.int .i64)), (.sl .sh)), ((.int .i64), .sh)] (scores0, num1, den2)).trans (by kernel_rfl)

/-! impl_Percentages -/
noncomputable def impl_Percentages.E : Env := ⟨TT, [impl_isScoreList.m, impl_within.m, slices_ContainsFunc_int64_1.m, impl_rounded.m], []⟩
noncomputable def impl_Percentages.f : (List Int) × Int → Option ((List Int) × Int) := fnOf impl_Percentages.E [] Try.f15 [.imm (.sl (.int .i64)), .imm (.int .i64)] [((.sl (.int .i64)), (.sl .sh)), ((.int .i64), .sh)]
noncomputable def impl_Percentages.m : FM := ⟨15, [.imm (.sl (.int .i64)), .imm (.int .i64)], [((.sl (.int .i64)), (.sl .sh)), ((.int .i64), .sh)], impl_Percentages.f⟩
theorem impl_Percentages.sound : Sound Try.prog impl_Percentages.m := sound_of (E := impl_Percentages.E) tok ⟨impl_isScoreList.sound, impl_within.sound, slices_ContainsFunc_int64_1.sound, impl_rounded.sound, trivial⟩ mix Try.func15 (by kernel_rfl)
noncomputable def impl_Percentages.l1 (top3 : Int) (x23 : List Int) (x24 : Int) (x25 : Int) (out6 : List Int) : Option ((List Int) × Int) := runOf impl_Percentages.E [] Try.f15 [.imm (.sl (.int .i64)), .imm (.int .i64)] [((.sl (.int .i64)), (.sl .sh)), ((.int .i64), .sh)] 1 ⟨[(3, [.imm (.ip (.int .i64)) top3]), (6, [.ref 0 [] 0]), (23, [.imm (.sl (.int .i64)) x23]), (24, [.imm (.int .i64) x24]), (25, [.imm (.int .i64) x25])], [(0, ⟨(.sl (.int .i64)), out6, (.sl .sh), false, false, 0⟩)], 1⟩
theorem impl_Percentages.l1_eq (top3 : Int) (x23 : List Int) (x24 : Int) (x25 : Int) (out6 : List Int) : impl_Percentages.l1 top3 x23 x24 x25 out6 =
  (bif (decide (x25 < x24)) then (bif (decide ((0 : Int) ≤ x25)) then (bif (decide (x25 < ((List.length x23) : Int))) then ((impl_rounded.f ((IntKind.wrap .i64 ((10000 : Int) * (List.getD x23 (Int.toNat x25) (0 : Int)))), top3)).bind fun (r253 : Int) =>
        (bif (decide (((List.length out6) + 1) ≤ 17592186044416)) then (impl_Percentages.l1 top3 x23 x24 (IntKind.wrap .i64 (x25 + (1 : Int))) (out6 ++ [r253]))
          else none))
      else none)
    else none)
  else (some (out6, (0 : Int)))) :=
  (runOf_eq impl_Percentages.E [] Try.f15 [.imm (.sl (.int .i64)), .imm (.int .i64)] [((.sl (.int .i64)), (.sl .sh)), ((.int .i64), .sh)] 1 _).trans (by kernel_rfl)
theorem impl_Percentages.eq (scores0 : List Int) (top1 : Int) : impl_Percentages.f (scores0, top1) =
  ((impl_isScoreList.f scores0).bind fun (r226 : Bool) =>
  (bif (!r226) then (some ([], (1 : Int)))
    else ((impl_within.f (top1, ((1 : Int), (1000000000 : Int)))).bind fun (r228 : Bool) =>
      (bif (!r228) then (some ([], (2 : Int)))
        else ((slices_ContainsFunc_int64_1.f (scores0, top1)).bind fun (r246 : Bool) =>
          (bif r246 then (some ([], (2 : Int)))
            else (impl_Percentages.l1 top1 scores0 ((List.length scores0) : Int) (0 : Int) []))))))) :=
  (fnOf_eq impl_Percentages.E [] Try.f15 [.imm (.sl (.int .i64)), .imm (.int .i64)] [((.sl (.int .i64)), (.sl .sh)), ((.int .i64), .sh)] (scores0, top1)).trans (by kernel_rfl)

/-! impl_Qualifiers -/
noncomputable def impl_Qualifiers.E : Env := ⟨TT, [impl_isScoreList.m, impl_within.m, impl_rankScores.m], []⟩
noncomputable def impl_Qualifiers.f : (List Int) × Int → Option ((List Int) × Int) := fnOf impl_Qualifiers.E [] Try.f25 [.imm (.sl (.int .i64)), .imm (.int .i64)] [((.sl (.int .i64)), (.sl .sh)), ((.int .i64), .sh)]
noncomputable def impl_Qualifiers.m : FM := ⟨25, [.imm (.sl (.int .i64)), .imm (.int .i64)], [((.sl (.int .i64)), (.sl .sh)), ((.int .i64), .sh)], impl_Qualifiers.f⟩
theorem impl_Qualifiers.sound : Sound Try.prog impl_Qualifiers.m := sound_of (E := impl_Qualifiers.E) tok ⟨impl_isScoreList.sound, impl_within.sound, impl_rankScores.sound, trivial⟩ mix Try.func25 (by kernel_rfl)
noncomputable def impl_Qualifiers.l1 (n1 : Int) (x20 : Int) (x21 : Int) (out6 : List Int) (x19 : List Int) : Option ((List Int) × Int) := runOf impl_Qualifiers.E [] Try.f25 [.imm (.sl (.int .i64)), .imm (.int .i64)] [((.sl (.int .i64)), (.sl .sh)), ((.int .i64), .sh)] 1 ⟨[(1, [.imm (.int .i64) n1]), (6, [.ref 0 [] 0]), (19, [.ref 1 [] 0]), (20, [.imm (.int .i64) x20]), (21, [.imm (.int .i64) x21])], [(0, ⟨(.sl (.int .i64)), out6, (.sl .sh), false, false, 0⟩), (1, ⟨(.sl (.int .i64)), x19, (.sl .sh), false, false, 0⟩)], 2⟩
noncomputable def impl_Qualifiers.l2 (n1 : Int) (x20 : Int) (x21 : Int) (out6 : List Int) (x19 : List Int) : Option ((List Int) × Int) := runOf impl_Qualifiers.E [] Try.f25 [.imm (.sl (.int .i64)), .imm (.int .i64)] [((.sl (.int .i64)), (.sl .sh)), ((.int .i64), .sh)] 2 ⟨[(1, [.imm (.int .i64) n1]), (6, [.ref 0 [] 0]), (19, [.ref 1 [] 0]), (20, [.imm (.int .i64) x20]), (21, [.imm (.int .i64) x21])], [(0, ⟨(.sl (.int .i64)), out6, (.sl .sh), false, false, 0⟩), (1, ⟨(.sl (.int .i64)), x19, (.sl .sh), false, false, 0⟩)], 2⟩
theorem impl_Qualifiers.l1_eq (n1 : Int) (x20 : Int) (x21 : Int) (out6 : List Int) (x19 : List Int) : impl_Qualifiers.l1 n1 x20 x21 out6 x19 =
  (bif (decide (x21 < x20)) then (bif (decide ((0 : Int) ≤ x21)) then (bif (decide (x21 < ((List.length x19) : Int))) then (bif (decide ((List.getD x19 (Int.toNat x21) (0 : Int)) ≤ n1)) then (bif (decide (((List.length out6) + 1) ≤ 17592186044416)) then (impl_Qualifiers.l2 n1 x20 x21 (out6 ++ [x21]) x19)
          else none)
        else (impl_Qualifiers.l2 n1 x20 x21 out6 x19))
      else none)
    else none)
  else (some (out6, (0 : Int)))) :=
  (runOf_eq impl_Qualifiers.E [] Try.f25 [.imm (.sl (.int .i64)), .imm (.int .i64)] [((.sl (.int .i64)), (.sl .sh)), ((.int .i64), .sh)] 1 _).trans (by kernel_rfl)
theorem impl_Qualifiers.l2_eq (n1 : Int) (x20 : Int) (x21 : Int) (out6 : List Int) (x19 : List Int) : impl_Qualifiers.l2 n1 x20 x21 out6 x19 =
  (impl_Qualifiers.l1 n1 x20 (IntKind.wrap .i64 (x21 + (1 : Int))) out6 x19) :=
  (runOf_eq impl_Qualifiers.E [] Try.f25 [.imm (.sl (.int .i64)), .imm (.int .i64)] [((.sl (.int .i64)), (.sl .sh)), ((.int .i64), .sh)] 2 _).trans (by kernel_rfl)
theorem impl_Qualifiers.eq (scores0 : List Int) (n1 : Int) : impl_Qualifiers.f (scores0, n1) =
  ((impl_isScoreList.f scores0).bind fun (r305 : Bool) =>
  (bif (!r305) then (some ([], (1 : Int)))
    else ((impl_within.f (n1, ((0 : Int), (64 : Int)))).bind fun (r307 : Bool) =>
      (bif (!r307) then (some ([], (2 : Int)))
        else ((impl_rankScores.f scores0).bind fun (r309 : List Int) =>
          (impl_Qualifiers.l1 n1 ((List.length r309) : Int) (0 : Int) [] r309)))))) :=
  (fnOf_eq impl_Qualifiers.E [] Try.f25 [.imm (.sl (.int .i64)), .imm (.int .i64)] [((.sl (.int .i64)), (.sl .sh)), ((.int .i64), .sh)] (scores0, n1)).trans (by kernel_rfl)

/-! impl_ShareOfPrizes -/
noncomputable def impl_ShareOfPrizes.E : Env := ⟨TT, [impl_isScoreList.m, slices_ContainsFunc_int64_2.m, impl_rankScores.m, impl_equals.m, impl_chance.m], []⟩
noncomputable def impl_ShareOfPrizes.f : (List Int) × List Int → Option ((List (Int × Int)) × Int) := fnOf impl_ShareOfPrizes.E [] Try.f30 [.imm (.sl (.int .i64)), .imm (.sl (.int .i64))] [((.sl (.st (.pair (.int .i64) (.int .i64)))), (.sl .sh)), ((.int .i64), .sh)]
noncomputable def impl_ShareOfPrizes.m : FM := ⟨30, [.imm (.sl (.int .i64)), .imm (.sl (.int .i64))], [((.sl (.st (.pair (.int .i64) (.int .i64)))), (.sl .sh)), ((.int .i64), .sh)], impl_ShareOfPrizes.f⟩
theorem impl_ShareOfPrizes.sound : Sound Try.prog impl_ShareOfPrizes.m := sound_of (E := impl_ShareOfPrizes.E) tok ⟨impl_isScoreList.sound, slices_ContainsFunc_int64_2.sound, impl_rankScores.sound, impl_equals.sound, impl_chance.sound, trivial⟩ mix Try.func30 (by kernel_rfl)
noncomputable def impl_ShareOfPrizes.l1 (prizes1 : List Int) (x29 : Int) (x30 : Int) (out6 : List (Int × Int)) (list7 : List Int) : Option ((List (Int × Int)) × Int) := runOf impl_ShareOfPrizes.E [] Try.f30 [.imm (.sl (.int .i64)), .imm (.sl (.int .i64))] [((.sl (.st (.pair (.int .i64) (.int .i64)))), (.sl .sh)), ((.int .i64), .sh)] 1 ⟨[(1, [.imm (.sl (.int .i64)) prizes1]), (6, [.ref 0 [] 0]), (7, [.ref 1 [] 0]), (28, [.ref 1 [] 0]), (29, [.imm (.int .i64) x29]), (30, [.imm (.int .i64) x30])], [(0, ⟨(.sl (.st (.pair (.int .i64) (.int .i64)))), out6, (.sl .sh), false, false, 0⟩), (1, ⟨(.sl (.int .i64)), list7, (.sl .sh), false, false, 0⟩)], 2⟩
noncomputable def impl_ShareOfPrizes.l2 (prizes1 : List Int) (rank9 : Int) (n10 : Int) (sum11 : Int) (at12 : Int) (x29 : Int) (x30 : Int) (out6 : List (Int × Int)) (list7 : List Int) : Option ((List (Int × Int)) × Int) := runOf impl_ShareOfPrizes.E [] Try.f30 [.imm (.sl (.int .i64)), .imm (.sl (.int .i64))] [((.sl (.st (.pair (.int .i64) (.int .i64)))), (.sl .sh)), ((.int .i64), .sh)] 2 ⟨[(1, [.imm (.sl (.int .i64)) prizes1]), (6, [.ref 0 [] 0]), (7, [.ref 1 [] 0]), (9, [.imm (.int .i64) rank9]), (10, [.imm (.int .i64) n10]), (11, [.imm (.int .i64) sum11]), (12, [.imm (.int .i64) at12]), (28, [.ref 1 [] 0]), (29, [.imm (.int .i64) x29]), (30, [.imm (.int .i64) x30])], [(0, ⟨(.sl (.st (.pair (.int .i64) (.int .i64)))), out6, (.sl .sh), false, false, 0⟩), (1, ⟨(.sl (.int .i64)), list7, (.sl .sh), false, false, 0⟩)], 2⟩
theorem impl_ShareOfPrizes.l1_eq (prizes1 : List Int) (x29 : Int) (x30 : Int) (out6 : List (Int × Int)) (list7 : List Int) : impl_ShareOfPrizes.l1 prizes1 x29 x30 out6 list7 =
  (bif (decide (x30 < x29)) then (bif (decide ((0 : Int) ≤ x30)) then (bif (decide (x30 < ((List.length list7) : Int))) then ((impl_equals.f (list7, (List.getD list7 (Int.toNat x30) (0 : Int)))).bind fun (r440 : Int) =>
        (impl_ShareOfPrizes.l2 prizes1 (List.getD list7 (Int.toNat x30) (0 : Int)) r440 (0 : Int) (IntKind.wrap .i64 ((List.getD list7 (Int.toNat x30) (0 : Int)) - (1 : Int))) x29 x30 out6 list7))
      else none)
    else none)
  else (some (out6, (0 : Int)))) :=
  (runOf_eq impl_ShareOfPrizes.E [] Try.f30 [.imm (.sl (.int .i64)), .imm (.sl (.int .i64))] [((.sl (.st (.pair (.int .i64) (.int .i64)))), (.sl .sh)), ((.int .i64), .sh)] 1 _).trans (by kernel_rfl)
theorem impl_ShareOfPrizes.l2_eq (prizes1 : List Int) (rank9 : Int) (n10 : Int) (sum11 : Int) (at12 : Int) (x29 : Int) (x30 : Int) (out6 : List (Int × Int)) (list7 : List Int) : impl_ShareOfPrizes.l2 prizes1 rank9 n10 sum11 at12 x29 x30 out6 list7 =
  (bif (decide (at12 < (IntKind.wrap .i64 ((IntKind.wrap .i64 (rank9 - (1 : Int))) + n10)))) then (bif (decide (at12 < ((List.length prizes1) : Int))) then (bif (decide ((0 : Int) ≤ at12)) then (bif (decide (at12 < ((List.length prizes1) : Int))) then (impl_ShareOfPrizes.l2 prizes1 rank9 n10 (IntKind.wrap .i64 (sum11 + (List.getD prizes1 (Int.toNat at12) (0 : Int)))) (IntKind.wrap .i64 (at12 + (1 : Int))) x29 x30 out6 list7)
        else none)
      else none)
    else ((impl_chance.f (sum11, n10)).bind fun (r459 : Int × Int) =>
      (bif (decide (((List.length out6) + 1) ≤ 8796093022208)) then (impl_ShareOfPrizes.l1 prizes1 x29 (IntKind.wrap .i64 (x30 + (1 : Int))) (out6 ++ [r459]) list7)
        else none)))
  else ((impl_chance.f (sum11, n10)).bind fun (r461 : Int × Int) =>
    (bif (decide (((List.length out6) + 1) ≤ 8796093022208)) then (impl_ShareOfPrizes.l1 prizes1 x29 (IntKind.wrap .i64 (x30 + (1 : Int))) (out6 ++ [r461]) list7)
      else none))) :=
  (runOf_eq impl_ShareOfPrizes.E [] Try.f30 [.imm (.sl (.int .i64)), .imm (.sl (.int .i64))] [((.sl (.st (.pair (.int .i64) (.int .i64)))), (.sl .sh)), ((.int .i64), .sh)] 2 _).trans (by kernel_rfl)
theorem impl_ShareOfPrizes.eq (scores0 : List Int) (prizes1 : List Int) : impl_ShareOfPrizes.f (scores0, prizes1) =
  ((impl_isScoreList.f scores0).bind fun (r406 : Bool) =>
  (bif (!r406) then (some ([], (1 : Int)))
    else (bif (decide (((List.length prizes1) : Int) > (64 : Int))) then (some ([], (2 : Int)))
      else ((slices_ContainsFunc_int64_2.f (prizes1, ())).bind fun (r422 : Bool) =>
        (bif r422 then (some ([], (2 : Int)))
          else ((impl_rankScores.f scores0).bind fun (r424 : List Int) =>
            (impl_ShareOfPrizes.l1 prizes1 ((List.length r424) : Int) (0 : Int) [] r424))))))) :=
  (fnOf_eq impl_ShareOfPrizes.E [] Try.f30 [.imm (.sl (.int .i64)), .imm (.sl (.int .i64))] [((.sl (.st (.pair (.int .i64) (.int .i64)))), (.sl .sh)), ((.int .i64), .sh)] (scores0, prizes1)).trans (by kernel_rfl)

/-! laws_FnPercentages -/
noncomputable def laws_FnPercentages.E : Env := ⟨TT, [laws_big.m, spec_DrawPercentages.m, impl_Percentages.m], []⟩
noncomputable def laws_FnPercentages.f : List Int → Option Bool := fnOf laws_FnPercentages.E [] Try.f3 [.imm (.sl (.int .u8))] [(.bool, .sh)]
noncomputable def laws_FnPercentages.m : FM := ⟨3, [.imm (.sl (.int .u8))], [(.bool, .sh)], laws_FnPercentages.f⟩
theorem laws_FnPercentages.sound : Sound Try.prog laws_FnPercentages.m := sound_of (E := laws_FnPercentages.E) tok ⟨laws_big.sound, spec_DrawPercentages.sound, impl_Percentages.sound, trivial⟩ mix Try.func3 (by kernel_rfl)
noncomputable def laws_FnPercentages.l1 (top4 : Int) (i8 : Int) (scores3 : List Int) (list5 : List Int) (rest7 : List Int) : Option Bool := runOf laws_FnPercentages.E [] Try.f3 [.imm (.sl (.int .u8))] [(.bool, .sh)] 1 ⟨[(3, [.ref 0 [] 0]), (4, [.imm (.int .i64) top4]), (5, [.ref 1 [] 0]), (7, [.ref 2 [] 0]), (8, [.imm (.int .i64) i8])], [(0, ⟨(.sl (.int .i64)), scores3, (.sl .sh), false, false, 0⟩), (1, ⟨(.sl (.int .i64)), list5, (.sl .sh), false, false, 0⟩), (2, ⟨(.sl (.int .i64)), rest7, (.sl .sh), false, false, 0⟩)], 3⟩
noncomputable def laws_FnPercentages.l2 (top4 : Int) (i11 : Int) (scores3 : List Int) (list5 : List Int) (back9 : List Int) : Option Bool := runOf laws_FnPercentages.E [] Try.f3 [.imm (.sl (.int .u8))] [(.bool, .sh)] 2 ⟨[(3, [.ref 0 [] 0]), (4, [.imm (.int .i64) top4]), (5, [.ref 1 [] 0]), (9, [.ref 2 [] 0]), (11, [.imm (.int .i64) i11])], [(0, ⟨(.sl (.int .i64)), scores3, (.sl .sh), false, false, 0⟩), (1, ⟨(.sl (.int .i64)), list5, (.sl .sh), false, false, 0⟩), (2, ⟨(.sl (.int .i64)), back9, (.sl .sh), false, false, 0⟩)], 3⟩
noncomputable def laws_FnPercentages.l3 (top4 : Int) (i11 : Int) (k13 : Int) (scores3 : List Int) (list5 : List Int) (back9 : List Int) : Option Bool := runOf laws_FnPercentages.E [] Try.f3 [.imm (.sl (.int .u8))] [(.bool, .sh)] 3 ⟨[(3, [.ref 0 [] 0]), (4, [.imm (.int .i64) top4]), (5, [.ref 1 [] 0]), (9, [.ref 2 [] 0]), (11, [.imm (.int .i64) i11]), (13, [.imm (.int .i64) k13])], [(0, ⟨(.sl (.int .i64)), scores3, (.sl .sh), false, false, 0⟩), (1, ⟨(.sl (.int .i64)), list5, (.sl .sh), false, false, 0⟩), (2, ⟨(.sl (.int .i64)), back9, (.sl .sh), false, false, 0⟩)], 3⟩
theorem laws_FnPercentages.l1_eq (top4 : Int) (i8 : Int) (scores3 : List Int) (list5 : List Int) (rest7 : List Int) : laws_FnPercentages.l1 top4 i8 scores3 list5 rest7 =
  (bif (decide (i8 < ((List.length scores3) : Int))) then (bif (decide ((0 : Int) ≤ i8)) then (bif (decide (i8 < ((List.length scores3) : Int))) then (bif (decide (((List.length rest7) + 1) ≤ 17592186044416)) then (laws_FnPercentages.l1 top4 (IntKind.wrap .i64 (i8 + (1 : Int))) scores3 list5 (rest7 ++ [(IntKind.wrap .i64 (top4 - (List.getD scores3 (Int.toNat i8) (0 : Int))))]))
        else none)
      else none)
    else none)
  else ((impl_Percentages.f (rest7, top4)).bind fun (r587 : (List Int) × Int) =>
    (bif (r587.2 != (0 : Int)) then (some false)
      else (bif (((List.length r587.1) : Int) != ((List.length list5) : Int)) then (some false)
        else (bif (((List.length list5) : Int) != ((List.length scores3) : Int)) then (some false)
          else (laws_FnPercentages.l2 top4 (0 : Int) scores3 list5 r587.1)))))) :=
  (runOf_eq laws_FnPercentages.E [] Try.f3 [.imm (.sl (.int .u8))] [(.bool, .sh)] 1 _).trans (by kernel_rfl)
theorem laws_FnPercentages.l2_eq (top4 : Int) (i11 : Int) (scores3 : List Int) (list5 : List Int) (back9 : List Int) : laws_FnPercentages.l2 top4 i11 scores3 list5 back9 =
  (bif (decide (i11 < ((List.length list5) : Int))) then (bif (decide ((0 : Int) ≤ i11)) then (bif (decide (i11 < ((List.length list5) : Int))) then (bif (decide ((0 : Int) ≤ i11)) then (bif (decide (i11 < ((List.length back9) : Int))) then (bif ((IntKind.wrap .i64 ((List.getD list5 (Int.toNat i11) (0 : Int)) + (List.getD back9 (Int.toNat i11) (0 : Int)))) != (10000 : Int)) then (bif ((IntKind.wrap .i64 ((List.getD list5 (Int.toNat i11) (0 : Int)) + (List.getD back9 (Int.toNat i11) (0 : Int)))) != (10001 : Int)) then (some false)
              else (bif (decide ((0 : Int) ≤ i11)) then (bif (decide (i11 < ((List.length list5) : Int))) then (bif (decide ((List.getD list5 (Int.toNat i11) (0 : Int)) < (0 : Int))) then (some false)
                    else (bif (decide ((0 : Int) ≤ i11)) then (bif (decide (i11 < ((List.length list5) : Int))) then (bif (decide ((List.getD list5 (Int.toNat i11) (0 : Int)) > (10000 : Int))) then (some false)
                          else (bif (decide ((0 : Int) ≤ i11)) then (bif (decide (i11 < ((List.length scores3) : Int))) then (bif ((List.getD scores3 (Int.toNat i11) (0 : Int)) == top4) then (bif (decide ((0 : Int) ≤ i11)) then (bif (decide (i11 < ((List.length list5) : Int))) then (bif ((List.getD list5 (Int.toNat i11) (0 : Int)) != (10000 : Int)) then (some false)
                                      else (laws_FnPercentages.l3 top4 i11 (0 : Int) scores3 list5 back9))
                                    else none)
                                  else none)
                                else (laws_FnPercentages.l3 top4 i11 (0 : Int) scores3 list5 back9))
                              else none)
                            else none))
                        else none)
                      else none))
                  else none)
                else none))
            else (bif (decide ((0 : Int) ≤ i11)) then (bif (decide (i11 < ((List.length list5) : Int))) then (bif (decide ((List.getD list5 (Int.toNat i11) (0 : Int)) < (0 : Int))) then (some false)
                  else (bif (decide ((0 : Int) ≤ i11)) then (bif (decide (i11 < ((List.length list5) : Int))) then (bif (decide ((List.getD list5 (Int.toNat i11) (0 : Int)) > (10000 : Int))) then (some false)
                        else (bif (decide ((0 : Int) ≤ i11)) then (bif (decide (i11 < ((List.length scores3) : Int))) then (bif ((List.getD scores3 (Int.toNat i11) (0 : Int)) == top4) then (bif (decide ((0 : Int) ≤ i11)) then (bif (decide (i11 < ((List.length list5) : Int))) then (bif ((List.getD list5 (Int.toNat i11) (0 : Int)) != (10000 : Int)) then (some false)
                                    else (laws_FnPercentages.l3 top4 i11 (0 : Int) scores3 list5 back9))
                                  else none)
                                else none)
                              else (laws_FnPercentages.l3 top4 i11 (0 : Int) scores3 list5 back9))
                            else none)
                          else none))
                      else none)
                    else none))
                else none)
              else none))
          else none)
        else none)
      else none)
    else none)
  else (some true)) :=
  (runOf_eq laws_FnPercentages.E [] Try.f3 [.imm (.sl (.int .u8))] [(.bool, .sh)] 2 _).trans (by kernel_rfl)
theorem laws_FnPercentages.l3_eq (top4 : Int) (i11 : Int) (k13 : Int) (scores3 : List Int) (list5 : List Int) (back9 : List Int) : laws_FnPercentages.l3 top4 i11 k13 scores3 list5 back9 =
  (bif (decide (k13 < i11)) then (bif (decide ((0 : Int) ≤ k13)) then (bif (decide (k13 < ((List.length scores3) : Int))) then (bif (decide ((0 : Int) ≤ i11)) then (bif (decide (i11 < ((List.length scores3) : Int))) then (bif (decide ((List.getD scores3 (Int.toNat k13) (0 : Int)) < (List.getD scores3 (Int.toNat i11) (0 : Int)))) then (bif (decide ((0 : Int) ≤ k13)) then (bif (decide (k13 < ((List.length list5) : Int))) then (bif (decide ((0 : Int) ≤ i11)) then (bif (decide (i11 < ((List.length list5) : Int))) then (bif (decide ((List.getD list5 (Int.toNat k13) (0 : Int)) > (List.getD list5 (Int.toNat i11) (0 : Int)))) then (some false)
                      else (bif (decide ((0 : Int) ≤ k13)) then (bif (decide (k13 < ((List.length scores3) : Int))) then (bif (decide ((0 : Int) ≤ i11)) then (bif (decide (i11 < ((List.length scores3) : Int))) then (bif (decide ((List.getD scores3 (Int.toNat k13) (0 : Int)) > (List.getD scores3 (Int.toNat i11) (0 : Int)))) then (bif (decide ((0 : Int) ≤ k13)) then (bif (decide (k13 < ((List.length list5) : Int))) then (bif (decide ((0 : Int) ≤ i11)) then (bif (decide (i11 < ((List.length list5) : Int))) then (bif (decide ((List.getD list5 (Int.toNat k13) (0 : Int)) < (List.getD list5 (Int.toNat i11) (0 : Int)))) then (some false)
                                          else (laws_FnPercentages.l3 top4 i11 (IntKind.wrap .i64 (k13 + (1 : Int))) scores3 list5 back9))
                                        else none)
                                      else none)
                                    else none)
                                  else none)
                                else (laws_FnPercentages.l3 top4 i11 (IntKind.wrap .i64 (k13 + (1 : Int))) scores3 list5 back9))
                              else none)
                            else none)
                          else none)
                        else none))
                    else none)
                  else none)
                else none)
              else none)
            else (bif (decide ((0 : Int) ≤ k13)) then (bif (decide (k13 < ((List.length scores3) : Int))) then (bif (decide ((0 : Int) ≤ i11)) then (bif (decide (i11 < ((List.length scores3) : Int))) then (bif (decide ((List.getD scores3 (Int.toNat k13) (0 : Int)) > (List.getD scores3 (Int.toNat i11) (0 : Int)))) then (bif (decide ((0 : Int) ≤ k13)) then (bif (decide (k13 < ((List.length list5) : Int))) then (bif (decide ((0 : Int) ≤ i11)) then (bif (decide (i11 < ((List.length list5) : Int))) then (bif (decide ((List.getD list5 (Int.toNat k13) (0 : Int)) < (List.getD list5 (Int.toNat i11) (0 : Int)))) then (some false)
                                else (laws_FnPercentages.l3 top4 i11 (IntKind.wrap .i64 (k13 + (1 : Int))) scores3 list5 back9))
                              else none)
                            else none)
                          else none)
                        else none)
                      else (laws_FnPercentages.l3 top4 i11 (IntKind.wrap .i64 (k13 + (1 : Int))) scores3 list5 back9))
                    else none)
                  else none)
                else none)
              else none))
          else none)
        else none)
      else none)
    else none)
  else (laws_FnPercentages.l2 top4 (IntKind.wrap .i64 (i11 + (1 : Int))) scores3 list5 back9)) :=
  (runOf_eq laws_FnPercentages.E [] Try.f3 [.imm (.sl (.int .u8))] [(.bool, .sh)] 3 _).trans (by kernel_rfl)
theorem laws_FnPercentages.eq (code0 : List Int) : laws_FnPercentages.f code0 =
  ((laws_big.f code0).bind fun (r521 : Bool) =>
  (bif r521 then (some true)
    else ((spec_DrawPercentages.f code0).bind fun (r578 : (List Int) × Int) =>
      ((impl_Percentages.f (r578.1, r578.2)).bind fun (r580 : (List Int) × Int) =>
        (bif (r580.2 != (0 : Int)) then (some (((List.length r580.1) : Int) == (0 : Int)))
          else (laws_FnPercentages.l1 r578.2 (0 : Int) r578.1 r580.1 [])))))) :=
  (fnOf_eq laws_FnPercentages.E [] Try.f3 [.imm (.sl (.int .u8))] [(.bool, .sh)] code0).trans (by kernel_rfl)

/-! laws_FnQualifiers -/
noncomputable def laws_FnQualifiers.E : Env := ⟨TT, [laws_big.m, spec_DrawQualifiers.m, impl_Qualifiers.m, laws_hasInt.m], []⟩
noncomputable def laws_FnQualifiers.f : List Int → Option Bool := fnOf laws_FnQualifiers.E [] Try.f6 [.imm (.sl (.int .u8))] [(.bool, .sh)]
noncomputable def laws_FnQualifiers.m : FM := ⟨6, [.imm (.sl (.int .u8))], [(.bool, .sh)], laws_FnQualifiers.f⟩
theorem laws_FnQualifiers.sound : Sound Try.prog laws_FnQualifiers.m := sound_of (E := laws_FnQualifiers.E) tok ⟨laws_big.sound, spec_DrawQualifiers.sound, impl_Qualifiers.sound, laws_hasInt.sound, trivial⟩ mix Try.func6 (by kernel_rfl)
noncomputable def laws_FnQualifiers.l1 (n4 : Int) (k8 : Int) (scores3 : List Int) (list5 : List Int) (in7 : List Bool) : Option Bool := runOf laws_FnQualifiers.E [] Try.f6 [.imm (.sl (.int .u8))] [(.bool, .sh)] 1 ⟨[(3, [.ref 0 [] 0]), (4, [.imm (.int .i64) n4]), (5, [.ref 1 [] 0]), (7, [.ref 2 [] 0]), (8, [.imm (.int .i64) k8])], [(0, ⟨(.sl (.int .i64)), scores3, (.sl .sh), false, false, 0⟩), (1, ⟨(.sl (.int .i64)), list5, (.sl .sh), false, false, 0⟩), (2, ⟨(.sl .bool), in7, (.sl .sh), false, false, 0⟩)], 3⟩
noncomputable def laws_FnQualifiers.l2 (n4 : Int) (i10 : Int) (scores3 : List Int) (list5 : List Int) (in7 : List Bool) : Option Bool := runOf laws_FnQualifiers.E [] Try.f6 [.imm (.sl (.int .u8))] [(.bool, .sh)] 2 ⟨[(3, [.ref 0 [] 0]), (4, [.imm (.int .i64) n4]), (5, [.ref 1 [] 0]), (7, [.ref 2 [] 0]), (10, [.imm (.int .i64) i10])], [(0, ⟨(.sl (.int .i64)), scores3, (.sl .sh), false, false, 0⟩), (1, ⟨(.sl (.int .i64)), list5, (.sl .sh), false, false, 0⟩), (2, ⟨(.sl .bool), in7, (.sl .sh), false, false, 0⟩)], 3⟩
noncomputable def laws_FnQualifiers.l3 (n4 : Int) (i10 : Int) (k11 : Int) (scores3 : List Int) (list5 : List Int) (in7 : List Bool) : Option Bool := runOf laws_FnQualifiers.E [] Try.f6 [.imm (.sl (.int .u8))] [(.bool, .sh)] 3 ⟨[(3, [.ref 0 [] 0]), (4, [.imm (.int .i64) n4]), (5, [.ref 1 [] 0]), (7, [.ref 2 [] 0]), (10, [.imm (.int .i64) i10]), (11, [.imm (.int .i64) k11])], [(0, ⟨(.sl (.int .i64)), scores3, (.sl .sh), false, false, 0⟩), (1, ⟨(.sl (.int .i64)), list5, (.sl .sh), false, false, 0⟩), (2, ⟨(.sl .bool), in7, (.sl .sh), false, false, 0⟩)], 3⟩
noncomputable def laws_FnQualifiers.l4 (k14 : Int) (list5 : List Int) (more12 : List Int) : Option Bool := runOf laws_FnQualifiers.E [] Try.f6 [.imm (.sl (.int .u8))] [(.bool, .sh)] 4 ⟨[(5, [.ref 0 [] 0]), (12, [.ref 1 [] 0]), (14, [.imm (.int .i64) k14])], [(0, ⟨(.sl (.int .i64)), list5, (.sl .sh), false, false, 0⟩), (1, ⟨(.sl (.int .i64)), more12, (.sl .sh), false, false, 0⟩)], 2⟩
theorem laws_FnQualifiers.l1_eq (n4 : Int) (k8 : Int) (scores3 : List Int) (list5 : List Int) (in7 : List Bool) : laws_FnQualifiers.l1 n4 k8 scores3 list5 in7 =
  (bif (decide (k8 < ((List.length list5) : Int))) then (bif (decide ((0 : Int) ≤ k8)) then (bif (decide (k8 < ((List.length list5) : Int))) then (bif (decide ((List.getD list5 (Int.toNat k8) (0 : Int)) < (0 : Int))) then (some false)
        else (bif (decide ((0 : Int) ≤ k8)) then (bif (decide (k8 < ((List.length list5) : Int))) then (bif (decide ((List.getD list5 (Int.toNat k8) (0 : Int)) ≥ ((List.length scores3) : Int))) then (some false)
              else (bif (decide (k8 > (0 : Int))) then (bif (decide ((0 : Int) ≤ (IntKind.wrap .i64 (k8 - (1 : Int))))) then (bif (decide ((IntKind.wrap .i64 (k8 - (1 : Int))) < ((List.length list5) : Int))) then (bif (decide ((0 : Int) ≤ k8)) then (bif (decide (k8 < ((List.length list5) : Int))) then (bif (decide ((List.getD list5 (Int.toNat (IntKind.wrap .i64 (k8 - (1 : Int)))) (0 : Int)) ≥ (List.getD list5 (Int.toNat k8) (0 : Int)))) then (some false)
                          else (bif (decide ((0 : Int) ≤ k8)) then (bif (decide (k8 < ((List.length list5) : Int))) then (bif (decide ((0 : Int) ≤ (List.getD list5 (Int.toNat k8) (0 : Int)))) then (bif (decide ((List.getD list5 (Int.toNat k8) (0 : Int)) < ((List.length in7) : Int))) then (laws_FnQualifiers.l1 n4 (IntKind.wrap .i64 (k8 + (1 : Int))) scores3 list5 (List.set in7 (Int.toNat (List.getD list5 (Int.toNat k8) (0 : Int))) true))
                                  else none)
                                else none)
                              else none)
                            else none))
                        else none)
                      else none)
                    else none)
                  else none)
                else (bif (decide ((0 : Int) ≤ k8)) then (bif (decide (k8 < ((List.length list5) : Int))) then (bif (decide ((0 : Int) ≤ (List.getD list5 (Int.toNat k8) (0 : Int)))) then (bif (decide ((List.getD list5 (Int.toNat k8) (0 : Int)) < ((List.length in7) : Int))) then (laws_FnQualifiers.l1 n4 (IntKind.wrap .i64 (k8 + (1 : Int))) scores3 list5 (List.set in7 (Int.toNat (List.getD list5 (Int.toNat k8) (0 : Int))) true))
                        else none)
                      else none)
                    else none)
                  else none)))
            else none)
          else none))
      else none)
    else none)
  else (laws_FnQualifiers.l2 n4 (0 : Int) scores3 list5 in7)) :=
  (runOf_eq laws_FnQualifiers.E [] Try.f6 [.imm (.sl (.int .u8))] [(.bool, .sh)] 1 _).trans (by kernel_rfl)
theorem laws_FnQualifiers.l2_eq (n4 : Int) (i10 : Int) (scores3 : List Int) (list5 : List Int) (in7 : List Bool) : laws_FnQualifiers.l2 n4 i10 scores3 list5 in7 =
  (bif (decide (i10 < ((List.length scores3) : Int))) then (laws_FnQualifiers.l3 n4 i10 (0 : Int) scores3 list5 in7)
  else (bif (decide (((List.length list5) : Int) < (if ((List.length scores3) : Int) < n4 then ((List.length scores3) : Int) else n4))) then (some false)
    else ((impl_Qualifiers.f (scores3, (if (IntKind.wrap .i64 (n4 + (1 : Int))) < (64 : Int) then (IntKind.wrap .i64 (n4 + (1 : Int))) else (64 : Int)))).bind fun (r636 : (List Int) × Int) =>
      (bif (r636.2 != (0 : Int)) then (some false)
        else (laws_FnQualifiers.l4 (0 : Int) list5 r636.1))))) :=
  (runOf_eq laws_FnQualifiers.E [] Try.f6 [.imm (.sl (.int .u8))] [(.bool, .sh)] 2 _).trans (by kernel_rfl)
theorem laws_FnQualifiers.l3_eq (n4 : Int) (i10 : Int) (k11 : Int) (scores3 : List Int) (list5 : List Int) (in7 : List Bool) : laws_FnQualifiers.l3 n4 i10 k11 scores3 list5 in7 =
  (bif (decide (k11 < ((List.length scores3) : Int))) then (bif (decide ((0 : Int) ≤ i10)) then (bif (decide (i10 < ((List.length in7) : Int))) then (bif (List.getD in7 (Int.toNat i10) false) then (bif (decide ((0 : Int) ≤ k11)) then (bif (decide (k11 < ((List.length in7) : Int))) then (bif (!(List.getD in7 (Int.toNat k11) false)) then (bif (decide ((0 : Int) ≤ i10)) then (bif (decide (i10 < ((List.length scores3) : Int))) then (bif (decide ((0 : Int) ≤ k11)) then (bif (decide (k11 < ((List.length scores3) : Int))) then (bif (decide ((List.getD scores3 (Int.toNat i10) (0 : Int)) ≤ (List.getD scores3 (Int.toNat k11) (0 : Int)))) then (some false)
                        else (laws_FnQualifiers.l3 n4 i10 (IntKind.wrap .i64 (k11 + (1 : Int))) scores3 list5 in7))
                      else none)
                    else none)
                  else none)
                else none)
              else (laws_FnQualifiers.l3 n4 i10 (IntKind.wrap .i64 (k11 + (1 : Int))) scores3 list5 in7))
            else none)
          else none)
        else (laws_FnQualifiers.l3 n4 i10 (IntKind.wrap .i64 (k11 + (1 : Int))) scores3 list5 in7))
      else none)
    else none)
  else (laws_FnQualifiers.l2 n4 (IntKind.wrap .i64 (i10 + (1 : Int))) scores3 list5 in7)) :=
  (runOf_eq laws_FnQualifiers.E [] Try.f6 [.imm (.sl (.int .u8))] [(.bool, .sh)] 3 _).trans (by kernel_rfl)
theorem laws_FnQualifiers.l4_eq (k14 : Int) (list5 : List Int) (more12 : List Int) : laws_FnQualifiers.l4 k14 list5 more12 =
  (bif (decide (k14 < ((List.length list5) : Int))) then (bif (decide ((0 : Int) ≤ k14)) then (bif (decide (k14 < ((List.length list5) : Int))) then ((laws_hasInt.f (more12, (List.getD list5 (Int.toNat k14) (0 : Int)))).bind fun (r646 : Bool) =>
        (bif (!r646) then (some false)
          else (laws_FnQualifiers.l4 (IntKind.wrap .i64 (k14 + (1 : Int))) list5 more12)))
      else none)
    else none)
  else (some true)) :=
  (runOf_eq laws_FnQualifiers.E [] Try.f6 [.imm (.sl (.int .u8))] [(.bool, .sh)] 4 _).trans (by kernel_rfl)
theorem laws_FnQualifiers.eq (code0 : List Int) : laws_FnQualifiers.f code0 =
  ((laws_big.f code0).bind fun (r601 : Bool) =>
  (bif r601 then (some true)
    else ((spec_DrawQualifiers.f code0).bind fun (r616 : (List Int) × Int) =>
      ((impl_Qualifiers.f (r616.1, r616.2)).bind fun (r618 : (List Int) × Int) =>
        (bif (r618.2 != (0 : Int)) then (some (((List.length r618.1) : Int) == (0 : Int)))
          else (bif (decide ((0 : Int) ≤ ((List.length r616.1) : Int))) then (bif (decide (((List.length r616.1) : Int) ≤ ((List.length r616.1) : Int))) then (bif (decide (((List.length r616.1) : Int) ≤ (140737488355328 : Int))) then (laws_FnQualifiers.l1 r616.2 (0 : Int) r616.1 r618.1 (List.replicate (Int.toNat ((List.length r616.1) : Int)) false))
                else none)
              else none)
            else none)))))) :=
  (fnOf_eq laws_FnQualifiers.E [] Try.f6 [.imm (.sl (.int .u8))] [(.bool, .sh)] code0).trans (by kernel_rfl)

/-! laws_FnShares -/
noncomputable def laws_FnShares.E : Env := ⟨TT, [laws_big.m, spec_DrawShareOfPrizes.m, impl_ShareOfPrizes.m, spec_ShareOfPrizes.m, spec_RankScores.m], []⟩
noncomputable def laws_FnShares.f : List Int → Option Bool := fnOf laws_FnShares.E [] Try.f9 [.imm (.sl (.int .u8))] [(.bool, .sh)]
noncomputable def laws_FnShares.m : FM := ⟨9, [.imm (.sl (.int .u8))], [(.bool, .sh)], laws_FnShares.f⟩
theorem laws_FnShares.sound : Sound Try.prog laws_FnShares.m := sound_of (E := laws_FnShares.E) tok ⟨laws_big.sound, spec_DrawShareOfPrizes.sound, impl_ShareOfPrizes.sound, spec_ShareOfPrizes.sound, spec_RankScores.sound, trivial⟩ mix Try.func9 (by kernel_rfl)
noncomputable def laws_FnShares.l1 (rank10 : Int) (scores3 : List Int) (prizes4 : List Int) (list5 : List (Int × Int)) (ranks9 : List Int) : Option Bool := runOf laws_FnShares.E [] Try.f9 [.imm (.sl (.int .u8))] [(.bool, .sh)] 1 ⟨[(3, [.ref 0 [] 0]), (4, [.ref 1 [] 0]), (5, [.ref 2 [] 0]), (9, [.ref 3 [] 0]), (10, [.imm (.int .i64) rank10])], [(0, ⟨(.sl (.int .i64)), scores3, (.sl .sh), false, false, 0⟩), (1, ⟨(.sl (.int .i64)), prizes4, (.sl .sh), false, false, 0⟩), (2, ⟨(.sl (.st (.pair (.int .i64) (.int .i64)))), list5, (.sl .sh), false, false, 0⟩), (3, ⟨(.sl (.int .i64)), ranks9, (.sl .sh), false, false, 0⟩)], 4⟩
noncomputable def laws_FnShares.l2 (rank10 : Int) (due11 : Int) (n13 : Int) (i14 : Int) (scores3 : List Int) (prizes4 : List Int) (list5 : List (Int × Int)) (ranks9 : List Int) (paid12 : Int × Int) : Option Bool := runOf laws_FnShares.E [] Try.f9 [.imm (.sl (.int .u8))] [(.bool, .sh)] 2 ⟨[(3, [.ref 0 [] 0]), (4, [.ref 1 [] 0]), (5, [.ref 2 [] 0]), (9, [.ref 3 [] 0]), (10, [.imm (.int .i64) rank10]), (11, [.imm (.int .i64) due11]), (12, [.adr 4 [] 0]), (13, [.imm (.int .i64) n13]), (14, [.imm (.int .i64) i14])], [(0, ⟨(.sl (.int .i64)), scores3, (.sl .sh), false, false, 0⟩), (1, ⟨(.sl (.int .i64)), prizes4, (.sl .sh), false, false, 0⟩), (2, ⟨(.sl (.st (.pair (.int .i64) (.int .i64)))), list5, (.sl .sh), false, false, 0⟩), (3, ⟨(.sl (.int .i64)), ranks9, (.sl .sh), false, false, 0⟩), (4, ⟨(.st (.pair (.int .i64) (.int .i64))), paid12, .sh, true, false, 0⟩)], 5⟩
noncomputable def laws_FnShares.l3 (rank10 : Int) (due11 : Int) (n13 : Int) (i14 : Int) (scores3 : List Int) (prizes4 : List Int) (list5 : List (Int × Int)) (ranks9 : List Int) (paid12 : Int × Int) : Option Bool := runOf laws_FnShares.E [] Try.f9 [.imm (.sl (.int .u8))] [(.bool, .sh)] 3 ⟨[(3, [.ref 0 [] 0]), (4, [.ref 1 [] 0]), (5, [.ref 2 [] 0]), (9, [.ref 3 [] 0]), (10, [.imm (.int .i64) rank10]), (11, [.imm (.int .i64) due11]), (12, [.adr 4 [] 0]), (13, [.imm (.int .i64) n13]), (14, [.imm (.int .i64) i14])], [(0, ⟨(.sl (.int .i64)), scores3, (.sl .sh), false, false, 0⟩), (1, ⟨(.sl (.int .i64)), prizes4, (.sl .sh), false, false, 0⟩), (2, ⟨(.sl (.st (.pair (.int .i64) (.int .i64)))), list5, (.sl .sh), false, false, 0⟩), (3, ⟨(.sl (.int .i64)), ranks9, (.sl .sh), false, false, 0⟩), (4, ⟨(.st (.pair (.int .i64) (.int .i64))), paid12, .sh, true, false, 0⟩)], 5⟩
noncomputable def laws_FnShares.l4 (rank10 : Int) (due11 : Int) (n13 : Int) (i14 : Int) (scores3 : List Int) (prizes4 : List Int) (list5 : List (Int × Int)) (ranks9 : List Int) (paid12 : Int × Int) : Option Bool := runOf laws_FnShares.E [] Try.f9 [.imm (.sl (.int .u8))] [(.bool, .sh)] 4 ⟨[(3, [.ref 0 [] 0]), (4, [.ref 1 [] 0]), (5, [.ref 2 [] 0]), (9, [.ref 3 [] 0]), (10, [.imm (.int .i64) rank10]), (11, [.imm (.int .i64) due11]), (12, [.adr 4 [] 0]), (13, [.imm (.int .i64) n13]), (14, [.imm (.int .i64) i14])], [(0, ⟨(.sl (.int .i64)), scores3, (.sl .sh), false, false, 0⟩), (1, ⟨(.sl (.int .i64)), prizes4, (.sl .sh), false, false, 0⟩), (2, ⟨(.sl (.st (.pair (.int .i64) (.int .i64)))), list5, (.sl .sh), false, false, 0⟩), (3, ⟨(.sl (.int .i64)), ranks9, (.sl .sh), false, false, 0⟩), (4, ⟨(.st (.pair (.int .i64) (.int .i64))), paid12, .sh, true, false, 0⟩)], 5⟩
theorem laws_FnShares.l1_eq (rank10 : Int) (scores3 : List Int) (prizes4 : List Int) (list5 : List (Int × Int)) (ranks9 : List Int) : laws_FnShares.l1 rank10 scores3 prizes4 list5 ranks9 =
  (bif (decide (rank10 ≤ ((List.length scores3) : Int))) then (laws_FnShares.l2 rank10 (0 : Int) (0 : Int) (0 : Int) scores3 prizes4 list5 ranks9 ((0 : Int), (1 : Int)))
  else (some true)) :=
  (runOf_eq laws_FnShares.E [] Try.f9 [.imm (.sl (.int .u8))] [(.bool, .sh)] 1 _).trans (by kernel_rfl)
theorem laws_FnShares.l2_eq (rank10 : Int) (due11 : Int) (n13 : Int) (i14 : Int) (scores3 : List Int) (prizes4 : List Int) (list5 : List (Int × Int)) (ranks9 : List Int) (paid12 : Int × Int) : laws_FnShares.l2 rank10 due11 n13 i14 scores3 prizes4 list5 ranks9 paid12 =
  (bif (decide (i14 < ((List.length scores3) : Int))) then (bif (decide ((0 : Int) ≤ i14)) then (bif (decide (i14 < ((List.length ranks9) : Int))) then (bif ((List.getD ranks9 (Int.toNat i14) (0 : Int)) != rank10) then (laws_FnShares.l3 rank10 due11 n13 i14 scores3 prizes4 list5 ranks9 paid12)
        else (bif (decide (n13 > (0 : Int))) then (bif (decide ((0 : Int) ≤ i14)) then (bif (decide (i14 < ((List.length list5) : Int))) then (bif (!(bif ((List.getD list5 (Int.toNat i14) ((0 : Int), (0 : Int))).1 == paid12.1) then ((List.getD list5 (Int.toNat i14) ((0 : Int), (0 : Int))).2 == paid12.2) else false)) then (some false)
                else (bif (decide ((0 : Int) ≤ i14)) then (bif (decide (i14 < ((List.length list5) : Int))) then (bif (decide ((IntKind.wrap .i64 ((IntKind.wrap .i64 (rank10 - (1 : Int))) + n13)) < ((List.length prizes4) : Int))) then (bif (decide ((0 : Int) ≤ (IntKind.wrap .i64 ((IntKind.wrap .i64 (rank10 - (1 : Int))) + n13)))) then (bif (decide ((IntKind.wrap .i64 ((IntKind.wrap .i64 (rank10 - (1 : Int))) + n13)) < ((List.length prizes4) : Int))) then (laws_FnShares.l4 rank10 (IntKind.wrap .i64 (due11 + (List.getD prizes4 (Int.toNat (IntKind.wrap .i64 ((IntKind.wrap .i64 (rank10 - (1 : Int))) + n13))) (0 : Int)))) n13 i14 scores3 prizes4 list5 ranks9 (List.getD list5 (Int.toNat i14) ((0 : Int), (0 : Int))))
                          else none)
                        else none)
                      else (laws_FnShares.l4 rank10 due11 n13 i14 scores3 prizes4 list5 ranks9 (List.getD list5 (Int.toNat i14) ((0 : Int), (0 : Int)))))
                    else none)
                  else none))
              else none)
            else none)
          else (bif (decide ((0 : Int) ≤ i14)) then (bif (decide (i14 < ((List.length list5) : Int))) then (bif (decide ((IntKind.wrap .i64 ((IntKind.wrap .i64 (rank10 - (1 : Int))) + n13)) < ((List.length prizes4) : Int))) then (bif (decide ((0 : Int) ≤ (IntKind.wrap .i64 ((IntKind.wrap .i64 (rank10 - (1 : Int))) + n13)))) then (bif (decide ((IntKind.wrap .i64 ((IntKind.wrap .i64 (rank10 - (1 : Int))) + n13)) < ((List.length prizes4) : Int))) then (laws_FnShares.l4 rank10 (IntKind.wrap .i64 (due11 + (List.getD prizes4 (Int.toNat (IntKind.wrap .i64 ((IntKind.wrap .i64 (rank10 - (1 : Int))) + n13))) (0 : Int)))) n13 i14 scores3 prizes4 list5 ranks9 (List.getD list5 (Int.toNat i14) ((0 : Int), (0 : Int))))
                    else none)
                  else none)
                else (laws_FnShares.l4 rank10 due11 n13 i14 scores3 prizes4 list5 ranks9 (List.getD list5 (Int.toNat i14) ((0 : Int), (0 : Int)))))
              else none)
            else none)))
      else none)
    else none)
  else (bif (decide (paid12.2 < (1 : Int))) then (some false)
    else (bif ((IntKind.wrap .i64 (n13 * paid12.1)) != (IntKind.wrap .i64 (due11 * paid12.2))) then (some false)
      else (laws_FnShares.l1 (IntKind.wrap .i64 (rank10 + (1 : Int))) scores3 prizes4 list5 ranks9)))) :=
  (runOf_eq laws_FnShares.E [] Try.f9 [.imm (.sl (.int .u8))] [(.bool, .sh)] 2 _).trans (by kernel_rfl)
theorem laws_FnShares.l3_eq (rank10 : Int) (due11 : Int) (n13 : Int) (i14 : Int) (scores3 : List Int) (prizes4 : List Int) (list5 : List (Int × Int)) (ranks9 : List Int) (paid12 : Int × Int) : laws_FnShares.l3 rank10 due11 n13 i14 scores3 prizes4 list5 ranks9 paid12 =
  (laws_FnShares.l2 rank10 due11 n13 (IntKind.wrap .i64 (i14 + (1 : Int))) scores3 prizes4 list5 ranks9 paid12) :=
  (runOf_eq laws_FnShares.E [] Try.f9 [.imm (.sl (.int .u8))] [(.bool, .sh)] 3 _).trans (by kernel_rfl)
theorem laws_FnShares.l4_eq (rank10 : Int) (due11 : Int) (n13 : Int) (i14 : Int) (scores3 : List Int) (prizes4 : List Int) (list5 : List (Int × Int)) (ranks9 : List Int) (paid12 : Int × Int) : laws_FnShares.l4 rank10 due11 n13 i14 scores3 prizes4 list5 ranks9 paid12 =
  (laws_FnShares.l3 rank10 due11 (IntKind.wrap .i64 (n13 + (1 : Int))) i14 scores3 prizes4 list5 ranks9 paid12) :=
  (runOf_eq laws_FnShares.E [] Try.f9 [.imm (.sl (.int .u8))] [(.bool, .sh)] 4 _).trans (by kernel_rfl)
theorem laws_FnShares.eq (code0 : List Int) : laws_FnShares.f code0 =
  ((laws_big.f code0).bind fun (r649 : Bool) =>
  (bif r649 then (some true)
    else ((spec_DrawShareOfPrizes.f code0).bind fun (r676 : (List Int) × List Int) =>
      ((impl_ShareOfPrizes.f (r676.1, r676.2)).bind fun (r678 : (List (Int × Int)) × Int) =>
        ((spec_ShareOfPrizes.f (r676.1, r676.2)).bind fun (r680 : (List (Int × Int)) × Int) =>
          (bif (r678.2 != r680.2) then (some false)
            else (bif (r678.2 != (0 : Int)) then (some (((List.length r678.1) : Int) == (0 : Int)))
              else (bif (((List.length r678.1) : Int) != ((List.length r676.1) : Int)) then (some false)
                else ((spec_RankScores.f r676.1).bind fun (r682 : List Int) =>
                  (laws_FnShares.l1 (1 : Int) r676.1 r676.2 r678.1 r682)))))))))) :=
  (fnOf_eq laws_FnShares.E [] Try.f9 [.imm (.sl (.int .u8))] [(.bool, .sh)] code0).trans (by kernel_rfl)

/-! impl_RankOrder -/
noncomputable def impl_RankOrder.E : Env := ⟨TT, [impl_isScoreList.m, impl_rankScores.m, slices_SortStableFunc_int64_1.m], []⟩
noncomputable def impl_RankOrder.f : List Int → Option (List Int) := fnOf impl_RankOrder.E [] Try.f36 [.imm (.sl (.int .i64))] [((.sl (.int .i64)), (.sl .sh))]
noncomputable def impl_RankOrder.m : FM := ⟨36, [.imm (.sl (.int .i64))], [((.sl (.int .i64)), (.sl .sh))], impl_RankOrder.f⟩
theorem impl_RankOrder.sound : Sound Try.prog impl_RankOrder.m := sound_of (E := impl_RankOrder.E) tok ⟨impl_isScoreList.sound, impl_rankScores.sound, slices_SortStableFunc_int64_1.sound, trivial⟩ mix Try.func36 (by kernel_rfl)
noncomputable def impl_RankOrder.l1 (x13 : Int) (x14 : Int) (out3 : List Int) (list4 : List Int) : Option (List Int) := runOf impl_RankOrder.E [] Try.f36 [.imm (.sl (.int .i64))] [((.sl (.int .i64)), (.sl .sh))] 1 ⟨[(3, [.ref 0 [] 0]), (4, [.adr 1 [] 0]), (13, [.imm (.int .i64) x13]), (14, [.imm (.int .i64) x14])], [(0, ⟨(.sl (.int .i64)), out3, (.sl .sh), false, false, 0⟩), (1, ⟨(.sl (.int .i64)), list4, (.sl .sh), true, false, 0⟩)], 2⟩
theorem impl_RankOrder.l1_eq (x13 : Int) (x14 : Int) (out3 : List Int) (list4 : List Int) : impl_RankOrder.l1 x13 x14 out3 list4 =
  (bif (decide (x14 < x13)) then (bif (decide (((List.length out3) + 1) ≤ 17592186044416)) then (impl_RankOrder.l1 x13 (IntKind.wrap .i64 (x14 + (1 : Int))) (out3 ++ [x14]) list4)
    else none)
  else ((slices_SortStableFunc_int64_1.f (out3, list4)).bind fun (r1017 : Unit × (List Int) × Unit) =>
    (some r1017.2.1))) :=
  (runOf_eq impl_RankOrder.E [] Try.f36 [.imm (.sl (.int .i64))] [((.sl (.int .i64)), (.sl .sh))] 1 _).trans (by kernel_rfl)
theorem impl_RankOrder.eq (scores0 : List Int) : impl_RankOrder.f scores0 =
  ((impl_isScoreList.f scores0).bind fun (r736 : Bool) =>
  (bif (!r736) then (some [])
    else ((impl_rankScores.f scores0).bind fun (r738 : List Int) =>
      (impl_RankOrder.l1 ((List.length r738) : Int) (0 : Int) [] r738)))) :=
  (fnOf_eq impl_RankOrder.E [] Try.f36 [.imm (.sl (.int .i64))] [((.sl (.int .i64)), (.sl .sh))] scores0).trans (by kernel_rfl)

/-! laws_FnExactRankOrder -/
noncomputable def laws_FnExactRankOrder.E : Env := ⟨TT, [laws_toInt64S.m, spec_RankOrder.m, impl_RankOrder.m, laws_eqInt64S.m, laws_markInt64S_1.m, laws_heldInt64S.m], []⟩
noncomputable def laws_FnExactRankOrder.f : List Int → Option Bool := fnOf laws_FnExactRankOrder.E [] Try.f11 [.imm (.sl (.int .i64))] [(.bool, .sh)]
noncomputable def laws_FnExactRankOrder.m : FM := ⟨11, [.imm (.sl (.int .i64))], [(.bool, .sh)], laws_FnExactRankOrder.f⟩
theorem laws_FnExactRankOrder.sound : Sound Try.prog laws_FnExactRankOrder.m := sound_of (E := laws_FnExactRankOrder.E) tok ⟨laws_toInt64S.sound, spec_RankOrder.sound, impl_RankOrder.sound, laws_eqInt64S.sound, laws_markInt64S_1.sound, laws_heldInt64S.sound, trivial⟩ mix Try.func11 (by kernel_rfl)
theorem laws_FnExactRankOrder.eq (aScores0 : List Int) : laws_FnExactRankOrder.f aScores0 =
  (bif (decide (((List.length aScores0) : Int) > (1048576 : Int))) then (some true)
  else ((laws_toInt64S.f aScores0).bind fun (r1072 : List Int) =>
    ((spec_RankOrder.f r1072).bind fun (r1093 : List Int) =>
      ((laws_toInt64S.f aScores0).bind fun (r1095 : List Int) =>
        ((impl_RankOrder.f r1095).bind fun (r1097 : List Int) =>
          ((laws_eqInt64S.f (r1097, r1093)).bind fun (r1099 : Bool) =>
            (bif (!r1099) then (some false)
              else ((laws_toInt64S.f aScores0).bind fun (r1101 : List Int) =>
                ((laws_eqInt64S.f (r1095, r1101)).bind fun (r1103 : Bool) =>
                  (bif (!r1103) then (some false)
                    else ((laws_markInt64S_1.f (r1095, (1 : Int))).bind fun (r1105 : Int × (List Int) × Unit) =>
                      (bif (decide (r1105.1 < (0 : Int))) then (some false)
                        else ((laws_eqInt64S.f (r1097, r1093)).bind fun (r1107 : Bool) =>
                          (bif (!r1107) then (some false)
                            else ((laws_markInt64S_1.f (r1097, (1 : Int))).bind fun (r1109 : Int × (List Int) × Unit) =>
                              ((laws_heldInt64S.f (r1109.2.1, (1 : Int))).bind fun (r1111 : Int) =>
                                (bif (decide (r1111 < (0 : Int))) then (some false)
                                  else (bif (r1111 != r1109.1) then (some false)
                                    else ((laws_toInt64S.f aScores0).bind fun (r1113 : List Int) =>
                                      ((impl_RankOrder.f r1113).bind fun (r1115 : List Int) =>
                                        ((laws_eqInt64S.f (r1115, r1093)).bind fun (r1117 : Bool) =>
                                          (bif (!r1117) then (some false)
                                            else ((laws_heldInt64S.f (r1109.2.1, (1 : Int))).bind fun (r1119 : Int) =>
                                              (bif (decide (r1119 < (0 : Int))) then (some false)
                                                else (bif (r1119 != r1109.1) then (some false)
                                                  else (some true)))))))))))))))))))))))))) :=
  (fnOf_eq laws_FnExactRankOrder.E [] Try.f11 [.imm (.sl (.int .i64))] [(.bool, .sh)] aScores0).trans (by kernel_rfl)

/-! impl_RankScores -/
noncomputable def impl_RankScores.E : Env := ⟨TT, [impl_isScoreList.m, impl_rankScores.m], []⟩
noncomputable def impl_RankScores.f : List Int → Option (List Int) := fnOf impl_RankScores.E [] Try.f23 [.imm (.sl (.int .i64))] [((.sl (.int .i64)), (.sl .sh))]
noncomputable def impl_RankScores.m : FM := ⟨23, [.imm (.sl (.int .i64))], [((.sl (.int .i64)), (.sl .sh))], impl_RankScores.f⟩
theorem impl_RankScores.sound : Sound Try.prog impl_RankScores.m := sound_of (E := impl_RankScores.E) tok ⟨impl_isScoreList.sound, impl_rankScores.sound, trivial⟩ mix Try.func23 (by kernel_rfl)
theorem impl_RankScores.eq (scores0 : List Int) : impl_RankScores.f scores0 =
  ((impl_isScoreList.f scores0).bind fun (r63 : Bool) =>
  (bif (!r63) then (some [])
    else ((impl_rankScores.f scores0).bind fun (r84 : List Int) =>
      (some r84)))) :=
  (fnOf_eq impl_RankScores.E [] Try.f23 [.imm (.sl (.int .i64))] [((.sl (.int .i64)), (.sl .sh))] scores0).trans (by kernel_rfl)

/-! laws_FnExactCarryOver -/
noncomputable def laws_FnExactCarryOver.E : Env := ⟨TT, [laws_toInt64S.m, spec_CarryOver.m, impl_CarryOver.m, laws_eqInt64S.m, laws_markInt64S_1.m, laws_heldInt64S.m], []⟩
noncomputable def laws_FnExactCarryOver.f : (List Int) × Int × Int → Option Bool := fnOf laws_FnExactCarryOver.E [] Try.f4 [.imm (.sl (.int .i64)), .imm (.int .i64), .imm (.int .i64)] [(.bool, .sh)]
noncomputable def laws_FnExactCarryOver.m : FM := ⟨4, [.imm (.sl (.int .i64)), .imm (.int .i64), .imm (.int .i64)], [(.bool, .sh)], laws_FnExactCarryOver.f⟩
theorem laws_FnExactCarryOver.sound : Sound Try.prog laws_FnExactCarryOver.m := sound_of (E := laws_FnExactCarryOver.E) tok ⟨laws_toInt64S.sound, spec_CarryOver.sound, impl_CarryOver.sound, laws_eqInt64S.sound, laws_markInt64S_1.sound, laws_heldInt64S.sound, trivial⟩ mix Try.func4 (by kernel_rfl)
theorem laws_FnExactCarryOver.eq (aScores0 : List Int) (aNum1 : Int) (aDen2 : Int) : laws_FnExactCarryOver.f (aScores0, aNum1, aDen2) =
  (bif (decide (((List.length aScores0) : Int) > (1048576 : Int))) then (some true)
  else ((laws_toInt64S.f aScores0).bind fun (r133 : List Int) =>
    ((spec_CarryOver.f (r133, (aNum1, aDen2))).bind fun (r154 : (List Int) × Int) =>
      ((laws_toInt64S.f aScores0).bind fun (r156 : List Int) =>
        ((impl_CarryOver.f (r156, (aNum1, aDen2))).bind fun (r178 : (List Int) × Int) =>
          ((laws_eqInt64S.f (r178.1, r154.1)).bind fun (r180 : Bool) =>
            (bif (!r180) then (some false)
              else (bif (r178.2 != r154.2) then (some false)
                else ((laws_toInt64S.f aScores0).bind fun (r182 : List Int) =>
                  ((laws_eqInt64S.f (r156, r182)).bind fun (r184 : Bool) =>
                    (bif (!r184) then (some false)
                      else ((laws_markInt64S_1.f (r156, (1 : Int))).bind fun (r186 : Int × (List Int) × Unit) =>
                        (bif (decide (r186.1 < (0 : Int))) then (some false)
                          else ((laws_eqInt64S.f (r178.1, r154.1)).bind fun (r188 : Bool) =>
                            (bif (!r188) then (some false)
                              else (bif (r178.2 != r154.2) then (some false)
                                else ((laws_markInt64S_1.f (r178.1, (1 : Int))).bind fun (r190 : Int × (List Int) × Unit) =>
                                  ((laws_heldInt64S.f (r190.2.1, (1 : Int))).bind fun (r192 : Int) =>
                                    (bif (decide (r192 < (0 : Int))) then (some false)
                                      else (bif (r192 != r190.1) then (some false)
                                        else ((laws_toInt64S.f aScores0).bind fun (r194 : List Int) =>
                                          ((impl_CarryOver.f (r194, (aNum1, aDen2))).bind fun (r196 : (List Int) × Int) =>
                                            ((laws_eqInt64S.f (r196.1, r154.1)).bind fun (r198 : Bool) =>
                                              (bif (!r198) then (some false)
                                                else (bif (r196.2 != r154.2) then (some false)
                                                  else ((laws_heldInt64S.f (r190.2.1, (1 : Int))).bind fun (r200 : Int) =>
                                                    (bif (decide (r200 < (0 : Int))) then (some false)
                                                      else (bif (r200 != r190.1) then (some false)
                                                        else (some true))))))))))))))))))))))))))))) :=
  (fnOf_eq laws_FnExactCarryOver.E [] Try.f4 [.imm (.sl (.int .i64)), .imm (.int .i64), .imm (.int .i64)] [(.bool, .sh)] (aScores0, aNum1, aDen2)).trans (by kernel_rfl)

/-! laws_FnExactPercentages -/
noncomputable def laws_FnExactPercentages.E : Env := ⟨TT, [laws_toInt64S.m, spec_Percentages.m, impl_Percentages.m, laws_eqInt64S.m, laws_markInt64S_1.m, laws_heldInt64S.m], []⟩
noncomputable def laws_FnExactPercentages.f : (List Int) × Int → Option Bool := fnOf laws_FnExactPercentages.E [] Try.f7 [.imm (.sl (.int .i64)), .imm (.int .i64)] [(.bool, .sh)]
noncomputable def laws_FnExactPercentages.m : FM := ⟨7, [.imm (.sl (.int .i64)), .imm (.int .i64)], [(.bool, .sh)], laws_FnExactPercentages.f⟩
theorem laws_FnExactPercentages.sound : Sound Try.prog laws_FnExactPercentages.m := sound_of (E := laws_FnExactPercentages.E) tok ⟨laws_toInt64S.sound, spec_Percentages.sound, impl_Percentages.sound, laws_eqInt64S.sound, laws_markInt64S_1.sound, laws_heldInt64S.sound, trivial⟩ mix Try.func7 (by kernel_rfl)
theorem laws_FnExactPercentages.eq (aScores0 : List Int) (aTop1 : Int) : laws_FnExactPercentages.f (aScores0, aTop1) =
  (bif (decide (((List.length aScores0) : Int) > (1048576 : Int))) then (some true)
  else ((laws_toInt64S.f aScores0).bind fun (r204 : List Int) =>
    ((spec_Percentages.f (r204, aTop1)).bind fun (r220 : (List Int) × Int) =>
      ((laws_toInt64S.f aScores0).bind fun (r222 : List Int) =>
        ((impl_Percentages.f (r222, aTop1)).bind fun (r255 : (List Int) × Int) =>
          ((laws_eqInt64S.f (r255.1, r220.1)).bind fun (r257 : Bool) =>
            (bif (!r257) then (some false)
              else (bif (r255.2 != r220.2) then (some false)
                else ((laws_toInt64S.f aScores0).bind fun (r259 : List Int) =>
                  ((laws_eqInt64S.f (r222, r259)).bind fun (r261 : Bool) =>
                    (bif (!r261) then (some false)
                      else ((laws_markInt64S_1.f (r222, (1 : Int))).bind fun (r263 : Int × (List Int) × Unit) =>
                        (bif (decide (r263.1 < (0 : Int))) then (some false)
                          else ((laws_eqInt64S.f (r255.1, r220.1)).bind fun (r265 : Bool) =>
                            (bif (!r265) then (some false)
                              else (bif (r255.2 != r220.2) then (some false)
                                else ((laws_markInt64S_1.f (r255.1, (1 : Int))).bind fun (r267 : Int × (List Int) × Unit) =>
                                  ((laws_heldInt64S.f (r267.2.1, (1 : Int))).bind fun (r269 : Int) =>
                                    (bif (decide (r269 < (0 : Int))) then (some false)
                                      else (bif (r269 != r267.1) then (some false)
                                        else ((laws_toInt64S.f aScores0).bind fun (r271 : List Int) =>
                                          ((impl_Percentages.f (r271, aTop1)).bind fun (r273 : (List Int) × Int) =>
                                            ((laws_eqInt64S.f (r273.1, r220.1)).bind fun (r275 : Bool) =>
                                              (bif (!r275) then (some false)
                                                else (bif (r273.2 != r220.2) then (some false)
                                                  else ((laws_heldInt64S.f (r267.2.1, (1 : Int))).bind fun (r277 : Int) =>
                                                    (bif (decide (r277 < (0 : Int))) then (some false)
                                                      else (bif (r277 != r267.1) then (some false)
                                                        else (some true))))))))))))))))))))))))))))) :=
  (fnOf_eq laws_FnExactPercentages.E [] Try.f7 [.imm (.sl (.int .i64)), .imm (.int .i64)] [(.bool, .sh)] (aScores0, aTop1)).trans (by kernel_rfl)

/-! laws_FnExactQualifiers -/
noncomputable def laws_FnExactQualifiers.E : Env := ⟨TT, [laws_toInt64S.m, spec_Qualifiers.m, impl_Qualifiers.m, laws_eqInt64S.m, laws_markInt64S_1.m, laws_heldInt64S.m], []⟩
noncomputable def laws_FnExactQualifiers.f : (List Int) × Int → Option Bool := fnOf laws_FnExactQualifiers.E [] Try.f8 [.imm (.sl (.int .i64)), .imm (.int .i64)] [(.bool, .sh)]
noncomputable def laws_FnExactQualifiers.m : FM := ⟨8, [.imm (.sl (.int .i64)), .imm (.int .i64)], [(.bool, .sh)], laws_FnExactQualifiers.f⟩
theorem laws_FnExactQualifiers.sound : Sound Try.prog laws_FnExactQualifiers.m := sound_of (E := laws_FnExactQualifiers.E) tok ⟨laws_toInt64S.sound, spec_Qualifiers.sound, impl_Qualifiers.sound, laws_eqInt64S.sound, laws_markInt64S_1.sound, laws_heldInt64S.sound, trivial⟩ mix Try.func8 (by kernel_rfl)
theorem laws_FnExactQualifiers.eq (aScores0 : List Int) (aN1 : Int) : laws_FnExactQualifiers.f (aScores0, aN1) =
  (bif (decide (((List.length aScores0) : Int) > (1048576 : Int))) then (some true)
  else ((laws_toInt64S.f aScores0).bind fun (r281 : List Int) =>
    ((spec_Qualifiers.f (r281, aN1)).bind fun (r299 : (List Int) × Int) =>
      ((laws_toInt64S.f aScores0).bind fun (r301 : List Int) =>
        ((impl_Qualifiers.f (r301, aN1)).bind fun (r321 : (List Int) × Int) =>
          ((laws_eqInt64S.f (r321.1, r299.1)).bind fun (r323 : Bool) =>
            (bif (!r323) then (some false)
              else (bif (r321.2 != r299.2) then (some false)
                else ((laws_toInt64S.f aScores0).bind fun (r325 : List Int) =>
                  ((laws_eqInt64S.f (r301, r325)).bind fun (r327 : Bool) =>
                    (bif (!r327) then (some false)
                      else ((laws_markInt64S_1.f (r301, (1 : Int))).bind fun (r329 : Int × (List Int) × Unit) =>
                        (bif (decide (r329.1 < (0 : Int))) then (some false)
                          else ((laws_eqInt64S.f (r321.1, r299.1)).bind fun (r331 : Bool) =>
                            (bif (!r331) then (some false)
                              else (bif (r321.2 != r299.2) then (some false)
                                else ((laws_markInt64S_1.f (r321.1, (1 : Int))).bind fun (r333 : Int × (List Int) × Unit) =>
                                  ((laws_heldInt64S.f (r333.2.1, (1 : Int))).bind fun (r335 : Int) =>
                                    (bif (decide (r335 < (0 : Int))) then (some false)
                                      else (bif (r335 != r333.1) then (some false)
                                        else ((laws_toInt64S.f aScores0).bind fun (r337 : List Int) =>
                                          ((impl_Qualifiers.f (r337, aN1)).bind fun (r339 : (List Int) × Int) =>
                                            ((laws_eqInt64S.f (r339.1, r299.1)).bind fun (r341 : Bool) =>
                                              (bif (!r341) then (some false)
                                                else (bif (r339.2 != r299.2) then (some false)
                                                  else ((laws_heldInt64S.f (r333.2.1, (1 : Int))).bind fun (r343 : Int) =>
                                                    (bif (decide (r343 < (0 : Int))) then (some false)
                                                      else (bif (r343 != r333.1) then (some false)
                                                        else (some true))))))))))))))))))))))))))))) :=
  (fnOf_eq laws_FnExactQualifiers.E [] Try.f8 [.imm (.sl (.int .i64)), .imm (.int .i64)] [(.bool, .sh)] (aScores0, aN1)).trans (by kernel_rfl)

/-! laws_FnExactShareOfPrizes -/
noncomputable def laws_FnExactShareOfPrizes.E : Env := ⟨TT, [laws_toInt64S.m, spec_ShareOfPrizes.m, impl_ShareOfPrizes.m, laws_eqChanceS.m, laws_eqInt64S.m, laws_markInt64S_1.m, laws_markChanceS_1.m, laws_heldChanceS.m], []⟩
noncomputable def laws_FnExactShareOfPrizes.f : (List Int) × List Int → Option Bool := fnOf laws_FnExactShareOfPrizes.E [] Try.f10 [.imm (.sl (.int .i64)), .imm (.sl (.int .i64))] [(.bool, .sh)]
noncomputable def laws_FnExactShareOfPrizes.m : FM := ⟨10, [.imm (.sl (.int .i64)), .imm (.sl (.int .i64))], [(.bool, .sh)], laws_FnExactShareOfPrizes.f⟩
theorem laws_FnExactShareOfPrizes.sound : Sound Try.prog laws_FnExactShareOfPrizes.m := sound_of (E := laws_FnExactShareOfPrizes.E) tok ⟨laws_toInt64S.sound, spec_ShareOfPrizes.sound, impl_ShareOfPrizes.sound, laws_eqChanceS.sound, laws_eqInt64S.sound, laws_markInt64S_1.sound, laws_markChanceS_1.sound, laws_heldChanceS.sound, trivial⟩ mix Try.func10 (by kernel_rfl)
theorem laws_FnExactShareOfPrizes.eq (aScores0 : List Int) (aPrizes1 : List Int) : laws_FnExactShareOfPrizes.f (aScores0, aPrizes1) =
  (bif (decide (((List.length aScores0) : Int) > (1048576 : Int))) then (some true)
  else (bif (decide (((List.length aPrizes1) : Int) > (1048576 : Int))) then (some true)
    else ((laws_toInt64S.f aScores0).bind fun (r347 : List Int) =>
      ((laws_toInt64S.f aPrizes1).bind fun (r349 : List Int) =>
        ((spec_ShareOfPrizes.f (r347, r349)).bind fun (r398 : (List (Int × Int)) × Int) =>
          ((laws_toInt64S.f aScores0).bind fun (r400 : List Int) =>
            ((laws_toInt64S.f aPrizes1).bind fun (r402 : List Int) =>
              ((impl_ShareOfPrizes.f (r400, r402)).bind fun (r463 : (List (Int × Int)) × Int) =>
                ((laws_eqChanceS.f (r463.1, r398.1)).bind fun (r474 : Bool) =>
                  (bif (!r474) then (some false)
                    else (bif (r463.2 != r398.2) then (some false)
                      else ((laws_toInt64S.f aScores0).bind fun (r476 : List Int) =>
                        ((laws_eqInt64S.f (r400, r476)).bind fun (r478 : Bool) =>
                          (bif (!r478) then (some false)
                            else ((laws_toInt64S.f aPrizes1).bind fun (r480 : List Int) =>
                              ((laws_eqInt64S.f (r402, r480)).bind fun (r482 : Bool) =>
                                (bif (!r482) then (some false)
                                  else ((laws_markInt64S_1.f (r400, (1 : Int))).bind fun (r484 : Int × (List Int) × Unit) =>
                                    ((laws_markInt64S_1.f (r402, r484.1)).bind fun (r486 : Int × (List Int) × Unit) =>
                                      (bif (decide (r486.1 < (0 : Int))) then (some false)
                                        else ((laws_eqChanceS.f (r463.1, r398.1)).bind fun (r488 : Bool) =>
                                          (bif (!r488) then (some false)
                                            else (bif (r463.2 != r398.2) then (some false)
                                              else ((laws_markChanceS_1.f (r463.1, (1 : Int))).bind fun (r500 : Int × (List (Int × Int)) × Unit) =>
                                                ((laws_heldChanceS.f (r500.2.1, (1 : Int))).bind fun (r507 : Int) =>
                                                  (bif (decide (r507 < (0 : Int))) then (some false)
                                                    else (bif (r507 != r500.1) then (some false)
                                                      else ((laws_toInt64S.f aScores0).bind fun (r509 : List Int) =>
                                                        ((laws_toInt64S.f aPrizes1).bind fun (r511 : List Int) =>
                                                          ((impl_ShareOfPrizes.f (r509, r511)).bind fun (r513 : (List (Int × Int)) × Int) =>
                                                            ((laws_eqChanceS.f (r513.1, r398.1)).bind fun (r515 : Bool) =>
                                                              (bif (!r515) then (some false)
                                                                else (bif (r513.2 != r398.2) then (some false)
                                                                  else ((laws_heldChanceS.f (r500.2.1, (1 : Int))).bind fun (r517 : Int) =>
                                                                    (bif (decide (r517 < (0 : Int))) then (some false)
                                                                      else (bif (r517 != r500.1) then (some false)
                                                                        else (some true))))))))))))))))))))))))))))))))))))) :=
  (fnOf_eq laws_FnExactShareOfPrizes.E [] Try.f10 [.imm (.sl (.int .i64)), .imm (.sl (.int .i64))] [(.bool, .sh)] (aScores0, aPrizes1)).trans (by kernel_rfl)
end Go.Proofs.Ytkeockkepmljjaa
end

section
namespace Go.Proofs.Ytkeockkepmljjaa
open Go Go.Proofs Pl

theorem map_range_getD (a : List Int) (d : Int) : (List.range a.length).map (fun i => a.getD i d) = a := by
  apply List.ext_getElem?
  intro j
  by_cases h : j < a.length
  · simp [h, List.getD_eq_getElem?_getD]
  · rw [List.getElem?_eq_none (by simp; omega), List.getElem?_eq_none (by omega)]

theorem toInt64S_ok (a : List Int) (h : a.length ≤ 1048576) : laws_toInt64S.f a = some a := by
  have H := loop_set (fun (s : List Int) i => laws_toInt64S.l1 a (i : Int) s) a.length (fun i => a.getD i 0) (fun s i hs hi => by
    rw [laws_toInt64S.l1_eq]
    simp [hi, hs, w64s hi (by omega)]) (List.replicate a.length 0) (by simp)
  rw [map_range_getD, laws_toInt64S.l1_eq a a.length] at H
  have e : ((a.length : Int) ≤ 17592186044416) := by omega
  rw [laws_toInt64S.eq]
  simp only [Int.natCast_nonneg, Int.le_refl, e, decide_true, cond_true, Int.toNat_natCast]
  rw [show (0 : Int) = ((0 : Nat) : Int) from rfl]
  rw [show ((0 : Nat) : Int) = (0 : Int) from rfl] at H ⊢
  rw [H]
  simp

theorem eqInt64S_ok (a b : List Int) (h : a.length ≤ 1048576) : laws_eqInt64S.f (a, b) = some (decide (a = b)) := by
  rw [laws_eqInt64S.eq]
  by_cases hl : a.length = b.length
  · have H := loop_any (fun i => laws_eqInt64S.l1 a b (i : Int)) (List.range a.length) (fun i => a.getD i 0 != b.getD i 0) (some false) (fun i hi => by
      simp only [List.length_range] at hi
      rw [laws_eqInt64S.l1_eq]
      have hb := hi
      rw [hl] at hb
      simp [hi, hb, w64s hi (by omega), cond_ite])
    simp only [List.length_range] at H
    rw [laws_eqInt64S.l1_eq a b a.length] at H
    rw [show ((0 : Nat) : Int) = (0 : Int) from rfl] at H
    rw [H]
    have e : ((a.length : Int) != (b.length : Int)) = false := by simp [hl]
    rw [e, cond_false]
    simp only [Int.lt_irrefl, decide_false, cond_false]
    by_cases hab : a = b
    · subst hab; simp
    · rw [if_pos]
      · simp [hab]
      · rw [List.any_eq_true]
        apply Classical.byContradiction
        intro hn
        refine hab (List.ext_getElem hl fun i h1 h2 => ?_)
        apply Classical.byContradiction
        intro hne
        exact hn ⟨i, by simpa using h1, by simp [h1, h2, hne]⟩
  · have : a ≠ b := fun e => hl (by rw [e])
    have e : ((a.length : Int) != (b.length : Int)) = true := by simp; omega
    simp [e, this]

/-- A list of the numbers from k on. -/
def upFrom (k : Int) (n : Nat) : List Int := (List.range n).map fun (i : Nat) => k + (i : Int)

theorem markInt64S_ok (a : List Int) (k : Int) (h : a.length ≤ 1048576) (hk : 0 ≤ k ∧ k ≤ 4611686018427387904) : laws_markInt64S_1.f (a, k) = some (k + a.length, upFrom k a.length, ()) := by
  have H := loop_set (fun (s : List Int) i => laws_markInt64S_1.l1 (k + (i : Int)) (i : Int) s) a.length (fun i => k + (i : Int)) (fun s i hs hi => by
    rw [laws_markInt64S_1.l1_eq]
    have e : IntKind.wrap .i64 (k + (i : Int) + 1) = k + ((i + 1 : Nat) : Int) := by rw [w64 (by omega) (by omega)]; omega
    simp only [hs, w64s hi (show a.length ≤ 9223372036854775807 by omega), e]
    simp [hi]) a rfl
  rw [laws_markInt64S_1.eq]
  simp only [Int.natCast_zero, Int.ofNat_zero, Int.add_zero] at H
  rw [H, laws_markInt64S_1.l1_eq]
  simp [upFrom]

theorem heldInt64S_ok (a : List Int) (k : Int) (h : a.length ≤ 1048576) (hk : 0 ≤ k ∧ k ≤ 4611686018427387904) : laws_heldInt64S.f (upFrom k a.length, k) = some (k + a.length) := by
  have H := loop_any (fun i => laws_heldInt64S.l1 (upFrom k a.length) (k + (i : Int)) (i : Int)) (List.range a.length) (fun i => false) (some 0) (fun i hi => by
    simp only [List.length_range] at hi
    rw [laws_heldInt64S.l1_eq]
    have e : IntKind.wrap .i64 (k + (i : Int) + 1) = k + ((i + 1 : Nat) : Int) := by rw [w64 (by omega) (by omega)]; omega
    simp only [w64s hi (show a.length ≤ 9223372036854775807 by omega), e]
    simp [hi, upFrom])
  simp only [List.length_range, List.any_eq_true] at H
  rw [laws_heldInt64S.eq]
  simp only [Int.natCast_zero, Int.ofNat_zero, Int.add_zero] at H
  rw [H, laws_heldInt64S.l1_eq]
  simp [upFrom]
end Go.Proofs.Ytkeockkepmljjaa
end

section
namespace Go.Proofs.Ytkeockkepmljjaa
open Go Go.Proofs Pl

def okScore (n : Int) : Bool := decide (-1000000000 ≤ n) && decide (n ≤ 1000000000)
def okScores (l : List Int) : Bool := decide (l.length ≤ 64) && l.all okScore

theorem l01In_ok (n a b : Int) : spec_l01In.f (n, a, b) = some (decide (a ≤ n) && decide (n ≤ b)) := by
  rw [spec_l01In.eq]
  by_cases h : a ≤ n <;> simp [h]
theorem within_ok (n a b : Int) : impl_within.f (n, a, b) = some (decide (a ≤ n) && decide (n ≤ b)) := by
  rw [impl_within.eq]
  by_cases h : a ≤ n <;> simp [h]
theorem isRankScore_ok (n : Int) : impl_isRankScore.f n = some (okScore n) := by
  rw [impl_isRankScore.eq, within_ok]; rfl

theorem l33Scores_ok (l : List Int) (h : l.length ≤ 1048576) : spec_l33Scores.f l = some (okScores l) := by
  have H := loop_any (fun i => spec_l33Scores.l1 l (i : Int)) l (fun n => !okScore n) (some false) (fun i hi => by
    rw [spec_l33Scores.l1_eq]
    have e : (spec_l01In.f (l.getD i 0, -1000000000, 1000000000)) = some (okScore l[i]) := by rw [l01In_ok, getD_nat hi]; rfl
    simp only [Int.toNat_natCast, e, w64s hi (show l.length ≤ 9223372036854775807 by omega)]
    simp [hi, cond_ite])
  rw [spec_l33Scores.eq]
  simp only [Int.natCast_zero, Int.ofNat_zero] at H
  rw [H, spec_l33Scores.l1_eq]
  simp only [Int.lt_irrefl, decide_false, cond_false, okScores]
  by_cases ha : l.all okScore = true
  · have : l.any (fun n => !okScore n) = false := by rw [List.any_eq_false]; intro x hx; simp [List.all_eq_true.mp ha x hx]
    rw [this, ha]; simp; omega
  · have : l.any (fun n => !okScore n) = true := by
      simp only [List.all_eq_true, Classical.not_forall] at ha
      obtain ⟨x, hx, hn⟩ := ha
      rw [List.any_eq_true]
      exact ⟨x, hx, by simp [hn]⟩
    rw [this]; simp at ha; simp [ha]

theorem idx1_ok (l : List Int) (h : l.length ≤ 1048576) : slices_ContainsFunc_int64.f (l, ()) = some (l.any fun n => !okScore n) := by
  have H := loop_find (fun i => slices_IndexFunc_int64.l1 l l.length (i : Int)) l (fun n => !okScore n) (fun i => some (i : Int)) (fun i hi => by
    rw [slices_IndexFunc_int64.l1_eq]
    have e : impl_isScoreList_1.f (l.getD i 0) = some (!okScore l[i]) := by rw [impl_isScoreList_1.eq, isRankScore_ok, getD_nat hi]; rfl
    simp only [Int.toNat_natCast, e, w64s hi (show l.length ≤ 9223372036854775807 by omega)]
    simp [hi, cond_ite])
  rw [slices_ContainsFunc_int64.eq, slices_IndexFunc_int64.eq]
  simp only [Int.natCast_zero, Int.ofNat_zero] at H
  rw [H, slices_IndexFunc_int64.l1_eq]
  simp only [Int.lt_irrefl, decide_false, cond_false]
  cases hc : l.any fun n => !okScore n <;> simp

theorem isScoreList_ok (l : List Int) (h : l.length ≤ 1048576) : impl_isScoreList.f l = some (okScores l) := by
  rw [impl_isScoreList.eq, idx1_ok l h]
  unfold okScores
  by_cases h64 : l.length ≤ 64
  · have e : ((l.length : Int) ≤ 64) := by omega
    simp only [e, h64, decide_true, cond_true, Option.bind_some, Bool.true_and, List.not_any_eq_all_not, Bool.not_not]
  · have e : ¬ ((l.length : Int) ≤ 64) := by omega
    simp [e, h64]

/-- The rank of a score. -/
def rk (l : List Int) (a : Int) : Int := 1 + (l.countP fun b => decide (a < b) : Nat)
def ranks (l : List Int) : List Int := l.map (rk l)

theorem count_fold (p : Int → Bool) (l : List Int) (n : Int) : l.foldl (fun s b => s + if p b = true then 1 else 0) n = n + (l.countP p : Nat) := by
  induction l generalizing n with
  | nil => simp
  | cons b l ih =>
    rw [List.foldl_cons, ih, List.countP_cons]
    cases hp : p b
    · simp
    · simp; omega

theorem l33Ranks_ok (l : List Int) (h : l.length ≤ 1048576) : spec_l33Ranks.f l = some (ranks l) := by
  -- one score's rank
  have inner : ∀ (i : Nat) (out : List Int) (hi : i < l.length), spec_l33Ranks.l2 l (i : Int) 1 0 out = spec_l33Ranks.l2 l (i : Int) (rk l l[i]) (l.length : Int) out := by
    intro i out hi
    have H := loop_fold (fun (s : Int) k => spec_l33Ranks.l2 l (i : Int) s (k : Int) out) l (fun s b => s + if decide (l[i] < b) = true then 1 else 0) (fun k s => 0 ≤ s ∧ s ≤ 1 + k) (fun k s hs hk => by
      rw [spec_l33Ranks.l2_eq]
      have e1 : IntKind.wrap .i64 (s + 1) = s + 1 := w64 (by omega) (by omega)
      simp only [Int.toNat_natCast, getD_nat hk, getD_nat hi, e1, spec_l33Ranks.l3_eq, w64s hk (show l.length ≤ 9223372036854775807 by omega)]
      by_cases hlt : l[i] < l[k]
      · simp [hk, hi, hlt]; omega
      · simp [hk, hi, hlt]; omega) 1 (by omega)
    rw [count_fold] at H
    exact H.1
  have H := loop_fold (fun (s : List Int) i => spec_l33Ranks.l1 l (i : Int) s) l (fun s x => s ++ [rk l x]) (fun i s => s.length = i) (fun i s hs hi => by
    refine ⟨?_, by simp [hs]⟩
    rw [spec_l33Ranks.l1_eq]
    simp only [Int.ofNat_lt, hi, decide_true, cond_true]
    rw [inner i s hi, spec_l33Ranks.l2_eq]
    have e : s.length + 1 ≤ 17592186044416 := by omega
    simp [e, w64s hi (show l.length ≤ 9223372036854775807 by omega)]) [] rfl
  rw [foldl_snoc] at H
  rw [spec_l33Ranks.eq]
  have H := H.1
  simp only [Int.natCast_zero, Int.ofNat_zero] at H
  rw [H, spec_l33Ranks.l1_eq]
  simp [ranks]

theorem flag_ok (b : Bool) : impl_flag.f b = some (if b = true then 1 else 0) := by rw [impl_flag.eq]; cases b <;> rfl

theorem rankScores_ok (l : List Int) (h : l.length ≤ 1048576) : impl_rankScores.f l = some (ranks l) := by
  have inner : ∀ (a : Int) (i : Nat) (out : List Int), impl_rankScores.l2 l a 1 l l.length (i : Int) l l.length 0 out = impl_rankScores.l2 l a (rk l a) l l.length (i : Int) l l.length (l.length : Int) out := by
    intro a i out
    have H := loop_fold (fun (s : Int) k => impl_rankScores.l2 l a s l l.length (i : Int) l l.length (k : Int) out) l (fun s b => s + if decide (a < b) = true then 1 else 0) (fun k s => 0 ≤ s ∧ s ≤ 1 + k) (fun k s hs hk => by
      rw [impl_rankScores.l2_eq]
      have e2 : (if decide (l[k] > a) = true then (1 : Int) else 0) = (if decide (a < l[k]) = true then 1 else 0) := rfl
      have e1 : ∀ b : Bool, IntKind.wrap .i64 (s + if b = true then 1 else 0) = s + if b = true then 1 else 0 := fun b => w64 (by split <;> omega) (by split <;> omega)
      simp only [Int.toNat_natCast, getD_nat hk, flag_ok, Option.bind_some, e1, w64s hk (show l.length ≤ 9223372036854775807 by omega), e2]
      refine ⟨by simp [hk], ?_⟩
      split <;> omega) 1 (by omega)
    rw [count_fold] at H
    exact H.1
  have H := loop_fold (fun (s : List Int) i => impl_rankScores.l1 l l l.length (i : Int) s) l (fun s x => s ++ [rk l x]) (fun i s => s.length = i) (fun i s hs hi => by
    refine ⟨?_, by simp [hs]⟩
    rw [impl_rankScores.l1_eq]
    simp only [Int.ofNat_lt, hi, decide_true, cond_true, Int.natCast_nonneg, Int.toNat_natCast, getD_nat hi]
    rw [inner, impl_rankScores.l2_eq]
    have e : s.length + 1 ≤ 17592186044416 := by omega
    simp [e, w64s hi (show l.length ≤ 9223372036854775807 by omega)]) [] rfl
  rw [foldl_snoc] at H
  rw [impl_rankScores.eq]
  have H := H.1
  simp only [Int.natCast_zero, Int.ofNat_zero] at H
  rw [H, impl_rankScores.l1_eq]
  simp [ranks]

theorem spec_RankScores_ok (l : List Int) (h : l.length ≤ 1048576) : spec_RankScores.f l = some (if okScores l = true then ranks l else []) := by
  rw [spec_RankScores.eq, l33Scores_ok l h, l33Ranks_ok l h]
  cases okScores l <;> rfl
theorem impl_RankScores_ok (l : List Int) (h : l.length ≤ 1048576) : impl_RankScores.f l = some (if okScores l = true then ranks l else []) := by
  rw [impl_RankScores.eq, isScoreList_ok l h, rankScores_ok l h]
  cases okScores l <;> rfl
theorem ranks_len (l : List Int) : (ranks l).length = l.length := by simp [ranks]
end Go.Proofs.Ytkeockkepmljjaa
end

