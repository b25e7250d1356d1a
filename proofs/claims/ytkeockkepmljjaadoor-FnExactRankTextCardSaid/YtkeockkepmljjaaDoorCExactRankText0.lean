/- The law FnExactRankText: for every input its call returns true and its arguments read as before. No condition besides what the row itself says. Here: functions of the program as plain functions, and plain lemmas. -/
import Derived.Test.YtkeockkepmljjaaDoorEv2
import Derived.KernelRfl
import Derived.Test.YtkeockkepmljjaaDoorProg
import Derived.KernelRfl
import Derived.Test.YtkeockkepmljjaaDoorProg
import Derived.RowKit
import Derived.RowKit
import Derived.Test.YtkeockkepmljjaaDoorCards
import Derived.Test.YtkeockkepmljjaaDoorTie
import Derived.WalkKit
import Derived.ProofKit
import Derived.OpenShut
import Derived.ShutString
import Derived.ChangeOld
import Derived.Below
import Derived.SizedLaws
import Derived.Deep.DeepHandedRow
import Derived.Lib.LaidTab
import Derived.Test.YtkeockkepmljjaaDoorCards
import Derived.Test.YtkeockkepmljjaaDoorTie
import Derived.WalkKit
import Derived.ProofKit
import Derived.OpenShut
import Derived.ShutString
import Derived.ChangeOld
import Derived.Below
import Derived.SizedLaws
import Derived.Deep.DeepHandedRow
import Derived.Lib.LaidTab
set_option linter.unusedVariables false
set_option linter.unusedSimpArgs false
set_option maxRecDepth 100000
section
namespace Go.Proofs.YtkeockkepmljjaaDoor
open Go Ev Go.Proofs
def TL : List (Nat × TI) := [(2, ⟨.int .i64, 8, 1, false, some (.int .i64)⟩),
  (3, ⟨.int .i64, 8, 1, false, some (.int .i64)⟩),
  (4, ⟨.bool, 1, 1, false, some .bool⟩),
  (5, ⟨.int .u8, 1, 1, false, some (.int .u8)⟩),
  (6, ⟨.int .u8, 1, 1, false, some (.int .u8)⟩),
  (7, ⟨.struct [(2, 0), (3, 1), (4, 2), (6, 3)], 24, 4, true, some (.st (.pair (.int .i64) (.pair (.int .i64) (.pair .bool (.int .u8)))))⟩),
  (8, ⟨.struct [(2, 0), (3, 1), (4, 2), (6, 3)], 24, 4, true, some (.st (.pair (.int .i64) (.pair (.int .i64) (.pair .bool (.int .u8)))))⟩),
  (9, ⟨.str, 16, 1, false, some .str⟩),
  (10, ⟨.str, 16, 1, false, some .str⟩),
  (11, ⟨.str, 16, 1, false, some .str⟩),
  (12, ⟨.int .u64, 8, 1, false, some (.int .u64)⟩),
  (13, ⟨.struct [(9, 0), (12, 1)], 24, 2, true, none⟩),
  (14, ⟨.struct [(9, 0), (12, 1)], 24, 2, true, none⟩),
  (15, ⟨.ptr 57, 8, 1, false, none⟩),
  (16, ⟨.ptr 60, 8, 1, false, none⟩),
  (17, ⟨.ptr 69, 8, 1, false, none⟩),
  (18, ⟨.struct [(17, 0)], 8, 1, true, none⟩),
  (19, ⟨.struct [(17, 0)], 8, 1, true, none⟩),
  (21, ⟨.int .i32, 4, 1, false, some (.int .i32)⟩),
  (22, ⟨.slice 2, 24, 1, false, some (.sl (.int .i64))⟩),
  (31, ⟨.slice 5, 24, 1, false, some (.sl (.int .u8))⟩),
  (38, ⟨.array 24 5, 24, 24, true, some (.arr 24 (.int .u8))⟩),
  (39, ⟨.int .u64, 8, 1, false, some (.int .u64)⟩),
  (46, ⟨.array 20 39, 160, 20, true, some (.arr 20 (.int .u64))⟩),
  (47, ⟨.int .u32, 4, 1, false, some (.int .u32)⟩),
  (48, ⟨.array 65 5, 65, 65, true, some (.arr 65 (.int .u8))⟩),
  (50, ⟨.int .u64, 8, 1, false, some (.int .u64)⟩),
  (53, ⟨.array 32 5, 32, 32, true, some (.arr 32 (.int .u8))⟩),
  (54, ⟨.array 64 5, 64, 64, true, some (.arr 64 (.int .u8))⟩),
  (56, ⟨.struct [(17, 0), (17, 1), (17, 2), (9, 3)], 40, 4, true, none⟩),
  (57, ⟨.struct [(17, 0), (17, 1), (17, 2), (9, 3)], 40, 4, true, none⟩),
  (58, ⟨.array 0 16, 0, 0, true, none⟩),
  (59, ⟨.struct [(58, 0)], 0, 0, true, none⟩),
  (60, ⟨.struct [(58, 0)], 0, 0, true, none⟩),
  (62, ⟨.int .u8, 1, 1, false, some (.int .u8)⟩),
  (63, ⟨.int .u8, 1, 1, false, some (.int .u8)⟩),
  (65, ⟨.ptr 5, 8, 1, false, none⟩),
  (66, ⟨.int .i32, 4, 1, false, some (.int .i32)⟩),
  (67, ⟨.int .i32, 4, 1, false, some (.int .i32)⟩),
  (68, ⟨.struct [(12, 0), (12, 1), (47, 2), (62, 3), (5, 4), (5, 5), (63, 6), (64, 7), (65, 8), (66, 9), (67, 10)], 48, 11, true, none⟩),
  (69, ⟨.struct [(12, 0), (12, 1), (47, 2), (62, 3), (5, 4), (5, 5), (63, 6), (64, 7), (65, 8), (66, 9), (67, 10)], 48, 11, true, none⟩)]
def TT : TypeId → Option TI := fun t => ttGet t TL
theorem tone2 : TOne Tryd.prog 2 ⟨.int .i64, 8, 1, false, some (.int .i64)⟩ := ⟨⟨_, rfl, rfl, rfl, fun τ h => by cases h; exact ⟨rfl, rfl, rfl, _, rfl, valOf_one rfl rfl⟩⟩, ⟨_, rfl, .int _, rfl⟩, fun _ => rfl, (fun gs h => by cases h)⟩
theorem tone3 : TOne Tryd.prog 3 ⟨.int .i64, 8, 1, false, some (.int .i64)⟩ := ⟨⟨_, rfl, rfl, rfl, fun τ h => by cases h; exact ⟨rfl, rfl, rfl, _, rfl, valOf_one rfl rfl⟩⟩, ⟨_, rfl, .int _, rfl⟩, fun _ => rfl, (fun gs h => by cases h)⟩
theorem tone4 : TOne Tryd.prog 4 ⟨.bool, 1, 1, false, some .bool⟩ := ⟨⟨_, rfl, rfl, rfl, fun τ h => by cases h; exact ⟨rfl, rfl, rfl, _, rfl, valOf_one rfl rfl⟩⟩, ⟨_, rfl, .bool, rfl⟩, fun _ => rfl, (fun gs h => by cases h)⟩
theorem tone5 : TOne Tryd.prog 5 ⟨.int .u8, 1, 1, false, some (.int .u8)⟩ := ⟨⟨_, rfl, rfl, rfl, fun τ h => by cases h; exact ⟨rfl, rfl, rfl, _, rfl, valOf_one rfl rfl⟩⟩, ⟨_, rfl, .int _, rfl⟩, fun _ => rfl, (fun gs h => by cases h)⟩
theorem tone6 : TOne Tryd.prog 6 ⟨.int .u8, 1, 1, false, some (.int .u8)⟩ := ⟨⟨_, rfl, rfl, rfl, fun τ h => by cases h; exact ⟨rfl, rfl, rfl, _, rfl, valOf_one rfl rfl⟩⟩, ⟨_, rfl, .int _, rfl⟩, fun _ => rfl, (fun gs h => by cases h)⟩
theorem tone7 : TOne Tryd.prog 7 ⟨.struct [(2, 0), (3, 1), (4, 2), (6, 3)], 24, 4, true, some (.st (.pair (.int .i64) (.pair (.int .i64) (.pair .bool (.int .u8)))))⟩ := ⟨⟨_, rfl, rfl, rfl, fun τ h => by cases h; exact ⟨rfl, rfl, rfl, _, rfl, valOf_agg rfl rfl⟩⟩, ⟨_, rfl, .struct _ _ rfl, rfl⟩, (fun h => by cases h), fun gs h _ => ⟨by kernel_rfl, by kernel_rfl, fun fs h => by cases h; rfl⟩⟩
theorem tone8 : TOne Tryd.prog 8 ⟨.struct [(2, 0), (3, 1), (4, 2), (6, 3)], 24, 4, true, some (.st (.pair (.int .i64) (.pair (.int .i64) (.pair .bool (.int .u8)))))⟩ := ⟨⟨_, rfl, rfl, rfl, fun τ h => by cases h; exact ⟨rfl, rfl, rfl, _, rfl, valOf_agg rfl rfl⟩⟩, ⟨_, rfl, .struct _ _ rfl, rfl⟩, (fun h => by cases h), fun gs h _ => ⟨by kernel_rfl, by kernel_rfl, fun fs h => by cases h; rfl⟩⟩
theorem tone9 : TOne Tryd.prog 9 ⟨.str, 16, 1, false, some .str⟩ := ⟨⟨_, rfl, rfl, rfl, fun τ h => by cases h; exact ⟨rfl, rfl, rfl, _, rfl, valOf_one rfl rfl⟩⟩, ⟨_, rfl, .str, rfl⟩, fun _ => rfl, (fun gs h => by cases h)⟩
theorem tone10 : TOne Tryd.prog 10 ⟨.str, 16, 1, false, some .str⟩ := ⟨⟨_, rfl, rfl, rfl, fun τ h => by cases h; exact ⟨rfl, rfl, rfl, _, rfl, valOf_one rfl rfl⟩⟩, ⟨_, rfl, .str, rfl⟩, fun _ => rfl, (fun gs h => by cases h)⟩
theorem tone11 : TOne Tryd.prog 11 ⟨.str, 16, 1, false, some .str⟩ := ⟨⟨_, rfl, rfl, rfl, fun τ h => by cases h; exact ⟨rfl, rfl, rfl, _, rfl, valOf_one rfl rfl⟩⟩, ⟨_, rfl, .str, rfl⟩, fun _ => rfl, (fun gs h => by cases h)⟩
theorem tone12 : TOne Tryd.prog 12 ⟨.int .u64, 8, 1, false, some (.int .u64)⟩ := ⟨⟨_, rfl, rfl, rfl, fun τ h => by cases h; exact ⟨rfl, rfl, rfl, _, rfl, valOf_one rfl rfl⟩⟩, ⟨_, rfl, .int _, rfl⟩, fun _ => rfl, (fun gs h => by cases h)⟩
theorem tone13 : TOne Tryd.prog 13 ⟨.struct [(9, 0), (12, 1)], 24, 2, true, none⟩ := ⟨⟨_, rfl, rfl, rfl, fun τ h => by cases h⟩, ⟨_, rfl, .struct _ _ rfl, rfl⟩, (fun h => by cases h), (fun gs h k => by cases k)⟩
theorem tone14 : TOne Tryd.prog 14 ⟨.struct [(9, 0), (12, 1)], 24, 2, true, none⟩ := ⟨⟨_, rfl, rfl, rfl, fun τ h => by cases h⟩, ⟨_, rfl, .struct _ _ rfl, rfl⟩, (fun h => by cases h), (fun gs h k => by cases k)⟩
theorem tone15 : TOne Tryd.prog 15 ⟨.ptr 57, 8, 1, false, none⟩ := ⟨⟨_, rfl, rfl, rfl, fun τ h => by cases h⟩, ⟨_, rfl, .ptr _, rfl⟩, fun _ => rfl, (fun gs h => by cases h)⟩
theorem tone16 : TOne Tryd.prog 16 ⟨.ptr 60, 8, 1, false, none⟩ := ⟨⟨_, rfl, rfl, rfl, fun τ h => by cases h⟩, ⟨_, rfl, .ptr _, rfl⟩, fun _ => rfl, (fun gs h => by cases h)⟩
theorem tone17 : TOne Tryd.prog 17 ⟨.ptr 69, 8, 1, false, none⟩ := ⟨⟨_, rfl, rfl, rfl, fun τ h => by cases h⟩, ⟨_, rfl, .ptr _, rfl⟩, fun _ => rfl, (fun gs h => by cases h)⟩
theorem tone18 : TOne Tryd.prog 18 ⟨.struct [(17, 0)], 8, 1, true, none⟩ := ⟨⟨_, rfl, rfl, rfl, fun τ h => by cases h⟩, ⟨_, rfl, .struct _ _ rfl, rfl⟩, (fun h => by cases h), (fun gs h k => by cases k)⟩
theorem tone19 : TOne Tryd.prog 19 ⟨.struct [(17, 0)], 8, 1, true, none⟩ := ⟨⟨_, rfl, rfl, rfl, fun τ h => by cases h⟩, ⟨_, rfl, .struct _ _ rfl, rfl⟩, (fun h => by cases h), (fun gs h k => by cases k)⟩
theorem tone21 : TOne Tryd.prog 21 ⟨.int .i32, 4, 1, false, some (.int .i32)⟩ := ⟨⟨_, rfl, rfl, rfl, fun τ h => by cases h; exact ⟨rfl, rfl, rfl, _, rfl, valOf_one rfl rfl⟩⟩, ⟨_, rfl, .int _, rfl⟩, fun _ => rfl, (fun gs h => by cases h)⟩
theorem tone22 : TOne Tryd.prog 22 ⟨.slice 2, 24, 1, false, some (.sl (.int .i64))⟩ := ⟨⟨_, rfl, rfl, rfl, fun τ h => by cases h; exact ⟨rfl, rfl, rfl, _, rfl, valOf_one rfl rfl⟩⟩, ⟨_, rfl, .slice _, rfl⟩, fun _ => rfl, (fun gs h => by cases h)⟩
theorem tone31 : TOne Tryd.prog 31 ⟨.slice 5, 24, 1, false, some (.sl (.int .u8))⟩ := ⟨⟨_, rfl, rfl, rfl, fun τ h => by cases h; exact ⟨rfl, rfl, rfl, _, rfl, valOf_one rfl rfl⟩⟩, ⟨_, rfl, .slice _, rfl⟩, fun _ => rfl, (fun gs h => by cases h)⟩
theorem tone38 : TOne Tryd.prog 38 ⟨.array 24 5, 24, 24, true, some (.arr 24 (.int .u8))⟩ := ⟨⟨_, rfl, rfl, rfl, fun τ h => by cases h; exact ⟨rfl, rfl, rfl, _, rfl, valOf_agg rfl rfl⟩⟩, ⟨_, rfl, .array _ _, rfl⟩, (fun h => by cases h), (fun gs h => by cases h)⟩
theorem tone39 : TOne Tryd.prog 39 ⟨.int .u64, 8, 1, false, some (.int .u64)⟩ := ⟨⟨_, rfl, rfl, rfl, fun τ h => by cases h; exact ⟨rfl, rfl, rfl, _, rfl, valOf_one rfl rfl⟩⟩, ⟨_, rfl, .int _, rfl⟩, fun _ => rfl, (fun gs h => by cases h)⟩
theorem tone46 : TOne Tryd.prog 46 ⟨.array 20 39, 160, 20, true, some (.arr 20 (.int .u64))⟩ := ⟨⟨_, rfl, rfl, rfl, fun τ h => by cases h; exact ⟨rfl, rfl, rfl, _, rfl, valOf_agg rfl rfl⟩⟩, ⟨_, rfl, .array _ _, rfl⟩, (fun h => by cases h), (fun gs h => by cases h)⟩
theorem tone47 : TOne Tryd.prog 47 ⟨.int .u32, 4, 1, false, some (.int .u32)⟩ := ⟨⟨_, rfl, rfl, rfl, fun τ h => by cases h; exact ⟨rfl, rfl, rfl, _, rfl, valOf_one rfl rfl⟩⟩, ⟨_, rfl, .int _, rfl⟩, fun _ => rfl, (fun gs h => by cases h)⟩
theorem tone48 : TOne Tryd.prog 48 ⟨.array 65 5, 65, 65, true, some (.arr 65 (.int .u8))⟩ := ⟨⟨_, rfl, rfl, rfl, fun τ h => by cases h; exact ⟨rfl, rfl, rfl, _, rfl, valOf_agg rfl rfl⟩⟩, ⟨_, rfl, .array _ _, rfl⟩, (fun h => by cases h), (fun gs h => by cases h)⟩
theorem tone50 : TOne Tryd.prog 50 ⟨.int .u64, 8, 1, false, some (.int .u64)⟩ := ⟨⟨_, rfl, rfl, rfl, fun τ h => by cases h; exact ⟨rfl, rfl, rfl, _, rfl, valOf_one rfl rfl⟩⟩, ⟨_, rfl, .int _, rfl⟩, fun _ => rfl, (fun gs h => by cases h)⟩
theorem tone53 : TOne Tryd.prog 53 ⟨.array 32 5, 32, 32, true, some (.arr 32 (.int .u8))⟩ := ⟨⟨_, rfl, rfl, rfl, fun τ h => by cases h; exact ⟨rfl, rfl, rfl, _, rfl, valOf_agg rfl rfl⟩⟩, ⟨_, rfl, .array _ _, rfl⟩, (fun h => by cases h), (fun gs h => by cases h)⟩
theorem tone54 : TOne Tryd.prog 54 ⟨.array 64 5, 64, 64, true, some (.arr 64 (.int .u8))⟩ := ⟨⟨_, rfl, rfl, rfl, fun τ h => by cases h; exact ⟨rfl, rfl, rfl, _, rfl, valOf_agg rfl rfl⟩⟩, ⟨_, rfl, .array _ _, rfl⟩, (fun h => by cases h), (fun gs h => by cases h)⟩
theorem tone56 : TOne Tryd.prog 56 ⟨.struct [(17, 0), (17, 1), (17, 2), (9, 3)], 40, 4, true, none⟩ := ⟨⟨_, rfl, rfl, rfl, fun τ h => by cases h⟩, ⟨_, rfl, .struct _ _ rfl, rfl⟩, (fun h => by cases h), (fun gs h k => by cases k)⟩
theorem tone57 : TOne Tryd.prog 57 ⟨.struct [(17, 0), (17, 1), (17, 2), (9, 3)], 40, 4, true, none⟩ := ⟨⟨_, rfl, rfl, rfl, fun τ h => by cases h⟩, ⟨_, rfl, .struct _ _ rfl, rfl⟩, (fun h => by cases h), (fun gs h k => by cases k)⟩
theorem tone58 : TOne Tryd.prog 58 ⟨.array 0 16, 0, 0, true, none⟩ := ⟨⟨_, rfl, rfl, rfl, fun τ h => by cases h⟩, ⟨_, rfl, .array _ _, rfl⟩, (fun h => by cases h), (fun gs h => by cases h)⟩
theorem tone59 : TOne Tryd.prog 59 ⟨.struct [(58, 0)], 0, 0, true, none⟩ := ⟨⟨_, rfl, rfl, rfl, fun τ h => by cases h⟩, ⟨_, rfl, .struct _ _ rfl, rfl⟩, (fun h => by cases h), (fun gs h k => by cases k)⟩
theorem tone60 : TOne Tryd.prog 60 ⟨.struct [(58, 0)], 0, 0, true, none⟩ := ⟨⟨_, rfl, rfl, rfl, fun τ h => by cases h⟩, ⟨_, rfl, .struct _ _ rfl, rfl⟩, (fun h => by cases h), (fun gs h k => by cases k)⟩
theorem tone62 : TOne Tryd.prog 62 ⟨.int .u8, 1, 1, false, some (.int .u8)⟩ := ⟨⟨_, rfl, rfl, rfl, fun τ h => by cases h; exact ⟨rfl, rfl, rfl, _, rfl, valOf_one rfl rfl⟩⟩, ⟨_, rfl, .int _, rfl⟩, fun _ => rfl, (fun gs h => by cases h)⟩
theorem tone63 : TOne Tryd.prog 63 ⟨.int .u8, 1, 1, false, some (.int .u8)⟩ := ⟨⟨_, rfl, rfl, rfl, fun τ h => by cases h; exact ⟨rfl, rfl, rfl, _, rfl, valOf_one rfl rfl⟩⟩, ⟨_, rfl, .int _, rfl⟩, fun _ => rfl, (fun gs h => by cases h)⟩
theorem tone65 : TOne Tryd.prog 65 ⟨.ptr 5, 8, 1, false, none⟩ := ⟨⟨_, rfl, rfl, rfl, fun τ h => by cases h⟩, ⟨_, rfl, .ptr _, rfl⟩, fun _ => rfl, (fun gs h => by cases h)⟩
theorem tone66 : TOne Tryd.prog 66 ⟨.int .i32, 4, 1, false, some (.int .i32)⟩ := ⟨⟨_, rfl, rfl, rfl, fun τ h => by cases h; exact ⟨rfl, rfl, rfl, _, rfl, valOf_one rfl rfl⟩⟩, ⟨_, rfl, .int _, rfl⟩, fun _ => rfl, (fun gs h => by cases h)⟩
theorem tone67 : TOne Tryd.prog 67 ⟨.int .i32, 4, 1, false, some (.int .i32)⟩ := ⟨⟨_, rfl, rfl, rfl, fun τ h => by cases h; exact ⟨rfl, rfl, rfl, _, rfl, valOf_one rfl rfl⟩⟩, ⟨_, rfl, .int _, rfl⟩, fun _ => rfl, (fun gs h => by cases h)⟩
theorem tone68 : TOne Tryd.prog 68 ⟨.struct [(12, 0), (12, 1), (47, 2), (62, 3), (5, 4), (5, 5), (63, 6), (64, 7), (65, 8), (66, 9), (67, 10)], 48, 11, true, none⟩ := ⟨⟨_, rfl, rfl, rfl, fun τ h => by cases h⟩, ⟨_, rfl, .struct _ _ rfl, rfl⟩, (fun h => by cases h), (fun gs h k => by cases k)⟩
theorem tone69 : TOne Tryd.prog 69 ⟨.struct [(12, 0), (12, 1), (47, 2), (62, 3), (5, 4), (5, 5), (63, 6), (64, 7), (65, 8), (66, 9), (67, 10)], 48, 11, true, none⟩ := ⟨⟨_, rfl, rfl, rfl, fun τ h => by cases h⟩, ⟨_, rfl, .struct _ _ rfl, rfl⟩, (fun h => by cases h), (fun gs h k => by cases k)⟩
theorem tok : TOk Tryd.prog TT := tok_of (l := TL) ⟨tone2, tone3, tone4, tone5, tone6, tone7, tone8, tone9, tone10, tone11, tone12, tone13, tone14, tone15, tone16, tone17, tone18, tone19, tone21, tone22, tone31, tone38, tone39, tone46, tone47, tone48, tone50, tone53, tone54, tone56, tone57, tone58, tone59, tone60, tone62, tone63, tone65, tone66, tone67, tone68, tone69, trivial⟩
theorem mix : Tryd.prog.follows .mixedOrders = true := rfl
end Go.Proofs.YtkeockkepmljjaaDoor
end

section
namespace Go.Proofs.YtkeockkepmljjaaDoor
open Go Ev Go.Proofs
set_option maxRecDepth 100000

/-! laws_toInt64S -/
noncomputable def laws_toInt64S.E : Env := ⟨TT, [], []⟩
noncomputable def laws_toInt64S.f : List Int → Option (List Int) := fnOf laws_toInt64S.E [] Tryd.f5 [.imm (.sl (.int .i64))] [((.sl (.int .i64)), (.sl .sh))]
noncomputable def laws_toInt64S.m : FM := ⟨5, [.imm (.sl (.int .i64))], [((.sl (.int .i64)), (.sl .sh))], laws_toInt64S.f⟩
theorem laws_toInt64S.sound : Sound Tryd.prog laws_toInt64S.m := sound_of (E := laws_toInt64S.E) tok trivial mix Tryd.func5 (by kernel_rfl)
noncomputable def laws_toInt64S.l1 (a0 : List Int) (i4 : Int) (out3 : List Int) : Option (List Int) := runOf laws_toInt64S.E [] Tryd.f5 [.imm (.sl (.int .i64))] [((.sl (.int .i64)), (.sl .sh))] 1 ⟨[(0, [.imm (.sl (.int .i64)) a0]), (3, [.ref 0 [] 0]), (4, [.imm (.int .i64) i4])], [(0, ⟨(.sl (.int .i64)), out3, (.sl .sh), false, false, 0⟩)], 1⟩
theorem laws_toInt64S.l1_eq (a0 : List Int) (i4 : Int) (out3 : List Int) : laws_toInt64S.l1 a0 i4 out3 =
  (bif (decide (i4 < ((List.length a0) : Int))) then (bif (decide ((0 : Int) ≤ i4)) then (bif (decide (i4 < ((List.length a0) : Int))) then (bif (decide ((0 : Int) ≤ i4)) then (bif (decide (i4 < ((List.length out3) : Int))) then (laws_toInt64S.l1 a0 (IntKind.wrap .i64 (i4 + (1 : Int))) (List.set out3 (Int.toNat i4) (List.getD a0 (Int.toNat i4) (0 : Int))))
          else none)
        else none)
      else none)
    else none)
  else (some out3)) :=
  (runOf_eq laws_toInt64S.E [] Tryd.f5 [.imm (.sl (.int .i64))] [((.sl (.int .i64)), (.sl .sh))] 1 _).trans (by kernel_rfl)
theorem laws_toInt64S.eq (a0 : List Int) : laws_toInt64S.f a0 =
  (bif (decide ((0 : Int) ≤ ((List.length a0) : Int))) then (bif (decide (((List.length a0) : Int) ≤ ((List.length a0) : Int))) then (bif (decide (((List.length a0) : Int) ≤ (17592186044416 : Int))) then (laws_toInt64S.l1 a0 (0 : Int) (List.replicate (Int.toNat ((List.length a0) : Int)) (0 : Int)))
      else none)
    else none)
  else none) :=
  (fnOf_eq laws_toInt64S.E [] Tryd.f5 [.imm (.sl (.int .i64))] [((.sl (.int .i64)), (.sl .sh))] a0).trans (by kernel_rfl)

/-! spec_l01In -/
noncomputable def spec_l01In.E : Env := ⟨TT, [], []⟩
noncomputable def spec_l01In.f : Int × Int × Int → Option Bool := fnOf spec_l01In.E [] Tryd.f9 [.imm (.int .i64), .imm (.int .i64), .imm (.int .i64)] [(.bool, .sh)]
noncomputable def spec_l01In.m : FM := ⟨9, [.imm (.int .i64), .imm (.int .i64), .imm (.int .i64)], [(.bool, .sh)], spec_l01In.f⟩
theorem spec_l01In.sound : Sound Tryd.prog spec_l01In.m := sound_of (E := spec_l01In.E) tok trivial mix Tryd.func9 (by kernel_rfl)
theorem spec_l01In.eq (n0 : Int) (low1 : Int) (high2 : Int) : spec_l01In.f (n0, low1, high2) =
  (bif (decide (n0 ≥ low1)) then (some (decide (n0 ≤ high2)))
  else (some false)) :=
  (fnOf_eq spec_l01In.E [] Tryd.f9 [.imm (.int .i64), .imm (.int .i64), .imm (.int .i64)] [(.bool, .sh)] (n0, low1, high2)).trans (by kernel_rfl)

/-! spec_l33Ranks -/
noncomputable def spec_l33Ranks.E : Env := ⟨TT, [], []⟩
noncomputable def spec_l33Ranks.f : List Int → Option (List Int) := fnOf spec_l33Ranks.E [] Tryd.f11 [.imm (.sl (.int .i64))] [((.sl (.int .i64)), (.sl .sh))]
noncomputable def spec_l33Ranks.m : FM := ⟨11, [.imm (.sl (.int .i64))], [((.sl (.int .i64)), (.sl .sh))], spec_l33Ranks.f⟩
theorem spec_l33Ranks.sound : Sound Tryd.prog spec_l33Ranks.m := sound_of (E := spec_l33Ranks.E) tok trivial mix Tryd.func11 (by kernel_rfl)
noncomputable def spec_l33Ranks.l1 (scores0 : List Int) (i4 : Int) (out3 : List Int) : Option (List Int) := runOf spec_l33Ranks.E [] Tryd.f11 [.imm (.sl (.int .i64))] [((.sl (.int .i64)), (.sl .sh))] 1 ⟨[(0, [.imm (.sl (.int .i64)) scores0]), (3, [.ref 0 [] 0]), (4, [.imm (.int .i64) i4])], [(0, ⟨(.sl (.int .i64)), out3, (.sl .sh), false, false, 0⟩)], 1⟩
noncomputable def spec_l33Ranks.l2 (scores0 : List Int) (i4 : Int) (rank5 : Int) (k6 : Int) (out3 : List Int) : Option (List Int) := runOf spec_l33Ranks.E [] Tryd.f11 [.imm (.sl (.int .i64))] [((.sl (.int .i64)), (.sl .sh))] 2 ⟨[(0, [.imm (.sl (.int .i64)) scores0]), (3, [.ref 0 [] 0]), (4, [.imm (.int .i64) i4]), (5, [.imm (.int .i64) rank5]), (6, [.imm (.int .i64) k6])], [(0, ⟨(.sl (.int .i64)), out3, (.sl .sh), false, false, 0⟩)], 1⟩
noncomputable def spec_l33Ranks.l3 (scores0 : List Int) (i4 : Int) (rank5 : Int) (k6 : Int) (out3 : List Int) : Option (List Int) := runOf spec_l33Ranks.E [] Tryd.f11 [.imm (.sl (.int .i64))] [((.sl (.int .i64)), (.sl .sh))] 3 ⟨[(0, [.imm (.sl (.int .i64)) scores0]), (3, [.ref 0 [] 0]), (4, [.imm (.int .i64) i4]), (5, [.imm (.int .i64) rank5]), (6, [.imm (.int .i64) k6])], [(0, ⟨(.sl (.int .i64)), out3, (.sl .sh), false, false, 0⟩)], 1⟩
theorem spec_l33Ranks.l1_eq (scores0 : List Int) (i4 : Int) (out3 : List Int) : spec_l33Ranks.l1 scores0 i4 out3 =
  (bif (decide (i4 < ((List.length scores0) : Int))) then (spec_l33Ranks.l2 scores0 i4 (1 : Int) (0 : Int) out3)
  else (some out3)) :=
  (runOf_eq spec_l33Ranks.E [] Tryd.f11 [.imm (.sl (.int .i64))] [((.sl (.int .i64)), (.sl .sh))] 1 _).trans (by kernel_rfl)
theorem spec_l33Ranks.l2_eq (scores0 : List Int) (i4 : Int) (rank5 : Int) (k6 : Int) (out3 : List Int) : spec_l33Ranks.l2 scores0 i4 rank5 k6 out3 =
  (bif (decide (k6 < ((List.length scores0) : Int))) then (bif (decide ((0 : Int) ≤ k6)) then (bif (decide (k6 < ((List.length scores0) : Int))) then (bif (decide ((0 : Int) ≤ i4)) then (bif (decide (i4 < ((List.length scores0) : Int))) then (bif (decide ((List.getD scores0 (Int.toNat k6) (0 : Int)) > (List.getD scores0 (Int.toNat i4) (0 : Int)))) then (spec_l33Ranks.l3 scores0 i4 (IntKind.wrap .i64 (rank5 + (1 : Int))) k6 out3)
            else (spec_l33Ranks.l3 scores0 i4 rank5 k6 out3))
          else none)
        else none)
      else none)
    else none)
  else (bif (decide (((List.length out3) + 1) ≤ 17592186044416)) then (spec_l33Ranks.l1 scores0 (IntKind.wrap .i64 (i4 + (1 : Int))) (out3 ++ [rank5]))
    else none)) :=
  (runOf_eq spec_l33Ranks.E [] Tryd.f11 [.imm (.sl (.int .i64))] [((.sl (.int .i64)), (.sl .sh))] 2 _).trans (by kernel_rfl)
theorem spec_l33Ranks.l3_eq (scores0 : List Int) (i4 : Int) (rank5 : Int) (k6 : Int) (out3 : List Int) : spec_l33Ranks.l3 scores0 i4 rank5 k6 out3 =
  (spec_l33Ranks.l2 scores0 i4 rank5 (IntKind.wrap .i64 (k6 + (1 : Int))) out3) :=
  (runOf_eq spec_l33Ranks.E [] Tryd.f11 [.imm (.sl (.int .i64))] [((.sl (.int .i64)), (.sl .sh))] 3 _).trans (by kernel_rfl)
theorem spec_l33Ranks.eq (scores0 : List Int) : spec_l33Ranks.f scores0 =
  (spec_l33Ranks.l1 scores0 (0 : Int) []) :=
  (fnOf_eq spec_l33Ranks.E [] Tryd.f11 [.imm (.sl (.int .i64))] [((.sl (.int .i64)), (.sl .sh))] scores0).trans (by kernel_rfl)

/-! spec_l24Number -/
noncomputable def spec_l24Number.E : Env := ⟨TT, [], []⟩
noncomputable def spec_l24Number.f : Int → Option ByteArray := fnOf spec_l24Number.E [] Tryd.f10 [.imm (.int .i64)] [(.str, .sh)]
noncomputable def spec_l24Number.m : FM := ⟨10, [.imm (.int .i64)], [(.str, .sh)], spec_l24Number.f⟩
theorem spec_l24Number.sound : Sound Tryd.prog spec_l24Number.m := sound_of (E := spec_l24Number.E) tok trivial mix Tryd.func10 (by kernel_rfl)
theorem spec_l24Number.eq (n0 : Int) : spec_l24Number.f n0 =
  (bif (decide (n0 < (10 : Int))) then (some (strOf [(IntKind.wrap .u8 (IntKind.wrap .i64 ((48 : Int) + n0)))]))
  else (some (strOf [(IntKind.wrap .u8 (IntKind.wrap .i64 ((48 : Int) + (IntKind.wrap .i64 (Int.tdiv n0 (10 : Int)))))), (IntKind.wrap .u8 (IntKind.wrap .i64 ((48 : Int) + (Int.tmod n0 (10 : Int)))))]))) :=
  (fnOf_eq spec_l24Number.E [] Tryd.f10 [.imm (.int .i64)] [(.str, .sh)] n0).trans (by kernel_rfl)

/-! spec_l33Equal -/
noncomputable def spec_l33Equal.E : Env := ⟨TT, [], []⟩
noncomputable def spec_l33Equal.f : (List Int) × Int → Option Int := fnOf spec_l33Equal.E [] Tryd.f12 [.imm (.sl (.int .i64)), .imm (.int .i64)] [((.int .i64), .sh)]
noncomputable def spec_l33Equal.m : FM := ⟨12, [.imm (.sl (.int .i64)), .imm (.int .i64)], [((.int .i64), .sh)], spec_l33Equal.f⟩
theorem spec_l33Equal.sound : Sound Tryd.prog spec_l33Equal.m := sound_of (E := spec_l33Equal.E) tok trivial mix Tryd.func12 (by kernel_rfl)
noncomputable def spec_l33Equal.l1 (scores0 : List Int) (score1 : Int) (n5 : Int) (i6 : Int) : Option Int := runOf spec_l33Equal.E [] Tryd.f12 [.imm (.sl (.int .i64)), .imm (.int .i64)] [((.int .i64), .sh)] 1 ⟨[(0, [.imm (.sl (.int .i64)) scores0]), (1, [.imm (.int .i64) score1]), (5, [.imm (.int .i64) n5]), (6, [.imm (.int .i64) i6])], [], 0⟩
noncomputable def spec_l33Equal.l2 (scores0 : List Int) (score1 : Int) (n5 : Int) (i6 : Int) : Option Int := runOf spec_l33Equal.E [] Tryd.f12 [.imm (.sl (.int .i64)), .imm (.int .i64)] [((.int .i64), .sh)] 2 ⟨[(0, [.imm (.sl (.int .i64)) scores0]), (1, [.imm (.int .i64) score1]), (5, [.imm (.int .i64) n5]), (6, [.imm (.int .i64) i6])], [], 0⟩
theorem spec_l33Equal.l1_eq (scores0 : List Int) (score1 : Int) (n5 : Int) (i6 : Int) : spec_l33Equal.l1 scores0 score1 n5 i6 =
  (bif (decide (i6 < ((List.length scores0) : Int))) then (bif (decide ((0 : Int) ≤ i6)) then (bif (decide (i6 < ((List.length scores0) : Int))) then (bif ((List.getD scores0 (Int.toNat i6) (0 : Int)) == score1) then (spec_l33Equal.l2 scores0 score1 (IntKind.wrap .i64 (n5 + (1 : Int))) i6)
        else (spec_l33Equal.l2 scores0 score1 n5 i6))
      else none)
    else none)
  else (some n5)) :=
  (runOf_eq spec_l33Equal.E [] Tryd.f12 [.imm (.sl (.int .i64)), .imm (.int .i64)] [((.int .i64), .sh)] 1 _).trans (by kernel_rfl)
theorem spec_l33Equal.l2_eq (scores0 : List Int) (score1 : Int) (n5 : Int) (i6 : Int) : spec_l33Equal.l2 scores0 score1 n5 i6 =
  (spec_l33Equal.l1 scores0 score1 n5 (IntKind.wrap .i64 (i6 + (1 : Int)))) :=
  (runOf_eq spec_l33Equal.E [] Tryd.f12 [.imm (.sl (.int .i64)), .imm (.int .i64)] [((.int .i64), .sh)] 2 _).trans (by kernel_rfl)
theorem spec_l33Equal.eq (scores0 : List Int) (score1 : Int) : spec_l33Equal.f (scores0, score1) =
  (spec_l33Equal.l1 scores0 score1 (0 : Int) (0 : Int)) :=
  (fnOf_eq spec_l33Equal.E [] Tryd.f12 [.imm (.sl (.int .i64)), .imm (.int .i64)] [((.int .i64), .sh)] (scores0, score1)).trans (by kernel_rfl)

/-! impl_within -/
noncomputable def impl_within.E : Env := ⟨TT, [], []⟩
noncomputable def impl_within.f : Int × Int × Int → Option Bool := fnOf impl_within.E [] Tryd.f14 [.imm (.int .i64), .imm (.int .i64), .imm (.int .i64)] [(.bool, .sh)]
noncomputable def impl_within.m : FM := ⟨14, [.imm (.int .i64), .imm (.int .i64), .imm (.int .i64)], [(.bool, .sh)], impl_within.f⟩
theorem impl_within.sound : Sound Tryd.prog impl_within.m := sound_of (E := impl_within.E) tok trivial mix Tryd.func14 (by kernel_rfl)
theorem impl_within.eq (n0 : Int) (low1 : Int) (high2 : Int) : impl_within.f (n0, low1, high2) =
  (bif (decide (low1 ≤ n0)) then (some (decide (n0 ≤ high2)))
  else (some false)) :=
  (fnOf_eq impl_within.E [] Tryd.f14 [.imm (.int .i64), .imm (.int .i64), .imm (.int .i64)] [(.bool, .sh)] (n0, low1, high2)).trans (by kernel_rfl)

/-! impl_flag -/
noncomputable def impl_flag.E : Env := ⟨TT, [], []⟩
noncomputable def impl_flag.f : Bool → Option Int := fnOf impl_flag.E [] Tryd.f21 [.imm .bool] [((.int .i64), .sh)]
noncomputable def impl_flag.m : FM := ⟨21, [.imm .bool], [((.int .i64), .sh)], impl_flag.f⟩
theorem impl_flag.sound : Sound Tryd.prog impl_flag.m := sound_of (E := impl_flag.E) tok trivial mix Tryd.func21 (by kernel_rfl)
theorem impl_flag.eq (is0 : Bool) : impl_flag.f is0 =
  (bif is0 then (some (1 : Int))
  else (some (0 : Int))) :=
  (fnOf_eq impl_flag.E [] Tryd.f21 [.imm .bool] [((.int .i64), .sh)] is0).trans (by kernel_rfl)

/-! impl_equals -/
noncomputable def impl_equals.E : Env := ⟨TT, [impl_flag.m], []⟩
noncomputable def impl_equals.f : (List Int) × Int → Option Int := fnOf impl_equals.E [] Tryd.f16 [.imm (.sl (.int .i64)), .imm (.int .i64)] [((.int .i64), .sh)]
noncomputable def impl_equals.m : FM := ⟨16, [.imm (.sl (.int .i64)), .imm (.int .i64)], [((.int .i64), .sh)], impl_equals.f⟩
theorem impl_equals.sound : Sound Tryd.prog impl_equals.m := sound_of (E := impl_equals.E) tok ⟨impl_flag.sound, trivial⟩ mix Tryd.func16 (by kernel_rfl)
noncomputable def impl_equals.l1 (rank1 : Int) (many5 : Int) (x8 : List Int) (x9 : Int) (x10 : Int) : Option Int := runOf impl_equals.E [] Tryd.f16 [.imm (.sl (.int .i64)), .imm (.int .i64)] [((.int .i64), .sh)] 1 ⟨[(1, [.imm (.int .i64) rank1]), (5, [.imm (.int .i64) many5]), (8, [.imm (.sl (.int .i64)) x8]), (9, [.imm (.int .i64) x9]), (10, [.imm (.int .i64) x10])], [], 0⟩
theorem impl_equals.l1_eq (rank1 : Int) (many5 : Int) (x8 : List Int) (x9 : Int) (x10 : Int) : impl_equals.l1 rank1 many5 x8 x9 x10 =
  (bif (decide (x10 < x9)) then (bif (decide ((0 : Int) ≤ x10)) then (bif (decide (x10 < ((List.length x8) : Int))) then ((impl_flag.f ((List.getD x8 (Int.toNat x10) (0 : Int)) == rank1)).bind fun (r115 : Int) =>
        (impl_equals.l1 rank1 (IntKind.wrap .i64 (many5 + r115)) x8 x9 (IntKind.wrap .i64 (x10 + (1 : Int)))))
      else none)
    else none)
  else (some many5)) :=
  (runOf_eq impl_equals.E [] Tryd.f16 [.imm (.sl (.int .i64)), .imm (.int .i64)] [((.int .i64), .sh)] 1 _).trans (by kernel_rfl)
theorem impl_equals.eq (list0 : List Int) (rank1 : Int) : impl_equals.f (list0, rank1) =
  (impl_equals.l1 rank1 (0 : Int) list0 ((List.length list0) : Int) (0 : Int)) :=
  (fnOf_eq impl_equals.E [] Tryd.f16 [.imm (.sl (.int .i64)), .imm (.int .i64)] [((.int .i64), .sh)] (list0, rank1)).trans (by kernel_rfl)

/-! internal_strconv_small -/
noncomputable def internal_strconv_small.E : Env := ⟨TT, [], []⟩
noncomputable def internal_strconv_small.f : Int → Option ByteArray := fnOf internal_strconv_small.E [] Tryd.f25 [.imm (.int .i64)] [(.str, .sh)]
noncomputable def internal_strconv_small.m : FM := ⟨25, [.imm (.int .i64)], [(.str, .sh)], internal_strconv_small.f⟩
theorem internal_strconv_small.sound : Sound Tryd.prog internal_strconv_small.m := sound_of (E := internal_strconv_small.E) tok trivial mix Tryd.func25 (by kernel_rfl)
theorem internal_strconv_small.eq (i0 : Int) : internal_strconv_small.f i0 =
  (bif (decide (i0 < (10 : Int))) then (bif (decide ((0 : Int) ≤ i0)) then (bif (decide (i0 ≤ (IntKind.wrap .i64 (i0 + (1 : Int))))) then (bif (decide ((IntKind.wrap .i64 (i0 + (1 : Int))) ≤ ((ByteArray.size (⟨#[48, 49, 50, 51, 52, 53, 54, 55, 56, 57, 97, 98, 99, 100, 101, 102, 103, 104, 105, 106, 107, 108, 109, 110, 111, 112, 113, 114, 115, 116, 117, 118, 119, 120, 121, 122]⟩ : ByteArray)) : Int))) then (some (ByteArray.extract (⟨#[48, 49, 50, 51, 52, 53, 54, 55, 56, 57, 97, 98, 99, 100, 101, 102, 103, 104, 105, 106, 107, 108, 109, 110, 111, 112, 113, 114, 115, 116, 117, 118, 119, 120, 121, 122]⟩ : ByteArray) (Int.toNat i0) (Int.toNat (IntKind.wrap .i64 (i0 + (1 : Int))))))
        else none)
      else none)
    else none)
  else (bif (decide ((0 : Int) ≤ (IntKind.wrap .i64 (i0 * (2 : Int))))) then (bif (decide ((IntKind.wrap .i64 (i0 * (2 : Int))) ≤ (IntKind.wrap .i64 ((IntKind.wrap .i64 (i0 * (2 : Int))) + (2 : Int))))) then (bif (decide ((IntKind.wrap .i64 ((IntKind.wrap .i64 (i0 * (2 : Int))) + (2 : Int))) ≤ ((ByteArray.size (⟨#[48, 48, 48, 49, 48, 50, 48, 51, 48, 52, 48, 53, 48, 54, 48, 55, 48, 56, 48, 57, 49, 48, 49, 49, 49, 50, 49, 51, 49, 52, 49, 53, 49, 54, 49, 55, 49, 56, 49, 57, 50, 48, 50, 49, 50, 50, 50, 51, 50, 52, 50, 53, 50, 54, 50, 55, 50, 56, 50, 57, 51, 48, 51, 49, 51, 50, 51, 51, 51, 52, 51, 53, 51, 54, 51, 55, 51, 56, 51, 57, 52, 48, 52, 49, 52, 50, 52, 51, 52, 52, 52, 53, 52, 54, 52, 55, 52, 56, 52, 57, 53, 48, 53, 49, 53, 50, 53, 51, 53, 52, 53, 53, 53, 54, 53, 55, 53, 56, 53, 57, 54, 48, 54, 49, 54, 50, 54, 51, 54, 52, 54, 53, 54, 54, 54, 55, 54, 56, 54, 57, 55, 48, 55, 49, 55, 50, 55, 51, 55, 52, 55, 53, 55, 54, 55, 55, 55, 56, 55, 57, 56, 48, 56, 49, 56, 50, 56, 51, 56, 52, 56, 53, 56, 54, 56, 55, 56, 56, 56, 57, 57, 48, 57, 49, 57, 50, 57, 51, 57, 52, 57, 53, 57, 54, 57, 55, 57, 56, 57, 57]⟩ : ByteArray)) : Int))) then (some (ByteArray.extract (⟨#[48, 48, 48, 49, 48, 50, 48, 51, 48, 52, 48, 53, 48, 54, 48, 55, 48, 56, 48, 57, 49, 48, 49, 49, 49, 50, 49, 51, 49, 52, 49, 53, 49, 54, 49, 55, 49, 56, 49, 57, 50, 48, 50, 49, 50, 50, 50, 51, 50, 52, 50, 53, 50, 54, 50, 55, 50, 56, 50, 57, 51, 48, 51, 49, 51, 50, 51, 51, 51, 52, 51, 53, 51, 54, 51, 55, 51, 56, 51, 57, 52, 48, 52, 49, 52, 50, 52, 51, 52, 52, 52, 53, 52, 54, 52, 55, 52, 56, 52, 57, 53, 48, 53, 49, 53, 50, 53, 51, 53, 52, 53, 53, 53, 54, 53, 55, 53, 56, 53, 57, 54, 48, 54, 49, 54, 50, 54, 51, 54, 52, 54, 53, 54, 54, 54, 55, 54, 56, 54, 57, 55, 48, 55, 49, 55, 50, 55, 51, 55, 52, 55, 53, 55, 54, 55, 55, 55, 56, 55, 57, 56, 48, 56, 49, 56, 50, 56, 51, 56, 52, 56, 53, 56, 54, 56, 55, 56, 56, 56, 57, 57, 48, 57, 49, 57, 50, 57, 51, 57, 52, 57, 53, 57, 54, 57, 55, 57, 56, 57, 57]⟩ : ByteArray) (Int.toNat (IntKind.wrap .i64 (i0 * (2 : Int)))) (Int.toNat (IntKind.wrap .i64 ((IntKind.wrap .i64 (i0 * (2 : Int))) + (2 : Int))))))
        else none)
      else none)
    else none)) :=
  (fnOf_eq internal_strconv_small.E [] Tryd.f25 [.imm (.int .i64)] [(.str, .sh)] i0).trans (by kernel_rfl)

/-! internal_strconv_formatBits -/
def internal_strconv_formatBits.f : (List Int) × Int × Int × Bool × Bool → Option ((List Int) × ByteArray) := fun _ => none
def internal_strconv_formatBits.m : FM := ⟨28, [.imm (.sl (.int .u8)), .imm (.int .u64), .imm (.int .i64), .imm .bool, .imm .bool], [((.sl (.int .u8)), (.sl .sh)), (.str, .sh)], internal_strconv_formatBits.f⟩
theorem internal_strconv_formatBits.sound : Sound Tryd.prog internal_strconv_formatBits.m := sound_none Tryd.func28 (by kernel_rfl)

/-! internal_strconv_numDigits -/
def internal_strconv_numDigits.f : Int → Option Int := fun _ => none
def internal_strconv_numDigits.m : FM := ⟨26, [.imm (.int .u64)], [((.int .i64), .sh)], internal_strconv_numDigits.f⟩
theorem internal_strconv_numDigits.sound : Sound Tryd.prog internal_strconv_numDigits.m := sound_none Tryd.func26 (by kernel_rfl)

/-! laws_eqInt64S -/
noncomputable def laws_eqInt64S.E : Env := ⟨TT, [], []⟩
noncomputable def laws_eqInt64S.f : (List Int) × List Int → Option Bool := fnOf laws_eqInt64S.E [] Tryd.f7 [.imm (.sl (.int .i64)), .imm (.sl (.int .i64))] [(.bool, .sh)]
noncomputable def laws_eqInt64S.m : FM := ⟨7, [.imm (.sl (.int .i64)), .imm (.sl (.int .i64))], [(.bool, .sh)], laws_eqInt64S.f⟩
theorem laws_eqInt64S.sound : Sound Tryd.prog laws_eqInt64S.m := sound_of (E := laws_eqInt64S.E) tok trivial mix Tryd.func7 (by kernel_rfl)
noncomputable def laws_eqInt64S.l1 (a0 : List Int) (b1 : List Int) (i5 : Int) : Option Bool := runOf laws_eqInt64S.E [] Tryd.f7 [.imm (.sl (.int .i64)), .imm (.sl (.int .i64))] [(.bool, .sh)] 1 ⟨[(0, [.imm (.sl (.int .i64)) a0]), (1, [.imm (.sl (.int .i64)) b1]), (5, [.imm (.int .i64) i5])], [], 0⟩
theorem laws_eqInt64S.l1_eq (a0 : List Int) (b1 : List Int) (i5 : Int) : laws_eqInt64S.l1 a0 b1 i5 =
  (bif (decide (i5 < ((List.length a0) : Int))) then (bif (decide ((0 : Int) ≤ i5)) then (bif (decide (i5 < ((List.length a0) : Int))) then (bif (decide ((0 : Int) ≤ i5)) then (bif (decide (i5 < ((List.length b1) : Int))) then (bif ((List.getD a0 (Int.toNat i5) (0 : Int)) != (List.getD b1 (Int.toNat i5) (0 : Int))) then (some false)
            else (laws_eqInt64S.l1 a0 b1 (IntKind.wrap .i64 (i5 + (1 : Int)))))
          else none)
        else none)
      else none)
    else none)
  else (some true)) :=
  (runOf_eq laws_eqInt64S.E [] Tryd.f7 [.imm (.sl (.int .i64)), .imm (.sl (.int .i64))] [(.bool, .sh)] 1 _).trans (by kernel_rfl)
theorem laws_eqInt64S.eq (a0 : List Int) (b1 : List Int) : laws_eqInt64S.f (a0, b1) =
  (bif (((List.length a0) : Int) != ((List.length b1) : Int)) then (some false)
  else (laws_eqInt64S.l1 a0 b1 (0 : Int))) :=
  (fnOf_eq laws_eqInt64S.E [] Tryd.f7 [.imm (.sl (.int .i64)), .imm (.sl (.int .i64))] [(.bool, .sh)] (a0, b1)).trans (by kernel_rfl)

/-! spec_l33Scores -/
noncomputable def spec_l33Scores.E : Env := ⟨TT, [spec_l01In.m], []⟩
noncomputable def spec_l33Scores.f : List Int → Option Bool := fnOf spec_l33Scores.E [] Tryd.f8 [.imm (.sl (.int .i64))] [(.bool, .sh)]
noncomputable def spec_l33Scores.m : FM := ⟨8, [.imm (.sl (.int .i64))], [(.bool, .sh)], spec_l33Scores.f⟩
theorem spec_l33Scores.sound : Sound Tryd.prog spec_l33Scores.m := sound_of (E := spec_l33Scores.E) tok ⟨spec_l01In.sound, trivial⟩ mix Tryd.func8 (by kernel_rfl)
noncomputable def spec_l33Scores.l1 (scores0 : List Int) (i3 : Int) : Option Bool := runOf spec_l33Scores.E [] Tryd.f8 [.imm (.sl (.int .i64))] [(.bool, .sh)] 1 ⟨[(0, [.imm (.sl (.int .i64)) scores0]), (3, [.imm (.int .i64) i3])], [], 0⟩
theorem spec_l33Scores.l1_eq (scores0 : List Int) (i3 : Int) : spec_l33Scores.l1 scores0 i3 =
  (bif (decide (i3 < ((List.length scores0) : Int))) then (bif (decide ((0 : Int) ≤ i3)) then (bif (decide (i3 < ((List.length scores0) : Int))) then ((spec_l01In.f ((List.getD scores0 (Int.toNat i3) (0 : Int)), ((-1000000000 : Int), (1000000000 : Int)))).bind fun (r17 : Bool) =>
        (bif (!r17) then (some false)
          else (spec_l33Scores.l1 scores0 (IntKind.wrap .i64 (i3 + (1 : Int))))))
      else none)
    else none)
  else (some (decide (((List.length scores0) : Int) ≤ (64 : Int))))) :=
  (runOf_eq spec_l33Scores.E [] Tryd.f8 [.imm (.sl (.int .i64))] [(.bool, .sh)] 1 _).trans (by kernel_rfl)
theorem spec_l33Scores.eq (scores0 : List Int) : spec_l33Scores.f scores0 =
  (spec_l33Scores.l1 scores0 (0 : Int)) :=
  (fnOf_eq spec_l33Scores.E [] Tryd.f8 [.imm (.sl (.int .i64))] [(.bool, .sh)] scores0).trans (by kernel_rfl)

/-! impl_isRankScore -/
noncomputable def impl_isRankScore.E : Env := ⟨TT, [impl_within.m], []⟩
noncomputable def impl_isRankScore.f : Int → Option Bool := fnOf impl_isRankScore.E [] Tryd.f20 [.imm (.int .i64)] [(.bool, .sh)]
noncomputable def impl_isRankScore.m : FM := ⟨20, [.imm (.int .i64)], [(.bool, .sh)], impl_isRankScore.f⟩
theorem impl_isRankScore.sound : Sound Tryd.prog impl_isRankScore.m := sound_of (E := impl_isRankScore.E) tok ⟨impl_within.sound, trivial⟩ mix Tryd.func20 (by kernel_rfl)
theorem impl_isRankScore.eq (n0 : Int) : impl_isRankScore.f n0 =
  ((impl_within.f (n0, ((-1000000000 : Int), (1000000000 : Int)))).bind fun (r73 : Bool) =>
  (some r73)) :=
  (fnOf_eq impl_isRankScore.E [] Tryd.f20 [.imm (.int .i64)] [(.bool, .sh)] n0).trans (by kernel_rfl)

/-! impl_rankScores -/
noncomputable def impl_rankScores.E : Env := ⟨TT, [impl_flag.m], []⟩
noncomputable def impl_rankScores.f : List Int → Option (List Int) := fnOf impl_rankScores.E [] Tryd.f15 [.imm (.sl (.int .i64))] [((.sl (.int .i64)), (.sl .sh))]
noncomputable def impl_rankScores.m : FM := ⟨15, [.imm (.sl (.int .i64))], [((.sl (.int .i64)), (.sl .sh))], impl_rankScores.f⟩
theorem impl_rankScores.sound : Sound Tryd.prog impl_rankScores.m := sound_of (E := impl_rankScores.E) tok ⟨impl_flag.sound, trivial⟩ mix Tryd.func15 (by kernel_rfl)
noncomputable def impl_rankScores.l1 (scores0 : List Int) (x10 : List Int) (x11 : Int) (x12 : Int) (out3 : List Int) : Option (List Int) := runOf impl_rankScores.E [] Tryd.f15 [.imm (.sl (.int .i64))] [((.sl (.int .i64)), (.sl .sh))] 1 ⟨[(0, [.imm (.sl (.int .i64)) scores0]), (3, [.ref 0 [] 0]), (10, [.imm (.sl (.int .i64)) x10]), (11, [.imm (.int .i64) x11]), (12, [.imm (.int .i64) x12])], [(0, ⟨(.sl (.int .i64)), out3, (.sl .sh), false, false, 0⟩)], 1⟩
noncomputable def impl_rankScores.l2 (scores0 : List Int) (a5 : Int) (rank6 : Int) (x10 : List Int) (x11 : Int) (x12 : Int) (x16 : List Int) (x17 : Int) (x18 : Int) (out3 : List Int) : Option (List Int) := runOf impl_rankScores.E [] Tryd.f15 [.imm (.sl (.int .i64))] [((.sl (.int .i64)), (.sl .sh))] 2 ⟨[(0, [.imm (.sl (.int .i64)) scores0]), (3, [.ref 0 [] 0]), (5, [.imm (.int .i64) a5]), (6, [.imm (.int .i64) rank6]), (10, [.imm (.sl (.int .i64)) x10]), (11, [.imm (.int .i64) x11]), (12, [.imm (.int .i64) x12]), (16, [.imm (.sl (.int .i64)) x16]), (17, [.imm (.int .i64) x17]), (18, [.imm (.int .i64) x18])], [(0, ⟨(.sl (.int .i64)), out3, (.sl .sh), false, false, 0⟩)], 1⟩
theorem impl_rankScores.l1_eq (scores0 : List Int) (x10 : List Int) (x11 : Int) (x12 : Int) (out3 : List Int) : impl_rankScores.l1 scores0 x10 x11 x12 out3 =
  (bif (decide (x12 < x11)) then (bif (decide ((0 : Int) ≤ x12)) then (bif (decide (x12 < ((List.length x10) : Int))) then (impl_rankScores.l2 scores0 (List.getD x10 (Int.toNat x12) (0 : Int)) (1 : Int) x10 x11 x12 scores0 ((List.length scores0) : Int) (0 : Int) out3)
      else none)
    else none)
  else (some out3)) :=
  (runOf_eq impl_rankScores.E [] Tryd.f15 [.imm (.sl (.int .i64))] [((.sl (.int .i64)), (.sl .sh))] 1 _).trans (by kernel_rfl)
theorem impl_rankScores.l2_eq (scores0 : List Int) (a5 : Int) (rank6 : Int) (x10 : List Int) (x11 : Int) (x12 : Int) (x16 : List Int) (x17 : Int) (x18 : Int) (out3 : List Int) : impl_rankScores.l2 scores0 a5 rank6 x10 x11 x12 x16 x17 x18 out3 =
  (bif (decide (x18 < x17)) then (bif (decide ((0 : Int) ≤ x18)) then (bif (decide (x18 < ((List.length x16) : Int))) then ((impl_flag.f (decide ((List.getD x16 (Int.toNat x18) (0 : Int)) > a5))).bind fun (r104 : Int) =>
        (impl_rankScores.l2 scores0 a5 (IntKind.wrap .i64 (rank6 + r104)) x10 x11 x12 x16 x17 (IntKind.wrap .i64 (x18 + (1 : Int))) out3))
      else none)
    else none)
  else (bif (decide (((List.length out3) + 1) ≤ 17592186044416)) then (impl_rankScores.l1 scores0 x10 x11 (IntKind.wrap .i64 (x12 + (1 : Int))) (out3 ++ [rank6]))
    else none)) :=
  (runOf_eq impl_rankScores.E [] Tryd.f15 [.imm (.sl (.int .i64))] [((.sl (.int .i64)), (.sl .sh))] 2 _).trans (by kernel_rfl)
theorem impl_rankScores.eq (scores0 : List Int) : impl_rankScores.f scores0 =
  (impl_rankScores.l1 scores0 scores0 ((List.length scores0) : Int) (0 : Int) []) :=
  (fnOf_eq impl_rankScores.E [] Tryd.f15 [.imm (.sl (.int .i64))] [((.sl (.int .i64)), (.sl .sh))] scores0).trans (by kernel_rfl)

/-! internal_strconv_FormatInt -/
noncomputable def internal_strconv_FormatInt.E : Env := ⟨TT, [internal_strconv_small.m, internal_strconv_formatBits.m, internal_strconv_numDigits.m], []⟩
noncomputable def internal_strconv_FormatInt.f : Int × Int → Option ByteArray := fnOf internal_strconv_FormatInt.E [] Tryd.f24 [.imm (.int .i64), .imm (.int .i64)] [(.str, .sh)]
noncomputable def internal_strconv_FormatInt.m : FM := ⟨24, [.imm (.int .i64), .imm (.int .i64)], [(.str, .sh)], internal_strconv_FormatInt.f⟩
theorem internal_strconv_FormatInt.sound : Sound Tryd.prog internal_strconv_FormatInt.m := sound_of (E := internal_strconv_FormatInt.E) tok ⟨internal_strconv_small.sound, internal_strconv_formatBits.sound, internal_strconv_numDigits.sound, trivial⟩ mix Tryd.func24 (by kernel_rfl)
noncomputable def internal_strconv_FormatInt.l1 (i0 : Int) (u6 : Int) (a5 : List Int) : Option ByteArray := runOf internal_strconv_FormatInt.E [] Tryd.f24 [.imm (.int .i64), .imm (.int .i64)] [(.str, .sh)] 1 ⟨[(0, [.imm (.int .i64) i0]), (5, [.adr 0 [] 0]), (6, [.imm (.int .u64) u6])], [(0, ⟨(.arr 24 (.int .u8)), a5, .sh, true, false, 0⟩)], 1⟩
theorem internal_strconv_FormatInt.l1_eq (i0 : Int) (u6 : Int) (a5 : List Int) : internal_strconv_FormatInt.l1 i0 u6 a5 =
  ((internal_strconv_numDigits.f u6).bind fun (r132 : Int) =>
  none) :=
  (runOf_eq internal_strconv_FormatInt.E [] Tryd.f24 [.imm (.int .i64), .imm (.int .i64)] [(.str, .sh)] 1 _).trans (by kernel_rfl)
theorem internal_strconv_FormatInt.eq (i0 : Int) (base1 : Int) : internal_strconv_FormatInt.f (i0, base1) =
  (bif (base1 == (10 : Int)) then (bif (decide ((0 : Int) ≤ i0)) then (bif (decide (i0 < (100 : Int))) then ((internal_strconv_small.f i0).bind fun (r125 : ByteArray) =>
        (some r125))
      else (bif (decide (i0 < (0 : Int))) then (internal_strconv_FormatInt.l1 i0 (IntKind.wrap .u64 ((0 : Int) - (IntKind.wrap .u64 i0))) (List.replicate 24 (0 : Int)))
        else (internal_strconv_FormatInt.l1 i0 (IntKind.wrap .u64 i0) (List.replicate 24 (0 : Int)))))
    else (bif (decide (i0 < (0 : Int))) then (internal_strconv_FormatInt.l1 i0 (IntKind.wrap .u64 ((0 : Int) - (IntKind.wrap .u64 i0))) (List.replicate 24 (0 : Int)))
      else (internal_strconv_FormatInt.l1 i0 (IntKind.wrap .u64 i0) (List.replicate 24 (0 : Int)))))
  else ((internal_strconv_formatBits.f ([], ((IntKind.wrap .u64 i0), (base1, ((decide (i0 < (0 : Int))), false))))).bind fun (r130 : (List Int) × ByteArray) =>
    (some r130.2))) :=
  (fnOf_eq internal_strconv_FormatInt.E [] Tryd.f24 [.imm (.int .i64), .imm (.int .i64)] [(.str, .sh)] (i0, base1)).trans (by kernel_rfl)

/-! spec_RankText -/
noncomputable def spec_RankText.E : Env := ⟨TT, [spec_l33Scores.m, spec_l01In.m, spec_l33Ranks.m, spec_l24Number.m, spec_l33Equal.m], []⟩
noncomputable def spec_RankText.f : (List Int) × Int → Option ByteArray := fnOf spec_RankText.E [] Tryd.f4 [.imm (.sl (.int .i64)), .imm (.int .i64)] [(.str, .sh)]
noncomputable def spec_RankText.m : FM := ⟨4, [.imm (.sl (.int .i64)), .imm (.int .i64)], [(.str, .sh)], spec_RankText.f⟩
theorem spec_RankText.sound : Sound Tryd.prog spec_RankText.m := sound_of (E := spec_RankText.E) tok ⟨spec_l33Scores.sound, spec_l01In.sound, spec_l33Ranks.sound, spec_l24Number.sound, spec_l33Equal.sound, trivial⟩ mix Tryd.func4 (by kernel_rfl)
theorem spec_RankText.eq (scores0 : List Int) (i1 : Int) : spec_RankText.f (scores0, i1) =
  ((spec_l33Scores.f scores0).bind fun (r19 : Bool) =>
  (bif (!r19) then (some ByteArray.empty)
    else ((spec_l01In.f (i1, ((0 : Int), (IntKind.wrap .i64 (((List.length scores0) : Int) - (1 : Int)))))).bind fun (r21 : Bool) =>
      (bif (!r21) then (some ByteArray.empty)
        else ((spec_l33Ranks.f scores0).bind fun (r37 : List Int) =>
          (bif (decide ((0 : Int) ≤ i1)) then (bif (decide (i1 < ((List.length r37) : Int))) then ((spec_l24Number.f (List.getD r37 (Int.toNat i1) (0 : Int))).bind fun (r40 : ByteArray) =>
                (bif (decide ((0 : Int) ≤ i1)) then (bif (decide (i1 < ((List.length scores0) : Int))) then ((spec_l33Equal.f (scores0, (List.getD scores0 (Int.toNat i1) (0 : Int)))).bind fun (r52 : Int) =>
                      (bif (decide (r52 > (1 : Int))) then (bif (decide (((ByteArray.size r40) + (ByteArray.size (⟨#[61]⟩ : ByteArray))) ≤ 9223372036854775807)) then (some (r40 ++ (⟨#[61]⟩ : ByteArray)))
                          else none)
                        else (some r40)))
                    else none)
                  else none))
              else none)
            else none)))))) :=
  (fnOf_eq spec_RankText.E [] Tryd.f4 [.imm (.sl (.int .i64)), .imm (.int .i64)] [(.str, .sh)] (scores0, i1)).trans (by kernel_rfl)

/-! impl_isScoreList_1 -/
noncomputable def impl_isScoreList_1.E : Env := ⟨TT, [impl_isRankScore.m], []⟩
noncomputable def impl_isScoreList_1.f : Int → Option Bool := fnOf impl_isScoreList_1.E [] Tryd.f19 [.imm (.int .i64)] [(.bool, .sh)]
noncomputable def impl_isScoreList_1.m : FM := ⟨19, [.imm (.int .i64)], [(.bool, .sh)], impl_isScoreList_1.f⟩
theorem impl_isScoreList_1.sound : Sound Tryd.prog impl_isScoreList_1.m := sound_of (E := impl_isScoreList_1.E) tok ⟨impl_isRankScore.sound, trivial⟩ mix Tryd.func19 (by kernel_rfl)
theorem impl_isScoreList_1.eq (n0 : Int) : impl_isScoreList_1.f n0 =
  ((impl_isRankScore.f n0).bind fun (r75 : Bool) =>
  (some (!r75))) :=
  (fnOf_eq impl_isScoreList_1.E [] Tryd.f19 [.imm (.int .i64)] [(.bool, .sh)] n0).trans (by kernel_rfl)

/-! strconv_FormatInt -/
noncomputable def strconv_FormatInt.E : Env := ⟨TT, [internal_strconv_FormatInt.m], []⟩
noncomputable def strconv_FormatInt.f : Int × Int → Option ByteArray := fnOf strconv_FormatInt.E [] Tryd.f22 [.imm (.int .i64), .imm (.int .i64)] [(.str, .sh)]
noncomputable def strconv_FormatInt.m : FM := ⟨22, [.imm (.int .i64), .imm (.int .i64)], [(.str, .sh)], strconv_FormatInt.f⟩
theorem strconv_FormatInt.sound : Sound Tryd.prog strconv_FormatInt.m := sound_of (E := strconv_FormatInt.E) tok ⟨internal_strconv_FormatInt.sound, trivial⟩ mix Tryd.func22 (by kernel_rfl)
theorem strconv_FormatInt.eq (i0 : Int) (base1 : Int) : strconv_FormatInt.f (i0, base1) =
  ((internal_strconv_FormatInt.f (i0, base1)).bind fun (r134 : ByteArray) =>
  (some r134)) :=
  (fnOf_eq strconv_FormatInt.E [] Tryd.f22 [.imm (.int .i64), .imm (.int .i64)] [(.str, .sh)] (i0, base1)).trans (by kernel_rfl)

/-! slices_IndexFunc_int64 -/
noncomputable def slices_IndexFunc_int64.E : Env := ⟨TT, [impl_isScoreList_1.m], []⟩
noncomputable def slices_IndexFunc_int64.f : (List Int) × Unit → Option Int := fnOf slices_IndexFunc_int64.E [] Tryd.f23 [.imm (.sl (.int .i64)), .imm (.fn 19 .unit)] [((.int .i64), .sh)]
noncomputable def slices_IndexFunc_int64.m : FM := ⟨23, [.imm (.sl (.int .i64)), .imm (.fn 19 .unit)], [((.int .i64), .sh)], slices_IndexFunc_int64.f⟩
theorem slices_IndexFunc_int64.sound : Sound Tryd.prog slices_IndexFunc_int64.m := sound_of (E := slices_IndexFunc_int64.E) tok ⟨impl_isScoreList_1.sound, trivial⟩ mix Tryd.func23 (by kernel_rfl)
noncomputable def slices_IndexFunc_int64.l1 (s0 : List Int) (x7 : Int) (x8 : Int) : Option Int := runOf slices_IndexFunc_int64.E [] Tryd.f23 [.imm (.sl (.int .i64)), .imm (.fn 19 .unit)] [((.int .i64), .sh)] 1 ⟨[(0, [.imm (.sl (.int .i64)) s0]), (1, [.imm (.fn 19 .unit) ()]), (7, [.imm (.int .i64) x7]), (8, [.imm (.int .i64) x8])], [], 0⟩
theorem slices_IndexFunc_int64.l1_eq (s0 : List Int) (x7 : Int) (x8 : Int) : slices_IndexFunc_int64.l1 s0 x7 x8 =
  (bif (decide (x8 < x7)) then (bif (decide ((0 : Int) ≤ x8)) then (bif (decide (x8 < ((List.length s0) : Int))) then ((impl_isScoreList_1.f (List.getD s0 (Int.toNat x8) (0 : Int))).bind fun (r77 : Bool) =>
        (bif r77 then (some x8)
          else (slices_IndexFunc_int64.l1 s0 x7 (IntKind.wrap .i64 (x8 + (1 : Int))))))
      else none)
    else none)
  else (some (-1 : Int))) :=
  (runOf_eq slices_IndexFunc_int64.E [] Tryd.f23 [.imm (.sl (.int .i64)), .imm (.fn 19 .unit)] [((.int .i64), .sh)] 1 _).trans (by kernel_rfl)
theorem slices_IndexFunc_int64.eq (s0 : List Int) (f1 : Unit) : slices_IndexFunc_int64.f (s0, f1) =
  (slices_IndexFunc_int64.l1 s0 ((List.length s0) : Int) (0 : Int)) :=
  (fnOf_eq slices_IndexFunc_int64.E [] Tryd.f23 [.imm (.sl (.int .i64)), .imm (.fn 19 .unit)] [((.int .i64), .sh)] (s0, f1)).trans (by kernel_rfl)

/-! impl_decimal -/
noncomputable def impl_decimal.E : Env := ⟨TT, [strconv_FormatInt.m], []⟩
noncomputable def impl_decimal.f : Int → Option ByteArray := fnOf impl_decimal.E [] Tryd.f17 [.imm (.int .i64)] [(.str, .sh)]
noncomputable def impl_decimal.m : FM := ⟨17, [.imm (.int .i64)], [(.str, .sh)], impl_decimal.f⟩
theorem impl_decimal.sound : Sound Tryd.prog impl_decimal.m := sound_of (E := impl_decimal.E) tok ⟨strconv_FormatInt.sound, trivial⟩ mix Tryd.func17 (by kernel_rfl)
theorem impl_decimal.eq (n0 : Int) : impl_decimal.f n0 =
  ((strconv_FormatInt.f (n0, (10 : Int))).bind fun (r136 : ByteArray) =>
  (some r136)) :=
  (fnOf_eq impl_decimal.E [] Tryd.f17 [.imm (.int .i64)] [(.str, .sh)] n0).trans (by kernel_rfl)

/-! slices_ContainsFunc_int64 -/
noncomputable def slices_ContainsFunc_int64.E : Env := ⟨TT, [slices_IndexFunc_int64.m], []⟩
noncomputable def slices_ContainsFunc_int64.f : (List Int) × Unit → Option Bool := fnOf slices_ContainsFunc_int64.E [] Tryd.f18 [.imm (.sl (.int .i64)), .imm (.fn 19 .unit)] [(.bool, .sh)]
noncomputable def slices_ContainsFunc_int64.m : FM := ⟨18, [.imm (.sl (.int .i64)), .imm (.fn 19 .unit)], [(.bool, .sh)], slices_ContainsFunc_int64.f⟩
theorem slices_ContainsFunc_int64.sound : Sound Tryd.prog slices_ContainsFunc_int64.m := sound_of (E := slices_ContainsFunc_int64.E) tok ⟨slices_IndexFunc_int64.sound, trivial⟩ mix Tryd.func18 (by kernel_rfl)
theorem slices_ContainsFunc_int64.eq (s0 : List Int) (f1 : Unit) : slices_ContainsFunc_int64.f (s0, f1) =
  ((slices_IndexFunc_int64.f (s0, f1)).bind fun (r79 : Int) =>
  (some (decide (r79 ≥ (0 : Int))))) :=
  (fnOf_eq slices_ContainsFunc_int64.E [] Tryd.f18 [.imm (.sl (.int .i64)), .imm (.fn 19 .unit)] [(.bool, .sh)] (s0, f1)).trans (by kernel_rfl)

/-! impl_isScoreList -/
noncomputable def impl_isScoreList.E : Env := ⟨TT, [slices_ContainsFunc_int64.m], []⟩
noncomputable def impl_isScoreList.f : List Int → Option Bool := fnOf impl_isScoreList.E [] Tryd.f13 [.imm (.sl (.int .i64))] [(.bool, .sh)]
noncomputable def impl_isScoreList.m : FM := ⟨13, [.imm (.sl (.int .i64))], [(.bool, .sh)], impl_isScoreList.f⟩
theorem impl_isScoreList.sound : Sound Tryd.prog impl_isScoreList.m := sound_of (E := impl_isScoreList.E) tok ⟨slices_ContainsFunc_int64.sound, trivial⟩ mix Tryd.func13 (by kernel_rfl)
theorem impl_isScoreList.eq (scores0 : List Int) : impl_isScoreList.f scores0 =
  (bif (decide (((List.length scores0) : Int) ≤ (64 : Int))) then ((slices_ContainsFunc_int64.f (scores0, ())).bind fun (r81 : Bool) =>
    (some (!r81)))
  else (some false)) :=
  (fnOf_eq impl_isScoreList.E [] Tryd.f13 [.imm (.sl (.int .i64))] [(.bool, .sh)] scores0).trans (by kernel_rfl)

/-! impl_RankText -/
noncomputable def impl_RankText.E : Env := ⟨TT, [impl_isScoreList.m, impl_within.m, impl_rankScores.m, impl_equals.m, impl_decimal.m], []⟩
noncomputable def impl_RankText.f : (List Int) × Int → Option ByteArray := fnOf impl_RankText.E [] Tryd.f6 [.imm (.sl (.int .i64)), .imm (.int .i64)] [(.str, .sh)]
noncomputable def impl_RankText.m : FM := ⟨6, [.imm (.sl (.int .i64)), .imm (.int .i64)], [(.str, .sh)], impl_RankText.f⟩
theorem impl_RankText.sound : Sound Tryd.prog impl_RankText.m := sound_of (E := impl_RankText.E) tok ⟨impl_isScoreList.sound, impl_within.sound, impl_rankScores.sound, impl_equals.sound, impl_decimal.sound, trivial⟩ mix Tryd.func6 (by kernel_rfl)
theorem impl_RankText.eq (scores0 : List Int) (i1 : Int) : impl_RankText.f (scores0, i1) =
  ((impl_isScoreList.f scores0).bind fun (r83 : Bool) =>
  (bif (!r83) then (some ByteArray.empty)
    else ((impl_within.f (i1, ((0 : Int), (IntKind.wrap .i64 (((List.length scores0) : Int) - (1 : Int)))))).bind fun (r85 : Bool) =>
      (bif (!r85) then (some ByteArray.empty)
        else ((impl_rankScores.f scores0).bind fun (r106 : List Int) =>
          (bif (decide ((0 : Int) ≤ i1)) then (bif (decide (i1 < ((List.length r106) : Int))) then ((impl_equals.f (r106, (List.getD r106 (Int.toNat i1) (0 : Int)))).bind fun (r117 : Int) =>
                (bif (decide (r117 > (1 : Int))) then (bif (decide ((0 : Int) ≤ i1)) then (bif (decide (i1 < ((List.length r106) : Int))) then ((impl_decimal.f (List.getD r106 (Int.toNat i1) (0 : Int))).bind fun (r138 : ByteArray) =>
                        (bif (decide (((ByteArray.size r138) + (ByteArray.size (⟨#[61]⟩ : ByteArray))) ≤ 9223372036854775807)) then (some (r138 ++ (⟨#[61]⟩ : ByteArray)))
                          else none))
                      else none)
                    else none)
                  else (bif (decide ((0 : Int) ≤ i1)) then (bif (decide (i1 < ((List.length r106) : Int))) then ((impl_decimal.f (List.getD r106 (Int.toNat i1) (0 : Int))).bind fun (r140 : ByteArray) =>
                        (some r140))
                      else none)
                    else none)))
              else none)
            else none)))))) :=
  (fnOf_eq impl_RankText.E [] Tryd.f6 [.imm (.sl (.int .i64)), .imm (.int .i64)] [(.str, .sh)] (scores0, i1)).trans (by kernel_rfl)

/-! laws_FnExactRankText -/
noncomputable def laws_FnExactRankText.E : Env := ⟨TT, [laws_toInt64S.m, spec_RankText.m, impl_RankText.m, laws_eqInt64S.m], []⟩
noncomputable def laws_FnExactRankText.f : (List Int) × Int → Option Bool := fnOf laws_FnExactRankText.E [] Tryd.f3 [.imm (.sl (.int .i64)), .imm (.int .i64)] [(.bool, .sh)]
noncomputable def laws_FnExactRankText.m : FM := ⟨3, [.imm (.sl (.int .i64)), .imm (.int .i64)], [(.bool, .sh)], laws_FnExactRankText.f⟩
theorem laws_FnExactRankText.sound : Sound Tryd.prog laws_FnExactRankText.m := sound_of (E := laws_FnExactRankText.E) tok ⟨laws_toInt64S.sound, spec_RankText.sound, impl_RankText.sound, laws_eqInt64S.sound, trivial⟩ mix Tryd.func3 (by kernel_rfl)
theorem laws_FnExactRankText.eq (aScores0 : List Int) (aI1 : Int) : laws_FnExactRankText.f (aScores0, aI1) =
  (bif (decide (((List.length aScores0) : Int) > (1048576 : Int))) then (some true)
  else ((laws_toInt64S.f aScores0).bind fun (r7 : List Int) =>
    ((spec_RankText.f (r7, aI1)).bind fun (r54 : ByteArray) =>
      ((laws_toInt64S.f aScores0).bind fun (r56 : List Int) =>
        ((impl_RankText.f (r56, aI1)).bind fun (r142 : ByteArray) =>
          (bif (!((ByteArray.toList r142) == (ByteArray.toList r54))) then (some false)
            else ((laws_toInt64S.f aScores0).bind fun (r144 : List Int) =>
              ((laws_eqInt64S.f (r56, r144)).bind fun (r151 : Bool) =>
                (bif (!r151) then (some false)
                  else (some true)))))))))) :=
  (fnOf_eq laws_FnExactRankText.E [] Tryd.f3 [.imm (.sl (.int .i64)), .imm (.int .i64)] [(.bool, .sh)] (aScores0, aI1)).trans (by kernel_rfl)
end Go.Proofs.YtkeockkepmljjaaDoor
end

section
namespace Go.Proofs.YtkeockkepmljjaaDoor
open Go Go.Proofs Pl

theorem map_range_getD (a : List Int) (d : Int) : (List.range a.length).map (fun i => a.getD i d) = a := by
  apply List.ext_getElem?
  intro j
  by_cases h : j < a.length
  · simp [h, List.getD_eq_getElem?_getD]
  · rw [List.getElem?_eq_none (by simp; omega), List.getElem?_eq_none (by omega)]

theorem toInt64S_ok (a : List Int) (h : a.length ≤ 1048576) : laws_toInt64S.f a = some a := by
  have H := loop_set (fun (s : List Int) i => laws_toInt64S.l1 a (i : Int) s) a.length (fun i => a.getD i 0) (fun s i hs hi => by
    rw [laws_toInt64S.l1_eq]
    simp [hi, hs, w64s hi (by omega)]) (List.replicate a.length 0) (by simp)
  rw [map_range_getD, laws_toInt64S.l1_eq a a.length] at H
  have e : ((a.length : Int) ≤ 17592186044416) := by omega
  rw [laws_toInt64S.eq]
  simp only [Int.natCast_nonneg, Int.le_refl, e, decide_true, cond_true, Int.toNat_natCast]
  rw [show (0 : Int) = ((0 : Nat) : Int) from rfl]
  rw [show ((0 : Nat) : Int) = (0 : Int) from rfl] at H ⊢
  rw [H]
  simp

theorem eqInt64S_ok (a b : List Int) (h : a.length ≤ 1048576) : laws_eqInt64S.f (a, b) = some (decide (a = b)) := by
  rw [laws_eqInt64S.eq]
  by_cases hl : a.length = b.length
  · have H := loop_any (fun i => laws_eqInt64S.l1 a b (i : Int)) (List.range a.length) (fun i => a.getD i 0 != b.getD i 0) (some false) (fun i hi => by
      simp only [List.length_range] at hi
      rw [laws_eqInt64S.l1_eq]
      have hb := hi
      rw [hl] at hb
      simp [hi, hb, w64s hi (by omega), cond_ite])
    simp only [List.length_range] at H
    rw [laws_eqInt64S.l1_eq a b a.length] at H
    rw [show ((0 : Nat) : Int) = (0 : Int) from rfl] at H
    rw [H]
    have e : ((a.length : Int) != (b.length : Int)) = false := by simp [hl]
    rw [e, cond_false]
    simp only [Int.lt_irrefl, decide_false, cond_false]
    by_cases hab : a = b
    · subst hab; simp
    · rw [if_pos]
      · simp [hab]
      · rw [List.any_eq_true]
        apply Classical.byContradiction
        intro hn
        refine hab (List.ext_getElem hl fun i h1 h2 => ?_)
        apply Classical.byContradiction
        intro hne
        exact hn ⟨i, by simpa using h1, by simp [h1, h2, hne]⟩
  · have : a ≠ b := fun e => hl (by rw [e])
    have e : ((a.length : Int) != (b.length : Int)) = true := by simp; omega
    simp [e, this]

/-- A list of the numbers from k on. -/
def upFrom (k : Int) (n : Nat) : List Int := (List.range n).map fun (i : Nat) => k + (i : Int)
end Go.Proofs.YtkeockkepmljjaaDoor
end

section
namespace Go.Proofs.YtkeockkepmljjaaDoor
open Go Go.Proofs Pl

def okScore (n : Int) : Bool := decide (-1000000000 ≤ n) && decide (n ≤ 1000000000)
def okScores (l : List Int) : Bool := decide (l.length ≤ 64) && l.all okScore

theorem l01In_ok (n a b : Int) : spec_l01In.f (n, a, b) = some (decide (a ≤ n) && decide (n ≤ b)) := by
  rw [spec_l01In.eq]
  by_cases h : a ≤ n <;> simp [h]
theorem within_ok (n a b : Int) : impl_within.f (n, a, b) = some (decide (a ≤ n) && decide (n ≤ b)) := by
  rw [impl_within.eq]
  by_cases h : a ≤ n <;> simp [h]
theorem isRankScore_ok (n : Int) : impl_isRankScore.f n = some (okScore n) := by
  rw [impl_isRankScore.eq, within_ok]; rfl

theorem l33Scores_ok (l : List Int) (h : l.length ≤ 1048576) : spec_l33Scores.f l = some (okScores l) := by
  have H := loop_any (fun i => spec_l33Scores.l1 l (i : Int)) l (fun n => !okScore n) (some false) (fun i hi => by
    rw [spec_l33Scores.l1_eq]
    have e : (spec_l01In.f (l.getD i 0, -1000000000, 1000000000)) = some (okScore l[i]) := by rw [l01In_ok, getD_nat hi]; rfl
    simp only [Int.toNat_natCast, e, w64s hi (show l.length ≤ 9223372036854775807 by omega)]
    simp [hi, cond_ite])
  rw [spec_l33Scores.eq]
  simp only [Int.natCast_zero, Int.ofNat_zero] at H
  rw [H, spec_l33Scores.l1_eq]
  simp only [Int.lt_irrefl, decide_false, cond_false, okScores]
  by_cases ha : l.all okScore = true
  · have : l.any (fun n => !okScore n) = false := by rw [List.any_eq_false]; intro x hx; simp [List.all_eq_true.mp ha x hx]
    rw [this, ha]; simp; omega
  · have : l.any (fun n => !okScore n) = true := by
      simp only [List.all_eq_true, Classical.not_forall] at ha
      obtain ⟨x, hx, hn⟩ := ha
      rw [List.any_eq_true]
      exact ⟨x, hx, by simp [hn]⟩
    rw [this]; simp at ha; simp [ha]

theorem idx1_ok (l : List Int) (h : l.length ≤ 1048576) : slices_ContainsFunc_int64.f (l, ()) = some (l.any fun n => !okScore n) := by
  have H := loop_find (fun i => slices_IndexFunc_int64.l1 l l.length (i : Int)) l (fun n => !okScore n) (fun i => some (i : Int)) (fun i hi => by
    rw [slices_IndexFunc_int64.l1_eq]
    have e : impl_isScoreList_1.f (l.getD i 0) = some (!okScore l[i]) := by rw [impl_isScoreList_1.eq, isRankScore_ok, getD_nat hi]; rfl
    simp only [Int.toNat_natCast, e, w64s hi (show l.length ≤ 9223372036854775807 by omega)]
    simp [hi, cond_ite])
  rw [slices_ContainsFunc_int64.eq, slices_IndexFunc_int64.eq]
  simp only [Int.natCast_zero, Int.ofNat_zero] at H
  rw [H, slices_IndexFunc_int64.l1_eq]
  simp only [Int.lt_irrefl, decide_false, cond_false]
  cases hc : l.any fun n => !okScore n <;> simp

theorem isScoreList_ok (l : List Int) (h : l.length ≤ 1048576) : impl_isScoreList.f l = some (okScores l) := by
  rw [impl_isScoreList.eq, idx1_ok l h]
  unfold okScores
  by_cases h64 : l.length ≤ 64
  · have e : ((l.length : Int) ≤ 64) := by omega
    simp only [e, h64, decide_true, cond_true, Option.bind_some, Bool.true_and, List.not_any_eq_all_not, Bool.not_not]
  · have e : ¬ ((l.length : Int) ≤ 64) := by omega
    simp [e, h64]

/-- The rank of a score. -/
def rk (l : List Int) (a : Int) : Int := 1 + (l.countP fun b => decide (a < b) : Nat)
def ranks (l : List Int) : List Int := l.map (rk l)

theorem count_fold (p : Int → Bool) (l : List Int) (n : Int) : l.foldl (fun s b => s + if p b = true then 1 else 0) n = n + (l.countP p : Nat) := by
  induction l generalizing n with
  | nil => simp
  | cons b l ih =>
    rw [List.foldl_cons, ih, List.countP_cons]
    cases hp : p b
    · simp
    · simp; omega

theorem l33Ranks_ok (l : List Int) (h : l.length ≤ 1048576) : spec_l33Ranks.f l = some (ranks l) := by
  -- one score's rank
  have inner : ∀ (i : Nat) (out : List Int) (hi : i < l.length), spec_l33Ranks.l2 l (i : Int) 1 0 out = spec_l33Ranks.l2 l (i : Int) (rk l l[i]) (l.length : Int) out := by
    intro i out hi
    have H := loop_fold (fun (s : Int) k => spec_l33Ranks.l2 l (i : Int) s (k : Int) out) l (fun s b => s + if decide (l[i] < b) = true then 1 else 0) (fun k s => 0 ≤ s ∧ s ≤ 1 + k) (fun k s hs hk => by
      rw [spec_l33Ranks.l2_eq]
      have e1 : IntKind.wrap .i64 (s + 1) = s + 1 := w64 (by omega) (by omega)
      simp only [Int.toNat_natCast, getD_nat hk, getD_nat hi, e1, spec_l33Ranks.l3_eq, w64s hk (show l.length ≤ 9223372036854775807 by omega)]
      by_cases hlt : l[i] < l[k]
      · simp [hk, hi, hlt]; omega
      · simp [hk, hi, hlt]; omega) 1 (by omega)
    rw [count_fold] at H
    exact H.1
  have H := loop_fold (fun (s : List Int) i => spec_l33Ranks.l1 l (i : Int) s) l (fun s x => s ++ [rk l x]) (fun i s => s.length = i) (fun i s hs hi => by
    refine ⟨?_, by simp [hs]⟩
    rw [spec_l33Ranks.l1_eq]
    simp only [Int.ofNat_lt, hi, decide_true, cond_true]
    rw [inner i s hi, spec_l33Ranks.l2_eq]
    have e : s.length + 1 ≤ 17592186044416 := by omega
    simp [e, w64s hi (show l.length ≤ 9223372036854775807 by omega)]) [] rfl
  rw [foldl_snoc] at H
  rw [spec_l33Ranks.eq]
  have H := H.1
  simp only [Int.natCast_zero, Int.ofNat_zero] at H
  rw [H, spec_l33Ranks.l1_eq]
  simp [ranks]

theorem flag_ok (b : Bool) : impl_flag.f b = some (if b = true then 1 else 0) := by rw [impl_flag.eq]; cases b <;> rfl

theorem rankScores_ok (l : List Int) (h : l.length ≤ 1048576) : impl_rankScores.f l = some (ranks l) := by
  have inner : ∀ (a : Int) (i : Nat) (out : List Int), impl_rankScores.l2 l a 1 l l.length (i : Int) l l.length 0 out = impl_rankScores.l2 l a (rk l a) l l.length (i : Int) l l.length (l.length : Int) out := by
    intro a i out
    have H := loop_fold (fun (s : Int) k => impl_rankScores.l2 l a s l l.length (i : Int) l l.length (k : Int) out) l (fun s b => s + if decide (a < b) = true then 1 else 0) (fun k s => 0 ≤ s ∧ s ≤ 1 + k) (fun k s hs hk => by
      rw [impl_rankScores.l2_eq]
      have e2 : (if decide (l[k] > a) = true then (1 : Int) else 0) = (if decide (a < l[k]) = true then 1 else 0) := rfl
      have e1 : ∀ b : Bool, IntKind.wrap .i64 (s + if b = true then 1 else 0) = s + if b = true then 1 else 0 := fun b => w64 (by split <;> omega) (by split <;> omega)
      simp only [Int.toNat_natCast, getD_nat hk, flag_ok, Option.bind_some, e1, w64s hk (show l.length ≤ 9223372036854775807 by omega), e2]
      refine ⟨by simp [hk], ?_⟩
      split <;> omega) 1 (by omega)
    rw [count_fold] at H
    exact H.1
  have H := loop_fold (fun (s : List Int) i => impl_rankScores.l1 l l l.length (i : Int) s) l (fun s x => s ++ [rk l x]) (fun i s => s.length = i) (fun i s hs hi => by
    refine ⟨?_, by simp [hs]⟩
    rw [impl_rankScores.l1_eq]
    simp only [Int.ofNat_lt, hi, decide_true, cond_true, Int.natCast_nonneg, Int.toNat_natCast, getD_nat hi]
    rw [inner, impl_rankScores.l2_eq]
    have e : s.length + 1 ≤ 17592186044416 := by omega
    simp [e, w64s hi (show l.length ≤ 9223372036854775807 by omega)]) [] rfl
  rw [foldl_snoc] at H
  rw [impl_rankScores.eq]
  have H := H.1
  simp only [Int.natCast_zero, Int.ofNat_zero] at H
  rw [H, impl_rankScores.l1_eq]
  simp [ranks]

theorem ranks_len (l : List Int) : (ranks l).length = l.length := by simp [ranks]
end Go.Proofs.YtkeockkepmljjaaDoor
end

section
namespace Go.Proofs.YtkeockkepmljjaaDoor
open Go Go.Proofs Pl

/-! Equal scores have equal ranks, others have others. -/
theorem countP_strict {α : Type} {p q : α → Bool} : ∀ {l : List α}, (∀ x ∈ l, p x = true → q x = true) → (∃ x ∈ l, q x = true ∧ p x = false) → l.countP p < l.countP q := by
  intro l
  induction l with
  | nil => rintro _ ⟨x, hx, _⟩; simp at hx
  | cons a l ih =>
    intro h hx
    rw [List.countP_cons, List.countP_cons]
    have hle : l.countP p ≤ l.countP q := List.countP_mono_left fun x hx hp => h x (by simp [hx]) hp
    obtain ⟨x, hx, hq, hp⟩ := hx
    rcases List.mem_cons.mp hx with rfl | hx
    · rw [hq, hp]; simp; omega
    · have hlt := ih (fun y hy => h y (by simp [hy])) ⟨x, hx, hq, hp⟩
      have ha := h a (by simp)
      cases hpa : p a <;> cases hqa : q a <;> simp_all <;> omega

theorem rk_lt {l : List Int} {a b : Int} (hb : b ∈ l) (h : a < b) : rk l b < rk l a := by
  unfold rk
  have h1 : ∀ x ∈ l, decide (b < x) = true → decide (a < x) = true := by
    intro x _ hx
    have : b < x := by simpa using hx
    simp
    omega
  have := countP_strict h1 ⟨b, hb, by simpa using h, by simp⟩
  omega
theorem rk_inj {l : List Int} {a b : Int} (ha : a ∈ l) (hb : b ∈ l) : rk l a = rk l b ↔ a = b := by
  constructor
  · intro h
    rcases Int.lt_trichotomy a b with h1 | h1 | h1
    · have := rk_lt hb h1; omega
    · exact h1
    · have := rk_lt ha h1; omega
  · rintro rfl; rfl

def many (l : List Int) (a : Int) : Int := (l.countP fun b => b == a : Nat)
theorem many_bd (l : List Int) (a : Int) : 0 ≤ many l a ∧ many l a ≤ l.length := by
  unfold many
  have := List.countP_le_length (p := fun b => b == a) (l := l)
  omega
theorem many_pos {l : List Int} {a : Int} (h : a ∈ l) : 1 ≤ many l a := by
  unfold many
  have : 0 < l.countP fun b => b == a := List.countP_pos_iff.mpr ⟨a, h, by simp⟩
  omega
theorem many_ranks {l : List Int} {a : Int} (ha : a ∈ l) : many (ranks l) (rk l a) = many l a := by
  unfold many ranks
  rw [List.countP_map]
  congr 1
  apply List.countP_congr
  intro x hx
  have := rk_inj hx ha
  simp only [Function.comp_apply, beq_iff_eq]
  exact this

theorem count_fold' (p : Int → Bool) (l : List Int) : l.foldl (fun s b => s + if p b = true then 1 else 0) 0 = ((l.countP p : Nat) : Int) := by rw [count_fold]; omega

theorem l33Equal_ok (l : List Int) (a : Int) (h : l.length ≤ 1048576) : spec_l33Equal.f (l, a) = some (many l a) := by
  have H := loop_fold (fun (s : Int) i => spec_l33Equal.l1 l a s (i : Int)) l (fun s b => s + if (b == a) = true then 1 else 0) (fun i s => 0 ≤ s ∧ s ≤ i) (fun i s hs hi => by
    refine ⟨?_, by split <;> omega⟩
    rw [spec_l33Equal.l1_eq]
    have w1 : IntKind.wrap .i64 (s + 1) = s + 1 := w64 (by omega) (by omega)
    simp only [Int.toNat_natCast, getD_nat hi, spec_l33Equal.l2_eq, w1, w64s hi (show l.length ≤ 9223372036854775807 by omega)]
    cases hb : (l[i] == a) <;> simp [hi]) 0 (by omega)
  rw [count_fold'] at H
  rw [spec_l33Equal.eq]
  have H := H.1
  simp only [Int.natCast_zero, Int.ofNat_zero] at H
  rw [H, spec_l33Equal.l1_eq]
  simp [many]
theorem equals_ok (l : List Int) (a : Int) (h : l.length ≤ 1048576) : impl_equals.f (l, a) = some (many l a) := by
  have H := loop_fold (fun (s : Int) i => impl_equals.l1 a s l l.length (i : Int)) l (fun s b => s + if (b == a) = true then 1 else 0) (fun i s => 0 ≤ s ∧ s ≤ i) (fun i s hs hi => by
    refine ⟨?_, by split <;> omega⟩
    rw [impl_equals.l1_eq]
    have e1 : ∀ b : Bool, IntKind.wrap .i64 (s + if b = true then 1 else 0) = s + if b = true then 1 else 0 := fun b => w64 (by split <;> omega) (by split <;> omega)
    simp only [Int.toNat_natCast, getD_nat hi, flag_ok, Option.bind_some, e1, w64s hi (show l.length ≤ 9223372036854775807 by omega)]
    simp [hi]) 0 (by omega)
  rw [count_fold'] at H
  rw [impl_equals.eq]
  have H := H.1
  simp only [Int.natCast_zero, Int.ofNat_zero] at H
  rw [H, impl_equals.l1_eq]
  simp [many]

end Go.Proofs.YtkeockkepmljjaaDoor
end

section
set_option maxRecDepth 10000
namespace Go.Proofs.YtkeockkepmljjaaDoor
open Go Go.Proofs Ev Pl

def numS (n0 : Int) : Option ByteArray :=
  (bif (decide (n0 < (10 : Int))) then (some (strOf [(IntKind.wrap .u8 (IntKind.wrap .i64 ((48 : Int) + n0)))]))
  else (some (strOf [(IntKind.wrap .u8 (IntKind.wrap .i64 ((48 : Int) + (IntKind.wrap .i64 (Int.tdiv n0 (10 : Int)))))), (IntKind.wrap .u8 (IntKind.wrap .i64 ((48 : Int) + (Int.tmod n0 (10 : Int)))))])))
def numI (i0 : Int) : Option ByteArray :=
  (bif (decide (i0 < (10 : Int))) then (bif (decide ((0 : Int) ≤ i0)) then (bif (decide (i0 ≤ (IntKind.wrap .i64 (i0 + (1 : Int))))) then (bif (decide ((IntKind.wrap .i64 (i0 + (1 : Int))) ≤ ((ByteArray.size (⟨#[48, 49, 50, 51, 52, 53, 54, 55, 56, 57, 97, 98, 99, 100, 101, 102, 103, 104, 105, 106, 107, 108, 109, 110, 111, 112, 113, 114, 115, 116, 117, 118, 119, 120, 121, 122]⟩ : ByteArray)) : Int))) then (some (ByteArray.extract (⟨#[48, 49, 50, 51, 52, 53, 54, 55, 56, 57, 97, 98, 99, 100, 101, 102, 103, 104, 105, 106, 107, 108, 109, 110, 111, 112, 113, 114, 115, 116, 117, 118, 119, 120, 121, 122]⟩ : ByteArray) (Int.toNat i0) (Int.toNat (IntKind.wrap .i64 (i0 + (1 : Int))))))
        else none)
      else none)
    else none)
  else (bif (decide ((0 : Int) ≤ (IntKind.wrap .i64 (i0 * (2 : Int))))) then (bif (decide ((IntKind.wrap .i64 (i0 * (2 : Int))) ≤ (IntKind.wrap .i64 ((IntKind.wrap .i64 (i0 * (2 : Int))) + (2 : Int))))) then (bif (decide ((IntKind.wrap .i64 ((IntKind.wrap .i64 (i0 * (2 : Int))) + (2 : Int))) ≤ ((ByteArray.size (⟨#[48, 48, 48, 49, 48, 50, 48, 51, 48, 52, 48, 53, 48, 54, 48, 55, 48, 56, 48, 57, 49, 48, 49, 49, 49, 50, 49, 51, 49, 52, 49, 53, 49, 54, 49, 55, 49, 56, 49, 57, 50, 48, 50, 49, 50, 50, 50, 51, 50, 52, 50, 53, 50, 54, 50, 55, 50, 56, 50, 57, 51, 48, 51, 49, 51, 50, 51, 51, 51, 52, 51, 53, 51, 54, 51, 55, 51, 56, 51, 57, 52, 48, 52, 49, 52, 50, 52, 51, 52, 52, 52, 53, 52, 54, 52, 55, 52, 56, 52, 57, 53, 48, 53, 49, 53, 50, 53, 51, 53, 52, 53, 53, 53, 54, 53, 55, 53, 56, 53, 57, 54, 48, 54, 49, 54, 50, 54, 51, 54, 52, 54, 53, 54, 54, 54, 55, 54, 56, 54, 57, 55, 48, 55, 49, 55, 50, 55, 51, 55, 52, 55, 53, 55, 54, 55, 55, 55, 56, 55, 57, 56, 48, 56, 49, 56, 50, 56, 51, 56, 52, 56, 53, 56, 54, 56, 55, 56, 56, 56, 57, 57, 48, 57, 49, 57, 50, 57, 51, 57, 52, 57, 53, 57, 54, 57, 55, 57, 56, 57, 57]⟩ : ByteArray)) : Int))) then (some (ByteArray.extract (⟨#[48, 48, 48, 49, 48, 50, 48, 51, 48, 52, 48, 53, 48, 54, 48, 55, 48, 56, 48, 57, 49, 48, 49, 49, 49, 50, 49, 51, 49, 52, 49, 53, 49, 54, 49, 55, 49, 56, 49, 57, 50, 48, 50, 49, 50, 50, 50, 51, 50, 52, 50, 53, 50, 54, 50, 55, 50, 56, 50, 57, 51, 48, 51, 49, 51, 50, 51, 51, 51, 52, 51, 53, 51, 54, 51, 55, 51, 56, 51, 57, 52, 48, 52, 49, 52, 50, 52, 51, 52, 52, 52, 53, 52, 54, 52, 55, 52, 56, 52, 57, 53, 48, 53, 49, 53, 50, 53, 51, 53, 52, 53, 53, 53, 54, 53, 55, 53, 56, 53, 57, 54, 48, 54, 49, 54, 50, 54, 51, 54, 52, 54, 53, 54, 54, 54, 55, 54, 56, 54, 57, 55, 48, 55, 49, 55, 50, 55, 51, 55, 52, 55, 53, 55, 54, 55, 55, 55, 56, 55, 57, 56, 48, 56, 49, 56, 50, 56, 51, 56, 52, 56, 53, 56, 54, 56, 55, 56, 56, 56, 57, 57, 48, 57, 49, 57, 50, 57, 51, 57, 52, 57, 53, 57, 54, 57, 55, 57, 56, 57, 57]⟩ : ByteArray) (Int.toNat (IntKind.wrap .i64 (i0 * (2 : Int)))) (Int.toNat (IntKind.wrap .i64 ((IntKind.wrap .i64 (i0 * (2 : Int))) + (2 : Int))))))
        else none)
      else none)
    else none))
theorem num_all : ∀ k : Fin 66, numS (k.val : Int) = numI (k.val : Int) ∧ (numS (k.val : Int)).isSome = true ∧ (numS (k.val : Int)).all (fun s => decide (s.size ≤ 2)) = true := by decide +kernel
theorem num_ok (n : Int) (h1 : 0 ≤ n) (h2 : n ≤ 65) : ∃ s : ByteArray, spec_l24Number.f n = some s ∧ impl_decimal.f n = some s ∧ s.size ≤ 2 := by
  obtain ⟨k, rfl⟩ : ∃ k : Nat, n = k := ⟨n.toNat, by omega⟩
  obtain ⟨e1, e2, e3⟩ := num_all ⟨k, by omega⟩
  simp only at e1 e2 e3
  obtain ⟨s, hs⟩ := Option.isSome_iff_exists.mp e2
  have i1 : spec_l24Number.f (k : Int) = some s := (spec_l24Number.eq _).trans hs
  have i2 : internal_strconv_small.f (k : Int) = some s := (internal_strconv_small.eq _).trans (e1.symm.trans hs)
  refine ⟨s, i1, ?_, by rw [hs] at e3; simpa using e3⟩
  rw [impl_decimal.eq, strconv_FormatInt.eq, internal_strconv_FormatInt.eq]
  have c : ((k : Int) < 100) := by omega
  simp [c, i2]

theorem RankText_ok (l : List Int) (i : Int) (h : l.length ≤ 1048576) : ∃ s, spec_RankText.f (l, i) = some s ∧ impl_RankText.f (l, i) = some s := by
  rw [spec_RankText.eq, impl_RankText.eq, l33Scores_ok l h, isScoreList_ok l h]
  simp only [Option.bind_some]
  by_cases hs : okScores l = true
  · have h64 : l.length ≤ 64 := by unfold okScores at hs; simp only [Bool.and_eq_true, decide_eq_true_eq] at hs; exact hs.1
    have w : IntKind.wrap .i64 ((l.length : Int) - 1) = (l.length : Int) - 1 := w64 (by omega) (by omega)
    simp only [hs, Bool.not_true, cond_false, w, l01In_ok, within_ok, Option.bind_some]
    by_cases hi : 0 ≤ i ∧ i ≤ (l.length : Int) - 1
    · obtain ⟨k, rfl⟩ : ∃ k : Nat, i = k := ⟨i.toNat, by omega⟩
      have hk : k < l.length := by omega
      have hr : (ranks l).getD k 0 = rk l l[k] := by simp [ranks, List.getD_eq_getElem?_getD, hk]
      have hb : 1 ≤ rk l l[k] ∧ rk l l[k] ≤ 1 + l.length := by
        unfold rk
        have := List.countP_le_length (p := fun b => decide (l[k] < b)) (l := l)
        omega
      obtain ⟨s, e1, e2, e3⟩ := num_ok (rk l l[k]) (by omega) (by omega)
      have c1 : ((k : Int) < (l.length : Int)) := by omega
      have hrl : (ranks l).length = l.length := ranks_len l
      have hz : s.size + (ByteArray.size (⟨#[61]⟩ : ByteArray)) ≤ 9223372036854775807 := by
        have : ByteArray.size (⟨#[61]⟩ : ByteArray) = 1 := rfl
        omega
      simp only [hi.1, hi.2, decide_true, Bool.and_self, Bool.not_true, cond_false, cond_true, l33Ranks_ok l h, rankScores_ok l h, Option.bind_some, hrl, c1, Int.toNat_natCast, hr, getD_nat hk, e1, e2, l33Equal_ok l _ h, equals_ok (ranks l) _ (by omega), many_ranks (List.getElem_mem hk), hz]
      cases decide (many l l[k] > 1)
      · exact ⟨_, rfl, rfl⟩
      · exact ⟨_, rfl, rfl⟩
    · have : (decide (0 ≤ i) && decide (i ≤ (l.length : Int) - 1)) = false := by simpa using hi
      simp only [this, Bool.not_false, cond_true]
      exact ⟨_, rfl, rfl⟩
  · have : okScores l = false := by simpa using hs
    simp only [this, Bool.not_false, cond_true]
    exact ⟨_, rfl, rfl⟩

theorem FnExactRankText_true (l : List Int) (i : Int) (hw : ∀ n ∈ l, (Lit.int .i64 n).wf = true) (hl : l.length ≤ maxLen) (hi : (Lit.int .i64 i).wf = true) : laws_FnExactRankText.f (l, i) = some true := by
  rw [laws_FnExactRankText.eq]
  by_cases hb : (l.length : Int) > 1048576
  · simp [hb]
  · have h : l.length ≤ 1048576 := by omega
    obtain ⟨s, e1, e2⟩ := RankText_ok l i h
    simp [hb, toInt64S_ok l h, e1, e2, eqInt64S_ok l l h]
end Go.Proofs.YtkeockkepmljjaaDoor
end

section
namespace Go.Proofs.YtkeockkepmljjaaDoor.fnExactRankText
open Go.ChangeShapes Go.WideShapes Go.ChangeAt Go.RowKit
open Go.ChangeMaps (open_string shut_string)
open Ev (IsRow)
theorem own : ownKnob Tryd.prog.godebug = none := by kernel_rfl
theorem laidOut : laidOutB Tryd.prog = true := by kernel_rfl
theorem walk (a0 : Option Addr) (len0 cap0 : Nat) (z0 : List Int) (a1 : Int) (w : World) (w0 : IsRow .i64 w a0 len0 cap0 z0) (w1 : (Lit.int .i64 a1).wf = true) : Calls Tryd.prog 3 #[.slice a0 len0 cap0, .int .i64 a1] w fun e w' => e = .returned (.bool true) ∧ Below w.heap.size w w' :=
  Ev.law_calls laws_FnExactRankText.sound (Vs := [.slice a0 len0 cap0, .int .i64 a1]) (x := ((z0.take len0), a1)) (r := true) (Ev.argsAt_cons (Ev.arg_ints w0) (Ev.argsAt_one Ev.arg_int)) (FnExactRankText_true (z0.take len0) a1 (fun n hn => Ev.row_wf w0 n hn) (Ev.row_len w0) w1) rfl
set_option maxRecDepth 100000 in
theorem contract (H : Type) (enc : TypeId × Value → H) (W : World) (base : Nat) (args : Array Value) (ds gs : List (DataW H)) (before : List MemPlace)
    (hval0 : ∀ (j : Nat) t v, Tryd.f3.params[j]? = some t → args[j]? = some v → Value.okWide Tryd.prog W .any base t v)
    (hW : DataW.Whole enc Tryd.prog Tryd.f3.params.toList Rows.fnExactRankTextSpec.vars false W args.toList ds gs before) :
    Calls Tryd.prog 3 args W fun e W' => ∃ v, e = .returned v ∧ Rows.fnExactRankTextSpec.post enc Tryd.prog Tryd.f3 false true false false W args v W' := by
  have hval : ∀ (j : Nat) t v, Tryd.f3.params[j]? = some t → args[j]? = some v → Value.okWide Tryd.prog W .any base t v := hval0
  have hW' := hW
  obtain ⟨p, q, hA0, hV, rfl, hfz, hnd⟩ := hW
  have hA : DataW.TrodAll enc Tryd.prog W 0 (fun _ => true) true Tryd.f3.params.toList args.toList ds p := hA0
  rw [Tryd.params3] at hA hval
  obtain ⟨v0, vs0, d0, ds0, p0, q0, hargs, rfl, rfl, h0, r0⟩ := trodAll_cons hA
  obtain ⟨v1, vs1, d1, ds1, p1, q1, rfl, rfl, rfl, h1, r1⟩ := trodAll_cons r0
  obtain ⟨rfl, rfl, rfl⟩ := trodAll_nil r1
  obtain rfl : args = #[v0, v1] := by cases args; simp_all
  obtain ⟨rfl, rfl⟩ := trodVars_none hV
  obtain ⟨a0, len0, cap0, rfl⟩ := okWide_slice Tryd.underlying22 (hval 0 22 v0 rfl rfl)
  have k0 := h0
  have lt0 : ∀ x ∈ p0, x.block < W.heap.size := by obtain ⟨m, hm⟩ := k0; exact DataW.trod_lt m _ _ _ hm
  obtain ⟨z0, w0⟩ : ∃ zs, IsRow .i64 W a0 len0 cap0 zs := by
    obtain ⟨fuel, hf⟩ := h0
    rcases open_ints Tryd.underlying22 Tryd.underlying2 (by kernel_rfl) hf with ⟨hcs, _⟩ | ⟨x, l, c, zs, hcs, _, hl, hm, hz, _, hcell, hwz⟩
    · simp [Value.cells] at hcs
      obtain ⟨rfl, rfl, rfl⟩ := hcs
      exact ⟨[], .inl ⟨rfl, rfl, rfl, rfl⟩⟩
    · simp [Value.cells] at hcs
      obtain ⟨rfl, rfl, rfl⟩ := hcs
      exact ⟨zs, .inr ⟨_, rfl, hl, hm, by simpa using hz, hcell, hwz⟩⟩
  obtain ⟨a1, rfl, rfl, rfl, w1⟩ := open_int Tryd.underlying2 (hval 1 2 v1 rfl rfl) h1
  clear hA0 hval0
  refine (walk a0 len0 cap0 z0 a1 W w0 w1).mono fun e W' ⟨he, bel⟩ => ?_
  subst he
  exact ⟨_, rfl, _, _, _, [], _, [], hW', trodAll_mk1 (shut_bool Tryd.underlying4 _), (trodAll_cons_mk (Below.trod laidOut (by kernel_rfl) (of_decide_eq_true (by kernel_rfl)) k0 bel lt0) (trodAll_cons_mk (shut_int Tryd.underlying2 w1) trodAll_mk0)), rfl, bel.frame _, fun h => by cases h⟩
def tab0 : Array Value := #[.int .u64 1, .int .u64 10, .int .u64 100, .int .u64 1000, .int .u64 10000, .int .u64 100000, .int .u64 1000000, .int .u64 10000000, .int .u64 100000000, .int .u64 1000000000, .int .u64 10000000000, .int .u64 100000000000, .int .u64 1000000000000, .int .u64 10000000000000, .int .u64 100000000000000, .int .u64 1000000000000000, .int .u64 10000000000000000, .int .u64 100000000000000000, .int .u64 1000000000000000000, .int .u64 10000000000000000000]
def tab1 : Array Value := #[.int .u8 0, .int .u8 1, .int .u8 28, .int .u8 2, .int .u8 29, .int .u8 14, .int .u8 24, .int .u8 3, .int .u8 30, .int .u8 22, .int .u8 20, .int .u8 15, .int .u8 25, .int .u8 17, .int .u8 4, .int .u8 8, .int .u8 31, .int .u8 27, .int .u8 13, .int .u8 23, .int .u8 21, .int .u8 19, .int .u8 16, .int .u8 7, .int .u8 26, .int .u8 12, .int .u8 18, .int .u8 6, .int .u8 11, .int .u8 5, .int .u8 10, .int .u8 9]
def tab2 : Array Value := #[.int .u8 0, .int .u8 1, .int .u8 56, .int .u8 2, .int .u8 57, .int .u8 49, .int .u8 28, .int .u8 3, .int .u8 61, .int .u8 58, .int .u8 42, .int .u8 50, .int .u8 38, .int .u8 29, .int .u8 17, .int .u8 4, .int .u8 62, .int .u8 47, .int .u8 59, .int .u8 36, .int .u8 45, .int .u8 43, .int .u8 51, .int .u8 22, .int .u8 53, .int .u8 39, .int .u8 33, .int .u8 30, .int .u8 24, .int .u8 18, .int .u8 12, .int .u8 5, .int .u8 63, .int .u8 55, .int .u8 48, .int .u8 27, .int .u8 60, .int .u8 41, .int .u8 37, .int .u8 16, .int .u8 46, .int .u8 35, .int .u8 44, .int .u8 21, .int .u8 52, .int .u8 32, .int .u8 23, .int .u8 11, .int .u8 54, .int .u8 26, .int .u8 40, .int .u8 15, .int .u8 34, .int .u8 20, .int .u8 31, .int .u8 10, .int .u8 25, .int .u8 14, .int .u8 19, .int .u8 9, .int .u8 13, .int .u8 8, .int .u8 7, .int .u8 6]
noncomputable def laidWorld (os : Os) : World :=
  { World.holding Tryd.prog os ⟨#[], #[], []⟩ with heap := (((World.holding Tryd.prog os ⟨#[], #[], []⟩).heap.modify 0 (fun | .cells _ t frozen => .cells tab0 t frozen | o => o)).modify 1 (fun | .cells _ t frozen => .cells tab1 t frozen | o => o)).modify 2 (fun | .cells _ t frozen => .cells tab2 t frozen | o => o) }
theorem laid_met (os : Os) : laidMet Tryd.prog Rows.fnExactRankTextRow.laid ((laidWorld os).forCall (fun _ _ => 0) ⟨#[], #[.slice none 0 0, .int .i64 0], []⟩).memory :=
  laidMet_of_run' 80 (by kernel_rfl) (by kernel_rfl)
set_option maxRecDepth 100000 in
theorem lifted (os : Os) (started : os.Started) (H : Type) (enc : TypeId × Value → H) (F : Stop.Interp) :
    ReturnsInHanded {} Tryd.checked os 3 .any ((OpenSpec.ofChange Rows.fnExactRankTextSpec).preRow enc Tryd.prog Tryd.f3 Rows.fnExactRankTextRow.domain false Rows.fnExactRankTextRow.laid) (((OpenSpec.ofChange Rows.fnExactRankTextSpec).at F).post enc Tryd.prog Tryd.f3 false true false false) := by
  have hx : DataW.whole enc Tryd.prog ((laidWorld os).forCall (fun _ _ => 0) ⟨#[], #[.slice none 0 0, .int .i64 0], []⟩).memory Tryd.f3.params.toList Rows.fnExactRankTextSpec.vars false (#[.slice none 0 0, .int .i64 0] : Array Value).toList 8 = some ([.nil, .lit (.int .i64 0)], [], []) := by kernel_rfl
  refine returnsInHanded_of_row (C := Tryd.checked) (s := OpenSpec.ofChange Rows.fnExactRankTextSpec) own started (by kernel_rfl) Tryd.func3
    (witness_row_at (enc := enc) (C := Tryd.checked) false (laidWorld os) #[.slice none 0 0, .int .i64 0] rfl (by kernel_rfl) (by kernel_rfl) (by kernel_rfl)
      (OpenSpec.preRow_of_cond 8 hx (by kernel_rfl) (fun k hk => by cases hk) (by kernel_rfl) (laid_met os))) ?_
  intro W base args ds gs before hval hW _ _ _ hL _ _
  exact contract H enc W base args ds gs before hval hW
theorem said : Rows.FnExactRankTextSaid :=
  OpenClaim.holds_of_cond 3 Tryd.f3 rfl rfl rfl rfl rfl rfl rfl ⟨rfl, rfl, rfl, rfl, rfl⟩ rfl rfl rfl rfl rfl (by kernel_rfl) Tryd.func3 (by kernel_rfl)
    (of_decide_eq_true (by kernel_rfl)) (by unfold Func.isWrapper; first | (rw [if_pos (by decide +kernel)]; kernel_rfl) | (rw [if_neg (by decide +kernel)]; exact ⟨rfl, rfl⟩))
    (fun os started H enc _ F => by rw [OpenClaim.pre_eq_preRow]; exact lifted os started H enc F)
theorem plain (f : FuncId) (fn : Func) (hf : Tryd.pinned.checked.prog.funcNamed "loop.example/g00854/laws.FnExactRankText" = some f) (hfn : Tryd.pinned.checked.prog.funcs[f]? = some fn) :
    false = Tryd.pinned.checked.prog.looks [] ∧ ∀ (j : Nat) t, fn.params[j]? = some t → Tryd.pinned.checked.prog.wantsStandIn t = false := by
  obtain rfl : f = 3 := Option.some.inj ((show Tryd.prog.funcNamed "loop.example/g00854/laws.FnExactRankText" = some 3 by kernel_rfl).symm.trans hf) |>.symm
  obtain rfl : fn = Tryd.f3 := (Option.some.inj (Tryd.func3.symm.trans hfn)).symm
  refine ⟨by kernel_rfl, fun j t ht => ?_⟩
  rw [Tryd.params3] at ht
  have hm := Array.mem_of_getElem? ht
  simp only [List.mem_toArray, List.mem_cons, List.not_mem_nil, or_false] at hm
  rcases hm with rfl | rfl
  · exact (show Tryd.prog.wantsStandIn _ = false by kernel_rfl)
  · exact (show Tryd.prog.wantsStandIn _ = false by kernel_rfl)
theorem card : Rows.FnExactRankTextCardSaid :=
  Claim7.holds_tied_plain_at .later [] _ _ _ _ said (fun _ h => by cases h) (by kernel_rfl) (fun _ h => by cases h) fnExactRankText_row_tie rfl ⟨rfl, rfl⟩ (by kernel_rfl) rfl plain (by kernel_rfl)
end Go.Proofs.YtkeockkepmljjaaDoor.fnExactRankText
namespace Go.Proofs.YtkeockkepmljjaaDoor
/-- The card, under a short name, for the claim. -/
theorem fnExactRankText_holds : Rows.FnExactRankTextCardSaid := fnExactRankText.card
end Go.Proofs.YtkeockkepmljjaaDoor
end

