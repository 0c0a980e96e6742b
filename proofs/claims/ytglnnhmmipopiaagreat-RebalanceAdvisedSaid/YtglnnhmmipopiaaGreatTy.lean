/-
  The table of this program's types, as the proofs ask for it, and that it is the program's own.
  Conditions: none.
-/
import Derived.Test.YtglnnhmmipopiaaGreatFa
import Derived.Test.YtglnnhmmipopiaaGreatProg
namespace Go.Proofs.YtglnnhmmipopiaaGreat
def tyT : List TyD := [
    ⟨1, 0, .other, [.tuple #[]], true⟩
  , ⟨1, 8, .other, [.nilFunc], true⟩
  , ⟨1, 8, .int .i64, [.int .i64 0], true⟩
  , ⟨1, 8, .int .i64, [.int .i64 0], true⟩
  , ⟨1, 1, .bool, [.bool false], true⟩
  , ⟨1, 1, .int .u8, [.int .u8 0], true⟩
  , ⟨1, 1, .int .u8, [.int .u8 0], true⟩
  , ⟨4, 24, .struct [(0, 2), (1, 3), (2, 4), (3, 6)], [.int .i64 0, .int .i64 0, .bool false, .int .u8 0], true⟩
  , ⟨4, 24, .struct [(0, 2), (1, 3), (2, 4), (3, 6)], [.int .i64 0, .int .i64 0, .bool false, .int .u8 0], true⟩
  , ⟨1, 16, .str, [.string ⟨⟨[]⟩⟩], true⟩
  , ⟨1, 16, .str, [.string ⟨⟨[]⟩⟩], true⟩
  , ⟨1, 16, .str, [.string ⟨⟨[]⟩⟩], true⟩
  , ⟨1, 8, .int .u64, [.int .u64 0], true⟩
  , ⟨2, 24, .struct [(0, 9), (1, 12)], [.string ⟨⟨[]⟩⟩, .int .u64 0], false⟩
  , ⟨2, 24, .struct [(0, 9), (1, 12)], [.string ⟨⟨[]⟩⟩, .int .u64 0], false⟩
  , ⟨1, 8, .ptr 170, [.pointer none], true⟩
  , ⟨1, 8, .ptr 173, [.pointer none], true⟩
  , ⟨1, 8, .ptr 182, [.pointer none], true⟩
  , ⟨1, 8, .struct [(0, 17)], [.pointer none], false⟩
  , ⟨1, 8, .struct [(0, 17)], [.pointer none], false⟩
  , ⟨1, 16, .other, [.nilIface], true⟩
  , ⟨1, 4, .int .i32, [.int .i32 0], true⟩
  , ⟨1, 24, .slice 60, [.slice none 0 0], true⟩
  , ⟨2, 32, .struct [(0, 2), (1, 22)], [.int .i64 0, .slice none 0 0], true⟩
  , ⟨2, 32, .struct [(0, 2), (1, 22)], [.int .i64 0, .slice none 0 0], true⟩
  , ⟨1, 24, .slice 46, [.slice none 0 0], true⟩
  , ⟨6, 56, .struct [(0, 3), (1, 3), (2, 3), (3, 3), (4, 3), (5, 9)], [.int .i64 0, .int .i64 0, .int .i64 0, .int .i64 0, .int .i64 0, .string ⟨⟨[]⟩⟩], true⟩
  , ⟨6, 56, .struct [(0, 3), (1, 3), (2, 3), (3, 3), (4, 3), (5, 9)], [.int .i64 0, .int .i64 0, .int .i64 0, .int .i64 0, .int .i64 0, .string ⟨⟨[]⟩⟩], true⟩
  , ⟨1, 8, .other, [.nilFunc], true⟩
  , ⟨1, 8, .other, [.nilFunc], true⟩
  , ⟨1, 8, .int .i64, [.int .i64 0], true⟩
  , ⟨1, 0, .other, [.tuple #[.agg #[.int .i64 0, .slice none 0 0], .slice none 0 0, .int .i64 0]], true⟩
  , ⟨1, 8, .other, [.nilFunc], true⟩
  , ⟨1, 24, .slice 56, [.slice none 0 0], true⟩
  , ⟨1, 0, .other, [.tuple #[.slice none 0 0, .int .i64 0]], true⟩
  , ⟨1, 8, .other, [.nilFunc], true⟩
  , ⟨1, 8, .other, [.nilFunc], true⟩
  , ⟨1, 8, .other, [.nilFunc], true⟩
  , ⟨1, 8, .other, [.nilFunc], true⟩
  , ⟨1, 8, .other, [.nilFunc], true⟩
  , ⟨1, 24, .slice 58, [.slice none 0 0], true⟩
  , ⟨1, 24, .slice 3, [.slice none 0 0], true⟩
  , ⟨1, 8, .other, [.nilFunc], true⟩
  , ⟨1, 24, .slice 2, [.slice none 0 0], true⟩
  , ⟨1, 8, .other, [.nilFunc], true⟩
  , ⟨2, 32, .struct [(0, 3), (1, 33)], [.int .i64 0, .slice none 0 0], true⟩
  , ⟨2, 32, .struct [(0, 3), (1, 33)], [.int .i64 0, .slice none 0 0], true⟩
  , ⟨1, 8, .other, [.nilFunc], true⟩
  , ⟨1, 8, .other, [.nilFunc], true⟩
  , ⟨1, 8, .other, [.nilFunc], true⟩
  , ⟨1, 8, .other, [.nilFunc], true⟩
  , ⟨1, 0, .other, [.tuple #[.agg #[.int .i64 0, .int .i64 0, .int .i64 0, .int .i64 0, .int .i64 0, .string ⟨⟨[]⟩⟩], .bool false]], true⟩
  , ⟨1, 8, .other, [.nilFunc], true⟩
  , ⟨3, 32, .struct [(0, 3), (1, 2), (2, 9)], [.int .i64 0, .int .i64 0, .string ⟨⟨[]⟩⟩], true⟩
  , ⟨3, 32, .struct [(0, 3), (1, 2), (2, 9)], [.int .i64 0, .int .i64 0, .string ⟨⟨[]⟩⟩], true⟩
  , ⟨4, 48, .struct [(0, 9), (1, 54)], [.string ⟨⟨[]⟩⟩, .int .i64 0, .int .i64 0, .string ⟨⟨[]⟩⟩], true⟩
  , ⟨4, 48, .struct [(0, 9), (1, 54)], [.string ⟨⟨[]⟩⟩, .int .i64 0, .int .i64 0, .string ⟨⟨[]⟩⟩], true⟩
  , ⟨2, 24, .struct [(0, 9), (1, 2)], [.string ⟨⟨[]⟩⟩, .int .i64 0], true⟩
  , ⟨2, 24, .struct [(0, 9), (1, 2)], [.string ⟨⟨[]⟩⟩, .int .i64 0], true⟩
  , ⟨5, 56, .struct [(0, 3), (1, 9), (2, 3), (3, 3), (4, 9)], [.int .i64 0, .string ⟨⟨[]⟩⟩, .int .i64 0, .int .i64 0, .string ⟨⟨[]⟩⟩], true⟩
  , ⟨5, 56, .struct [(0, 3), (1, 9), (2, 3), (3, 3), (4, 9)], [.int .i64 0, .string ⟨⟨[]⟩⟩, .int .i64 0, .int .i64 0, .string ⟨⟨[]⟩⟩], true⟩
  , ⟨1, 8, .other, [.nilFunc], true⟩
  , ⟨1, 8, .other, [.nilFunc], true⟩
  , ⟨1, 8, .other, [.nilFunc], true⟩
  , ⟨1, 8, .other, [.nilFunc], true⟩
  , ⟨9, 112, .struct [(0, 24), (2, 25), (3, 27)], [.int .i64 0, .slice none 0 0, .slice none 0 0, .int .i64 0, .int .i64 0, .int .i64 0, .int .i64 0, .int .i64 0, .string ⟨⟨[]⟩⟩], true⟩
  , ⟨9, 112, .struct [(0, 24), (2, 25), (3, 27)], [.int .i64 0, .slice none 0 0, .slice none 0 0, .int .i64 0, .int .i64 0, .int .i64 0, .int .i64 0, .int .i64 0, .string ⟨⟨[]⟩⟩], true⟩
  , ⟨4, 32, .arr 4 63, [.nilFunc, .nilFunc, .nilFunc, .nilFunc], true⟩
  , ⟨1, 8, .other, [.nilFunc], true⟩
  , ⟨1, 8, .other, [.nilFunc], true⟩
  , ⟨1, 8, .other, [.nilFunc], true⟩
  , ⟨1, 8, .other, [.nilFunc], true⟩
  , ⟨1, 8, .other, [.nilFunc], true⟩
  , ⟨1, 8, .other, [.nilFunc], true⟩
  , ⟨1, 0, .other, [.tuple #[.agg #[.int .i64 0, .slice none 0 0], .int .i64 0]], true⟩
  , ⟨1, 8, .other, [.nilFunc], true⟩
  , ⟨1, 8, .other, [.nilFunc], true⟩
  , ⟨1, 8, .other, [.nilFunc], true⟩
  , ⟨2, 32, .struct [(0, 9), (1, 9)], [.string ⟨⟨[]⟩⟩, .string ⟨⟨[]⟩⟩], true⟩
  , ⟨2, 32, .struct [(0, 9), (1, 9)], [.string ⟨⟨[]⟩⟩, .string ⟨⟨[]⟩⟩], true⟩
  , ⟨7, 88, .struct [(0, 3), (1, 3), (2, 3), (3, 79), (5, 33), (6, 4)], [.int .i64 0, .int .i64 0, .int .i64 0, .string ⟨⟨[]⟩⟩, .string ⟨⟨[]⟩⟩, .slice none 0 0, .bool false], true⟩
  , ⟨7, 88, .struct [(0, 3), (1, 3), (2, 3), (3, 79), (5, 33), (6, 4)], [.int .i64 0, .int .i64 0, .int .i64 0, .string ⟨⟨[]⟩⟩, .string ⟨⟨[]⟩⟩, .slice none 0 0, .bool false], true⟩
  , ⟨1, 0, .other, [.tuple #[.agg #[.int .i64 0, .slice none 0 0], .slice none 0 0, .agg #[.int .i64 0, .int .i64 0, .int .i64 0, .string ⟨⟨[]⟩⟩, .string ⟨⟨[]⟩⟩, .slice none 0 0, .bool false], .int .i64 0]], true⟩
  , ⟨1, 8, .other, [.nilFunc], true⟩
  , ⟨1, 8, .other, [.nilFunc], true⟩
  , ⟨1, 24, .slice 9, [.slice none 0 0], true⟩
  , ⟨1, 8, .other, [.nilFunc], true⟩
  , ⟨1, 8, .other, [.nilFunc], true⟩
  , ⟨7, 136, .struct [(0, 24), (2, 33), (3, 41), (4, 43), (5, 85), (6, 3)], [.int .i64 0, .slice none 0 0, .slice none 0 0, .slice none 0 0, .slice none 0 0, .slice none 0 0, .int .i64 0], true⟩
  , ⟨7, 136, .struct [(0, 24), (2, 33), (3, 41), (4, 43), (5, 85), (6, 3)], [.int .i64 0, .slice none 0 0, .slice none 0 0, .slice none 0 0, .slice none 0 0, .slice none 0 0, .int .i64 0], true⟩
  , ⟨1, 8, .other, [.nilFunc], true⟩
  , ⟨1, 8, .other, [.nilFunc], true⟩
  , ⟨1, 8, .other, [.nilFunc], true⟩
  , ⟨1, 8, .other, [.nilFunc], true⟩
  , ⟨1, 24, .slice 5, [.slice none 0 0], true⟩
  , ⟨1, 8, .other, [.nilFunc], true⟩
  , ⟨1, 8, .other, [.nilFunc], true⟩
  , ⟨1, 8, .other, [.nilFunc], true⟩
  , ⟨1, 8, .other, [.nilFunc], true⟩
  , ⟨1, 8, .other, [.nilFunc], true⟩
  , ⟨1, 8, .other, [.nilFunc], true⟩
  , ⟨1, 8, .other, [.nilFunc], true⟩
  , ⟨1, 8, .other, [.nilFunc], true⟩
  , ⟨1, 8, .other, [.nilFunc], true⟩
  , ⟨1, 8, .other, [.nilFunc], true⟩
  , ⟨1, 8, .other, [.nilFunc], true⟩
  , ⟨1, 8, .other, [.nilFunc], true⟩
  , ⟨1, 8, .other, [.nilFunc], true⟩
  , ⟨1, 8, .other, [.nilFunc], true⟩
  , ⟨1, 8, .other, [.nilFunc], true⟩
  , ⟨1, 8, .other, [.nilFunc], true⟩
  , ⟨1, 8, .other, [.nilFunc], true⟩
  , ⟨1, 0, .other, [.tuple #[.int .i64 0, .int .i64 0]], true⟩
  , ⟨1, 8, .other, [.nilFunc], true⟩
  , ⟨1, 0, .other, [.tuple #[.agg #[.string ⟨⟨[]⟩⟩, .string ⟨⟨[]⟩⟩], .int .i64 0]], true⟩
  , ⟨1, 8, .other, [.nilFunc], true⟩
  , ⟨1, 8, .other, [.nilFunc], true⟩
  , ⟨1, 8, .other, [.nilFunc], true⟩
  , ⟨1, 8, .other, [.nilFunc], true⟩
  , ⟨1, 8, .other, [.map none], true⟩
  , ⟨1, 8, .other, [.nilFunc], true⟩
  , ⟨17, 136, .arr 17 3, [.int .i64 0, .int .i64 0, .int .i64 0, .int .i64 0, .int .i64 0, .int .i64 0, .int .i64 0, .int .i64 0, .int .i64 0, .int .i64 0, .int .i64 0, .int .i64 0, .int .i64 0, .int .i64 0, .int .i64 0, .int .i64 0, .int .i64 0], true⟩
  , ⟨1, 8, .other, [.nilFunc], true⟩
  , ⟨1, 8, .other, [.nilFunc], true⟩
  , ⟨1, 8, .other, [.nilFunc], true⟩
  , ⟨1, 8, .other, [.nilFunc], true⟩
  , ⟨1, 8, .other, [.nilFunc], true⟩
  , ⟨1, 8, .other, [.nilFunc], true⟩
  , ⟨1, 8, .other, [.nilFunc], true⟩
  , ⟨1, 8, .other, [.nilFunc], true⟩
  , ⟨1, 8, .other, [.nilFunc], true⟩
  , ⟨1, 8, .other, [.nilFunc], true⟩
  , ⟨1, 8, .other, [.nilFunc], true⟩
  , ⟨1, 8, .int .u64, [.int .u64 0], true⟩
  , ⟨1, 8, .other, [.nilFunc], true⟩
  , ⟨1, 8, .other, [.nilFunc], true⟩
  , ⟨1, 8, .other, [.nilFunc], true⟩
  , ⟨1, 8, .other, [.nilFunc], true⟩
  , ⟨1, 8, .other, [.nilFunc], true⟩
  , ⟨1, 8, .other, [.nilFunc], true⟩
  , ⟨1, 0, .other, [.tuple #[.string ⟨⟨[]⟩⟩, .bool false]], true⟩
  , ⟨1, 8, .other, [.nilFunc], true⟩
  , ⟨1, 8, .other, [.nilFunc], true⟩
  , ⟨1, 8, .other, [.nilFunc], true⟩
  , ⟨1, 8, .int .i64, [.int .i64 0], true⟩
  , ⟨1, 0, .other, [.tuple #[.int .i64 0, .int .i64 0]], true⟩
  , ⟨1, 8, .other, [.nilFunc], true⟩
  , ⟨1, 8, .other, [.nilFunc], true⟩
  , ⟨1, 8, .other, [.nilFunc], true⟩
  , ⟨1, 8, .other, [.nilFunc], true⟩
  , ⟨1, 0, .other, [.tuple #[.int .i64 0, .bool false]], true⟩
  , ⟨1, 8, .other, [.nilFunc], true⟩
  , ⟨1, 8, .other, [.nilFunc], true⟩
  , ⟨1, 4, .int .u32, [.int .u32 0], true⟩
  , ⟨1, 8, .other, [.nilFunc], true⟩
  , ⟨1, 8, .int .u64, [.int .u64 0], true⟩
  , ⟨1, 8, .other, [.nilFunc], true⟩
  , ⟨1, 8, .other, [.nilFunc], true⟩
  , ⟨1, 8, .int .u64, [.int .u64 0], true⟩
  , ⟨1, 8, .other, [.nilFunc], true⟩
  , ⟨1, 8, .other, [.nilFunc], true⟩
  , ⟨1, 8, .other, [.nilFunc], true⟩
  , ⟨1, 8, .ptr 3, [.pointer none], true⟩
  , ⟨1, 8, .other, [.nilFunc], true⟩
  , ⟨1, 8, .other, [.nilFunc], true⟩
  , ⟨1, 8, .ptr 158, [.pointer none], true⟩
  , ⟨1, 0, .other, [.tuple #[.int .i64 0, .int .i64 0]], true⟩
  , ⟨1, 8, .other, [.nilFunc], true⟩
  , ⟨1, 8, .other, [.nilFunc], true⟩
  , ⟨4, 40, .struct [(0, 17), (1, 17), (2, 17), (3, 9)], [.pointer none, .pointer none, .pointer none, .string ⟨⟨[]⟩⟩], false⟩
  , ⟨4, 40, .struct [(0, 17), (1, 17), (2, 17), (3, 9)], [.pointer none, .pointer none, .pointer none, .string ⟨⟨[]⟩⟩], false⟩
  , ⟨0, 0, .arr 0 16, [], true⟩
  , ⟨0, 0, .struct [(0, 171)], [], false⟩
  , ⟨0, 0, .struct [(0, 171)], [], false⟩
  , ⟨1, 8, .other, [.nilFunc], true⟩
  , ⟨1, 1, .int .u8, [.int .u8 0], true⟩
  , ⟨1, 1, .int .u8, [.int .u8 0], true⟩
  , ⟨1, 8, .other, [.nilFunc], true⟩
  , ⟨1, 8, .ptr 5, [.pointer none], true⟩
  , ⟨1, 4, .int .i32, [.int .i32 0], true⟩
  , ⟨1, 4, .int .i32, [.int .i32 0], true⟩
  , ⟨11, 48, .struct [(0, 12), (1, 12), (2, 153), (3, 175), (4, 5), (5, 5), (6, 176), (7, 177), (8, 178), (9, 179), (10, 180)], [.int .u64 0, .int .u64 0, .int .u32 0, .int .u8 0, .int .u8 0, .int .u8 0, .int .u8 0, .nilFunc, .pointer none, .int .i32 0, .int .i32 0], false⟩
  , ⟨11, 48, .struct [(0, 12), (1, 12), (2, 153), (3, 175), (4, 5), (5, 5), (6, 176), (7, 177), (8, 178), (9, 179), (10, 180)], [.int .u64 0, .int .u64 0, .int .u32 0, .int .u8 0, .int .u8 0, .int .u8 0, .int .u8 0, .nilFunc, .pointer none, .int .i32 0, .int .i32 0], false⟩
  , ⟨1, 8, .other, [.pointer none], true⟩]
set_option maxRecDepth 100000 in
theorem tyEq : tyDs Tryz.prog = tyT := by kernel_rfl
theorem tyOk : TOk Tryz.prog tyT := tok_of _ _ tyEq (by kernel_rfl)
end Go.Proofs.YtglnnhmmipopiaaGreat
