/-
  The table of this program's types, as the proofs ask for it, and that it is the program's own.
  Conditions: none.
-/
import Derived.Test.YtonijgmopcmldaaGreatFa
import Derived.Test.YtonijgmopcmldaaGreatProg
namespace Go.Proofs.YtonijgmopcmldaaGreat
def tyT : List TyD := [
    ⟨1, 0, .other, [.tuple #[]], true⟩
  , ⟨1, 8, .other, [.nilFunc], true⟩
  , ⟨1, 8, .int .i64, [.int .i64 0], true⟩
  , ⟨1, 8, .int .i64, [.int .i64 0], true⟩
  , ⟨1, 1, .bool, [.bool false], true⟩
  , ⟨1, 1, .int .u8, [.int .u8 0], true⟩
  , ⟨1, 1, .int .u8, [.int .u8 0], true⟩
  , ⟨4, 24, .struct [(0, 2), (1, 3), (2, 4), (3, 6)], [.int .i64 0, .int .i64 0, .bool false, .int .u8 0], true⟩
  , ⟨4, 24, .struct [(0, 2), (1, 3), (2, 4), (3, 6)], [.int .i64 0, .int .i64 0, .bool false, .int .u8 0], true⟩
  , ⟨1, 16, .str, [.string ⟨⟨[]⟩⟩], true⟩
  , ⟨1, 16, .str, [.string ⟨⟨[]⟩⟩], true⟩
  , ⟨1, 16, .str, [.string ⟨⟨[]⟩⟩], true⟩
  , ⟨1, 8, .int .u64, [.int .u64 0], true⟩
  , ⟨2, 24, .struct [(0, 9), (1, 12)], [.string ⟨⟨[]⟩⟩, .int .u64 0], false⟩
  , ⟨2, 24, .struct [(0, 9), (1, 12)], [.string ⟨⟨[]⟩⟩, .int .u64 0], false⟩
  , ⟨1, 8, .ptr 160, [.pointer none], true⟩
  , ⟨1, 8, .ptr 163, [.pointer none], true⟩
  , ⟨1, 8, .ptr 172, [.pointer none], true⟩
  , ⟨1, 8, .struct [(0, 17)], [.pointer none], false⟩
  , ⟨1, 8, .struct [(0, 17)], [.pointer none], false⟩
  , ⟨1, 16, .other, [.nilIface], true⟩
  , ⟨1, 4, .int .i32, [.int .i32 0], true⟩
  , ⟨1, 24, .slice 24, [.slice none 0 0], true⟩
  , ⟨1, 8, .other, [.nilFunc], true⟩
  , ⟨1, 24, .slice 55, [.slice none 0 0], true⟩
  , ⟨1, 8, .other, [.nilFunc], true⟩
  , ⟨1, 24, .slice 45, [.slice none 0 0], true⟩
  , ⟨1, 8, .other, [.nilFunc], true⟩
  , ⟨1, 8, .other, [.nilFunc], true⟩
  , ⟨1, 0, .other, [.tuple #[.int .i64 0, .int .i64 0]], true⟩
  , ⟨1, 8, .other, [.nilFunc], true⟩
  , ⟨1, 8, .other, [.nilFunc], true⟩
  , ⟨1, 24, .slice 9, [.slice none 0 0], true⟩
  , ⟨1, 8, .int .i64, [.int .i64 0], true⟩
  , ⟨1, 0, .other, [.tuple #[.slice none 0 0, .int .i64 0]], true⟩
  , ⟨1, 8, .other, [.nilFunc], true⟩
  , ⟨1, 8, .other, [.nilFunc], true⟩
  , ⟨1, 8, .other, [.nilFunc], true⟩
  , ⟨1, 24, .slice 73, [.slice none 0 0], true⟩
  , ⟨3, 40, .struct [(0, 2), (1, 2), (2, 38)], [.int .i64 0, .int .i64 0, .slice none 0 0], true⟩
  , ⟨3, 40, .struct [(0, 2), (1, 2), (2, 38)], [.int .i64 0, .int .i64 0, .slice none 0 0], true⟩
  , ⟨1, 8, .other, [.nilFunc], true⟩
  , ⟨1, 0, .other, [.tuple #[.int .i64 0, .int .i64 0]], true⟩
  , ⟨1, 8, .other, [.nilFunc], true⟩
  , ⟨1, 8, .other, [.nilFunc], true⟩
  , ⟨1, 8, .int .u64, [.int .u64 0], true⟩
  , ⟨1, 8, .other, [.nilFunc], true⟩
  , ⟨1, 0, .other, [.tuple #[.slice none 0 0, .int .i64 0]], true⟩
  , ⟨1, 8, .other, [.nilFunc], true⟩
  , ⟨2, 32, .struct [(0, 26), (1, 45)], [.slice none 0 0, .int .u64 0], true⟩
  , ⟨2, 32, .struct [(0, 26), (1, 45)], [.slice none 0 0, .int .u64 0], true⟩
  , ⟨1, 8, .other, [.nilFunc], true⟩
  , ⟨3, 32, .struct [(0, 3), (1, 2), (2, 9)], [.int .i64 0, .int .i64 0, .string ⟨⟨[]⟩⟩], true⟩
  , ⟨3, 32, .struct [(0, 3), (1, 2), (2, 9)], [.int .i64 0, .int .i64 0, .string ⟨⟨[]⟩⟩], true⟩
  , ⟨4, 48, .struct [(0, 9), (1, 53)], [.string ⟨⟨[]⟩⟩, .int .i64 0, .int .i64 0, .string ⟨⟨[]⟩⟩], true⟩
  , ⟨4, 48, .struct [(0, 9), (1, 53)], [.string ⟨⟨[]⟩⟩, .int .i64 0, .int .i64 0, .string ⟨⟨[]⟩⟩], true⟩
  , ⟨1, 8, .other, [.nilFunc], true⟩
  , ⟨1, 8, .other, [.nilFunc], true⟩
  , ⟨1, 8, .other, [.nilFunc], true⟩
  , ⟨1, 8, .other, [.nilFunc], true⟩
  , ⟨1, 0, .other, [.tuple #[.agg #[.int .i64 0, .int .i64 0, .slice none 0 0], .int .i64 0]], true⟩
  , ⟨1, 8, .other, [.nilFunc], true⟩
  , ⟨1, 8, .other, [.nilFunc], true⟩
  , ⟨1, 8, .other, [.nilFunc], true⟩
  , ⟨1, 8, .other, [.nilFunc], true⟩
  , ⟨1, 8, .other, [.nilFunc], true⟩
  , ⟨1, 8, .other, [.nilFunc], true⟩
  , ⟨1, 8, .other, [.nilFunc], true⟩
  , ⟨1, 24, .slice 3, [.slice none 0 0], true⟩
  , ⟨1, 8, .other, [.nilFunc], true⟩
  , ⟨1, 8, .other, [.nilFunc], true⟩
  , ⟨1, 24, .slice 87, [.slice none 0 0], true⟩
  , ⟨2, 40, .struct [(0, 9), (1, 71)], [.string ⟨⟨[]⟩⟩, .slice none 0 0], true⟩
  , ⟨2, 40, .struct [(0, 9), (1, 71)], [.string ⟨⟨[]⟩⟩, .slice none 0 0], true⟩
  , ⟨1, 24, .slice 2, [.slice none 0 0], true⟩
  , ⟨1, 8, .other, [.nilFunc], true⟩
  , ⟨1, 8, .other, [.nilFunc], true⟩
  , ⟨1, 8, .other, [.nilFunc], true⟩
  , ⟨1, 8, .other, [.nilFunc], true⟩
  , ⟨1, 8, .other, [.nilFunc], true⟩
  , ⟨1, 8, .other, [.nilFunc], true⟩
  , ⟨64, 512, .arr 64 45, [.int .u64 0, .int .u64 0, .int .u64 0, .int .u64 0, .int .u64 0, .int .u64 0, .int .u64 0, .int .u64 0, .int .u64 0, .int .u64 0, .int .u64 0, .int .u64 0, .int .u64 0, .int .u64 0, .int .u64 0, .int .u64 0, .int .u64 0, .int .u64 0, .int .u64 0, .int .u64 0, .int .u64 0, .int .u64 0, .int .u64 0, .int .u64 0, .int .u64 0, .int .u64 0, .int .u64 0, .int .u64 0, .int .u64 0, .int .u64 0, .int .u64 0, .int .u64 0, .int .u64 0, .int .u64 0, .int .u64 0, .int .u64 0, .int .u64 0, .int .u64 0, .int .u64 0, .int .u64 0, .int .u64 0, .int .u64 0, .int .u64 0, .int .u64 0, .int .u64 0, .int .u64 0, .int .u64 0, .int .u64 0, .int .u64 0, .int .u64 0, .int .u64 0, .int .u64 0, .int .u64 0, .int .u64 0, .int .u64 0, .int .u64 0, .int .u64 0, .int .u64 0, .int .u64 0, .int .u64 0, .int .u64 0, .int .u64 0, .int .u64 0, .int .u64 0], true⟩
  , ⟨1, 8, .other, [.nilFunc], true⟩
  , ⟨1, 8, .other, [.nilFunc], true⟩
  , ⟨1, 8, .other, [.nilFunc], true⟩
  , ⟨1, 8, .other, [.nilFunc], true⟩
  , ⟨4, 40, .struct [(0, 2), (1, 53)], [.int .i64 0, .int .i64 0, .int .i64 0, .string ⟨⟨[]⟩⟩], true⟩
  , ⟨4, 40, .struct [(0, 2), (1, 53)], [.int .i64 0, .int .i64 0, .int .i64 0, .string ⟨⟨[]⟩⟩], true⟩
  , ⟨1, 8, .other, [.nilFunc], true⟩
  , ⟨1, 8, .other, [.nilFunc], true⟩
  , ⟨1, 8, .other, [.nilFunc], true⟩
  , ⟨1, 8, .other, [.nilFunc], true⟩
  , ⟨1, 8, .other, [.nilFunc], true⟩
  , ⟨1, 8, .other, [.nilFunc], true⟩
  , ⟨1, 8, .other, [.nilFunc], true⟩
  , ⟨1, 8, .other, [.nilFunc], true⟩
  , ⟨1, 8, .other, [.nilFunc], true⟩
  , ⟨1, 8, .other, [.nilFunc], true⟩
  , ⟨1, 8, .other, [.nilFunc], true⟩
  , ⟨1, 8, .other, [.nilFunc], true⟩
  , ⟨1, 8, .int .u64, [.int .u64 0], true⟩
  , ⟨1, 8, .other, [.nilFunc], true⟩
  , ⟨1, 8, .other, [.nilFunc], true⟩
  , ⟨1, 24, .slice 40, [.slice none 0 0], true⟩
  , ⟨1, 8, .other, [.nilFunc], true⟩
  , ⟨1, 8, .other, [.nilFunc], true⟩
  , ⟨1, 8, .other, [.nilFunc], true⟩
  , ⟨1, 8, .other, [.nilFunc], true⟩
  , ⟨1, 8, .other, [.nilFunc], true⟩
  , ⟨1, 8, .other, [.nilFunc], true⟩
  , ⟨1, 8, .other, [.nilFunc], true⟩
  , ⟨8, 8, .arr 8 5, [.int .u8 0, .int .u8 0, .int .u8 0, .int .u8 0, .int .u8 0, .int .u8 0, .int .u8 0, .int .u8 0], true⟩
  , ⟨1, 24, .slice 5, [.slice none 0 0], true⟩
  , ⟨1, 8, .other, [.nilFunc], true⟩
  , ⟨1, 8, .other, [.nilFunc], true⟩
  , ⟨1, 8, .other, [.nilFunc], true⟩
  , ⟨1, 0, .other, [.tuple #[.agg #[.int .u64 0, .int .u64 0, .int .u64 0, .int .u64 0, .int .u64 0, .int .u64 0, .int .u64 0, .int .u64 0, .int .u64 0, .int .u64 0, .int .u64 0, .int .u64 0, .int .u64 0, .int .u64 0, .int .u64 0, .int .u64 0, .int .u64 0, .int .u64 0, .int .u64 0, .int .u64 0, .int .u64 0, .int .u64 0, .int .u64 0, .int .u64 0, .int .u64 0, .int .u64 0, .int .u64 0, .int .u64 0, .int .u64 0, .int .u64 0, .int .u64 0, .int .u64 0, .int .u64 0, .int .u64 0, .int .u64 0, .int .u64 0, .int .u64 0, .int .u64 0, .int .u64 0, .int .u64 0, .int .u64 0, .int .u64 0, .int .u64 0, .int .u64 0, .int .u64 0, .int .u64 0, .int .u64 0, .int .u64 0, .int .u64 0, .int .u64 0, .int .u64 0, .int .u64 0, .int .u64 0, .int .u64 0, .int .u64 0, .int .u64 0, .int .u64 0, .int .u64 0, .int .u64 0, .int .u64 0, .int .u64 0, .int .u64 0, .int .u64 0, .int .u64 0], .bool false]], true⟩
  , ⟨1, 8, .other, [.nilFunc], true⟩
  , ⟨1, 8, .other, [.nilFunc], true⟩
  , ⟨1, 8, .int .i64, [.int .i64 0], true⟩
  , ⟨1, 0, .other, [.tuple #[.int .i64 0, .int .i64 0]], true⟩
  , ⟨1, 8, .other, [.nilFunc], true⟩
  , ⟨1, 8, .other, [.nilFunc], true⟩
  , ⟨1, 8, .other, [.nilFunc], true⟩
  , ⟨1, 8, .other, [.nilFunc], true⟩
  , ⟨1, 0, .other, [.tuple #[.int .i64 0, .bool false]], true⟩
  , ⟨1, 8, .other, [.nilFunc], true⟩
  , ⟨1, 8, .other, [.nilFunc], true⟩
  , ⟨1, 4, .int .u32, [.int .u32 0], true⟩
  , ⟨1, 8, .other, [.nilFunc], true⟩
  , ⟨1, 8, .other, [.nilFunc], true⟩
  , ⟨1, 8, .other, [.nilFunc], true⟩
  , ⟨1, 8, .other, [.nilFunc], true⟩
  , ⟨1, 8, .other, [.nilFunc], true⟩
  , ⟨1, 8, .other, [.nilFunc], true⟩
  , ⟨1, 8, .other, [.nilFunc], true⟩
  , ⟨1, 8, .other, [.nilFunc], true⟩
  , ⟨1, 8, .other, [.nilFunc], true⟩
  , ⟨1, 8, .int .u64, [.int .u64 0], true⟩
  , ⟨1, 8, .other, [.nilFunc], true⟩
  , ⟨1, 8, .other, [.nilFunc], true⟩
  , ⟨1, 8, .other, [.nilFunc], true⟩
  , ⟨1, 8, .ptr 3, [.pointer none], true⟩
  , ⟨1, 8, .other, [.nilFunc], true⟩
  , ⟨1, 8, .other, [.nilFunc], true⟩
  , ⟨1, 8, .other, [.nilFunc], true⟩
  , ⟨1, 8, .other, [.nilFunc], true⟩
  , ⟨1, 8, .other, [.nilFunc], true⟩
  , ⟨1, 8, .other, [.nilFunc], true⟩
  , ⟨1, 8, .other, [.nilFunc], true⟩
  , ⟨1, 8, .other, [.nilFunc], true⟩
  , ⟨1, 8, .other, [.nilFunc], true⟩
  , ⟨1, 8, .ptr 138, [.pointer none], true⟩
  , ⟨1, 8, .other, [.nilFunc], true⟩
  , ⟨1, 8, .other, [.nilFunc], true⟩
  , ⟨1, 8, .other, [.nilFunc], true⟩
  , ⟨1, 8, .other, [.nilFunc], true⟩
  , ⟨1, 8, .other, [.nilFunc], true⟩
  , ⟨1, 8, .other, [.nilFunc], true⟩
  , ⟨4, 40, .struct [(0, 17), (1, 17), (2, 17), (3, 9)], [.pointer none, .pointer none, .pointer none, .string ⟨⟨[]⟩⟩], false⟩
  , ⟨4, 40, .struct [(0, 17), (1, 17), (2, 17), (3, 9)], [.pointer none, .pointer none, .pointer none, .string ⟨⟨[]⟩⟩], false⟩
  , ⟨0, 0, .arr 0 16, [], true⟩
  , ⟨0, 0, .struct [(0, 161)], [], false⟩
  , ⟨0, 0, .struct [(0, 161)], [], false⟩
  , ⟨1, 8, .other, [.nilFunc], true⟩
  , ⟨1, 1, .int .u8, [.int .u8 0], true⟩
  , ⟨1, 1, .int .u8, [.int .u8 0], true⟩
  , ⟨1, 8, .other, [.nilFunc], true⟩
  , ⟨1, 8, .ptr 5, [.pointer none], true⟩
  , ⟨1, 4, .int .i32, [.int .i32 0], true⟩
  , ⟨1, 4, .int .i32, [.int .i32 0], true⟩
  , ⟨11, 48, .struct [(0, 12), (1, 12), (2, 128), (3, 165), (4, 5), (5, 5), (6, 166), (7, 167), (8, 168), (9, 169), (10, 170)], [.int .u64 0, .int .u64 0, .int .u32 0, .int .u8 0, .int .u8 0, .int .u8 0, .int .u8 0, .nilFunc, .pointer none, .int .i32 0, .int .i32 0], false⟩
  , ⟨11, 48, .struct [(0, 12), (1, 12), (2, 128), (3, 165), (4, 5), (5, 5), (6, 166), (7, 167), (8, 168), (9, 169), (10, 170)], [.int .u64 0, .int .u64 0, .int .u32 0, .int .u8 0, .int .u8 0, .int .u8 0, .int .u8 0, .nilFunc, .pointer none, .int .i32 0, .int .i32 0], false⟩
  , ⟨1, 8, .other, [.pointer none], true⟩]
set_option maxRecDepth 100000 in
theorem tyEq : tyDs Tryz.prog = tyT := by kernel_rfl
theorem tyOk : TOk Tryz.prog tyT := tok_of _ _ tyEq (by kernel_rfl)
end Go.Proofs.YtonijgmopcmldaaGreat
