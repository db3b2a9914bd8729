/- The table of the types of this seat, looked through. -/
import Derived.Test.YtoocihhnlhehlaaDeni
import Derived.Test.YtoocihhnlhehlaaChecked
namespace Go.Proofs.Ytoocihhnlhehlaa
open Go Go.Proofs.Ytoocihhnlhehlaa.Den
def tabL : List (Nat × TI) := [
  (2, { agg := false, size := 1, bytes := 8, zero := [.int .i64 0], desc := .int .i64 }),
  (3, { agg := false, size := 1, bytes := 8, zero := [.int .i64 0], desc := .int .i64 }),
  (4, { agg := false, size := 1, bytes := 1, zero := [.bool false], desc := .bool }),
  (5, { agg := false, size := 1, bytes := 1, zero := [.int .u8 0], desc := .int .u8 }),
  (9, { agg := false, size := 1, bytes := 16, zero := [.string ByteArray.empty], desc := .str }),
  (12, { agg := false, size := 1, bytes := 8, zero := [.int .u64 0], desc := .int .u64 }),
  (21, { agg := false, size := 1, bytes := 4, zero := [.int .i32 0], desc := .int .i32 }),
  (22, { agg := true, size := 12, bytes := 112, zero := [.int .i64 0, .int .i64 0, .int .i64 0, .int .i64 0, .int .i64 0, .int .i64 0, .int .i64 0, .int .i64 0, .int .i64 0, .int .i64 0, .string ByteArray.empty, .string ByteArray.empty], desc := .struct [(0, 1), (1, 1), (2, 1), (3, 1), (4, 1), (5, 1), (6, 1), (7, 1), (8, 1), (9, 1), (10, 1), (11, 1)], ck := [.int .i64, .int .i64, .int .i64, .int .i64, .int .i64, .int .i64, .int .i64, .int .i64, .int .i64, .int .i64, .str, .str], eq := true }),
  (23, { agg := true, size := 12, bytes := 112, zero := [.int .i64 0, .int .i64 0, .int .i64 0, .int .i64 0, .int .i64 0, .int .i64 0, .int .i64 0, .int .i64 0, .int .i64 0, .int .i64 0, .string ByteArray.empty, .string ByteArray.empty], desc := .struct [(0, 1), (1, 1), (2, 1), (3, 1), (4, 1), (5, 1), (6, 1), (7, 1), (8, 1), (9, 1), (10, 1), (11, 1)], ck := [.int .i64, .int .i64, .int .i64, .int .i64, .int .i64, .int .i64, .int .i64, .int .i64, .int .i64, .int .i64, .str, .str], eq := true }),
  (24, { agg := false, size := 1, bytes := 24, zero := [.slice none 0 0], desc := .slice 76 }),
  (25, { agg := false, size := 1, bytes := 24, zero := [.slice none 0 0], desc := .slice 93 }),
  (26, { agg := true, size := 25, bytes := 248, zero := [.int .i64 0, .int .i64 0, .int .i64 0, .int .i64 0, .int .i64 0, .int .i64 0, .int .i64 0, .int .i64 0, .int .i64 0, .int .i64 0, .int .i64 0, .int .i64 0, .int .i64 0, .int .i64 0, .int .i64 0, .int .i64 0, .int .i64 0, .int .i64 0, .int .i64 0, .int .i64 0, .int .i64 0, .string ByteArray.empty, .string ByteArray.empty, .slice none 0 0, .slice none 0 0], desc := .struct [(0, 1), (1, 1), (2, 1), (3, 1), (4, 1), (5, 1), (6, 1), (7, 1), (8, 1), (9, 1), (10, 1), (11, 12), (23, 1), (24, 1)] }),
  (27, { agg := true, size := 25, bytes := 248, zero := [.int .i64 0, .int .i64 0, .int .i64 0, .int .i64 0, .int .i64 0, .int .i64 0, .int .i64 0, .int .i64 0, .int .i64 0, .int .i64 0, .int .i64 0, .int .i64 0, .int .i64 0, .int .i64 0, .int .i64 0, .int .i64 0, .int .i64 0, .int .i64 0, .int .i64 0, .int .i64 0, .int .i64 0, .string ByteArray.empty, .string ByteArray.empty, .slice none 0 0, .slice none 0 0], desc := .struct [(0, 1), (1, 1), (2, 1), (3, 1), (4, 1), (5, 1), (6, 1), (7, 1), (8, 1), (9, 1), (10, 1), (11, 12), (23, 1), (24, 1)] }),
  (29, { agg := false, size := 1, bytes := 8, zero := [.int .i64 0], desc := .int .i64 }),
  (33, { agg := false, size := 1, bytes := 24, zero := [.slice none 0 0], desc := .slice 42 }),
  (41, { agg := true, size := 2, bytes := 16, zero := [.int .i64 0, .int .i64 0], desc := .struct [(0, 1), (1, 1)], ck := [.int .i64, .int .i64], eq := true }),
  (42, { agg := true, size := 2, bytes := 16, zero := [.int .i64 0, .int .i64 0], desc := .struct [(0, 1), (1, 1)], ck := [.int .i64, .int .i64], eq := true }),
  (45, { agg := true, size := 2, bytes := 16, zero := [.int .i64 0, .int .i64 0], desc := .arr 2 3 }),
  (47, { agg := true, size := 10, bytes := 88, zero := [.int .i64 0, .int .i64 0, .int .i64 0, .int .i64 0, .int .i64 0, .int .i64 0, .int .i64 0, .int .i64 0, .int .i64 0, .string ByteArray.empty], desc := .struct [(0, 1), (1, 1), (2, 1), (3, 1), (4, 1), (5, 1), (6, 1), (7, 1), (8, 1), (9, 1)], ck := [.int .i64, .int .i64, .int .i64, .int .i64, .int .i64, .int .i64, .int .i64, .int .i64, .int .i64, .str], eq := true }),
  (48, { agg := true, size := 10, bytes := 88, zero := [.int .i64 0, .int .i64 0, .int .i64 0, .int .i64 0, .int .i64 0, .int .i64 0, .int .i64 0, .int .i64 0, .int .i64 0, .string ByteArray.empty], desc := .struct [(0, 1), (1, 1), (2, 1), (3, 1), (4, 1), (5, 1), (6, 1), (7, 1), (8, 1), (9, 1)], ck := [.int .i64, .int .i64, .int .i64, .int .i64, .int .i64, .int .i64, .int .i64, .int .i64, .int .i64, .str], eq := true }),
  (49, { agg := false, size := 1, bytes := 24, zero := [.slice none 0 0], desc := .slice 3 }),
  (50, { agg := true, size := 3, bytes := 64, zero := [.string ByteArray.empty, .slice none 0 0, .slice none 0 0], desc := .struct [(0, 1), (1, 1), (2, 1)] }),
  (51, { agg := true, size := 3, bytes := 64, zero := [.string ByteArray.empty, .slice none 0 0, .slice none 0 0], desc := .struct [(0, 1), (1, 1), (2, 1)] }),
  (57, { agg := false, size := 1, bytes := 24, zero := [.slice none 0 0], desc := .slice 48 }),
  (58, { agg := false, size := 1, bytes := 24, zero := [.slice none 0 0], desc := .slice 62 }),
  (61, { agg := true, size := 14, bytes := 120, zero := [.int .i64 0, .int .i64 0, .int .i64 0, .bool false, .int .i64 0, .int .i64 0, .int .i64 0, .int .i64 0, .int .i64 0, .int .i64 0, .int .i64 0, .int .i64 0, .int .i64 0, .string ByteArray.empty], desc := .struct [(0, 1), (1, 1), (2, 1), (3, 1), (4, 10)], ck := [.int .i64, .int .i64, .int .i64, .bool, .int .i64, .int .i64, .int .i64, .int .i64, .int .i64, .int .i64, .int .i64, .int .i64, .int .i64, .str], eq := true }),
  (62, { agg := true, size := 14, bytes := 120, zero := [.int .i64 0, .int .i64 0, .int .i64 0, .bool false, .int .i64 0, .int .i64 0, .int .i64 0, .int .i64 0, .int .i64 0, .int .i64 0, .int .i64 0, .int .i64 0, .int .i64 0, .string ByteArray.empty], desc := .struct [(0, 1), (1, 1), (2, 1), (3, 1), (4, 10)], ck := [.int .i64, .int .i64, .int .i64, .bool, .int .i64, .int .i64, .int .i64, .int .i64, .int .i64, .int .i64, .int .i64, .int .i64, .int .i64, .str], eq := true }),
  (75, { agg := true, size := 4, bytes := 32, zero := [.int .i64 0, .int .i64 0, .int .i64 0, .int .i64 0], desc := .struct [(0, 1), (1, 1), (2, 1), (3, 1)], ck := [.int .i64, .int .i64, .int .i64, .int .i64], eq := true }),
  (76, { agg := true, size := 4, bytes := 32, zero := [.int .i64 0, .int .i64 0, .int .i64 0, .int .i64 0], desc := .struct [(0, 1), (1, 1), (2, 1), (3, 1)], ck := [.int .i64, .int .i64, .int .i64, .int .i64], eq := true }),
  (79, { agg := true, size := 8, bytes := 64, zero := [.int .i64 0, .int .i64 0, .int .i64 0, .int .i64 0, .int .i64 0, .int .i64 0, .int .i64 0, .int .i64 0], desc := .arr 4 42 }),
  (86, { agg := true, size := 3, bytes := 56, zero := [.int .i64 0, .slice none 0 0, .slice none 0 0], desc := .struct [(0, 1), (1, 1), (2, 1)] }),
  (87, { agg := true, size := 3, bytes := 56, zero := [.int .i64 0, .slice none 0 0, .slice none 0 0], desc := .struct [(0, 1), (1, 1), (2, 1)], keep := true }),
  (92, { agg := true, size := 14, bytes := 128, zero := [.int .i64 0, .int .i64 0, .int .i64 0, .int .i64 0, .int .i64 0, .int .i64 0, .int .i64 0, .int .i64 0, .int .i64 0, .int .i64 0, .int .i64 0, .int .i64 0, .string ByteArray.empty, .string ByteArray.empty], desc := .struct [(0, 1), (1, 1), (2, 12)], ck := [.int .i64, .int .i64, .int .i64, .int .i64, .int .i64, .int .i64, .int .i64, .int .i64, .int .i64, .int .i64, .int .i64, .int .i64, .str, .str], eq := true }),
  (93, { agg := true, size := 14, bytes := 128, zero := [.int .i64 0, .int .i64 0, .int .i64 0, .int .i64 0, .int .i64 0, .int .i64 0, .int .i64 0, .int .i64 0, .int .i64 0, .int .i64 0, .int .i64 0, .int .i64 0, .string ByteArray.empty, .string ByteArray.empty], desc := .struct [(0, 1), (1, 1), (2, 12)], ck := [.int .i64, .int .i64, .int .i64, .int .i64, .int .i64, .int .i64, .int .i64, .int .i64, .int .i64, .int .i64, .int .i64, .int .i64, .str, .str], eq := true }),
  (96, { agg := true, size := 13, bytes := 152, zero := [.int .i64 0, .int .i64 0, .int .i64 0, .int .i64 0, .int .i64 0, .int .i64 0, .int .i64 0, .int .i64 0, .int .i64 0, .string ByteArray.empty, .string ByteArray.empty, .slice none 0 0, .slice none 0 0], desc := .struct [(0, 10), (10, 3)] }),
  (97, { agg := true, size := 13, bytes := 152, zero := [.int .i64 0, .int .i64 0, .int .i64 0, .int .i64 0, .int .i64 0, .int .i64 0, .int .i64 0, .int .i64 0, .int .i64 0, .string ByteArray.empty, .string ByteArray.empty, .slice none 0 0, .slice none 0 0], desc := .struct [(0, 10), (10, 3)] }),
  (112, { agg := true, size := 4, bytes := 32, zero := [.int .i64 0, .int .i64 0, .int .i64 0, .int .i64 0], desc := .arr 4 3 }),
  (123, { agg := true, size := 13, bytes := 104, zero := [.int .i64 0, .int .i64 0, .int .i64 0, .int .i64 0, .int .i64 0, .int .i64 0, .int .i64 0, .int .i64 0, .int .i64 0, .int .i64 0, .int .i64 0, .int .i64 0, .int .i64 0], desc := .arr 13 3 }),
  (132, { agg := false, size := 1, bytes := 4, zero := [.int .u32 0], desc := .int .u32 })]
def T : Tab := tabOf tabL
theorem tabOk : TabOk Try.prog T := tabOk_of (by kernel_rfl)
theorem mixed : Try.prog.follows .mixedOrders = true := by kernel_rfl
end Go.Proofs.Ytoocihhnlhehlaa
