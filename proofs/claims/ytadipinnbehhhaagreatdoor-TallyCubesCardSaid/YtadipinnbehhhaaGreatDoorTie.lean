/-
  DERIVED. GIVEN WITH THE SEED: THE PROGRAM's TIES (one call each: nine closed facts by the kernel) AND EACH ROW's TIE, after the 31st guide's Derived/Test/Toyas{Tie, Card}.lean. No idea stands in it: it is a product of the set-up. Laid BY PROGRAM, IN A SANDBOX (cutbox-door.mjs). By AI agents, Wed Nov 11 2026. No macro, syntax, notation, axiom, sorry.
-/
import Derived.Test.YtadipinnbehhhaaGreatDoorRows
import Derived.LaidByTextLater
import Derived.SevenTiedAt
import Derived.LaidSub
import Derived.LaidOnce
namespace Go.Proofs.YtadipinnbehhhaaGreatDoor
open Go
set_option maxRecDepth 100000
theorem seatTie1 : Tryz.prog.laidByTextLater [("math/bits.deBruijn32tab", Rows.laid_math_bits_deBruijn32tab), ("math/bits.deBruijn64tab", Rows.laid_math_bits_deBruijn64tab), ("internal/strconv.uint64pow10", Rows.laid_internal_strconv_uint64pow10), ("strata/recs.natural", Rows.laid_strata_recs_natural), ("strata/recs.halves", Rows.laid_strata_recs_halves), ("strata/recs.magic", Rows.laid_strata_recs_magic), ("strata/disk.errOff", Rows.laid_strata_disk_errOff), ("strata/disk.errName", Rows.laid_strata_disk_errName), ("strata/disk.errNoFile", Rows.laid_strata_disk_errNoFile), ("strata/disk.errExists", Rows.laid_strata_disk_errExists), ("strata/disk.errSealed", Rows.laid_strata_disk_errSealed), ("strata/disk.errOpen", Rows.laid_strata_disk_errOpen), ("strata/disk.errBlock", Rows.laid_strata_disk_errBlock), ("strata/disk.errFull", Rows.laid_strata_disk_errFull), ("strata/disk.errFault", Rows.laid_strata_disk_errFault)] [.data, .data, .data, .data, .data, .widerDeep, .sentinel, .sentinel, .sentinel, .sentinel, .sentinel, .sentinel, .sentinel, .sentinel, .sentinel] true :=
  Program.laidByTextLater_by_one 210 8 65 (by kernel_rfl) (by kernel_rfl) (by kernel_rfl) (by kernel_rfl) (by kernel_rfl) (by kernel_rfl) (fun _ _ => by kernel_rfl)
theorem noOwnUnsafe : Tryz.pinned.checked.prog.headLifts.contains "ownunsafe" = false := by kernel_rfl
theorem tie : Tryz.prog.laidByTextLater [("strata/recs.halves", Rows.laid_strata_recs_halves), ("strata/recs.magic", Rows.laid_strata_recs_magic), ("strata/disk.errOff", Rows.laid_strata_disk_errOff), ("strata/disk.errName", Rows.laid_strata_disk_errName), ("strata/disk.errNoFile", Rows.laid_strata_disk_errNoFile), ("strata/disk.errExists", Rows.laid_strata_disk_errExists), ("strata/disk.errSealed", Rows.laid_strata_disk_errSealed), ("strata/disk.errOpen", Rows.laid_strata_disk_errOpen), ("strata/disk.errBlock", Rows.laid_strata_disk_errBlock), ("strata/disk.errFull", Rows.laid_strata_disk_errFull), ("strata/disk.errFault", Rows.laid_strata_disk_errFault)] [.data, .widerDeep, .sentinel, .sentinel, .sentinel, .sentinel, .sentinel, .sentinel, .sentinel, .sentinel, .sentinel] true :=
  Program.laidByTextLater.sub seatTie1 ["strata/recs.halves", "strata/recs.magic", "strata/disk.errOff", "strata/disk.errName", "strata/disk.errNoFile", "strata/disk.errExists", "strata/disk.errSealed", "strata/disk.errOpen", "strata/disk.errBlock", "strata/disk.errFull", "strata/disk.errFault"] (by kernel_rfl) (by kernel_rfl)
theorem nodesBuilds_row_tie : Rows.nodesBuildsRow.laidByTextAt .later Tryz.pinned [.data, .widerDeep, .sentinel, .sentinel, .sentinel, .sentinel, .sentinel, .sentinel, .sentinel, .sentinel, .sentinel] true :=
  OpenClaim.laidByTextAt_later rfl rfl tie noOwnUnsafe
theorem nodesReads_row_tie : Rows.nodesReadsRow.laidByTextAt .later Tryz.pinned [.data, .widerDeep, .sentinel, .sentinel, .sentinel, .sentinel, .sentinel, .sentinel, .sentinel, .sentinel, .sentinel] true :=
  OpenClaim.laidByTextAt_later rfl rfl tie noOwnUnsafe
theorem nodesAsks_row_tie : Rows.nodesAsksRow.laidByTextAt .later Tryz.pinned [.data, .widerDeep, .sentinel, .sentinel, .sentinel, .sentinel, .sentinel, .sentinel, .sentinel, .sentinel, .sentinel] true :=
  OpenClaim.laidByTextAt_later rfl rfl tie noOwnUnsafe
theorem tallyCubes_row_tie : Rows.tallyCubesRow.laidByTextAt .later Tryz.pinned [.data, .widerDeep, .sentinel, .sentinel, .sentinel, .sentinel, .sentinel, .sentinel, .sentinel, .sentinel, .sentinel] true :=
  OpenClaim.laidByTextAt_later rfl rfl tie noOwnUnsafe
theorem tie2 : Tryz.prog.laidByTextLater [("math/bits.deBruijn32tab", Rows.laid_math_bits_deBruijn32tab), ("math/bits.deBruijn64tab", Rows.laid_math_bits_deBruijn64tab), ("internal/strconv.uint64pow10", Rows.laid_internal_strconv_uint64pow10), ("strata/recs.natural", Rows.laid_strata_recs_natural), ("strata/recs.halves", Rows.laid_strata_recs_halves), ("strata/recs.magic", Rows.laid_strata_recs_magic), ("strata/disk.errOff", Rows.laid_strata_disk_errOff), ("strata/disk.errName", Rows.laid_strata_disk_errName), ("strata/disk.errNoFile", Rows.laid_strata_disk_errNoFile), ("strata/disk.errExists", Rows.laid_strata_disk_errExists), ("strata/disk.errSealed", Rows.laid_strata_disk_errSealed), ("strata/disk.errOpen", Rows.laid_strata_disk_errOpen), ("strata/disk.errBlock", Rows.laid_strata_disk_errBlock), ("strata/disk.errFull", Rows.laid_strata_disk_errFull), ("strata/disk.errFault", Rows.laid_strata_disk_errFault)] [.data, .data, .data, .data, .data, .widerDeep, .sentinel, .sentinel, .sentinel, .sentinel, .sentinel, .sentinel, .sentinel, .sentinel, .sentinel] true :=
  Program.laidByTextLater.sub seatTie1 ["math/bits.deBruijn32tab", "math/bits.deBruijn64tab", "internal/strconv.uint64pow10", "strata/recs.natural", "strata/recs.halves", "strata/recs.magic", "strata/disk.errOff", "strata/disk.errName", "strata/disk.errNoFile", "strata/disk.errExists", "strata/disk.errSealed", "strata/disk.errOpen", "strata/disk.errBlock", "strata/disk.errFull", "strata/disk.errFault"] (by kernel_rfl) (by kernel_rfl)
theorem sorterMerges_row_tie : Rows.sorterMergesRow.laidByTextAt .later Tryz.pinned [.data, .data, .data, .data, .data, .widerDeep, .sentinel, .sentinel, .sentinel, .sentinel, .sentinel, .sentinel, .sentinel, .sentinel, .sentinel] true :=
  OpenClaim.laidByTextAt_later rfl rfl tie2 noOwnUnsafe
theorem nodesBuildsUpto_row_tie : Rows.nodesBuildsUptoRow.laidByTextAt .later Tryz.pinned [.data, .widerDeep, .sentinel, .sentinel, .sentinel, .sentinel, .sentinel, .sentinel, .sentinel, .sentinel, .sentinel] true :=
  OpenClaim.laidByTextAt_later rfl rfl tie noOwnUnsafe
theorem nodesReadsUpto_row_tie : Rows.nodesReadsUptoRow.laidByTextAt .later Tryz.pinned [.data, .widerDeep, .sentinel, .sentinel, .sentinel, .sentinel, .sentinel, .sentinel, .sentinel, .sentinel, .sentinel] true :=
  OpenClaim.laidByTextAt_later rfl rfl tie noOwnUnsafe
theorem nodesAsksUpto_row_tie : Rows.nodesAsksUptoRow.laidByTextAt .later Tryz.pinned [.data, .widerDeep, .sentinel, .sentinel, .sentinel, .sentinel, .sentinel, .sentinel, .sentinel, .sentinel, .sentinel] true :=
  OpenClaim.laidByTextAt_later rfl rfl tie noOwnUnsafe
theorem sorterMergesUpto_row_tie : Rows.sorterMergesUptoRow.laidByTextAt .later Tryz.pinned [.data, .data, .data, .data, .data, .widerDeep, .sentinel, .sentinel, .sentinel, .sentinel, .sentinel, .sentinel, .sentinel, .sentinel, .sentinel] true :=
  OpenClaim.laidByTextAt_later rfl rfl tie2 noOwnUnsafe
theorem tallyCubesUpto_row_tie : Rows.tallyCubesUptoRow.laidByTextAt .later Tryz.pinned [.data, .widerDeep, .sentinel, .sentinel, .sentinel, .sentinel, .sentinel, .sentinel, .sentinel, .sentinel, .sentinel] true :=
  OpenClaim.laidByTextAt_later rfl rfl tie noOwnUnsafe
end Go.Proofs.YtadipinnbehhhaaGreatDoor
