/-
  Parts of a walk, joined: D27 D28 WSH D12 EngMC D13 D14 D15. No condition.
-/
import Derived.Test.YtieangfnjflfmaaP6
import Derived.Shelf.Strings.Builder1
import Derived.Shelf.Strings.Builder2
import Derived.Shelf.Strings.OnBuilder
import Derived.Shelf.Strings.BuilderF
import Derived.Shelf.Strings.BuilderK
import Derived.Shelf.Strings.Builder2Cap
import Derived.Shelf.Strings.BuilderCap
import Derived.Test.YtieangfnjflfmaaProg
import Derived.Test.YtieangfnjflfmaaP5
import Derived.Test.YtieangfnjflfmaaP4
set_option linter.all false
/-
  The walk of the reference's longest, put together. No condition.
-/
namespace Go.Proofs.Ytieangfnjflfmaa
open Go Go.Eng
set_option maxRecDepth 100000
set_option maxHeartbeats 4000000
set_option linter.all false
attribute [local irreducible] WL WC WQ QFun QLoop Does Q1 QRound QAssign Go.Addr.add
attribute [local irreducible] midL firstJ rowQ outE tabL strs
theorem sq_D27_1 {G : Prop} (h : G := by (repeat (first | (refine sp ?_; (repeat intro zzc)) | (refine WL.makeRow (sz:=1) (by':=8) (zs:=[.int .i64 0]) rfl rfl (by (first | with_reducible exact natz _ | with_reducible exact natz0 | with_reducible exact natz1 | with_reducible exact natz2 | with_reducible exact natz3 | with_reducible exact natz4 | with_reducible exact natz8 | (apply natz_add; (· first | with_reducible exact natz _ | with_reducible exact natz0 | with_reducible exact natz1 | with_reducible exact natz2 | with_reducible exact natz3 | with_reducible exact natz4 | with_reducible exact natz8); (· first | with_reducible exact natz _ | with_reducible exact natz0 | with_reducible exact natz1 | with_reducible exact natz2 | with_reducible exact natz3 | with_reducible exact natz4 | with_reducible exact natz8)) | (apply natz_sub; (· first | with_reducible exact natz _ | with_reducible exact natz0 | with_reducible exact natz1 | with_reducible exact natz2 | with_reducible exact natz3 | with_reducible exact natz4 | with_reducible exact natz8); (· first | with_reducible exact natz _ | with_reducible exact natz0 | with_reducible exact natz1 | with_reducible exact natz2 | with_reducible exact natz3 | with_reducible exact natz4 | with_reducible exact natz8); (· omega)) | exact (Int.toNat_of_nonneg (by omega)).symm)) (by (first | with_reducible exact natz _ | with_reducible exact natz0 | with_reducible exact natz1 | with_reducible exact natz2 | with_reducible exact natz3 | with_reducible exact natz4 | with_reducible exact natz8 | (apply natz_add; (· first | with_reducible exact natz _ | with_reducible exact natz0 | with_reducible exact natz1 | with_reducible exact natz2 | with_reducible exact natz3 | with_reducible exact natz4 | with_reducible exact natz8); (· first | with_reducible exact natz _ | with_reducible exact natz0 | with_reducible exact natz1 | with_reducible exact natz2 | with_reducible exact natz3 | with_reducible exact natz4 | with_reducible exact natz8)) | (apply natz_sub; (· first | with_reducible exact natz _ | with_reducible exact natz0 | with_reducible exact natz1 | with_reducible exact natz2 | with_reducible exact natz3 | with_reducible exact natz4 | with_reducible exact natz8); (· first | with_reducible exact natz _ | with_reducible exact natz0 | with_reducible exact natz1 | with_reducible exact natz2 | with_reducible exact natz3 | with_reducible exact natz4 | with_reducible exact natz8); (· omega)) | exact (Int.toNat_of_nonneg (by omega)).symm)) rfl rfl rfl rfl rfl rfl (by decide) (by omega) (by omega) rfl ?_; intro zzc) | (refine WL.makeRow (sz:=1) (by':=24) (zs:=[.slice none 0 0]) rfl rfl (by (first | with_reducible exact natz _ | with_reducible exact natz0 | with_reducible exact natz1 | with_reducible exact natz2 | with_reducible exact natz3 | with_reducible exact natz4 | with_reducible exact natz8 | (apply natz_add; (· first | with_reducible exact natz _ | with_reducible exact natz0 | with_reducible exact natz1 | with_reducible exact natz2 | with_reducible exact natz3 | with_reducible exact natz4 | with_reducible exact natz8); (· first | with_reducible exact natz _ | with_reducible exact natz0 | with_reducible exact natz1 | with_reducible exact natz2 | with_reducible exact natz3 | with_reducible exact natz4 | with_reducible exact natz8)) | (apply natz_sub; (· first | with_reducible exact natz _ | with_reducible exact natz0 | with_reducible exact natz1 | with_reducible exact natz2 | with_reducible exact natz3 | with_reducible exact natz4 | with_reducible exact natz8); (· first | with_reducible exact natz _ | with_reducible exact natz0 | with_reducible exact natz1 | with_reducible exact natz2 | with_reducible exact natz3 | with_reducible exact natz4 | with_reducible exact natz8); (· omega)) | exact (Int.toNat_of_nonneg (by omega)).symm)) (by (first | with_reducible exact natz _ | with_reducible exact natz0 | with_reducible exact natz1 | with_reducible exact natz2 | with_reducible exact natz3 | with_reducible exact natz4 | with_reducible exact natz8 | (apply natz_add; (· first | with_reducible exact natz _ | with_reducible exact natz0 | with_reducible exact natz1 | with_reducible exact natz2 | with_reducible exact natz3 | with_reducible exact natz4 | with_reducible exact natz8); (· first | with_reducible exact natz _ | with_reducible exact natz0 | with_reducible exact natz1 | with_reducible exact natz2 | with_reducible exact natz3 | with_reducible exact natz4 | with_reducible exact natz8)) | (apply natz_sub; (· first | with_reducible exact natz _ | with_reducible exact natz0 | with_reducible exact natz1 | with_reducible exact natz2 | with_reducible exact natz3 | with_reducible exact natz4 | with_reducible exact natz8); (· first | with_reducible exact natz _ | with_reducible exact natz0 | with_reducible exact natz1 | with_reducible exact natz2 | with_reducible exact natz3 | with_reducible exact natz4 | with_reducible exact natz8); (· omega)) | exact (Int.toNat_of_nonneg (by omega)).symm)) rfl rfl rfl rfl rfl rfl (by decide) (by omega) (by omega) rfl ?_; intro zzc))); exact WQ.q1 rfl) : G := h
theorem st_D27_1 {G G' : Prop} (next : G') (h : Bx G' → G := by intro zzn; (first | ((refine st ?_; (repeat intro zzc)); (try ((first | (refine WL.makeRow (sz:=1) (by':=8) (zs:=[.int .i64 0]) rfl rfl (by (first | with_reducible exact natz _ | with_reducible exact natz0 | with_reducible exact natz1 | with_reducible exact natz2 | with_reducible exact natz3 | with_reducible exact natz4 | with_reducible exact natz8 | (apply natz_add; (· first | with_reducible exact natz _ | with_reducible exact natz0 | with_reducible exact natz1 | with_reducible exact natz2 | with_reducible exact natz3 | with_reducible exact natz4 | with_reducible exact natz8); (· first | with_reducible exact natz _ | with_reducible exact natz0 | with_reducible exact natz1 | with_reducible exact natz2 | with_reducible exact natz3 | with_reducible exact natz4 | with_reducible exact natz8)) | (apply natz_sub; (· first | with_reducible exact natz _ | with_reducible exact natz0 | with_reducible exact natz1 | with_reducible exact natz2 | with_reducible exact natz3 | with_reducible exact natz4 | with_reducible exact natz8); (· first | with_reducible exact natz _ | with_reducible exact natz0 | with_reducible exact natz1 | with_reducible exact natz2 | with_reducible exact natz3 | with_reducible exact natz4 | with_reducible exact natz8); (· omega)) | exact (Int.toNat_of_nonneg (by omega)).symm)) (by (first | with_reducible exact natz _ | with_reducible exact natz0 | with_reducible exact natz1 | with_reducible exact natz2 | with_reducible exact natz3 | with_reducible exact natz4 | with_reducible exact natz8 | (apply natz_add; (· first | with_reducible exact natz _ | with_reducible exact natz0 | with_reducible exact natz1 | with_reducible exact natz2 | with_reducible exact natz3 | with_reducible exact natz4 | with_reducible exact natz8); (· first | with_reducible exact natz _ | with_reducible exact natz0 | with_reducible exact natz1 | with_reducible exact natz2 | with_reducible exact natz3 | with_reducible exact natz4 | with_reducible exact natz8)) | (apply natz_sub; (· first | with_reducible exact natz _ | with_reducible exact natz0 | with_reducible exact natz1 | with_reducible exact natz2 | with_reducible exact natz3 | with_reducible exact natz4 | with_reducible exact natz8); (· first | with_reducible exact natz _ | with_reducible exact natz0 | with_reducible exact natz1 | with_reducible exact natz2 | with_reducible exact natz3 | with_reducible exact natz4 | with_reducible exact natz8); (· omega)) | exact (Int.toNat_of_nonneg (by omega)).symm)) rfl rfl rfl rfl rfl rfl (by decide) (by omega) (by omega) rfl ?_; intro zzc) | (refine WL.makeRow (sz:=1) (by':=24) (zs:=[.slice none 0 0]) rfl rfl (by (first | with_reducible exact natz _ | with_reducible exact natz0 | with_reducible exact natz1 | with_reducible exact natz2 | with_reducible exact natz3 | with_reducible exact natz4 | with_reducible exact natz8 | (apply natz_add; (· first | with_reducible exact natz _ | with_reducible exact natz0 | with_reducible exact natz1 | with_reducible exact natz2 | with_reducible exact natz3 | with_reducible exact natz4 | with_reducible exact natz8); (· first | with_reducible exact natz _ | with_reducible exact natz0 | with_reducible exact natz1 | with_reducible exact natz2 | with_reducible exact natz3 | with_reducible exact natz4 | with_reducible exact natz8)) | (apply natz_sub; (· first | with_reducible exact natz _ | with_reducible exact natz0 | with_reducible exact natz1 | with_reducible exact natz2 | with_reducible exact natz3 | with_reducible exact natz4 | with_reducible exact natz8); (· first | with_reducible exact natz _ | with_reducible exact natz0 | with_reducible exact natz1 | with_reducible exact natz2 | with_reducible exact natz3 | with_reducible exact natz4 | with_reducible exact natz8); (· omega)) | exact (Int.toNat_of_nonneg (by omega)).symm)) (by (first | with_reducible exact natz _ | with_reducible exact natz0 | with_reducible exact natz1 | with_reducible exact natz2 | with_reducible exact natz3 | with_reducible exact natz4 | with_reducible exact natz8 | (apply natz_add; (· first | with_reducible exact natz _ | with_reducible exact natz0 | with_reducible exact natz1 | with_reducible exact natz2 | with_reducible exact natz3 | with_reducible exact natz4 | with_reducible exact natz8); (· first | with_reducible exact natz _ | with_reducible exact natz0 | with_reducible exact natz1 | with_reducible exact natz2 | with_reducible exact natz3 | with_reducible exact natz4 | with_reducible exact natz8)) | (apply natz_sub; (· first | with_reducible exact natz _ | with_reducible exact natz0 | with_reducible exact natz1 | with_reducible exact natz2 | with_reducible exact natz3 | with_reducible exact natz4 | with_reducible exact natz8); (· first | with_reducible exact natz _ | with_reducible exact natz0 | with_reducible exact natz1 | with_reducible exact natz2 | with_reducible exact natz3 | with_reducible exact natz4 | with_reducible exact natz8); (· omega)) | exact (Int.toNat_of_nonneg (by omega)).symm)) rfl rfl rfl rfl rfl rfl (by decide) (by omega) (by omega) rfl ?_; intro zzc) | ((refine iDraw ?_; (first | refine WC.drawAll rfl (by decide +kernel) ?_ | refine WC.draw 1 rfl (by decide +kernel) ?_ | refine WC.draw 2 rfl (by decide +kernel) ?_ | refine WC.draw 3 rfl (by decide +kernel) ?_ | refine WC.draw 4 rfl (by decide +kernel) ?_ | refine WC.draw 5 rfl (by decide +kernel) ?_ | refine WC.draw 6 rfl (by decide +kernel) ?_ | refine WC.draw 7 rfl (by decide +kernel) ?_ | refine WC.draw 8 rfl (by decide +kernel) ?_ | refine WC.draw 9 rfl (by decide +kernel) ?_ | refine WC.draw 10 rfl (by decide +kernel) ?_ | refine WC.draw 11 rfl (by decide +kernel) ?_ | refine WC.draw 12 rfl (by decide +kernel) ?_ | refine WC.draw 13 rfl (by decide +kernel) ?_ | refine WC.draw 14 rfl (by decide +kernel) ?_ | refine WC.draw 15 rfl (by decide +kernel) ?_ | refine WC.draw 16 rfl (by decide +kernel) ?_ | refine WC.draw 17 rfl (by decide +kernel) ?_ | refine WC.draw 18 rfl (by decide +kernel) ?_ | refine WC.draw 19 rfl (by decide +kernel) ?_ | refine WC.draw 20 rfl (by decide +kernel) ?_ | refine WC.draw 21 rfl (by decide +kernel) ?_ | refine WC.draw 22 rfl (by decide +kernel) ?_ | refine WC.draw 23 rfl (by decide +kernel) ?_ | refine WC.draw 24 rfl (by decide +kernel) ?_)); (repeat (refine WD.cons rfl (fun c h => by cases h) sq_D27_1 ?_)); refine WD.nil ?_)); (try (refine st ?_; (repeat intro zzc)))))) | ((first | (refine WL.makeRow (sz:=1) (by':=8) (zs:=[.int .i64 0]) rfl rfl (by (first | with_reducible exact natz _ | with_reducible exact natz0 | with_reducible exact natz1 | with_reducible exact natz2 | with_reducible exact natz3 | with_reducible exact natz4 | with_reducible exact natz8 | (apply natz_add; (· first | with_reducible exact natz _ | with_reducible exact natz0 | with_reducible exact natz1 | with_reducible exact natz2 | with_reducible exact natz3 | with_reducible exact natz4 | with_reducible exact natz8); (· first | with_reducible exact natz _ | with_reducible exact natz0 | with_reducible exact natz1 | with_reducible exact natz2 | with_reducible exact natz3 | with_reducible exact natz4 | with_reducible exact natz8)) | (apply natz_sub; (· first | with_reducible exact natz _ | with_reducible exact natz0 | with_reducible exact natz1 | with_reducible exact natz2 | with_reducible exact natz3 | with_reducible exact natz4 | with_reducible exact natz8); (· first | with_reducible exact natz _ | with_reducible exact natz0 | with_reducible exact natz1 | with_reducible exact natz2 | with_reducible exact natz3 | with_reducible exact natz4 | with_reducible exact natz8); (· omega)) | exact (Int.toNat_of_nonneg (by omega)).symm)) (by (first | with_reducible exact natz _ | with_reducible exact natz0 | with_reducible exact natz1 | with_reducible exact natz2 | with_reducible exact natz3 | with_reducible exact natz4 | with_reducible exact natz8 | (apply natz_add; (· first | with_reducible exact natz _ | with_reducible exact natz0 | with_reducible exact natz1 | with_reducible exact natz2 | with_reducible exact natz3 | with_reducible exact natz4 | with_reducible exact natz8); (· first | with_reducible exact natz _ | with_reducible exact natz0 | with_reducible exact natz1 | with_reducible exact natz2 | with_reducible exact natz3 | with_reducible exact natz4 | with_reducible exact natz8)) | (apply natz_sub; (· first | with_reducible exact natz _ | with_reducible exact natz0 | with_reducible exact natz1 | with_reducible exact natz2 | with_reducible exact natz3 | with_reducible exact natz4 | with_reducible exact natz8); (· first | with_reducible exact natz _ | with_reducible exact natz0 | with_reducible exact natz1 | with_reducible exact natz2 | with_reducible exact natz3 | with_reducible exact natz4 | with_reducible exact natz8); (· omega)) | exact (Int.toNat_of_nonneg (by omega)).symm)) rfl rfl rfl rfl rfl rfl (by decide) (by omega) (by omega) rfl ?_; intro zzc) | (refine WL.makeRow (sz:=1) (by':=24) (zs:=[.slice none 0 0]) rfl rfl (by (first | with_reducible exact natz _ | with_reducible exact natz0 | with_reducible exact natz1 | with_reducible exact natz2 | with_reducible exact natz3 | with_reducible exact natz4 | with_reducible exact natz8 | (apply natz_add; (· first | with_reducible exact natz _ | with_reducible exact natz0 | with_reducible exact natz1 | with_reducible exact natz2 | with_reducible exact natz3 | with_reducible exact natz4 | with_reducible exact natz8); (· first | with_reducible exact natz _ | with_reducible exact natz0 | with_reducible exact natz1 | with_reducible exact natz2 | with_reducible exact natz3 | with_reducible exact natz4 | with_reducible exact natz8)) | (apply natz_sub; (· first | with_reducible exact natz _ | with_reducible exact natz0 | with_reducible exact natz1 | with_reducible exact natz2 | with_reducible exact natz3 | with_reducible exact natz4 | with_reducible exact natz8); (· first | with_reducible exact natz _ | with_reducible exact natz0 | with_reducible exact natz1 | with_reducible exact natz2 | with_reducible exact natz3 | with_reducible exact natz4 | with_reducible exact natz8); (· omega)) | exact (Int.toNat_of_nonneg (by omega)).symm)) (by (first | with_reducible exact natz _ | with_reducible exact natz0 | with_reducible exact natz1 | with_reducible exact natz2 | with_reducible exact natz3 | with_reducible exact natz4 | with_reducible exact natz8 | (apply natz_add; (· first | with_reducible exact natz _ | with_reducible exact natz0 | with_reducible exact natz1 | with_reducible exact natz2 | with_reducible exact natz3 | with_reducible exact natz4 | with_reducible exact natz8); (· first | with_reducible exact natz _ | with_reducible exact natz0 | with_reducible exact natz1 | with_reducible exact natz2 | with_reducible exact natz3 | with_reducible exact natz4 | with_reducible exact natz8)) | (apply natz_sub; (· first | with_reducible exact natz _ | with_reducible exact natz0 | with_reducible exact natz1 | with_reducible exact natz2 | with_reducible exact natz3 | with_reducible exact natz4 | with_reducible exact natz8); (· first | with_reducible exact natz _ | with_reducible exact natz0 | with_reducible exact natz1 | with_reducible exact natz2 | with_reducible exact natz3 | with_reducible exact natz4 | with_reducible exact natz8); (· omega)) | exact (Int.toNat_of_nonneg (by omega)).symm)) rfl rfl rfl rfl rfl rfl (by decide) (by omega) (by omega) rfl ?_; intro zzc) | ((refine iDraw ?_; (first | refine WC.drawAll rfl (by decide +kernel) ?_ | refine WC.draw 1 rfl (by decide +kernel) ?_ | refine WC.draw 2 rfl (by decide +kernel) ?_ | refine WC.draw 3 rfl (by decide +kernel) ?_ | refine WC.draw 4 rfl (by decide +kernel) ?_ | refine WC.draw 5 rfl (by decide +kernel) ?_ | refine WC.draw 6 rfl (by decide +kernel) ?_ | refine WC.draw 7 rfl (by decide +kernel) ?_ | refine WC.draw 8 rfl (by decide +kernel) ?_ | refine WC.draw 9 rfl (by decide +kernel) ?_ | refine WC.draw 10 rfl (by decide +kernel) ?_ | refine WC.draw 11 rfl (by decide +kernel) ?_ | refine WC.draw 12 rfl (by decide +kernel) ?_ | refine WC.draw 13 rfl (by decide +kernel) ?_ | refine WC.draw 14 rfl (by decide +kernel) ?_ | refine WC.draw 15 rfl (by decide +kernel) ?_ | refine WC.draw 16 rfl (by decide +kernel) ?_ | refine WC.draw 17 rfl (by decide +kernel) ?_ | refine WC.draw 18 rfl (by decide +kernel) ?_ | refine WC.draw 19 rfl (by decide +kernel) ?_ | refine WC.draw 20 rfl (by decide +kernel) ?_ | refine WC.draw 21 rfl (by decide +kernel) ?_ | refine WC.draw 22 rfl (by decide +kernel) ?_ | refine WC.draw 23 rfl (by decide +kernel) ?_ | refine WC.draw 24 rfl (by decide +kernel) ?_)); (repeat (refine WD.cons rfl (fun c h => by cases h) sq_D27_1 ?_)); refine WD.nil ?_)); (try (refine st ?_; (repeat intro zzc))))); (repeat ((first | (refine WL.makeRow (sz:=1) (by':=8) (zs:=[.int .i64 0]) rfl rfl (by (first | with_reducible exact natz _ | with_reducible exact natz0 | with_reducible exact natz1 | with_reducible exact natz2 | with_reducible exact natz3 | with_reducible exact natz4 | with_reducible exact natz8 | (apply natz_add; (· first | with_reducible exact natz _ | with_reducible exact natz0 | with_reducible exact natz1 | with_reducible exact natz2 | with_reducible exact natz3 | with_reducible exact natz4 | with_reducible exact natz8); (· first | with_reducible exact natz _ | with_reducible exact natz0 | with_reducible exact natz1 | with_reducible exact natz2 | with_reducible exact natz3 | with_reducible exact natz4 | with_reducible exact natz8)) | (apply natz_sub; (· first | with_reducible exact natz _ | with_reducible exact natz0 | with_reducible exact natz1 | with_reducible exact natz2 | with_reducible exact natz3 | with_reducible exact natz4 | with_reducible exact natz8); (· first | with_reducible exact natz _ | with_reducible exact natz0 | with_reducible exact natz1 | with_reducible exact natz2 | with_reducible exact natz3 | with_reducible exact natz4 | with_reducible exact natz8); (· omega)) | exact (Int.toNat_of_nonneg (by omega)).symm)) (by (first | with_reducible exact natz _ | with_reducible exact natz0 | with_reducible exact natz1 | with_reducible exact natz2 | with_reducible exact natz3 | with_reducible exact natz4 | with_reducible exact natz8 | (apply natz_add; (· first | with_reducible exact natz _ | with_reducible exact natz0 | with_reducible exact natz1 | with_reducible exact natz2 | with_reducible exact natz3 | with_reducible exact natz4 | with_reducible exact natz8); (· first | with_reducible exact natz _ | with_reducible exact natz0 | with_reducible exact natz1 | with_reducible exact natz2 | with_reducible exact natz3 | with_reducible exact natz4 | with_reducible exact natz8)) | (apply natz_sub; (· first | with_reducible exact natz _ | with_reducible exact natz0 | with_reducible exact natz1 | with_reducible exact natz2 | with_reducible exact natz3 | with_reducible exact natz4 | with_reducible exact natz8); (· first | with_reducible exact natz _ | with_reducible exact natz0 | with_reducible exact natz1 | with_reducible exact natz2 | with_reducible exact natz3 | with_reducible exact natz4 | with_reducible exact natz8); (· omega)) | exact (Int.toNat_of_nonneg (by omega)).symm)) rfl rfl rfl rfl rfl rfl (by decide) (by omega) (by omega) rfl ?_; intro zzc) | (refine WL.makeRow (sz:=1) (by':=24) (zs:=[.slice none 0 0]) rfl rfl (by (first | with_reducible exact natz _ | with_reducible exact natz0 | with_reducible exact natz1 | with_reducible exact natz2 | with_reducible exact natz3 | with_reducible exact natz4 | with_reducible exact natz8 | (apply natz_add; (· first | with_reducible exact natz _ | with_reducible exact natz0 | with_reducible exact natz1 | with_reducible exact natz2 | with_reducible exact natz3 | with_reducible exact natz4 | with_reducible exact natz8); (· first | with_reducible exact natz _ | with_reducible exact natz0 | with_reducible exact natz1 | with_reducible exact natz2 | with_reducible exact natz3 | with_reducible exact natz4 | with_reducible exact natz8)) | (apply natz_sub; (· first | with_reducible exact natz _ | with_reducible exact natz0 | with_reducible exact natz1 | with_reducible exact natz2 | with_reducible exact natz3 | with_reducible exact natz4 | with_reducible exact natz8); (· first | with_reducible exact natz _ | with_reducible exact natz0 | with_reducible exact natz1 | with_reducible exact natz2 | with_reducible exact natz3 | with_reducible exact natz4 | with_reducible exact natz8); (· omega)) | exact (Int.toNat_of_nonneg (by omega)).symm)) (by (first | with_reducible exact natz _ | with_reducible exact natz0 | with_reducible exact natz1 | with_reducible exact natz2 | with_reducible exact natz3 | with_reducible exact natz4 | with_reducible exact natz8 | (apply natz_add; (· first | with_reducible exact natz _ | with_reducible exact natz0 | with_reducible exact natz1 | with_reducible exact natz2 | with_reducible exact natz3 | with_reducible exact natz4 | with_reducible exact natz8); (· first | with_reducible exact natz _ | with_reducible exact natz0 | with_reducible exact natz1 | with_reducible exact natz2 | with_reducible exact natz3 | with_reducible exact natz4 | with_reducible exact natz8)) | (apply natz_sub; (· first | with_reducible exact natz _ | with_reducible exact natz0 | with_reducible exact natz1 | with_reducible exact natz2 | with_reducible exact natz3 | with_reducible exact natz4 | with_reducible exact natz8); (· first | with_reducible exact natz _ | with_reducible exact natz0 | with_reducible exact natz1 | with_reducible exact natz2 | with_reducible exact natz3 | with_reducible exact natz4 | with_reducible exact natz8); (· omega)) | exact (Int.toNat_of_nonneg (by omega)).symm)) rfl rfl rfl rfl rfl rfl (by decide) (by omega) (by omega) rfl ?_; intro zzc) | ((refine iDraw ?_; (first | refine WC.drawAll rfl (by decide +kernel) ?_ | refine WC.draw 1 rfl (by decide +kernel) ?_ | refine WC.draw 2 rfl (by decide +kernel) ?_ | refine WC.draw 3 rfl (by decide +kernel) ?_ | refine WC.draw 4 rfl (by decide +kernel) ?_ | refine WC.draw 5 rfl (by decide +kernel) ?_ | refine WC.draw 6 rfl (by decide +kernel) ?_ | refine WC.draw 7 rfl (by decide +kernel) ?_ | refine WC.draw 8 rfl (by decide +kernel) ?_ | refine WC.draw 9 rfl (by decide +kernel) ?_ | refine WC.draw 10 rfl (by decide +kernel) ?_ | refine WC.draw 11 rfl (by decide +kernel) ?_ | refine WC.draw 12 rfl (by decide +kernel) ?_ | refine WC.draw 13 rfl (by decide +kernel) ?_ | refine WC.draw 14 rfl (by decide +kernel) ?_ | refine WC.draw 15 rfl (by decide +kernel) ?_ | refine WC.draw 16 rfl (by decide +kernel) ?_ | refine WC.draw 17 rfl (by decide +kernel) ?_ | refine WC.draw 18 rfl (by decide +kernel) ?_ | refine WC.draw 19 rfl (by decide +kernel) ?_ | refine WC.draw 20 rfl (by decide +kernel) ?_ | refine WC.draw 21 rfl (by decide +kernel) ?_ | refine WC.draw 22 rfl (by decide +kernel) ?_ | refine WC.draw 23 rfl (by decide +kernel) ?_ | refine WC.draw 24 rfl (by decide +kernel) ?_)); (repeat (refine WD.cons rfl (fun c h => by cases h) sq_D27_1 ?_)); refine WD.nil ?_)); (try (refine st ?_; (repeat intro zzc))))); (repeat revert zzc); exact zzn.out) : G := h ⟨next⟩
theorem longest_any {A B : List Tx} {aa ab : Option Addr} {ca cb : Nat} {w0 : World} {m : Mem} {H : SHeap} (hA : A.length ≤ 1024) (hB : B.length ≤ 1024) (ha : RowR w0 m H 1 aa (strs A)) (hb : RowR w0 m H 1 ab (strs B)) :
    Does Try.prog 34 #[.slice aa A.length ca, .slice ab B.length cb] w0 m H (fun v m' H' => m' = m ∧ ∃ a cp, v = .slice a (midL A B 0 0).length cp ∧ H' = .row a cp 44 2 ((midL A B 0 0).map prE) :: H) := by
  refine Does.of_body (args := [.slice aa A.length ca, .slice ab B.length cb]) Try.func34 rfl Try.ntmps34 rfl ?_
  have hcA : (A.length : Int) + 1 = ((A.length + 1 : Nat) : Int) := by omega
  have hcB : (B.length : Int) + 1 = ((B.length + 1 : Nat) : Int) := by omega
  (refine st_D27_1 ?_; intros; rename_i bo)
  generalize hN : A.length + 1 = N at *
  rw [show List.replicate N [Value.slice none 0 0] = outE [] (B.length + 1) N by unfold outE; rfl]
  refine WC.heap (H' := .row (some ⟨bo, 0, none⟩) N 51 1 (outE [] (B.length + 1) N) :: (tabL 3 (B.length + 1) (fun _ => List.replicate (B.length + 1) [.int .i64 0]) [] ++ H)) (fun w h => by unfold tabL; exact h) ?_
  refine WC.loopH [(21, .int .i64 ((0) : Int)), (20, .int .i64 (N : Int)), (5, .slice (some ⟨bo, 0, none⟩) N N), (0, .slice aa A.length ca), (1, .slice ab B.length cb)] ?_ ?_ (fun j r ds m' H' => ∃ (q : _) (bs : List Nat), j = N - q ∧ r = [(21, .int .i64 (q : Int)), (20, .int .i64 (N : Int)), (5, .slice (some ⟨bo, 0, none⟩) N N), (0, .slice aa A.length ca), (1, .slice ab B.length cb)] ∧ ds = [] ∧ m = m' ∧ H' = .row (some ⟨bo, 0, none⟩) N 51 1 (outE bs (B.length + 1) N) :: (tabL 3 (B.length + 1) (fun _ => List.replicate (B.length + 1) [.int .i64 0]) bs ++ H) ∧ (bs.length = q) ∧ (q ≤ N)) (N - (0)) ⟨0, [], rfl, rfl, rfl, rfl, rfl, rfl, by omega⟩ ?_
  · (repeat (first | exact Env.Sub.nil | refine Env.Sub.cons rfl ?_))
  · exact zpk
  rintro j r ds m' H' ⟨q, bs, rfl, rfl, rfl, rfl, rfl, hbl, hjN⟩
  by_cases hlt : q < N
  · have hol : (outE bs (B.length + 1) N).length = N := outE_length (by omega)
    have hset : ∀ b, (outE bs (B.length + 1) N).set q [.slice (some ⟨b, 0, none⟩) (B.length + 1) (B.length + 1)] = outE (bs ++ [b]) (B.length + 1) N := fun b => by rw [← hbl]; exact outE_set (by omega)
    generalize hOE : outE bs (B.length + 1) N = OE at *
    (refine st_D27_1 ?_; intros; rename_i bn)
    rw [hset]
    refine WQ.heapX (H' := .row (some ⟨bo, 0, none⟩) N 51 1 (outE (bs ++ [bn]) (B.length + 1) N) :: (tabL 3 (B.length + 1) (fun _ => List.replicate (B.length + 1) [.int .i64 0]) (bs ++ [bn]) ++ H)) (fun w h => h.perm ?_) ?_
    · rw [tabL_snoc]
      exact (List.Perm.swap _ _ _).trans (List.Perm.cons _ ((List.perm_append_singleton _ _).symm.append_right H))
    · refine WQ.next (N - (q + 1)) ⟨q + 1, bs ++ [bn], rfl, rfl, rfl, rfl, rfl, ?_, ?_⟩ (by omega) zsb zpk
      · rw [List.length_append, List.length_singleton]; omega
      · omega
  · obtain rfl : q = N := by omega
    rw [tabL_congr (G := fun i => rowQ A B i (if i < A.length then B.length else 0)) (fun i hi => by
      split
      · exact (rowQ_zero (.inl (Nat.le_refl _))).symm
      · exact (rowQ_zero (.inr (by omega))).symm)]
    obtain ⟨E, hE⟩ : ∃ E, E = outE bs (B.length + 1) q := ⟨_, rfl⟩
    have hEl : E.length = q := by rw [hE]; exact outE_length (by omega)
    have hEg : ∀ i b, bs[i]? = some b → E[i]? = some [Value.slice (some ⟨b, 0, none⟩) (B.length + 1) (B.length + 1)] := fun i b h => by rw [hE]; exact outE_get h
    rw [← hE]
    clear hE
    (try (refine st_D27_1 ?_; intros))
    refine WC.loopH [(7, .int .i64 (((A.length) : Int) - 1)), (5, .slice (some ⟨bo, 0, none⟩) q q), (0, .slice aa A.length ca), (1, .slice ab B.length cb)] ?_ ?_ (fun j r ds m' H' => ∃ i, j = 2 * i ∧ r = [(7, .int .i64 ((i : Int) - 1)), (5, .slice (some ⟨bo, 0, none⟩) q q), (0, .slice aa A.length ca), (1, .slice ab B.length cb)] ∧ ds = [] ∧ m = m' ∧ H' = .row (some ⟨bo, 0, none⟩) q 51 1 E :: (tabL 3 (B.length + 1) (fun k => rowQ A B k (if k < i then B.length else 0)) bs ++ H) ∧ (i ≤ A.length)) (2 * (A.length)) ⟨A.length, rfl, rfl, rfl, rfl, rfl, by omega⟩ ?_
    · (repeat (first | exact Env.Sub.nil | refine Env.Sub.cons rfl ?_))
    · exact zpk
    rintro j r ds m' H' ⟨i, rfl, rfl, rfl, rfl, rfl, hi⟩
    by_cases hz : i = 0
    · subst hz
      clear hi
      have hrows : ∀ i b, bs[i]? = some b → RowR w0 m (tabL 3 (B.length + 1) (fun k => rowQ A B k (if k < 0 then B.length else 0)) bs ++ H) 1 (some ⟨b, 0, none⟩) (rowQ A B i 0) := fun i b h => RowR.row (List.mem_append.2 (.inl (tabL_mem h)))
      have hra : RowR w0 m (tabL 3 (B.length + 1) (fun k => rowQ A B k (if k < 0 then B.length else 0)) bs ++ H) 1 aa (strs A) := ha.weak (fun w h => drops_app h)
      have hrb : RowR w0 m (tabL 3 (B.length + 1) (fun k => rowQ A B k (if k < 0 then B.length else 0)) bs ++ H) 1 ab (strs B) := hb.weak (fun w h => drops_app h)
      have hdrop : ∀ w i, Sat w0 m (i :: .row (some ⟨bo, 0, none⟩) q 51 1 E :: (tabL 3 (B.length + 1) (fun k => rowQ A B k (if k < 0 then B.length else 0)) bs ++ H)) w → Sat w0 m (i :: H) w := fun w i h => by
        have h2 := h.perm ((List.Perm.swap _ _ _).trans (List.Perm.cons _ (List.perm_middle (a := i)).symm))
        exact drops_app h2.drop
      generalize tabL 3 (B.length + 1) (fun k => rowQ A B k (if k < 0 then B.length else 0)) bs ++ H = Y at hrows hra hrb hdrop ⊢
      clear ha hb
      refine WC.newRow (T := 44) (sz := 2) ?_
      (try (refine st_D27_1 ?_; intros))
      refine WC.loopH [(11, .int .i64 ((0) : Int)), (10, .int .i64 ((0) : Int)), (9, .slice (none) ([]).length (0)), (5, .slice (some ⟨bo, 0, none⟩) q q), (0, .slice aa A.length ca), (1, .slice ab B.length cb)] ?_ ?_ (fun j r ds m' H' => ∃ (i : Nat) (k : Nat) (a : Option Addr) (cp : Nat) (L : List (Nat × Nat)), j = A.length - i ∧ r = [(11, .int .i64 (k : Int)), (10, .int .i64 (i : Int)), (9, .slice a L.length cp), (5, .slice (some ⟨bo, 0, none⟩) q q), (0, .slice aa A.length ca), (1, .slice ab B.length cb)] ∧ ds = [] ∧ m = m' ∧ H' = .row a cp 44 2 (L.map prE) :: .row (some ⟨bo, 0, none⟩) q 51 1 E :: Y ∧ (i ≤ A.length) ∧ (k ≤ B.length) ∧ (L.length ≤ i) ∧ (L ++ midL (A.drop i) (B.drop k) i k = midL A B 0 0)) (A.length - (0)) ⟨0, 0, none, 0, [], rfl, rfl, rfl, rfl, rfl, by omega, by omega, by simp, by simp⟩ ?_
      · (repeat (first | exact Env.Sub.nil | refine Env.Sub.cons rfl ?_))
      · exact zpk
      rintro j r ds m' H' ⟨i, k, a, cp, L, rfl, rfl, rfl, rfl, rfl, hi, hk, hLl, hL⟩
      obtain ⟨bi, hbi⟩ : ∃ b, bs[i]? = some b := ⟨_, List.getElem?_eq_getElem (by omega : i < bs.length)⟩
      have hE0 := hEg i bi hbi
      have hr0 := hrows i bi hbi
      have hr0' : RowR w0 m (.row a cp 44 2 (L.map prE) :: .row (some ⟨bo, 0, none⟩) q 51 1 E :: Y) 1 (some ⟨bi, 0, none⟩) (rowQ A B i 0) := hr0.more.more
      have hg0 := rowQ_get (A := A) (B := B) (i := i) (k := 0) (j := k) (by omega)
      rw [cut16_ge (Nat.zero_le _)] at hg0
      have hP0 := rowQ_length A B i 0
      by_cases hz : lcs (A.drop i) (B.drop k) = 0
      · rw [midL_zero hz, List.append_nil] at hL
        subst hL
        rw [hz] at hg0
        (try (refine st_D27_1 ?_; intros))
        exact q_fin0 (H0 := .row a cp 44 2 ((midL A B 0 0).map prE) :: H) ⟨rfl, a, cp, rfl, rfl⟩ (hd := fun w h => hdrop w _ h)
      · have hzl := (lcs_le (A.drop i) (B.drop k)).1
        rw [List.length_drop] at hzl
        have hpos : (0 : Int) < (lcs (A.drop i) (B.drop k) : Int) := by omega
        (try (refine st_D27_1 ?_; intros))
        refine WC.weak zsb zpk (long_x (L := L) (a := a) (cp := cp) (k := k) (i := i) (ca := ca) (cb := cb) (bo := bo) (bs := bs) hA hB hk hi (by omega) hN hEl hE0 (by omega) hEg hr0 hrows hra hrb ?_)
        intro x p hix hxA hkp hpB hmid
        rw [hmid] at hL
        have hLm : (L.map prE).length = L.length := List.length_map _
        have hsn : L.map prE ++ [[Value.int .i64 (x : Int), .int .i64 (p : Int)]] = (L ++ [(x, p)]).map prE := by simp [prE]
        generalize L.map prE = LE at *
        (refine st_D27_1 ?_; intros; rename_i b9 a2 cp2)
        rw [show ((x + 1 : Nat) : Int) - 1 = (x : Int) by omega, hsn, hLm, show (p : Int) + 1 = ((p + 1 : Nat) : Int) by omega, show L.length + 1 = (L ++ [(x, p)]).length by simp]
        refine WQ.next (A.length - (x + 1)) ⟨x + 1, p + 1, a2, cp2, L ++ [(x, p)], rfl, rfl, rfl, rfl, rfl, ?_, ?_, ?_, ?_⟩ (by omega) zsb zpk
        · omega
        · omega
        · rw [List.length_append, List.length_singleton]; omega
        · rw [List.append_assoc, List.singleton_append]; exact hL
    · obtain ⟨i', rfl⟩ : ∃ i', i = i' + 1 := ⟨i - 1, by omega⟩
      obtain ⟨x, hx⟩ : ∃ x, A[i']? = some x := ⟨_, List.getElem?_eq_getElem (by omega : i' < A.length)⟩
      obtain ⟨bi, hbi⟩ : ∃ b, bs[i']? = some b := ⟨_, List.getElem?_eq_getElem (by omega : i' < bs.length)⟩
      obtain ⟨b1, hb1⟩ : ∃ b, bs[i' + 1]? = some b := ⟨_, List.getElem?_eq_getElem (by omega : i' + 1 < bs.length)⟩
      obtain ⟨X, p1, p2, pX⟩ := tabL_out (T := 3) (c := B.length + 1) (F := fun k => rowQ A B k (if k < i' + 1 then B.length else 0)) (G := fun k => rowQ A B k (if k < i' then B.length else 0)) hbi (fun k hk => by
        show rowQ A B k _ = rowQ A B k _
        congr 1
        split <;> split <;> omega)
      have pX1 := pX (i' + 1) b1 (by omega) hb1
      simp only [if_neg (Nat.lt_irrefl _), if_pos (Nat.lt_succ_self _)] at p1 p2 pX1
      rw [show ((i' + 1 : Nat) : Int) - 1 = (i' : Int) by omega]
      have hE0 := hEg i' bi hbi
      have hE1 := hEg (i' + 1) b1 hb1
      refine WC.heap (H' := .row (some ⟨bi, 0, none⟩) (B.length + 1) 3 1 (rowQ A B i' B.length) :: .row (some ⟨bo, 0, none⟩) q 51 1 E :: (X ++ H)) (fun w h => h.perm ((List.Perm.cons _ (p1.append_right H)).trans (List.Perm.swap _ _ _))) ?_
      have hback : ∀ w, Sat w0 m (.row (some ⟨bi, 0, none⟩) (B.length + 1) 3 1 (rowQ A B i' 0) :: .row (some ⟨bo, 0, none⟩) q 51 1 E :: (X ++ H)) w → Sat w0 m (.row (some ⟨bo, 0, none⟩) q 51 1 E :: (tabL 3 (B.length + 1) (fun k => rowQ A B k (if k < i' then B.length else 0)) bs ++ H)) w :=
        fun w h => h.perm ((List.Perm.swap _ _ _).trans (List.Perm.cons _ (p2.append_right H).symm))
      have hr1 : RowR w0 m (X ++ H) 1 (some ⟨b1, 0, none⟩) (rowQ A B (i' + 1) 0) := RowR.row (List.mem_append.2 (.inl pX1))
      have hra : RowR w0 m (X ++ H) 1 aa (strs A) := ha.weak (fun w h => drops_app h)
      have hrb : RowR w0 m (X ++ H) 1 ab (strs B) := hb.weak (fun w h => drops_app h)
      clear pX pX1 p1 p2 hEg ha hb
      generalize X ++ H = Y at hback hr1 hra hrb ⊢
      (try (refine st_D27_1 ?_; intros))
      refine WC.weak zsb zpk (long_row (by omega) (by omega) hx hN hEl hE0 hE1 hr1 hra hrb ?_)
      (try (refine st_D27_1 ?_; intros))
      refine WQ.heapX hback ?_
      refine WQ.next (2 * (i')) ⟨i', rfl, rfl, rfl, rfl, rfl, ?_⟩ (by omega) zsb zpk
      · omega
end Go.Proofs.Ytieangfnjflfmaa

/-
  The walk of the reference's Match: its loops. No condition.
-/
namespace Go.Eng
open Go Go.RowKit
theorem midL_shift : ∀ (a b : List Tx) (i k x y : Nat), midL a b (x + i) (y + k) = (midL a b i k).map fun p => (x + p.1, y + p.2)
  | [], b, i, k, x, y => by simp [midL]
  | u :: us, b, i, k, x, y => by
    rw [midL, midL]
    cases firstJ u us (lcs (u :: us) b) b with
    | none =>
      have := midL_shift us b (i + 1) k x y
      simpa only [Nat.add_assoc] using this
    | some j =>
      have := midL_shift us (b.drop (j + 1)) (i + 1) (k + j + 1) x y
      simp only [Nat.add_assoc] at this
      simp only [List.map_cons, Nat.add_assoc]
      rw [this]
theorem PrOk.mem {a b : List Tx} : ∀ {l : List (Nat × Nat)} {i k n m : Nat}, PrOk a b i k l n m → ∀ p ∈ l, p.1 < n ∧ p.2 < m
  | [], _, _, _, _, _, p, hp => by cases hp
  | q :: l, i, k, n, m, ⟨_, _, h3, h4, _, h6⟩, p, hp => by
    rcases List.mem_cons.1 hp with rfl | hp
    · exact ⟨h3, h4⟩
    · exact PrOk.mem h6 p hp
/-- pairs from the end -/
def tailP (a b t : Nat) : List (Nat × Nat) := (List.range t).map fun i => (a - 1 - i, b - 1 - i)
theorem tailP_length (a b t : Nat) : (tailP a b t).length = t := by simp [tailP]
theorem tailP_succ (a b t : Nat) : tailP a b (t + 1) = tailP a b t ++ [(a - 1 - t, b - 1 - t)] := by
  unfold tailP; rw [List.range_succ, List.map_append]; rfl
theorem tailP_get {a b t i : Nat} (h : i < t) : (tailP a b t)[i]? = some (a - 1 - i, b - 1 - i) := by
  unfold tailP; rw [List.getElem?_map, List.getElem?_range h]; rfl
end Go.Eng
namespace Go.Proofs.Ytieangfnjflfmaa
open Go Go.Eng
set_option maxRecDepth 100000
set_option maxHeartbeats 4000000
set_option linter.all false
attribute [local irreducible] WL WC WQ QFun QLoop Does Q1 QRound QAssign Go.Addr.add
attribute [local irreducible] midL strs headN mid diagL tailP
theorem rm_head {A B : List Tx} {aa ab : Option Addr} {ca cb : Nat} {w0 : World} {m : Mem} {H : SHeap} {Q : Exit → Act → World → Prop} (hA : A.length ≤ 4194304) (hB : B.length ≤ 4194304) (ha : RowR w0 m H 1 aa (strs A)) (hb : RowR w0 m H 1 ab (strs B))
    (hK : ∀ a cp, WQ 138 w0 Q (.exit 0) [(10, .int .i64 (headN A B : Int)), (9, .int .i64 (headN A B : Int)), (8, .slice none 0 0), (7, .slice a (headN A B) cp), (5, .slice aa A.length ca), (6, .slice ab B.length cb)] [] m (.row a cp 44 2 ((diagL 0 0 (headN A B)).map prE) :: H)) :
    WC Try.prog none 138 w0 ((loopsIn (Try.f15.body.getD .skip)).getD 0 .skip) Q [(10, .int .i64 0), (9, .int .i64 0), (8, .slice none 0 0), (7, .slice none 0 0), (5, .slice aa A.length ca), (6, .slice ab B.length cb)] [] m H := by
  have hal : (strs A).length = A.length := by simp [strs]
  have hbl : (strs B).length = B.length := by simp [strs]
  refine WC.newRow (T := 44) (sz := 2) ?_
  rw [show ([] : List (List Value)) = (diagL 0 0 0).map prE from by unfold diagL; rfl]
  refine WC.loopH [(10, .int .i64 ((0) : Int)), (9, .int .i64 ((0) : Int)), (8, .slice none 0 0), (7, .slice (none) (0) (0)), (5, .slice aa A.length ca), (6, .slice ab B.length cb)] ?_ ?_ (fun j r ds m' H' => ∃ (h : Nat) (a : Option Addr) (cp : Nat), j = A.length - h ∧ r = [(10, .int .i64 (h : Int)), (9, .int .i64 (h : Int)), (8, .slice none 0 0), (7, .slice a h cp), (5, .slice aa A.length ca), (6, .slice ab B.length cb)] ∧ ds = [] ∧ m = m' ∧ H' = .row a cp 44 2 ((diagL 0 0 h).map prE) :: H ∧ (h ≤ A.length ∧ h ≤ B.length) ∧ (headN A B = h + headN (A.drop h) (B.drop h))) (A.length - (0)) ⟨0, none, 0, rfl, rfl, rfl, rfl, rfl, ⟨by omega, by omega⟩, by simp⟩ ?_
  · (repeat (first | exact Env.Sub.nil | refine Env.Sub.cons rfl ?_))
  · exact zpk
  rintro j r ds m' H' ⟨h, a, cp, rfl, rfl, rfl, rfl, rfl, hh, hN⟩
  by_cases hlt : h < A.length ∧ h < B.length
  · obtain ⟨hlA, hlB⟩ := hlt
    obtain ⟨x, hx⟩ : ∃ x, A[h]? = some x := ⟨_, List.getElem?_eq_getElem hlA⟩
    obtain ⟨y, hy⟩ : ∃ y, B[h]? = some y := ⟨_, List.getElem?_eq_getElem hlB⟩
    have hgx := strs_get hx
    have hgy := strs_get hy
    have hst := headN_step hx hy
    have hdl : ((diagL 0 0 h).map prE).length = h := by rw [List.length_map, diagL_length]
    have hds : (diagL 0 0 (h + 1)).map prE = (diagL 0 0 h).map prE ++ [[.int .i64 (h : Int), .int .i64 (h : Int)]] := by rw [diagL_succ, List.map_append]; simp [prE]
    generalize hLE : (diagL 0 0 h).map prE = LE at *
    have ha' : RowR w0 m (.row a cp 44 2 LE :: H) 1 aa (strs A) := ha.more
    have hb' : RowR w0 m (.row a cp 44 2 LE :: H) 1 ab (strs B) := hb.more
    generalize hSA : strs A = SA at *
    generalize hSB : strs B = SB at *
    refine WC.rSome ha' (by omega) ?_
    rintro a0 rfl
    refine WC.rSome hb' (by omega) ?_
    rintro b0 rfl
    by_cases hxy : x = y
    · rw [if_pos hxy] at hst
      (refine st ?_; intros; rename_i b9 a2 cp2)
      rw [hdl, ← hds]
      refine WQ.next (A.length - (h + 1)) ⟨h + 1, a2, cp2, rfl, rfl, rfl, rfl, rfl, ?_, ?_⟩ (by omega) zsb zpk
      · exact ⟨by omega, by omega⟩
      · omega
    · rw [if_neg hxy] at hst
      rw [show headN A B = h by omega, hLE] at hK
      have hfin := hK a cp
      (try (refine st ?_; intros))
      exact WQ.weak zsb zpk hfin
  · have hst := headN_nil (A := A) (B := B) (h := h) (by omega)
    have hl2 : ¬ h < A.length ∨ h < A.length ∧ ¬ h < B.length := by omega
    rw [show headN A B = h by omega] at hK
    have hfin := hK a cp
    rcases hl2 with hl2 | ⟨hl2, hl3⟩
    · (try (refine st ?_; intros))
      exact WQ.weak zsb zpk hfin
    · (try (refine st ?_; intros))
      exact WQ.weak zsb zpk hfin
theorem rm_tail {A B : List Tx} {aa ab oa : Option Addr} {ca cb oc h : Nat} {w0 : World} {m : Mem} {H : SHeap} {Q : Exit → Act → World → Prop} (hA : A.length ≤ 4194304) (hB : B.length ≤ 4194304) (hh : h ≤ A.length ∧ h ≤ B.length) (ha : RowR w0 m H 1 aa (strs A)) (hb : RowR w0 m H 1 ab (strs B))
    (hK : ∀ t n q a cp, t = headN ((A.drop h).reverse) ((B.drop h).reverse) → n + t = A.length → q + t = B.length → WQ 138 w0 Q (.exit 2) [(12, .int .i64 (q : Int)), (11, .int .i64 (n : Int)), (10, .int .i64 (h : Int)), (9, .int .i64 (h : Int)), (8, .slice a t cp), (7, .slice oa h oc), (5, .slice aa A.length ca), (6, .slice ab B.length cb)] [] m (.row a cp 44 2 ((tailP A.length B.length t).map prE) :: H)) :
    WC Try.prog none 138 w0 ((loopsIn (Try.f15.body.getD .skip)).getD 1 .skip) Q [(12, .int .i64 (B.length : Int)), (11, .int .i64 (A.length : Int)), (10, .int .i64 (h : Int)), (9, .int .i64 (h : Int)), (8, .slice none 0 0), (7, .slice oa h oc), (5, .slice aa A.length ca), (6, .slice ab B.length cb)] [] m H := by
  have hal : (strs A).length = A.length := by simp [strs]
  have hbl : (strs B).length = B.length := by simp [strs]
  obtain ⟨RA, hRA⟩ : ∃ RA, RA = (A.drop h).reverse := ⟨_, rfl⟩
  obtain ⟨RB, hRB⟩ : ∃ RB, RB = (B.drop h).reverse := ⟨_, rfl⟩
  have hRAl : RA.length = A.length - h := by rw [hRA]; simp
  have hRBl : RB.length = B.length - h := by rw [hRB]; simp
  have hga : ∀ t n x, n + t = A.length → h < n → RA[t]? = some x → (strs A)[n - 1]? = some [str x] := fun t n x hn ht hx => by
    rw [hRA, rev_get (by omega)] at hx
    rw [show n - 1 = A.length - 1 - t by omega]
    exact strs_get hx
  have hgb : ∀ t n x, n + t = B.length → h < n → RB[t]? = some x → (strs B)[n - 1]? = some [str x] := fun t n x hn ht hx => by
    rw [hRB, rev_get (by omega)] at hx
    rw [show n - 1 = B.length - 1 - t by omega]
    exact strs_get hx
  rw [← hRA, ← hRB] at hK
  clear hRA hRB
  refine WC.newRow (T := 44) (sz := 2) ?_
  rw [show ([] : List (List Value)) = (tailP A.length B.length 0).map prE from by unfold tailP; rfl]
  refine WC.loopH [(12, .int .i64 ((B.length) : Int)), (11, .int .i64 ((A.length) : Int)), (10, .int .i64 (h : Int)), (9, .int .i64 (h : Int)), (8, .slice (none) (0) (0)), (7, .slice oa h oc), (5, .slice aa A.length ca), (6, .slice ab B.length cb)] ?_ ?_ (fun j r ds m' H' => ∃ (t : Nat) (n : Nat) (q : Nat) (a : Option Addr) (cp : Nat), j = 2 * n ∧ r = [(12, .int .i64 (q : Int)), (11, .int .i64 (n : Int)), (10, .int .i64 (h : Int)), (9, .int .i64 (h : Int)), (8, .slice a t cp), (7, .slice oa h oc), (5, .slice aa A.length ca), (6, .slice ab B.length cb)] ∧ ds = [] ∧ m = m' ∧ H' = .row a cp 44 2 ((tailP A.length B.length t).map prE) :: H ∧ (n + t = A.length) ∧ (q + t = B.length) ∧ (h ≤ n ∧ h ≤ q) ∧ (headN RA RB = t + headN (RA.drop t) (RB.drop t))) (2 * (A.length)) ⟨0, A.length, B.length, none, 0, rfl, rfl, rfl, rfl, rfl, by omega, by omega, ⟨by omega, by omega⟩, by simp⟩ ?_
  · (repeat (first | exact Env.Sub.nil | refine Env.Sub.cons rfl ?_))
  · exact zpk
  rintro j r ds m' H' ⟨t, n, q, a, cp, rfl, rfl, rfl, rfl, rfl, hn, hq, hhn, hN⟩
  by_cases hlt : h < n ∧ h < q
  · obtain ⟨hlA, hlB⟩ := hlt
    obtain ⟨x, hx⟩ : ∃ x, RA[t]? = some x := ⟨_, List.getElem?_eq_getElem (by omega)⟩
    obtain ⟨y, hy⟩ : ∃ y, RB[t]? = some y := ⟨_, List.getElem?_eq_getElem (by omega)⟩
    have hgx := hga t n x hn hlA hx
    have hgy := hgb t q y hq hlB hy
    have hst := headN_step hx hy
    have hdl : ((tailP A.length B.length t).map prE).length = t := by rw [List.length_map, tailP_length]
    have hds : (tailP A.length B.length (t + 1)).map prE = (tailP A.length B.length t).map prE ++ [[.int .i64 ((n : Int) - 1), .int .i64 ((q : Int) - 1)]] := by
      rw [tailP_succ, List.map_append]
      simp only [List.map_cons, List.map_nil, prE]
      rw [show ((A.length - 1 - t : Nat) : Int) = (n : Int) - 1 by omega, show ((B.length - 1 - t : Nat) : Int) = (q : Int) - 1 by omega]
    clear hga hgb
    generalize hLE : (tailP A.length B.length t).map prE = LE at *
    have ha' : RowR w0 m (.row a cp 44 2 LE :: H) 1 aa (strs A) := ha.more
    have hb' : RowR w0 m (.row a cp 44 2 LE :: H) 1 ab (strs B) := hb.more
    generalize hSA : strs A = SA at *
    generalize hSB : strs B = SB at *
    refine WC.rSome ha' (by omega) ?_
    rintro a0 rfl
    refine WC.rSome hb' (by omega) ?_
    rintro b0 rfl
    by_cases hxy : x = y
    · rw [if_pos hxy] at hst
      (refine st ?_; intros; rename_i b9 a2 cp2)
      rw [hdl, ← hds, show (n : Int) - 1 = ((n - 1 : Nat) : Int) by omega, show (q : Int) - 1 = ((q - 1 : Nat) : Int) by omega]
      refine WQ.next (2 * (n - 1)) ⟨t + 1, n - 1, q - 1, a2, cp2, rfl, rfl, rfl, rfl, rfl, ?_, ?_, ?_, ?_⟩ (by omega) zsb zpk
      · omega
      · omega
      · exact ⟨by omega, by omega⟩
      · omega
    · rw [if_neg hxy] at hst
      have hfin := hK t n q a cp (by omega) hn hq
      rw [hLE] at hfin
      (try (refine st ?_; intros))
      exact WQ.weak zsb zpk hfin
  · have hst := headN_nil (A := RA) (B := RB) (h := t) (by omega)
    have hl2 : ¬ h < n ∨ h < n ∧ ¬ h < q := by omega
    have hfin := hK t n q a cp (by omega) hn hq
    rcases hl2 with hl2 | ⟨hl2, hl3⟩
    · (try (refine st ?_; intros))
      exact WQ.weak zsb zpk hfin
    · (try (refine st ?_; intros))
      exact WQ.weak zsb zpk hfin
theorem sq_D28_1 {G : Prop} (h : G := by (repeat (first | (refine sp ?_; (repeat intro zzc)) | (refine WL.indexAddrA rfl rfl (by (first | with_reducible exact natz _ | with_reducible exact natz0 | with_reducible exact natz1 | with_reducible exact natz2 | with_reducible exact natz3 | with_reducible exact natz4 | with_reducible exact natz8 | (apply natz_add; (· first | with_reducible exact natz _ | with_reducible exact natz0 | with_reducible exact natz1 | with_reducible exact natz2 | with_reducible exact natz3 | with_reducible exact natz4 | with_reducible exact natz8); (· first | with_reducible exact natz _ | with_reducible exact natz0 | with_reducible exact natz1 | with_reducible exact natz2 | with_reducible exact natz3 | with_reducible exact natz4 | with_reducible exact natz8)) | (apply natz_sub; (· first | with_reducible exact natz _ | with_reducible exact natz0 | with_reducible exact natz1 | with_reducible exact natz2 | with_reducible exact natz3 | with_reducible exact natz4 | with_reducible exact natz8); (· first | with_reducible exact natz _ | with_reducible exact natz0 | with_reducible exact natz1 | with_reducible exact natz2 | with_reducible exact natz3 | with_reducible exact natz4 | with_reducible exact natz8); (· omega)) | exact (Int.toNat_of_nonneg (by omega)).symm)) rfl rfl (by omega) rfl rfl ?_))); exact WQ.q1 rfl) : G := h
theorem st_D28_1 {G G' : Prop} (next : G') (h : Bx G' → G := by intro zzn; (first | ((refine st ?_; (repeat intro zzc)); (try ((first | (refine WL.indexAddrA rfl rfl (by (first | with_reducible exact natz _ | with_reducible exact natz0 | with_reducible exact natz1 | with_reducible exact natz2 | with_reducible exact natz3 | with_reducible exact natz4 | with_reducible exact natz8 | (apply natz_add; (· first | with_reducible exact natz _ | with_reducible exact natz0 | with_reducible exact natz1 | with_reducible exact natz2 | with_reducible exact natz3 | with_reducible exact natz4 | with_reducible exact natz8); (· first | with_reducible exact natz _ | with_reducible exact natz0 | with_reducible exact natz1 | with_reducible exact natz2 | with_reducible exact natz3 | with_reducible exact natz4 | with_reducible exact natz8)) | (apply natz_sub; (· first | with_reducible exact natz _ | with_reducible exact natz0 | with_reducible exact natz1 | with_reducible exact natz2 | with_reducible exact natz3 | with_reducible exact natz4 | with_reducible exact natz8); (· first | with_reducible exact natz _ | with_reducible exact natz0 | with_reducible exact natz1 | with_reducible exact natz2 | with_reducible exact natz3 | with_reducible exact natz4 | with_reducible exact natz8); (· omega)) | exact (Int.toNat_of_nonneg (by omega)).symm)) rfl rfl (by omega) rfl rfl ?_) | ((refine iDraw ?_; (first | refine WC.drawAll rfl (by decide +kernel) ?_ | refine WC.draw 1 rfl (by decide +kernel) ?_ | refine WC.draw 2 rfl (by decide +kernel) ?_ | refine WC.draw 3 rfl (by decide +kernel) ?_ | refine WC.draw 4 rfl (by decide +kernel) ?_ | refine WC.draw 5 rfl (by decide +kernel) ?_ | refine WC.draw 6 rfl (by decide +kernel) ?_ | refine WC.draw 7 rfl (by decide +kernel) ?_ | refine WC.draw 8 rfl (by decide +kernel) ?_ | refine WC.draw 9 rfl (by decide +kernel) ?_ | refine WC.draw 10 rfl (by decide +kernel) ?_ | refine WC.draw 11 rfl (by decide +kernel) ?_ | refine WC.draw 12 rfl (by decide +kernel) ?_ | refine WC.draw 13 rfl (by decide +kernel) ?_ | refine WC.draw 14 rfl (by decide +kernel) ?_ | refine WC.draw 15 rfl (by decide +kernel) ?_ | refine WC.draw 16 rfl (by decide +kernel) ?_ | refine WC.draw 17 rfl (by decide +kernel) ?_ | refine WC.draw 18 rfl (by decide +kernel) ?_ | refine WC.draw 19 rfl (by decide +kernel) ?_ | refine WC.draw 20 rfl (by decide +kernel) ?_ | refine WC.draw 21 rfl (by decide +kernel) ?_ | refine WC.draw 22 rfl (by decide +kernel) ?_ | refine WC.draw 23 rfl (by decide +kernel) ?_ | refine WC.draw 24 rfl (by decide +kernel) ?_)); (repeat (refine WD.cons rfl (fun c h => by cases h) sq_D28_1 ?_)); refine WD.nil ?_)); (try (refine st ?_; (repeat intro zzc)))))) | ((first | (refine WL.indexAddrA rfl rfl (by (first | with_reducible exact natz _ | with_reducible exact natz0 | with_reducible exact natz1 | with_reducible exact natz2 | with_reducible exact natz3 | with_reducible exact natz4 | with_reducible exact natz8 | (apply natz_add; (· first | with_reducible exact natz _ | with_reducible exact natz0 | with_reducible exact natz1 | with_reducible exact natz2 | with_reducible exact natz3 | with_reducible exact natz4 | with_reducible exact natz8); (· first | with_reducible exact natz _ | with_reducible exact natz0 | with_reducible exact natz1 | with_reducible exact natz2 | with_reducible exact natz3 | with_reducible exact natz4 | with_reducible exact natz8)) | (apply natz_sub; (· first | with_reducible exact natz _ | with_reducible exact natz0 | with_reducible exact natz1 | with_reducible exact natz2 | with_reducible exact natz3 | with_reducible exact natz4 | with_reducible exact natz8); (· first | with_reducible exact natz _ | with_reducible exact natz0 | with_reducible exact natz1 | with_reducible exact natz2 | with_reducible exact natz3 | with_reducible exact natz4 | with_reducible exact natz8); (· omega)) | exact (Int.toNat_of_nonneg (by omega)).symm)) rfl rfl (by omega) rfl rfl ?_) | ((refine iDraw ?_; (first | refine WC.drawAll rfl (by decide +kernel) ?_ | refine WC.draw 1 rfl (by decide +kernel) ?_ | refine WC.draw 2 rfl (by decide +kernel) ?_ | refine WC.draw 3 rfl (by decide +kernel) ?_ | refine WC.draw 4 rfl (by decide +kernel) ?_ | refine WC.draw 5 rfl (by decide +kernel) ?_ | refine WC.draw 6 rfl (by decide +kernel) ?_ | refine WC.draw 7 rfl (by decide +kernel) ?_ | refine WC.draw 8 rfl (by decide +kernel) ?_ | refine WC.draw 9 rfl (by decide +kernel) ?_ | refine WC.draw 10 rfl (by decide +kernel) ?_ | refine WC.draw 11 rfl (by decide +kernel) ?_ | refine WC.draw 12 rfl (by decide +kernel) ?_ | refine WC.draw 13 rfl (by decide +kernel) ?_ | refine WC.draw 14 rfl (by decide +kernel) ?_ | refine WC.draw 15 rfl (by decide +kernel) ?_ | refine WC.draw 16 rfl (by decide +kernel) ?_ | refine WC.draw 17 rfl (by decide +kernel) ?_ | refine WC.draw 18 rfl (by decide +kernel) ?_ | refine WC.draw 19 rfl (by decide +kernel) ?_ | refine WC.draw 20 rfl (by decide +kernel) ?_ | refine WC.draw 21 rfl (by decide +kernel) ?_ | refine WC.draw 22 rfl (by decide +kernel) ?_ | refine WC.draw 23 rfl (by decide +kernel) ?_ | refine WC.draw 24 rfl (by decide +kernel) ?_)); (repeat (refine WD.cons rfl (fun c h => by cases h) sq_D28_1 ?_)); refine WD.nil ?_)); (try (refine st ?_; (repeat intro zzc))))); (repeat ((first | (refine WL.indexAddrA rfl rfl (by (first | with_reducible exact natz _ | with_reducible exact natz0 | with_reducible exact natz1 | with_reducible exact natz2 | with_reducible exact natz3 | with_reducible exact natz4 | with_reducible exact natz8 | (apply natz_add; (· first | with_reducible exact natz _ | with_reducible exact natz0 | with_reducible exact natz1 | with_reducible exact natz2 | with_reducible exact natz3 | with_reducible exact natz4 | with_reducible exact natz8); (· first | with_reducible exact natz _ | with_reducible exact natz0 | with_reducible exact natz1 | with_reducible exact natz2 | with_reducible exact natz3 | with_reducible exact natz4 | with_reducible exact natz8)) | (apply natz_sub; (· first | with_reducible exact natz _ | with_reducible exact natz0 | with_reducible exact natz1 | with_reducible exact natz2 | with_reducible exact natz3 | with_reducible exact natz4 | with_reducible exact natz8); (· first | with_reducible exact natz _ | with_reducible exact natz0 | with_reducible exact natz1 | with_reducible exact natz2 | with_reducible exact natz3 | with_reducible exact natz4 | with_reducible exact natz8); (· omega)) | exact (Int.toNat_of_nonneg (by omega)).symm)) rfl rfl (by omega) rfl rfl ?_) | ((refine iDraw ?_; (first | refine WC.drawAll rfl (by decide +kernel) ?_ | refine WC.draw 1 rfl (by decide +kernel) ?_ | refine WC.draw 2 rfl (by decide +kernel) ?_ | refine WC.draw 3 rfl (by decide +kernel) ?_ | refine WC.draw 4 rfl (by decide +kernel) ?_ | refine WC.draw 5 rfl (by decide +kernel) ?_ | refine WC.draw 6 rfl (by decide +kernel) ?_ | refine WC.draw 7 rfl (by decide +kernel) ?_ | refine WC.draw 8 rfl (by decide +kernel) ?_ | refine WC.draw 9 rfl (by decide +kernel) ?_ | refine WC.draw 10 rfl (by decide +kernel) ?_ | refine WC.draw 11 rfl (by decide +kernel) ?_ | refine WC.draw 12 rfl (by decide +kernel) ?_ | refine WC.draw 13 rfl (by decide +kernel) ?_ | refine WC.draw 14 rfl (by decide +kernel) ?_ | refine WC.draw 15 rfl (by decide +kernel) ?_ | refine WC.draw 16 rfl (by decide +kernel) ?_ | refine WC.draw 17 rfl (by decide +kernel) ?_ | refine WC.draw 18 rfl (by decide +kernel) ?_ | refine WC.draw 19 rfl (by decide +kernel) ?_ | refine WC.draw 20 rfl (by decide +kernel) ?_ | refine WC.draw 21 rfl (by decide +kernel) ?_ | refine WC.draw 22 rfl (by decide +kernel) ?_ | refine WC.draw 23 rfl (by decide +kernel) ?_ | refine WC.draw 24 rfl (by decide +kernel) ?_)); (repeat (refine WD.cons rfl (fun c h => by cases h) sq_D28_1 ?_)); refine WD.nil ?_)); (try (refine st ?_; (repeat intro zzc))))); (repeat revert zzc); exact zzn.out) : G := h ⟨next⟩
theorem rm_mid {P M : List (Nat × Nat)} {va vb vc : Value} {ma oa : Option Addr} {mc oc h n q : Nat} {w0 : World} {m : Mem} {H : SHeap} {Q : Exit → Act → World → Prop} (hP : P.length ≤ 4194304) (hM : M.length ≤ 1024) (hh : h ≤ 4194304) (hMb : ∀ p ∈ M, p.1 ≤ 4194304 ∧ p.2 ≤ 4194304)
    (hK : ∀ a cp, WQ 138 w0 Q (.exit 4) [(12, .int .i64 (q : Int)), (11, .int .i64 (n : Int)), (10, .int .i64 (h : Int)), (9, .int .i64 (h : Int)), (8, vc), (7, .slice a (P ++ M.map fun p => (h + p.1, h + p.2)).length cp), (5, va), (6, vb)] [] m (.row a cp 44 2 ((P ++ M.map fun p => (h + p.1, h + p.2)).map prE) :: H)) :
    WC Try.prog none 138 w0 ((loopsIn (Try.f15.body.getD .skip)).getD 2 .skip) Q [(106, .int .i64 0), (105, .int .i64 (M.length : Int)), (104, .slice ma M.length mc), (12, .int .i64 (q : Int)), (11, .int .i64 (n : Int)), (10, .int .i64 (h : Int)), (9, .int .i64 (h : Int)), (8, vc), (7, .slice oa P.length oc), (5, va), (6, vb)] [] m (.row oa oc 44 2 (P.map prE) :: .row ma mc 44 2 (M.map prE) :: H) := by
  have hml : (M.map prE).length = M.length := List.length_map _
  refine WC.loopH [(106, .int .i64 ((0) : Int)), (105, .int .i64 (M.length : Int)), (104, .slice ma M.length mc), (12, .int .i64 (q : Int)), (11, .int .i64 (n : Int)), (10, .int .i64 (h : Int)), (9, .int .i64 (h : Int)), (8, vc), (7, .slice (oa) (P).length (oc)), (5, va), (6, vb)] ?_ ?_ (fun j r ds m' H' => ∃ (i : Nat) (a : Option Addr) (cp : Nat) (O : List (Nat × Nat)), j = M.length - i ∧ r = [(106, .int .i64 (i : Int)), (105, .int .i64 (M.length : Int)), (104, .slice ma M.length mc), (12, .int .i64 (q : Int)), (11, .int .i64 (n : Int)), (10, .int .i64 (h : Int)), (9, .int .i64 (h : Int)), (8, vc), (7, .slice a O.length cp), (5, va), (6, vb)] ∧ ds = [] ∧ m = m' ∧ H' = .row a cp 44 2 (O.map prE) :: .row ma mc 44 2 (M.map prE) :: H ∧ (i ≤ M.length) ∧ (O = P ++ (M.take i).map (fun p => (h + p.1, h + p.2)))) (M.length - (0)) ⟨0, oa, oc, P, rfl, rfl, rfl, rfl, rfl, by omega, by simp⟩ ?_
  · (repeat (first | exact Env.Sub.nil | refine Env.Sub.cons rfl ?_))
  · exact zpk
  rintro j r ds m' H' ⟨i, a, cp, O, rfl, rfl, rfl, rfl, rfl, hi, hO⟩
  have hOl : O.length = P.length + i := by rw [hO, List.length_append, List.length_map, List.length_take]; omega
  by_cases hlt : i < M.length
  · obtain ⟨p, hp⟩ : ∃ p, M[i]? = some p := ⟨_, List.getElem?_eq_getElem hlt⟩
    have hpb := hMb p (List.mem_of_getElem? hp)
    have hgp : (M.map prE)[i]? = some [.int .i64 (p.1 : Int), .int .i64 (p.2 : Int)] := by rw [List.getElem?_map, hp]; rfl
    have hsn : O ++ [(h + p.1, h + p.2)] = P ++ (M.take (i + 1)).map (fun p => (h + p.1, h + p.2)) := by rw [hO, List.take_succ, hp]; simp
    have hse : O.map prE ++ [[Value.int .i64 ((p.1 : Int) + (h : Int)), .int .i64 ((p.2 : Int) + (h : Int))]] = (O ++ [(h + p.1, h + p.2)]).map prE := by
      rw [List.map_append]
      simp only [List.map_cons, List.map_nil, prE]
      rw [show ((h + p.1 : Nat) : Int) = (p.1 : Int) + (h : Int) by omega, show ((h + p.2 : Nat) : Int) = (p.2 : Int) + (h : Int) by omega]
    have hol : (O.map prE).length = O.length := List.length_map _
    have hln : O.length + 1 = (O ++ [(h + p.1, h + p.2)]).length := by simp
    generalize M.map prE = ME at *
    generalize O.map prE = OE at *
    refine WC.rowSome (a := ma) (es := ME) zhs (by omega) ?_
    rintro a0 rfl
    (refine st_D28_1 ?_; intros; rename_i bp b9 a2 cp2)
    rw [hol, hse, hln]
    refine WQ.next (M.length - (i + 1)) ⟨i + 1, a2, cp2, O ++ [(h + p.1, h + p.2)], rfl, rfl, rfl, rfl, rfl, ?_, ?_⟩ (by omega) zsb zpk
    · omega
    · exact hsn
  · rw [List.take_of_length_le (by omega)] at hO
    subst hO
    have hfin := hK a cp
    (try (refine st_D28_1 ?_; intros))
    exact WQ.weak zsb zpk hfin
theorem rm_back {P : List (Nat × Nat)} {ta oa : Option Addr} {x y tc oc t : Nat} {w0 : World} {m : Mem} {H : SHeap} {Q : Exit → Act → World → Prop} (hP : P.length ≤ 4194304) (ht : t ≤ 4194304) (hx : t ≤ x) (hy : t ≤ y)
    (hK : ∀ a cp, WQ 138 w0 Q (.exit 6) [(7, .slice a (P.length + t) cp)] [] m (.row a cp 44 2 ((P ++ diagL (x - t) (y - t) t).map prE) :: H)) :
    WC Try.prog none 138 w0 ((loopsIn (Try.f15.body.getD .skip)).getD 3 .skip) Q [(15, .int .i64 ((t : Int) - 1)), (8, .slice ta t tc), (7, .slice oa P.length oc)] [] m (.row oa oc 44 2 (P.map prE) :: .row ta tc 44 2 ((tailP x y t).map prE) :: H) := by
  have htl : ((tailP x y t).map prE).length = t := by rw [List.length_map, tailP_length]
  have hd0 : P = P ++ diagL (x - t) (y - t) 0 := by unfold diagL; simp
  rw [show P.map prE = (P ++ diagL (x - t) (y - t) 0).map prE from by rw [← hd0], show (t : Int) - 1 = (t : Int) - 1 - ((0 : Nat) : Int) by simp]
  refine WC.loopH [(15, .int .i64 ((t : Int) - 1 - ((0) : Int))), (8, .slice ta t tc), (7, .slice (oa) (P.length + (0)) (oc))] ?_ ?_ (fun j r ds m' H' => ∃ (c : Nat) (a : Option Addr) (cp : Nat), j = t - c ∧ r = [(15, .int .i64 ((t : Int) - 1 - (c : Int))), (8, .slice ta t tc), (7, .slice a (P.length + c) cp)] ∧ ds = [] ∧ m = m' ∧ H' = .row a cp 44 2 ((P ++ diagL (x - t) (y - t) c).map prE) :: .row ta tc 44 2 ((tailP x y t).map prE) :: H ∧ (c ≤ t)) (t - (0)) ⟨0, oa, oc, rfl, rfl, rfl, rfl, rfl, by omega⟩ ?_
  · (repeat (first | exact Env.Sub.nil | refine Env.Sub.cons rfl ?_))
  · exact zpk
  rintro j r ds m' H' ⟨c, a, cp, rfl, rfl, rfl, rfl, rfl, hc⟩
  by_cases hlt : c < t
  · have hgt : ((tailP x y t).map prE)[((t : Int) - 1 - (c : Int)).toNat]? = some [.int .i64 ((x - t + c : Nat) : Int), .int .i64 ((y - t + c : Nat) : Int)] := by
      rw [show ((t : Int) - 1 - (c : Int)).toNat = t - 1 - c by omega, List.getElem?_map, tailP_get (by omega)]
      simp only [Option.map_some, prE]
      rw [show x - 1 - (t - 1 - c) = x - t + c by omega, show y - 1 - (t - 1 - c) = y - t + c by omega]
    have hdl2 : ((P ++ diagL (x - t) (y - t) c).map prE).length = P.length + c := by rw [List.length_map, List.length_append, diagL_length]
    have hds : (P ++ diagL (x - t) (y - t) (c + 1)).map prE = (P ++ diagL (x - t) (y - t) c).map prE ++ [[.int .i64 ((x - t + c : Nat) : Int), .int .i64 ((y - t + c : Nat) : Int)]] := by
      rw [diagL_succ, ← List.append_assoc, List.map_append, List.map_append]
      simp only [List.map_cons, List.map_nil, prE]
    generalize (P ++ diagL (x - t) (y - t) c).map prE = LE2 at *
    generalize (tailP x y t).map prE = TE at *
    refine WC.rowSome (a := ta) (es := TE) zhs (by omega) ?_
    rintro t0 rfl
    (refine st_D28_1 ?_; intros; rename_i b9 a4 cp4)
    rw [hdl2, ← hds, show (t : Int) - 1 - (c : Int) - 1 = (t : Int) - 1 - ((c + 1 : Nat) : Int) by omega]
    refine WQ.next (t - (c + 1)) ⟨c + 1, a4, cp4, rfl, rfl, rfl, rfl, rfl, ?_⟩ (by omega) zsb zpk
    · omega
  · obtain rfl : c = t := by omega
    have hfin := hK a cp
    (try (refine st_D28_1 ?_; intros))
    exact WQ.weak zsb zpk hfin
end Go.Proofs.Ytieangfnjflfmaa

/-
  Contracts of the library, laid at this seat by the shelf's own tools. No condition.
-/
namespace Go.Proofs.Ytieangfnjflfmaa
open Go Go.Shelf Go.Proofs
set_option linter.all false
def sh_lays156_ren : Go.Shelf.Ren := ⟨fun | 156 => 27 | 165 => 45 | 166 => 29 | 169 => 30 | 240 => 46 | 241 => 62 | 276 => 63 | 277 => 74 | n => n, fun | 31 => 49 | 9 => 9 | 3 => 3 | 4 => 4 | 0 => 0 | 20 => 20 | 72 => 67 | 76 => 72 | 70 => 64 | 37 => 65 | 75 => 71 | 127 => 110 | 164 => 138 | 5 => 5 | 80 => 76 | n => n, fun | n => n⟩
theorem sh_lays156 : Go.Proofs.Lays.n156 Try.prog sh_lays156_ren := {
  mixed := by kernel_rfl
  f156 := Try.func27.trans (congrArg some (by kernel_rfl))
  f165 := Try.func45.trans (congrArg some (by kernel_rfl))
  f166 := Try.func29.trans (congrArg some (by kernel_rfl))
  f169 := Try.func30.trans (congrArg some (by kernel_rfl))
  f240 := Try.func46.trans (congrArg some (by kernel_rfl))
  f241 := Try.func62.trans (congrArg some (by kernel_rfl))
  f276 := Try.func63.trans (congrArg some (by kernel_rfl))
  f277 := Try.func74.trans (congrArg some (by kernel_rfl))
  t0 := Try.underlying0
  a0 := Try.isAgg0
  z0 := Try.sizeOf0
  v0 := Try.zeroValue0
  t3 := Try.underlying3
  a3 := Try.isAgg3
  z3 := Try.sizeOf3
  v3 := Try.zeroValue3
  t4 := Try.underlying4
  a4 := Try.isAgg4
  z4 := Try.sizeOf4
  v4 := Try.zeroValue4
  t9 := Try.underlying9
  a9 := Try.isAgg9
  z9 := Try.sizeOf9
  v9 := Try.zeroValue9
  t20 := Try.underlying20
  a20 := Try.isAgg20
  z20 := Try.sizeOf20
  v20 := Try.zeroValue20
  t31 := Try.underlying49
  a31 := Try.isAgg49
  z31 := Try.sizeOf49
  v31 := Try.zeroValue49
  t37 := Try.underlying65
  a37 := Try.isAgg65
  z37 := Try.sizeOf65
  v37 := Try.zeroValue65
  t70 := Try.underlying64
  a70 := Try.isAgg64
  z70 := Try.sizeOf64
  v70 := Try.zeroValue64
  t72 := Try.underlying67
  a72 := Try.isAgg67
  z72 := Try.sizeOf67
  v72 := Try.zeroValue67
  t75 := Try.underlying71
  a75 := Try.isAgg71
  z75 := Try.sizeOf71
  v75 := Try.zeroValue71
  t76 := Try.underlying72
  a76 := Try.isAgg72
  z76 := Try.sizeOf72
  v76 := Try.zeroValue72
  t127 := Try.underlying110
  a127 := Try.isAgg110
  z127 := Try.sizeOf110
  v127 := Try.zeroValue110
  t164 := Try.underlying138
  a164 := Try.isAgg138
  z164 := Try.sizeOf138
  v164 := Try.zeroValue138 }
theorem sh_Builder_Extra_156 : Builder.Extra Try.prog sh_lays156_ren := {
  sizeBuilder := by kernel_rfl
  liesBuilder := by kernel_rfl
  t5 := Try.underlying5
  a5 := Try.isAgg5
  z5 := Try.sizeOf5
  v5 := Try.zeroValue5
  infoByte := by kernel_rfl
  cellsByte := by kernel_rfl
  sizeByte := by kernel_rfl
  neB5 := by decide }
open Go.RowKit in
theorem sh_strings_Join_none (a : Option Addr) (c : Nat) (sep : ByteArray) (w : World) :
    Calls Try.prog 27 #[.slice a 0 c, .string sep] w fun e w' => e = .returned (.string ⟨#[]⟩) ∧ w' = w := Any.strings_Join_none sh_lays156 sh_Builder_Extra_156 a c sep w
open Go.RowKit in
theorem sh_strings_Join (bk o c : Nat) (xs : List ByteArray) (sep : ByteArray) (w : World) (hcells : ∀ (j : Nat) x, xs[j]? = some x → w.cell? ⟨bk, o + j, none⟩ = some (.string x)) (hbk : bk < w.heap.size) (hN : xs.length ≤ 140737488355328) (hcap : xs.length ≤ c) (hlen : (Lib.join (xs.map (·.data.toList)) sep.data.toList).length ≤ 140737488355328) :
    Calls Try.prog 27 #[.slice (some ⟨bk, o, none⟩) xs.length c, .string sep] w fun e w' => e = .returned (.string ⟨(Lib.join (xs.map (·.data.toList)) sep.data.toList).toArray⟩) ∧ Below w.heap.size w w' := Any.strings_Join sh_lays156 sh_Builder_Extra_156 bk o c xs sep w hcells hbk hN hcap hlen
end Go.Proofs.Ytieangfnjflfmaa

/-
  strings.Join of a part of a row of texts, nothing between them. No condition.
-/
namespace Go.Eng
open Go Go.RowKit
theorem join_flat : ∀ xs : List Tx, Lib.join xs [] = xs.flatten
  | [] => rfl
  | x :: r => by
    rw [Lib.join_cons]
    unfold Lib.joinTail
    simp
theorem strs_flat (xs : List Tx) : (strs xs).flatten = xs.map str := by
  unfold strs
  induction xs with
  | nil => rfl
  | cons x xs ih => simp [ih]
theorem jn_le (l : List Tx) (a z : Nat) : (jn l a z).length ≤ l.flatten.length := by
  unfold jn
  have h : l = l.take a ++ ((l.drop a).take (z - a) ++ (l.drop a).drop (z - a)) := by rw [List.take_append_drop, List.take_append_drop]
  have h2 : (l.take z).drop a = (l.drop a).take (z - a) := by rw [List.drop_take]
  rw [h2]
  conv => rhs; rw [h]
  simp only [List.flatten_append, List.length_append]
  omega
end Go.Eng
namespace Go.Proofs.Ytieangfnjflfmaa
open Go Go.Eng
set_option maxRecDepth 100000
set_option maxHeartbeats 4000000
set_option linter.all false
attribute [local irreducible] WL WC WQ QFun QLoop Does Q1 QRound QAssign Go.Addr.add
theorem joinSub_any {l : List Tx} {a : Option Addr} {cap lo hi : Nat} {w0 : World} {m : Mem} {H : SHeap} (hm : Item.row a cap 9 1 (strs l) ∈ H) (hb : lo ≤ hi ∧ hi ≤ l.length) (hl : l.length ≤ 4194304) (hf : l.flatten.length ≤ 4194304) :
    Does Try.prog 27 #[subSl a cap lo hi 1, str []] w0 m H (Gives (str (jn l lo hi)) m H) := by
  unfold subSl
  by_cases hlh : lo = hi
  · subst hlh
    rw [Nat.sub_self, jn_nil]
    exact Does.ofSame fun w _ => sh_strings_Join_none _ _ ⟨([] : List UInt8).toArray⟩ w
  · refine Does.ofBelow fun w hw => ?_
    have hsl : (strs l).length = l.length := by simp [strs]
    have hrr := RowR.row (w0 := w0) (m := m) hm
    obtain ⟨a0, rfl⟩ := hrr.some hw (by rw [hsl]; omega)
    have hr := (hrr w hw).2
    obtain ⟨arr, fz, h1, h2, h3, h4, _⟩ := hw.own _ hm
    obtain ⟨xs, hxs⟩ : ∃ xs, xs = (l.take hi).drop lo := ⟨_, rfl⟩
    have hxl : xs.length = hi - lo := by rw [hxs, List.length_drop, List.length_take]; omega
    have hx : (xs.map fun x => (⟨x.toArray⟩ : ByteArray)).map (·.data.toList) = xs := by rw [List.map_map]; simp [Function.comp_def]
    have hcl : l.length ≤ cap := by rw [← hsl]; exact h4
    have hjn : Lib.join xs [] = jn l lo hi := by rw [join_flat, hxs]; rfl
    have hxb := jn_le l lo hi
    have key := sh_strings_Join a0.block (a0.off + lo) (cap - lo) (xs.map fun x => ⟨x.toArray⟩) ⟨([] : List UInt8).toArray⟩ w (by
      intro k x hj
      rw [List.getElem?_map] at hj
      cases hq : xs[k]? with
      | none => rw [hq] at hj; cases hj
      | some y =>
        rw [hq] at hj
        simp only [Option.map_some, Option.some.injEq] at hj
        subst hj
        have hql : l[lo + k]? = some y := by
          have hk := (List.getElem?_eq_some_iff.1 hq).1
          rw [hxs, List.getElem?_drop, List.getElem?_take, if_pos (by omega)] at hq
          exact hq
        have e1 : (strs l).flatten[lo + k]? = some (str y) := by
          rw [strs_flat, List.getElem?_map, hql]; rfl
        have := hr (lo + k) _ e1
        rw [add_eq (by rw [h1])] at this
        rw [show a0.off + lo + k = a0.off + (lo + k) by omega]
        exact this) (Array.getElem?_eq_some_iff.1 h2).1 (by rw [List.length_map]; omega) (by rw [List.length_map]; omega) (by rw [hx]; show (Lib.join xs []).length ≤ _; rw [hjn]; omega)
    rw [hx, List.length_map, hxl] at key
    have ea : (if cap = lo then some a0 else (some a0).map (·.add (lo * 1))) = some ⟨a0.block, a0.off + lo, none⟩ := by
      rw [if_neg (by omega), Option.map_some, add_eq (by rw [h1]), Nat.mul_one]
    rw [ea]
    have e2 : (⟨([] : List UInt8).toArray⟩ : ByteArray).data.toList = [] := rfl
    rw [e2, hjn] at key
    exact key
end Go.Proofs.Ytieangfnjflfmaa

/-
  A walk's engine: a row's bytes as a text, more than once. No condition.
-/
set_option linter.all false
namespace Go.Eng
open Go Go.RowKit
/-- a row of bytes that was told as a text: it stays, whatever is frozen of it -/
def Kept (a : Option Addr) (cap : Nat) (e : TypeId) (s : List UInt8) (i : Item) : Prop :=
  (s = [] ∧ i = .row a cap e 1 (bCs s)) ∨
  (s ≠ [] ∧ ∃ (a0 : Addr) (arr : Array Value) (fz : Nat × Nat), a = some a0 ∧ a0 = ⟨a0.block, 0, none⟩ ∧ s.length ≤ arr.size ∧ (∀ (j : Nat) (x : UInt8), s[j]? = some x → arr[j]? = some (.int .u8 x.toNat)) ∧ i = .blk a0.block (.cells arr e fz))
section
variable {P : Program} {ro : Option Nat} {n : Nat} {w0 : World} {Q : Exit → Act → World → Prop} {r : Env} {ds : List Nat} {m : Mem} {H : SHeap} {ops : Array Oper} {l : List Oper} {d : Nat} {t ty : TypeId} {pos : String} {after : Array Edge}
theorem freeze_cells {w : World} {a0 : Addr} {k : Nat} {arr : Array Value} {T : TypeId} {fz : Nat × Nat} (h : w.heap[a0.block]? = some (.cells arr T fz)) : ∃ fz', (w.freeze a0 k).heap[a0.block]? = some (.cells arr T fz') := by
  unfold World.freeze
  split
  · exact ⟨fz, h⟩
  · rw [Array.getElem?_modify, if_pos rfl, h]
    exact ⟨_, rfl⟩
theorem WL.strBlk {pt it e : TypeId} {x y : Operand} {a0 : Addr} {s : List UInt8} {arr : Array Value} {fz : Nat × Nat} {H1 : SHeap} (hx : r.ev x = some (.pointer (some a0))) (hy : r.ev y = some (.int .i64 (s.length : Int))) (ho : Out (.blk a0.block (.cells arr e fz)) H H1)
    (hp : P.underlying pt = some (.pointer e)) (hc : Nat.beq (P.cellsOf e) 1 = true) (hl : s.length ≤ 9223372036854775807) (hd : Nat.blt d n = true) (h0 : s ≠ []) (h1 : a0 = ⟨a0.block, 0, none⟩) (hsz : s.length ≤ arr.size) (harr : ∀ (j : Nat) (x : UInt8), s[j]? = some x → arr[j]? = some (.int .u8 x.toNat))
    (h : ∀ fz', WL P ro n w0 ops Q l ((d, str s) :: r) ds m (.blk a0.block (.cells arr e fz') :: H1)) : WL P ro n w0 ops Q (⟨some d, .call ⟨.builtin .unsafeString, #[x, y], #[pt, it]⟩, ty, pos, after, none⟩ :: l) r ds m H := by
  refine .gen (fun v' m' H' => v' = str s ∧ m' = m ∧ ∃ fz', H' = .blk a0.block (.cells arr e fz') :: H1) hd (fun _ h => by cases h) (fun tmps w hok hs => ?_) (by rintro _ _ _ ⟨rfl, rfl, fz', rfl⟩; exact h fz')
  have hs1 := hs.perm ho.perm
  have h2 : w.heap[a0.block]? = some (.cells arr e fz) := hs1.own _ List.mem_cons_self
  have hus := Lib.run_unsafeString_row (P := P) w pt it ty e hp (Nat.eq_of_beq_eq_true hc) a0.block arr.size (by simp [World.shape?, h2]) s h0 (by omega) hl (by
    intro j x hx
    have := harr j x (by simpa using hx)
    rw [add_eq rfl]
    simp [World.cell?, h2, this])
  rw [← h1] at hus
  have hblk := (Array.getElem?_eq_some_iff.1 h2).1
  have hz : (w.freeze a0 s.length).heap.size = w.heap.size := by unfold World.freeze; split <;> simp
  have hoth : ∀ b, b ≠ a0.block → (w.freeze a0 s.length).heap[b]? = w.heap[b]? := by
    intro b hb
    unfold World.freeze
    split
    · rfl
    · simp only [Array.getElem?_modify]
      rw [if_neg (fun h => hb h.symm)]
  obtain ⟨fz', ho'⟩ := freeze_cells (k := s.length) h2
  have hos : (w.freeze a0 s.length).os = w.os := by unfold World.freeze; split <;> rfl
  have hot : (w.freeze a0 s.length).tape = w.tape := by unfold World.freeze; split <;> rfl
  have hoo : (w.freeze a0 s.length).output = w.output := by unfold World.freeze; split <;> rfl
  have hs2 := hs1.turn (j := .blk a0.block (.cells arr e fz')) hos hot hoo (Nat.le_of_eq hz.symm) (fun b _ hb => hoth b (by simpa [Item.foot] using hb)) ho' (fun b hb => .inl (by simpa [Item.foot] using hb)) (by simp [Item.foot])
  refine ⟨str s, m, _, w.freeze a0 s.length, ?_, hs2, rfl, rfl, fz', rfl⟩
  simp only [execOp, resolve, Go.invoke, Go.builtin, Sem.run_bind, Sem.run_pure, Result.andThen_ok, List.map_toArray, List.map_cons, List.map_nil, hok.ev hx, hok.ev hy]
  simp [hus]
theorem WL.strKeep {pt it e : TypeId} {x y : Operand} {a : Option Addr} {cap : Nat} {s : List UInt8} {H1 : SHeap} (hx : r.ev x = some (.pointer a)) (hy : r.ev y = some (.int .i64 (s.length : Int))) (ho : Out (.row a cap e 1 (bCs s)) H H1)
    (hp : P.underlying pt = some (.pointer e)) (hc : Nat.beq (P.cellsOf e) 1 = true) (hl : s.length ≤ 9223372036854775807) (hd : Nat.blt d n = true)
    (h : ∀ i, Kept a cap e s i → WL P ro n w0 ops Q l ((d, str s) :: r) ds m (i :: H1)) : WL P ro n w0 ops Q (⟨some d, .call ⟨.builtin .unsafeString, #[x, y], #[pt, it]⟩, ty, pos, after, none⟩ :: l) r ds m H := by
  by_cases h0 : s = []
  · subst h0
    refine .gen (fun v' m' H' => v' = str [] ∧ m' = m ∧ H' = .row a cap e 1 (bCs []) :: H1) hd (fun _ h => by cases h) (fun tmps w hok hs => ?_) (by rintro _ _ _ ⟨rfl, rfl, rfl⟩; exact h _ (.inl ⟨rfl, rfl⟩))
    have hs1 := hs.perm ho.perm
    refine ⟨str [], m, _, w, ?_, hs1, rfl, rfl, rfl⟩
    have h1 := Lib.run_unsafeString_none (P := P) w pt it ty a
    simp only [execOp, resolve, Go.invoke, Go.builtin, Sem.run_bind, Sem.run_pure, Result.andThen_ok, List.map_toArray, List.map_cons, List.map_nil, hok.ev hx, hok.ev hy]
    simp only [List.length_nil] at h1 ⊢
    simp [h1]
    rfl
  · intro tmps w hok hs
    have hpos : 0 < s.length := List.length_pos_iff.2 h0
    have hs1 := hs.perm ho.perm
    obtain ⟨a0, rfl⟩ := row_some hs1 List.mem_cons_self (by rw [bCs_length]; exact hpos)
    obtain ⟨arr, fz, h1, h2, h3, h4, h5, h6, h7, h8⟩ := hs1.own _ List.mem_cons_self
    have hcells := row_cells (w0 := w0) (m := m) (H := .row (some a0) cap e 1 (bCs s) :: H1) (a := a0) (cap := cap) (T := e) (s := s) List.mem_cons_self w hs1
    rw [bCs_length] at h4
    have hblk := (Array.getElem?_eq_some_iff.1 h2).1
    have hsb : Sat w0 m (.blk a0.block (.cells arr _ fz) :: H1) w := hs1.turn (j := .blk a0.block (.cells arr _ fz)) rfl rfl rfl (Nat.le_refl _) (fun _ _ _ => rfl) h2 (fun b hb => .inl (by simpa [Item.foot] using hb)) (by simp [Item.foot])
    have harr : ∀ (j : Nat) (x : UInt8), s[j]? = some x → arr[j]? = some (.int .u8 x.toNat) := by
      intro j x hx
      have := hcells j (.int .u8 x.toNat) (by simp [hx])
      rw [add_eq (by rw [h1])] at this
      simp only [World.cell?] at this
      rw [h2] at this
      rw [h1] at this
      simpa using this
    exact WL.strBlk (s := s) (arr := arr) hx hy .here hp hc hl hd h0 h1 (by rw [h3]; omega) harr (fun fz' => h _ (.inr ⟨h0, a0, arr, fz', rfl, h1, by rw [h3]; omega, harr, rfl⟩)) tmps w hok hsb
end
end Go.Eng

/-
  strings.Builder for this seat. No condition.
-/
namespace Go.Proofs.Ytieangfnjflfmaa
open Go Go.Eng
set_option maxRecDepth 100000
set_option maxHeartbeats 4000000
set_option linter.all false
attribute [local irreducible] WL WC WQ QFun QLoop Does Q1 QRound QAssign Go.Addr.add
theorem extern_noEscape : Extern.find Try.f63 = some Extern.AbiNoEscape.same := by kernel_rfl
theorem copyCheck_any {b cap : Nat} {ao a : Option Addr} {t : List UInt8} (hao : ao = none ∨ ao = some ⟨b, 0, none⟩) (w0 : World) (m : Mem) (H : SHeap) :
    Does Try.prog 46 #[.pointer (some ⟨b, 0, none⟩)] w0 m (.blk b (.cells [.pointer ao, .slice a t.length cap].toArray 67 (0, 0)) :: .row a cap 5 1 (bCs t) :: H) (fun v m' H' => m' = m ∧ H' = .blk b (.cells [.pointer (some ⟨b, 0, none⟩), .slice a t.length cap].toArray 67 (0, 0)) :: .row a cap 5 1 (bCs t) :: H) := by
  refine Does.of_body (args := [.pointer (some ⟨b, 0, none⟩)]) Try.func46 rfl Try.ntmps46 rfl ?_
  rcases hao with rfl | rfl
  · (try (refine st ?_; intros))
    refine WL.toUnsafe rfl zhs (by exact Nat.succ_pos _) rfl rfl (by kernel_rfl) rfl ?_
    (try (refine st ?_; intros))
    refine WL.extern (vs := [.pointer (some ⟨b, 0, none⟩)]) Try.func63 rfl rfl (by kernel_rfl) extern_noEscape rfl (fun _ => rfl) rfl ?_
    (try (refine st ?_; intros))
    refine WL.fromUnsafe rfl zhs rfl rfl (by kernel_rfl) (by kernel_rfl) rfl ?_
    (try (refine st ?_; intros))
    exact q_finNorm0 (H0 := .blk b (.cells [.pointer (some ⟨b, 0, none⟩), .slice a t.length cap].toArray 67 (0, 0)) :: .row a cap 5 1 (bCs t) :: H) ⟨rfl, rfl⟩ (hd := zpk)
  · (try (refine st ?_; intros))
    refine WL.neqSameP (j := Try.prog.types[67]) rfl rfl rfl (by kernel_rfl) rfl ?_
    (try (refine st ?_; intros))
    exact q_finNorm0 (H0 := .blk b (.cells [.pointer (some ⟨b, 0, none⟩), .slice a t.length cap].toArray 67 (0, 0)) :: .row a cap 5 1 (bCs t) :: H) ⟨rfl, rfl⟩ (hd := zpk)
/-- a Builder that holds a text -/
def Bldr (b : Nat) (t : List UInt8) (H : SHeap) (H' : SHeap) : Prop :=
  ∃ (ao a : Option Addr) (cap : Nat), (ao = none ∨ ao = some ⟨b, 0, none⟩) ∧ (a = none ∨ 0 < cap) ∧ H' = .blk b (.cells [.pointer ao, .slice a t.length cap].toArray 67 (0, 0)) :: .row a cap 5 1 (bCs t) :: H
/-- there is room for both in one row -/
def FitsB (t s : List UInt8) : Prop := t.length + s.length ≤ 140737488355328
theorem writeString_any {b cap : Nat} {ao a : Option Addr} {t s : List UInt8} (hao : ao = none ∨ ao = some ⟨b, 0, none⟩) (hc : a = none ∨ 0 < cap) (hl : FitsB t s) (w0 : World) (m : Mem) (H : SHeap) :
    Does Try.prog 29 #[.pointer (some ⟨b, 0, none⟩), str s] w0 m (.blk b (.cells [.pointer ao, .slice a t.length cap].toArray 67 (0, 0)) :: .row a cap 5 1 (bCs t) :: H) (fun v m' H' => m' = m ∧ v = .tuple #[.int .i64 (s.length : Int), .nilIface] ∧ Bldr b (t ++ s) H H') := by
  refine Does.of_body (args := [.pointer (some ⟨b, 0, none⟩), str s]) Try.func29 rfl Try.ntmps29 rfl ?_
  have hbl := bCs_length t
  have e : bCs t ++ (s.map fun b => [Value.int .u8 (b.toNat : Int)]) = bCs (t ++ s) := by simp [bCs]
  (try (refine st ?_; intros))
  refine w_callF Try.func46 ?_ (hs := copyCheck_any hao _ _ _)
  rintro v m H1 ⟨rfl, rfl⟩
  (try (refine st ?_; intros))
  refine WL.appendS2 (s := s) rfl rfl rfl rfl (by (repeat (first | exact Out.here | apply Out.there))) rfl rfl rfl rfl hbl.symm (by rw [hbl]; exact hl) rfl ?_
  intro a2 cap2 hc2
  rw [e, hbl, ← List.length_append]
  (try (refine st ?_; intros))
  exact q_fin0 (H0 := .blk b (.cells [.pointer (some ⟨b, 0, none⟩), .slice a2 (t ++ s).length cap2].toArray 67 (0, 0)) :: .row a2 cap2 5 1 (bCs (t ++ s)) :: H) ⟨rfl, rfl, some ⟨b, 0, none⟩, a2, cap2, .inr rfl, hc2 hc, rfl⟩ (hd := zpk)
theorem bLen_any {b cap : Nat} {ao a : Option Addr} {t : List UInt8} (w0 : World) (m : Mem) (H : SHeap) :
    Does Try.prog 28 #[.pointer (some ⟨b, 0, none⟩)] w0 m (.blk b (.cells [.pointer ao, .slice a t.length cap].toArray 67 (0, 0)) :: H) (Gives (.int .i64 (t.length : Int)) m (.blk b (.cells [.pointer ao, .slice a t.length cap].toArray 67 (0, 0)) :: H)) := by
  refine Does.of_body (args := [.pointer (some ⟨b, 0, none⟩)]) Try.func28 rfl Try.ntmps28 rfl ?_
  (try (refine st ?_; intros))
  exact q_fin0 (H0 := .blk b (.cells [.pointer ao, .slice a t.length cap].toArray 67 (0, 0)) :: H) (Gives.mk rfl) (hd := zpk)
theorem sq_D13_1 {G : Prop} (h : G := by (repeat (first | (refine sp ?_; (repeat intro zzc)) | (refine iSD rfl ?_; refine WL.sliceData rfl (by assumption) rfl ?_))); exact WQ.q1 rfl) : G := h
theorem cm_D13_1 {G G' : Prop} (next : G') (h : Bx G' → G := by intro zzn; (try (refine wcal 0 ?_ (hwl := by intro zm zF zle; exact sq_D13_1))); (try (refine wcal 1 ?_ (hwl := by intro zm zF zle; exact sq_D13_1))); (try (refine wcal 2 ?_ (hwl := by intro zm zF zle; exact sq_D13_1))); (try (refine wcal 3 ?_ (hwl := by intro zm zF zle; exact sq_D13_1))); (try (refine wcal 4 ?_ (hwl := by intro zm zF zle; exact sq_D13_1))); (try (refine wcal 5 ?_ (hwl := by intro zm zF zle; exact sq_D13_1))); (try (refine wcal 6 ?_ (hwl := by intro zm zF zle; exact sq_D13_1))); (try (refine wcal 7 ?_ (hwl := by intro zm zF zle; exact sq_D13_1))); (try (refine wcal 8 ?_ (hwl := by intro zm zF zle; exact sq_D13_1))); (try (refine wcal 9 ?_ (hwl := by intro zm zF zle; exact sq_D13_1))); (try (refine wcal 10 ?_ (hwl := by intro zm zF zle; exact sq_D13_1))); (try (refine wcal 11 ?_ (hwl := by intro zm zF zle; exact sq_D13_1))); (try (refine wcal 12 ?_ (hwl := by intro zm zF zle; exact sq_D13_1))); (try (refine wcal 13 ?_ (hwl := by intro zm zF zle; exact sq_D13_1))); (try (refine wcal 14 ?_ (hwl := by intro zm zF zle; exact sq_D13_1))); (try (refine wcal 15 ?_ (hwl := by intro zm zF zle; exact sq_D13_1))); (try (refine wcal 16 ?_ (hwl := by intro zm zF zle; exact sq_D13_1))); (try (refine wcal 17 ?_ (hwl := by intro zm zF zle; exact sq_D13_1))); (try (refine wcal 18 ?_ (hwl := by intro zm zF zle; exact sq_D13_1))); (try (refine wcal 19 ?_ (hwl := by intro zm zF zle; exact sq_D13_1))); (try (refine wcal 20 ?_ (hwl := by intro zm zF zle; exact sq_D13_1))); (try (refine wcal 21 ?_ (hwl := by intro zm zF zle; exact sq_D13_1))); (try (refine wcal 22 ?_ (hwl := by intro zm zF zle; exact sq_D13_1))); (try (refine wcal 23 ?_ (hwl := by intro zm zF zle; exact sq_D13_1))); (try (refine wcal 24 ?_ (hwl := by intro zm zF zle; exact sq_D13_1))); (try (refine wcal 25 ?_ (hwl := by intro zm zF zle; exact sq_D13_1))); (try (refine wcal 26 ?_ (hwl := by intro zm zF zle; exact sq_D13_1))); (try (refine wcal 27 ?_ (hwl := by intro zm zF zle; exact sq_D13_1))); (try (refine wcal 28 ?_ (hwl := by intro zm zF zle; exact sq_D13_1))); (try (refine wcal 29 ?_ (hwl := by intro zm zF zle; exact sq_D13_1))); (try (refine wcal 30 ?_ (hwl := by intro zm zF zle; exact sq_D13_1))); (try (refine wcal 31 ?_ (hwl := by intro zm zF zle; exact sq_D13_1))); (try (refine wcal 32 ?_ (hwl := by intro zm zF zle; exact sq_D13_1))); (try (refine wcal 33 ?_ (hwl := by intro zm zF zle; exact sq_D13_1))); (try (refine wcal 34 ?_ (hwl := by intro zm zF zle; exact sq_D13_1))); (try (refine wcal 35 ?_ (hwl := by intro zm zF zle; exact sq_D13_1))); (try (refine wcal 36 ?_ (hwl := by intro zm zF zle; exact sq_D13_1))); (try (refine wcal 37 ?_ (hwl := by intro zm zF zle; exact sq_D13_1))); (try (refine wcal 38 ?_ (hwl := by intro zm zF zle; exact sq_D13_1))); (try (refine wcal 39 ?_ (hwl := by intro zm zF zle; exact sq_D13_1))); (try (refine wcal 40 ?_ (hwl := by intro zm zF zle; exact sq_D13_1))); (try (refine wcal 41 ?_ (hwl := by intro zm zF zle; exact sq_D13_1))); exact zzn.out) : G := h ⟨next⟩
theorem st_D13_1 {G G' : Prop} (next : G') (h : Bx G' → G := by intro zzn; (first | ((refine st ?_; (repeat intro zzc)); (try ((first | (refine iSD rfl ?_; refine WL.sliceData rfl (by assumption) rfl ?_) | ((refine iDraw ?_; (first | refine WC.drawAll rfl (by decide +kernel) ?_ | refine WC.draw 1 rfl (by decide +kernel) ?_ | refine WC.draw 2 rfl (by decide +kernel) ?_ | refine WC.draw 3 rfl (by decide +kernel) ?_ | refine WC.draw 4 rfl (by decide +kernel) ?_ | refine WC.draw 5 rfl (by decide +kernel) ?_ | refine WC.draw 6 rfl (by decide +kernel) ?_ | refine WC.draw 7 rfl (by decide +kernel) ?_ | refine WC.draw 8 rfl (by decide +kernel) ?_ | refine WC.draw 9 rfl (by decide +kernel) ?_ | refine WC.draw 10 rfl (by decide +kernel) ?_ | refine WC.draw 11 rfl (by decide +kernel) ?_ | refine WC.draw 12 rfl (by decide +kernel) ?_ | refine WC.draw 13 rfl (by decide +kernel) ?_ | refine WC.draw 14 rfl (by decide +kernel) ?_ | refine WC.draw 15 rfl (by decide +kernel) ?_ | refine WC.draw 16 rfl (by decide +kernel) ?_ | refine WC.draw 17 rfl (by decide +kernel) ?_ | refine WC.draw 18 rfl (by decide +kernel) ?_ | refine WC.draw 19 rfl (by decide +kernel) ?_ | refine WC.draw 20 rfl (by decide +kernel) ?_ | refine WC.draw 21 rfl (by decide +kernel) ?_ | refine WC.draw 22 rfl (by decide +kernel) ?_ | refine WC.draw 23 rfl (by decide +kernel) ?_ | refine WC.draw 24 rfl (by decide +kernel) ?_)); (repeat (refine WD.cons rfl (fun c h => by cases h) sq_D13_1 ?_)); refine WD.nil ?_)); (try (refine st ?_; (repeat intro zzc)))))) | ((first | (refine iSD rfl ?_; refine WL.sliceData rfl (by assumption) rfl ?_) | ((refine iDraw ?_; (first | refine WC.drawAll rfl (by decide +kernel) ?_ | refine WC.draw 1 rfl (by decide +kernel) ?_ | refine WC.draw 2 rfl (by decide +kernel) ?_ | refine WC.draw 3 rfl (by decide +kernel) ?_ | refine WC.draw 4 rfl (by decide +kernel) ?_ | refine WC.draw 5 rfl (by decide +kernel) ?_ | refine WC.draw 6 rfl (by decide +kernel) ?_ | refine WC.draw 7 rfl (by decide +kernel) ?_ | refine WC.draw 8 rfl (by decide +kernel) ?_ | refine WC.draw 9 rfl (by decide +kernel) ?_ | refine WC.draw 10 rfl (by decide +kernel) ?_ | refine WC.draw 11 rfl (by decide +kernel) ?_ | refine WC.draw 12 rfl (by decide +kernel) ?_ | refine WC.draw 13 rfl (by decide +kernel) ?_ | refine WC.draw 14 rfl (by decide +kernel) ?_ | refine WC.draw 15 rfl (by decide +kernel) ?_ | refine WC.draw 16 rfl (by decide +kernel) ?_ | refine WC.draw 17 rfl (by decide +kernel) ?_ | refine WC.draw 18 rfl (by decide +kernel) ?_ | refine WC.draw 19 rfl (by decide +kernel) ?_ | refine WC.draw 20 rfl (by decide +kernel) ?_ | refine WC.draw 21 rfl (by decide +kernel) ?_ | refine WC.draw 22 rfl (by decide +kernel) ?_ | refine WC.draw 23 rfl (by decide +kernel) ?_ | refine WC.draw 24 rfl (by decide +kernel) ?_)); (repeat (refine WD.cons rfl (fun c h => by cases h) sq_D13_1 ?_)); refine WD.nil ?_)); (try (refine st ?_; (repeat intro zzc))))); (repeat ((first | (refine iSD rfl ?_; refine WL.sliceData rfl (by assumption) rfl ?_) | ((refine iDraw ?_; (first | refine WC.drawAll rfl (by decide +kernel) ?_ | refine WC.draw 1 rfl (by decide +kernel) ?_ | refine WC.draw 2 rfl (by decide +kernel) ?_ | refine WC.draw 3 rfl (by decide +kernel) ?_ | refine WC.draw 4 rfl (by decide +kernel) ?_ | refine WC.draw 5 rfl (by decide +kernel) ?_ | refine WC.draw 6 rfl (by decide +kernel) ?_ | refine WC.draw 7 rfl (by decide +kernel) ?_ | refine WC.draw 8 rfl (by decide +kernel) ?_ | refine WC.draw 9 rfl (by decide +kernel) ?_ | refine WC.draw 10 rfl (by decide +kernel) ?_ | refine WC.draw 11 rfl (by decide +kernel) ?_ | refine WC.draw 12 rfl (by decide +kernel) ?_ | refine WC.draw 13 rfl (by decide +kernel) ?_ | refine WC.draw 14 rfl (by decide +kernel) ?_ | refine WC.draw 15 rfl (by decide +kernel) ?_ | refine WC.draw 16 rfl (by decide +kernel) ?_ | refine WC.draw 17 rfl (by decide +kernel) ?_ | refine WC.draw 18 rfl (by decide +kernel) ?_ | refine WC.draw 19 rfl (by decide +kernel) ?_ | refine WC.draw 20 rfl (by decide +kernel) ?_ | refine WC.draw 21 rfl (by decide +kernel) ?_ | refine WC.draw 22 rfl (by decide +kernel) ?_ | refine WC.draw 23 rfl (by decide +kernel) ?_ | refine WC.draw 24 rfl (by decide +kernel) ?_)); (repeat (refine WD.cons rfl (fun c h => by cases h) sq_D13_1 ?_)); refine WD.nil ?_)); (try (refine st ?_; (repeat intro zzc))))); (repeat revert zzc); exact zzn.out) : G := h ⟨next⟩
theorem bStr1_any {b cap : Nat} {ao a : Option Addr} {t : List UInt8} (hc : a = none ∨ 0 < cap) (hl : t.length ≤ 140737488355328) (w0 : World) (m : Mem) (H : SHeap) :
    Does Try.prog 30 #[.pointer (some ⟨b, 0, none⟩)] w0 m (.blk b (.cells [.pointer ao, .slice a t.length cap].toArray 67 (0, 0)) :: .row a cap 5 1 (bCs t) :: H) (fun v m' H' => v = str t ∧ m' = m ∧ ∃ i, Kept a cap 5 t i ∧ H' = .blk b (.cells [.pointer ao, .slice a t.length cap].toArray 67 (0, 0)) :: i :: H) := by
  refine Does.of_body (args := [.pointer (some ⟨b, 0, none⟩)]) Try.func30 rfl Try.ntmps30 rfl ?_
  have hbl := bCs_length t
  (try (refine st_D13_1 ?_; intros))
  refine WC.drawE 11 ([.blk b (.cells [.pointer ao, .slice a t.length cap].toArray 67 (0, 0))]) (.row a cap 5 1 (bCs t) :: H) rfl (by decide +kernel) zpk ?_
  (refine cm_D13_1 ?_)
  refine WE.act1 10 (by decide +kernel) rfl rfl (fun c h => by cases h) ?_
  refine WL.strKeep (s := t) rfl rfl (by (repeat (first | exact Out.here | apply Out.there))) rfl (by kernel_rfl) (by omega) rfl ?_
  intro i hk
  (try (refine st_D13_1 ?_; intros))
  refine WQ.acted (B := []) (U := i :: H) rfl (Mem.le.refl _) zpk ?_
  refine WE.done (by decide +kernel) ?_
  (try (refine st_D13_1 ?_; intros))
  exact q_fin0 (H0 := .blk b (.cells [.pointer ao, .slice a t.length cap].toArray 67 (0, 0)) :: i :: H) ⟨rfl, rfl, i, hk, rfl⟩ (hd := zpk)
theorem bStr2_any {b cap : Nat} {ao a : Option Addr} {t : List UInt8} (hc : a = none ∨ 0 < cap) (hl : t.length ≤ 140737488355328) {i : Eng.Item} (hk : Kept a cap 5 t i) (w0 : World) (m : Mem) (H : SHeap) :
    Does Try.prog 30 #[.pointer (some ⟨b, 0, none⟩)] w0 m (.blk b (.cells [.pointer ao, .slice a t.length cap].toArray 67 (0, 0)) :: i :: H) (fun v m' H' => v = str t ∧ m' = m ∧ ∃ i2, Kept a cap 5 t i2 ∧ H' = .blk b (.cells [.pointer ao, .slice a t.length cap].toArray 67 (0, 0)) :: i2 :: H) := by
  rcases hk with ⟨ht, rfl⟩ | ⟨ht, a0, arr, fz, rfl, h1, hsz, harr, rfl⟩
  · exact bStr1_any hc hl w0 m H
  · refine Does.of_body (args := [.pointer (some ⟨b, 0, none⟩)]) Try.func30 rfl Try.ntmps30 rfl ?_
    (try (refine st_D13_1 ?_; intros))
    refine WC.drawE 11 ([.blk b (.cells [.pointer ao, .slice (some a0) t.length cap].toArray 67 (0, 0))]) (.blk a0.block (.cells arr 5 fz) :: H) rfl (by decide +kernel) zpk ?_
    (refine cm_D13_1 ?_)
    refine WE.act1 10 (by decide +kernel) rfl rfl (fun c h => by cases h) ?_
    refine WL.strBlk (s := t) rfl rfl (by (repeat (first | exact Out.here | apply Out.there))) rfl (by kernel_rfl) (by omega) rfl ht h1 hsz harr ?_
    intro fz'
    (try (refine st_D13_1 ?_; intros))
    refine WQ.acted (B := []) (U := .blk a0.block (.cells arr 5 fz') :: H) rfl (Mem.le.refl _) zpk ?_
    refine WE.done (by decide +kernel) ?_
    (try (refine st_D13_1 ?_; intros))
    exact q_fin0 (H0 := .blk b (.cells [.pointer ao, .slice (some a0) t.length cap].toArray 67 (0, 0)) :: .blk a0.block (.cells arr 5 fz') :: H) ⟨rfl, rfl, _, .inr ⟨ht, a0, arr, fz', rfl, h1, hsz, harr, rfl⟩, rfl⟩ (hd := zpk)
end Go.Proofs.Ytieangfnjflfmaa

/-
  The walk of draft.Weave's side. No condition.
-/
namespace Go.Eng
open Go Go.RowKit
theorem Does.gives_memD {P : Program} {w0 : World} {m : Mem} {H : SHeap} {f : FuncId} {args : Array Value} {v : Value} {i : Item} (hm : i ∈ H) (h : ∀ H1, Does P f args w0 m (i :: H1) (Gives v m (i :: H1))) : Does P f args w0 m H (Gives v m H) := by
  intro w hs
  obtain ⟨H1, hp⟩ := hs.at_ hm
  refine (h H1 w (hs.perm hp)).mono ?_
  rintro e w' ⟨v', m', H', he, ⟨rfl, rfl, rfl⟩, hs'⟩
  exact ⟨_, _, _, he, ⟨rfl, rfl, rfl⟩, hs'.perm hp.symm⟩
/-- conflicts' cells -/
def cfs (l : List Cf) : List (List Value) := l.map Cf.cs
theorem cfs_length (l : List Cf) : (cfs l).length = l.length := List.length_map _
end Go.Eng
namespace Go.Proofs.Ytieangfnjflfmaa
open Go Go.Eng
set_option maxRecDepth 100000
set_option maxHeartbeats 4000000
set_option linter.all false
attribute [local irreducible] WL WC WQ QFun QLoop Does Q1 QRound QAssign Go.Addr.add
theorem bLen_mem {b cap : Nat} {ao a : Option Addr} {t : List UInt8} {w0 : World} {m : Mem} {H : SHeap} (hm : Eng.Item.blk b (.cells [.pointer ao, .slice a t.length cap].toArray 67 (0, 0)) ∈ H) :
    Does Try.prog 28 #[.pointer (some ⟨b, 0, none⟩)] w0 m H (Gives (.int .i64 (t.length : Int)) m H) := Does.gives_memD hm fun H1 => bLen_any w0 m H1
attribute [local irreducible] jn strs bCs cfs
theorem sq_D14_1 {G : Prop} (h : G := by (repeat (first | (refine sp ?_; (repeat intro zzc)) | (refine WL.append1 (by':=64) rfl rfl rfl rfl (by (repeat (first | exact Out.here | apply Out.there))) zhs (by exact rfl) (by exact rfl) (by exact rfl) (by exact rfl) (by exact rfl) (by exact rfl) (by first | exact rfl | omega) (by first | omega | (simp; omega)) (by decide) (by exact rfl) ?_; intro zzc zzc) | (refine WL.indexAddrA rfl rfl (by (first | with_reducible exact natz _ | with_reducible exact natz0 | with_reducible exact natz1 | with_reducible exact natz2 | with_reducible exact natz3 | with_reducible exact natz4 | with_reducible exact natz8 | (apply natz_add; (· first | with_reducible exact natz _ | with_reducible exact natz0 | with_reducible exact natz1 | with_reducible exact natz2 | with_reducible exact natz3 | with_reducible exact natz4 | with_reducible exact natz8); (· first | with_reducible exact natz _ | with_reducible exact natz0 | with_reducible exact natz1 | with_reducible exact natz2 | with_reducible exact natz3 | with_reducible exact natz4 | with_reducible exact natz8)) | (apply natz_sub; (· first | with_reducible exact natz _ | with_reducible exact natz0 | with_reducible exact natz1 | with_reducible exact natz2 | with_reducible exact natz3 | with_reducible exact natz4 | with_reducible exact natz8); (· first | with_reducible exact natz _ | with_reducible exact natz0 | with_reducible exact natz1 | with_reducible exact natz2 | with_reducible exact natz3 | with_reducible exact natz4 | with_reducible exact natz8); (· omega)) | exact (Int.toNat_of_nonneg (by omega)).symm)) rfl rfl (by omega) rfl rfl ?_))); exact WQ.q1 rfl) : G := h
theorem cm_D14_1 {G G' : Prop} (next : G') (h : Bx G' → G := by intro zzn; (try (refine wcal 0 ?_ (hwl := by intro zm zF zle; exact sq_D14_1))); (try (refine wcal 1 ?_ (hwl := by intro zm zF zle; exact sq_D14_1))); (try (refine wcal 2 ?_ (hwl := by intro zm zF zle; exact sq_D14_1))); (try (refine wcal 3 ?_ (hwl := by intro zm zF zle; exact sq_D14_1))); (try (refine wcal 4 ?_ (hwl := by intro zm zF zle; exact sq_D14_1))); (try (refine wcal 5 ?_ (hwl := by intro zm zF zle; exact sq_D14_1))); (try (refine wcal 6 ?_ (hwl := by intro zm zF zle; exact sq_D14_1))); (try (refine wcal 7 ?_ (hwl := by intro zm zF zle; exact sq_D14_1))); (try (refine wcal 8 ?_ (hwl := by intro zm zF zle; exact sq_D14_1))); (try (refine wcal 9 ?_ (hwl := by intro zm zF zle; exact sq_D14_1))); (try (refine wcal 10 ?_ (hwl := by intro zm zF zle; exact sq_D14_1))); (try (refine wcal 11 ?_ (hwl := by intro zm zF zle; exact sq_D14_1))); (try (refine wcal 12 ?_ (hwl := by intro zm zF zle; exact sq_D14_1))); (try (refine wcal 13 ?_ (hwl := by intro zm zF zle; exact sq_D14_1))); (try (refine wcal 14 ?_ (hwl := by intro zm zF zle; exact sq_D14_1))); (try (refine wcal 15 ?_ (hwl := by intro zm zF zle; exact sq_D14_1))); (try (refine wcal 16 ?_ (hwl := by intro zm zF zle; exact sq_D14_1))); (try (refine wcal 17 ?_ (hwl := by intro zm zF zle; exact sq_D14_1))); (try (refine wcal 18 ?_ (hwl := by intro zm zF zle; exact sq_D14_1))); (try (refine wcal 19 ?_ (hwl := by intro zm zF zle; exact sq_D14_1))); (try (refine wcal 20 ?_ (hwl := by intro zm zF zle; exact sq_D14_1))); (try (refine wcal 21 ?_ (hwl := by intro zm zF zle; exact sq_D14_1))); (try (refine wcal 22 ?_ (hwl := by intro zm zF zle; exact sq_D14_1))); (try (refine wcal 23 ?_ (hwl := by intro zm zF zle; exact sq_D14_1))); (try (refine wcal 24 ?_ (hwl := by intro zm zF zle; exact sq_D14_1))); (try (refine wcal 25 ?_ (hwl := by intro zm zF zle; exact sq_D14_1))); (try (refine wcal 26 ?_ (hwl := by intro zm zF zle; exact sq_D14_1))); (try (refine wcal 27 ?_ (hwl := by intro zm zF zle; exact sq_D14_1))); (try (refine wcal 28 ?_ (hwl := by intro zm zF zle; exact sq_D14_1))); (try (refine wcal 29 ?_ (hwl := by intro zm zF zle; exact sq_D14_1))); (try (refine wcal 30 ?_ (hwl := by intro zm zF zle; exact sq_D14_1))); (try (refine wcal 31 ?_ (hwl := by intro zm zF zle; exact sq_D14_1))); (try (refine wcal 32 ?_ (hwl := by intro zm zF zle; exact sq_D14_1))); (try (refine wcal 33 ?_ (hwl := by intro zm zF zle; exact sq_D14_1))); (try (refine wcal 34 ?_ (hwl := by intro zm zF zle; exact sq_D14_1))); (try (refine wcal 35 ?_ (hwl := by intro zm zF zle; exact sq_D14_1))); (try (refine wcal 36 ?_ (hwl := by intro zm zF zle; exact sq_D14_1))); (try (refine wcal 37 ?_ (hwl := by intro zm zF zle; exact sq_D14_1))); (try (refine wcal 38 ?_ (hwl := by intro zm zF zle; exact sq_D14_1))); (try (refine wcal 39 ?_ (hwl := by intro zm zF zle; exact sq_D14_1))); (try (refine wcal 40 ?_ (hwl := by intro zm zF zle; exact sq_D14_1))); (try (refine wcal 41 ?_ (hwl := by intro zm zF zle; exact sq_D14_1))); exact zzn.out) : G := h ⟨next⟩
theorem st_D14_1 {G G' : Prop} (next : G') (h : Bx G' → G := by intro zzn; (first | ((refine st ?_; (repeat intro zzc)); (try ((first | (refine WL.append1 (by':=64) rfl rfl rfl rfl (by (repeat (first | exact Out.here | apply Out.there))) zhs (by exact rfl) (by exact rfl) (by exact rfl) (by exact rfl) (by exact rfl) (by exact rfl) (by first | exact rfl | omega) (by first | omega | (simp; omega)) (by decide) (by exact rfl) ?_; intro zzc zzc) | (refine WL.indexAddrA rfl rfl (by (first | with_reducible exact natz _ | with_reducible exact natz0 | with_reducible exact natz1 | with_reducible exact natz2 | with_reducible exact natz3 | with_reducible exact natz4 | with_reducible exact natz8 | (apply natz_add; (· first | with_reducible exact natz _ | with_reducible exact natz0 | with_reducible exact natz1 | with_reducible exact natz2 | with_reducible exact natz3 | with_reducible exact natz4 | with_reducible exact natz8); (· first | with_reducible exact natz _ | with_reducible exact natz0 | with_reducible exact natz1 | with_reducible exact natz2 | with_reducible exact natz3 | with_reducible exact natz4 | with_reducible exact natz8)) | (apply natz_sub; (· first | with_reducible exact natz _ | with_reducible exact natz0 | with_reducible exact natz1 | with_reducible exact natz2 | with_reducible exact natz3 | with_reducible exact natz4 | with_reducible exact natz8); (· first | with_reducible exact natz _ | with_reducible exact natz0 | with_reducible exact natz1 | with_reducible exact natz2 | with_reducible exact natz3 | with_reducible exact natz4 | with_reducible exact natz8); (· omega)) | exact (Int.toNat_of_nonneg (by omega)).symm)) rfl rfl (by omega) rfl rfl ?_) | ((refine iDraw ?_; (first | refine WC.drawAll rfl (by decide +kernel) ?_ | refine WC.draw 1 rfl (by decide +kernel) ?_ | refine WC.draw 2 rfl (by decide +kernel) ?_ | refine WC.draw 3 rfl (by decide +kernel) ?_ | refine WC.draw 4 rfl (by decide +kernel) ?_ | refine WC.draw 5 rfl (by decide +kernel) ?_ | refine WC.draw 6 rfl (by decide +kernel) ?_ | refine WC.draw 7 rfl (by decide +kernel) ?_ | refine WC.draw 8 rfl (by decide +kernel) ?_ | refine WC.draw 9 rfl (by decide +kernel) ?_ | refine WC.draw 10 rfl (by decide +kernel) ?_ | refine WC.draw 11 rfl (by decide +kernel) ?_ | refine WC.draw 12 rfl (by decide +kernel) ?_ | refine WC.draw 13 rfl (by decide +kernel) ?_ | refine WC.draw 14 rfl (by decide +kernel) ?_ | refine WC.draw 15 rfl (by decide +kernel) ?_ | refine WC.draw 16 rfl (by decide +kernel) ?_ | refine WC.draw 17 rfl (by decide +kernel) ?_ | refine WC.draw 18 rfl (by decide +kernel) ?_ | refine WC.draw 19 rfl (by decide +kernel) ?_ | refine WC.draw 20 rfl (by decide +kernel) ?_ | refine WC.draw 21 rfl (by decide +kernel) ?_ | refine WC.draw 22 rfl (by decide +kernel) ?_ | refine WC.draw 23 rfl (by decide +kernel) ?_ | refine WC.draw 24 rfl (by decide +kernel) ?_)); (repeat (refine WD.cons rfl (fun c h => by cases h) sq_D14_1 ?_)); refine WD.nil ?_)); (try (refine st ?_; (repeat intro zzc)))))) | ((first | (refine WL.append1 (by':=64) rfl rfl rfl rfl (by (repeat (first | exact Out.here | apply Out.there))) zhs (by exact rfl) (by exact rfl) (by exact rfl) (by exact rfl) (by exact rfl) (by exact rfl) (by first | exact rfl | omega) (by first | omega | (simp; omega)) (by decide) (by exact rfl) ?_; intro zzc zzc) | (refine WL.indexAddrA rfl rfl (by (first | with_reducible exact natz _ | with_reducible exact natz0 | with_reducible exact natz1 | with_reducible exact natz2 | with_reducible exact natz3 | with_reducible exact natz4 | with_reducible exact natz8 | (apply natz_add; (· first | with_reducible exact natz _ | with_reducible exact natz0 | with_reducible exact natz1 | with_reducible exact natz2 | with_reducible exact natz3 | with_reducible exact natz4 | with_reducible exact natz8); (· first | with_reducible exact natz _ | with_reducible exact natz0 | with_reducible exact natz1 | with_reducible exact natz2 | with_reducible exact natz3 | with_reducible exact natz4 | with_reducible exact natz8)) | (apply natz_sub; (· first | with_reducible exact natz _ | with_reducible exact natz0 | with_reducible exact natz1 | with_reducible exact natz2 | with_reducible exact natz3 | with_reducible exact natz4 | with_reducible exact natz8); (· first | with_reducible exact natz _ | with_reducible exact natz0 | with_reducible exact natz1 | with_reducible exact natz2 | with_reducible exact natz3 | with_reducible exact natz4 | with_reducible exact natz8); (· omega)) | exact (Int.toNat_of_nonneg (by omega)).symm)) rfl rfl (by omega) rfl rfl ?_) | ((refine iDraw ?_; (first | refine WC.drawAll rfl (by decide +kernel) ?_ | refine WC.draw 1 rfl (by decide +kernel) ?_ | refine WC.draw 2 rfl (by decide +kernel) ?_ | refine WC.draw 3 rfl (by decide +kernel) ?_ | refine WC.draw 4 rfl (by decide +kernel) ?_ | refine WC.draw 5 rfl (by decide +kernel) ?_ | refine WC.draw 6 rfl (by decide +kernel) ?_ | refine WC.draw 7 rfl (by decide +kernel) ?_ | refine WC.draw 8 rfl (by decide +kernel) ?_ | refine WC.draw 9 rfl (by decide +kernel) ?_ | refine WC.draw 10 rfl (by decide +kernel) ?_ | refine WC.draw 11 rfl (by decide +kernel) ?_ | refine WC.draw 12 rfl (by decide +kernel) ?_ | refine WC.draw 13 rfl (by decide +kernel) ?_ | refine WC.draw 14 rfl (by decide +kernel) ?_ | refine WC.draw 15 rfl (by decide +kernel) ?_ | refine WC.draw 16 rfl (by decide +kernel) ?_ | refine WC.draw 17 rfl (by decide +kernel) ?_ | refine WC.draw 18 rfl (by decide +kernel) ?_ | refine WC.draw 19 rfl (by decide +kernel) ?_ | refine WC.draw 20 rfl (by decide +kernel) ?_ | refine WC.draw 21 rfl (by decide +kernel) ?_ | refine WC.draw 22 rfl (by decide +kernel) ?_ | refine WC.draw 23 rfl (by decide +kernel) ?_ | refine WC.draw 24 rfl (by decide +kernel) ?_)); (repeat (refine WD.cons rfl (fun c h => by cases h) sq_D14_1 ?_)); refine WD.nil ?_)); (try (refine st ?_; (repeat intro zzc))))); (repeat ((first | (refine WL.append1 (by':=64) rfl rfl rfl rfl (by (repeat (first | exact Out.here | apply Out.there))) zhs (by exact rfl) (by exact rfl) (by exact rfl) (by exact rfl) (by exact rfl) (by exact rfl) (by first | exact rfl | omega) (by first | omega | (simp; omega)) (by decide) (by exact rfl) ?_; intro zzc zzc) | (refine WL.indexAddrA rfl rfl (by (first | with_reducible exact natz _ | with_reducible exact natz0 | with_reducible exact natz1 | with_reducible exact natz2 | with_reducible exact natz3 | with_reducible exact natz4 | with_reducible exact natz8 | (apply natz_add; (· first | with_reducible exact natz _ | with_reducible exact natz0 | with_reducible exact natz1 | with_reducible exact natz2 | with_reducible exact natz3 | with_reducible exact natz4 | with_reducible exact natz8); (· first | with_reducible exact natz _ | with_reducible exact natz0 | with_reducible exact natz1 | with_reducible exact natz2 | with_reducible exact natz3 | with_reducible exact natz4 | with_reducible exact natz8)) | (apply natz_sub; (· first | with_reducible exact natz _ | with_reducible exact natz0 | with_reducible exact natz1 | with_reducible exact natz2 | with_reducible exact natz3 | with_reducible exact natz4 | with_reducible exact natz8); (· first | with_reducible exact natz _ | with_reducible exact natz0 | with_reducible exact natz1 | with_reducible exact natz2 | with_reducible exact natz3 | with_reducible exact natz4 | with_reducible exact natz8); (· omega)) | exact (Int.toNat_of_nonneg (by omega)).symm)) rfl rfl (by omega) rfl rfl ?_) | ((refine iDraw ?_; (first | refine WC.drawAll rfl (by decide +kernel) ?_ | refine WC.draw 1 rfl (by decide +kernel) ?_ | refine WC.draw 2 rfl (by decide +kernel) ?_ | refine WC.draw 3 rfl (by decide +kernel) ?_ | refine WC.draw 4 rfl (by decide +kernel) ?_ | refine WC.draw 5 rfl (by decide +kernel) ?_ | refine WC.draw 6 rfl (by decide +kernel) ?_ | refine WC.draw 7 rfl (by decide +kernel) ?_ | refine WC.draw 8 rfl (by decide +kernel) ?_ | refine WC.draw 9 rfl (by decide +kernel) ?_ | refine WC.draw 10 rfl (by decide +kernel) ?_ | refine WC.draw 11 rfl (by decide +kernel) ?_ | refine WC.draw 12 rfl (by decide +kernel) ?_ | refine WC.draw 13 rfl (by decide +kernel) ?_ | refine WC.draw 14 rfl (by decide +kernel) ?_ | refine WC.draw 15 rfl (by decide +kernel) ?_ | refine WC.draw 16 rfl (by decide +kernel) ?_ | refine WC.draw 17 rfl (by decide +kernel) ?_ | refine WC.draw 18 rfl (by decide +kernel) ?_ | refine WC.draw 19 rfl (by decide +kernel) ?_ | refine WC.draw 20 rfl (by decide +kernel) ?_ | refine WC.draw 21 rfl (by decide +kernel) ?_ | refine WC.draw 22 rfl (by decide +kernel) ?_ | refine WC.draw 23 rfl (by decide +kernel) ?_ | refine WC.draw 24 rfl (by decide +kernel) ?_)); (repeat (refine WD.cons rfl (fun c h => by cases h) sq_D14_1 ?_)); refine WD.nil ?_)); (try (refine st ?_; (repeat intro zzc))))); (repeat revert zzc); exact zzn.out) : G := h ⟨next⟩
theorem side_any {X Y Z : List Tx} {w : Wv} {bx by_ bz bat bl bb cx cy cz cl cb n k1 k2 : Nat} {ax ay az al ao ab : Option Addr} {w0 : World} {m : Mem} {H : SHeap}
    (hX : X.length ≤ 4194304 ∧ X.flatten.length ≤ 4194304 ∧ X.length ≤ cx) (hY : Y.length ≤ 4194304 ∧ Y.flatten.length ≤ 4194304 ∧ Y.length ≤ cy) (hZ : Z.length ≤ 4194304 ∧ Z.flatten.length ≤ 4194304 ∧ Z.length ≤ cz)
    (hn : w.p ≤ n ∧ n ≤ X.length) (hk1 : w.q ≤ k1 ∧ k1 ≤ Y.length) (hk2 : w.r ≤ k2 ∧ k2 ≤ Z.length) (ho : w.out.length ≤ 1099511627776) (hL : w.l.length ≤ 4194304) (hao : ao = none ∨ ao = some ⟨bb, 0, none⟩) (hab : ab = none ∨ 0 < cb) :
    Does Try.prog 26 #[.int .i64 (n : Int), .int .i64 (k1 : Int), .int .i64 (k2 : Int), .pointer (some ⟨bx, 0, none⟩), .pointer (some ⟨bat, 0, none⟩), .pointer (some ⟨by_, 0, none⟩), .pointer (some ⟨bz, 0, none⟩), .pointer (some ⟨bl, 0, none⟩), .pointer (some ⟨bb, 0, none⟩)] w0 m
      ([.blk bx (.cells [.slice ax X.length cx].toArray 49 (0, 0)), .row ax cx 9 1 (strs X), .blk by_ (.cells [.slice ay Y.length cy].toArray 49 (0, 0)), .row ay cy 9 1 (strs Y), .blk bz (.cells [.slice az Z.length cz].toArray 49 (0, 0)), .row az cz 9 1 (strs Z), .blk bat (.cells [.int .i64 (w.p : Int), .int .i64 (w.q : Int), .int .i64 (w.r : Int)].toArray 68 (0, 0)), .blk bl (.cells [.slice al w.l.length cl].toArray 23 (0, 0)), .row al cl 36 5 (cfs w.l), .blk bb (.cells [.pointer ao, .slice ab w.out.length cb].toArray 67 (0, 0)), .row ab cb 5 1 (bCs w.out)] ++ H)
      (fun _ m' H' => m' = m ∧ ∃ (al2 : Option Addr) (cl2 : Nat) (ao2 ab2 : Option Addr) (cb2 : Nat), (ao2 = none ∨ ao2 = some ⟨bb, 0, none⟩) ∧ (ab2 = none ∨ 0 < cb2) ∧
        H' = [.blk bx (.cells [.slice ax X.length cx].toArray 49 (0, 0)), .row ax cx 9 1 (strs X), .blk by_ (.cells [.slice ay Y.length cy].toArray 49 (0, 0)), .row ay cy 9 1 (strs Y), .blk bz (.cells [.slice az Z.length cz].toArray 49 (0, 0)), .row az cz 9 1 (strs Z), .blk bat (.cells [.int .i64 ((w.side X Y Z n k1 k2).p : Int), .int .i64 ((w.side X Y Z n k1 k2).q : Int), .int .i64 ((w.side X Y Z n k1 k2).r : Int)].toArray 68 (0, 0)), .blk bl (.cells [.slice al2 (w.side X Y Z n k1 k2).l.length cl2].toArray 23 (0, 0)), .row al2 cl2 36 5 (cfs (w.side X Y Z n k1 k2).l),
          .blk bb (.cells [.pointer ao2, .slice ab2 (w.side X Y Z n k1 k2).out.length cb2].toArray 67 (0, 0)), .row ab2 cb2 5 1 (bCs (w.side X Y Z n k1 k2).out)] ++ H) := by
  refine Does.of_body Try.func26 rfl Try.ntmps26 rfl ?_
  simp only [List.cons_append, List.nil_append]
  have hja := jn_le X w.p n
  have hjb := jn_le Y w.q k1
  have hjc := jn_le Z w.r k2
  (try (refine st_D14_1 ?_; intros))
  refine WC.drawE 18 ([.blk bx (.cells [.slice ax X.length cx].toArray 49 (0, 0)), .row ax cx 9 1 (strs X), .blk by_ (.cells [.slice ay Y.length cy].toArray 49 (0, 0)), .row ay cy 9 1 (strs Y), .blk bz (.cells [.slice az Z.length cz].toArray 49 (0, 0)), .row az cz 9 1 (strs Z), .blk bat (.cells [.int .i64 (w.p : Int), .int .i64 (w.q : Int), .int .i64 (w.r : Int)].toArray 68 (0, 0))]) (.blk bl (.cells [.slice al w.l.length cl].toArray 23 (0, 0)) :: .row al cl 36 5 (cfs w.l) :: .blk bb (.cells [.pointer ao, .slice ab w.out.length cb].toArray 67 (0, 0)) :: .row ab cb 5 1 (bCs w.out) :: H) rfl (by decide +kernel) zpk ?_
  (refine cm_D14_1 ?_)
  (refine WE.calm 5 (by decide +kernel) rfl rfl (by decide +kernel) rfl (fun c h => by cases h) (by intro zm zF zle; refine w_callF Try.func27 ?_ (hs := joinSub_any (l := X) zhs hn (by omega) (by omega)); rintro _ _ _ ⟨rfl, rfl, rfl⟩; exact sq_D14_1) ?_)
  (refine WE.calm 11 (by decide +kernel) rfl rfl (by decide +kernel) rfl (fun c h => by cases h) (by intro zm zF zle; refine w_callF Try.func27 ?_ (hs := joinSub_any (l := Y) zhs hk1 (by omega) (by omega)); rintro _ _ _ ⟨rfl, rfl, rfl⟩; exact sq_D14_1) ?_)
  (refine WE.calm 17 (by decide +kernel) rfl rfl (by decide +kernel) rfl (fun c h => by cases h) (by intro zm zF zle; refine w_callF Try.func27 ?_ (hs := joinSub_any (l := Z) zhs hk2 (by omega) (by omega)); rintro _ _ _ ⟨rfl, rfl, rfl⟩; exact sq_D14_1) ?_)
  refine WE.done (by decide +kernel) ?_
  have hn1 : (n : Int) + 1 = ((n + 1 : Nat) : Int) := by omega
  have hk11 : (k1 : Int) + 1 = ((k1 + 1 : Nat) : Int) := by omega
  have hk21 : (k2 : Int) + 1 = ((k2 + 1 : Nat) : Int) := by omega
  have hcf := cfs_length w.l
  have hside : w.side X Y Z n k1 k2 = ⟨w.out ++ sideT (jn X w.p n) (jn Y w.q k1) (jn Z w.r k2), w.l ++ sideC w.out.length (jn X w.p n) (jn Y w.q k1) (jn Z w.r k2), n + 1, k1 + 1, k2 + 1⟩ := rfl
  generalize jn X w.p n = tO at *
  generalize jn Y w.q k1 = tA at *
  generalize jn Z w.r k2 = tC at *
  by_cases h1 : tC = tO
  · have hW : w.side X Y Z n k1 k2 = ⟨w.out ++ tA, w.l, n + 1, k1 + 1, k2 + 1⟩ := by rw [hside, show sideT tO tA tC = tA from if_neg (fun g => g.1 h1), show sideC w.out.length tO tA tC = [] from if_neg (fun g => g.1 h1), List.append_nil]
    (try (refine st_D14_1 ?_; intros))
    refine WL.heap (H' := .blk bb (.cells [.pointer ao, .slice ab w.out.length cb].toArray 67 (0, 0)) :: .row ab cb 5 1 (bCs w.out) :: ([.blk bx (.cells [.slice ax X.length cx].toArray 49 (0, 0)), .row ax cx 9 1 (strs X), .blk by_ (.cells [.slice ay Y.length cy].toArray 49 (0, 0)), .row ay cy 9 1 (strs Y), .blk bz (.cells [.slice az Z.length cz].toArray 49 (0, 0)), .row az cz 9 1 (strs Z), .blk bat (.cells [.int .i64 ((n : Int) + 1), .int .i64 ((k1 : Int) + 1), .int .i64 ((k2 : Int) + 1)].toArray 68 (0, 0)), .blk bl (.cells [.slice al w.l.length cl].toArray 23 (0, 0)), .row al cl 36 5 (cfs w.l)] ++ H)) zpk ?_
    refine w_callF Try.func29 ?_ (hs := writeString_any hao hab (by unfold FitsB; omega) _ _ _)
    rintro v m9 H9 ⟨rfl, rfl, ao2, ab2, cb2, hao2, hab2, rfl⟩
    (try (refine st_D14_1 ?_; intros))
    rw [hW, hn1, hk11, hk21]
    exact q_finNorm0 (H0 := [.blk bx (.cells [.slice ax X.length cx].toArray 49 (0, 0)), .row ax cx 9 1 (strs X), .blk by_ (.cells [.slice ay Y.length cy].toArray 49 (0, 0)), .row ay cy 9 1 (strs Y), .blk bz (.cells [.slice az Z.length cz].toArray 49 (0, 0)), .row az cz 9 1 (strs Z), .blk bat (.cells [.int .i64 ((n + 1 : Nat) : Int), .int .i64 ((k1 + 1 : Nat) : Int), .int .i64 ((k2 + 1 : Nat) : Int)].toArray 68 (0, 0)), .blk bl (.cells [.slice al w.l.length cl].toArray 23 (0, 0)), .row al cl 36 5 (cfs w.l), .blk bb (.cells [.pointer ao2, .slice ab2 (w.out ++ tA).length cb2].toArray 67 (0, 0)), .row ab2 cb2 5 1 (bCs (w.out ++ tA))] ++ H) ⟨rfl, al, cl, ao2, ab2, cb2, hao2, hab2, rfl⟩ (hd := zpk)
  by_cases h2 : tA = tO
  · have hW : w.side X Y Z n k1 k2 = ⟨w.out ++ tC, w.l, n + 1, k1 + 1, k2 + 1⟩ := by rw [hside, show sideT tO tA tC = tC from if_pos ⟨h1, h2⟩, show sideC w.out.length tO tA tC = [] from if_neg (fun g => g.2.1 h2), List.append_nil]
    (try (refine st_D14_1 ?_; intros))
    refine WL.heap (H' := .blk bb (.cells [.pointer ao, .slice ab w.out.length cb].toArray 67 (0, 0)) :: .row ab cb 5 1 (bCs w.out) :: ([.blk bx (.cells [.slice ax X.length cx].toArray 49 (0, 0)), .row ax cx 9 1 (strs X), .blk by_ (.cells [.slice ay Y.length cy].toArray 49 (0, 0)), .row ay cy 9 1 (strs Y), .blk bz (.cells [.slice az Z.length cz].toArray 49 (0, 0)), .row az cz 9 1 (strs Z), .blk bat (.cells [.int .i64 ((n : Int) + 1), .int .i64 ((k1 : Int) + 1), .int .i64 ((k2 : Int) + 1)].toArray 68 (0, 0)), .blk bl (.cells [.slice al w.l.length cl].toArray 23 (0, 0)), .row al cl 36 5 (cfs w.l)] ++ H)) zpk ?_
    refine w_callF Try.func29 ?_ (hs := writeString_any hao hab (by unfold FitsB; omega) _ _ _)
    rintro v m9 H9 ⟨rfl, rfl, ao2, ab2, cb2, hao2, hab2, rfl⟩
    (try (refine st_D14_1 ?_; intros))
    rw [hW, hn1, hk11, hk21]
    exact q_finNorm0 (H0 := [.blk bx (.cells [.slice ax X.length cx].toArray 49 (0, 0)), .row ax cx 9 1 (strs X), .blk by_ (.cells [.slice ay Y.length cy].toArray 49 (0, 0)), .row ay cy 9 1 (strs Y), .blk bz (.cells [.slice az Z.length cz].toArray 49 (0, 0)), .row az cz 9 1 (strs Z), .blk bat (.cells [.int .i64 ((n + 1 : Nat) : Int), .int .i64 ((k1 + 1 : Nat) : Int), .int .i64 ((k2 + 1 : Nat) : Int)].toArray 68 (0, 0)), .blk bl (.cells [.slice al w.l.length cl].toArray 23 (0, 0)), .row al cl 36 5 (cfs w.l), .blk bb (.cells [.pointer ao2, .slice ab2 (w.out ++ tC).length cb2].toArray 67 (0, 0)), .row ab2 cb2 5 1 (bCs (w.out ++ tC))] ++ H) ⟨rfl, al, cl, ao2, ab2, cb2, hao2, hab2, rfl⟩ (hd := zpk)
  by_cases h3 : tA = tC
  · have hW : w.side X Y Z n k1 k2 = ⟨w.out ++ tA, w.l, n + 1, k1 + 1, k2 + 1⟩ := by rw [hside, show sideT tO tA tC = tA from if_neg (fun g => h2 g.2), show sideC w.out.length tO tA tC = [] from if_neg (fun g => g.2.2 h3), List.append_nil]
    (try (refine st_D14_1 ?_; intros))
    refine WL.heap (H' := .blk bb (.cells [.pointer ao, .slice ab w.out.length cb].toArray 67 (0, 0)) :: .row ab cb 5 1 (bCs w.out) :: ([.blk bx (.cells [.slice ax X.length cx].toArray 49 (0, 0)), .row ax cx 9 1 (strs X), .blk by_ (.cells [.slice ay Y.length cy].toArray 49 (0, 0)), .row ay cy 9 1 (strs Y), .blk bz (.cells [.slice az Z.length cz].toArray 49 (0, 0)), .row az cz 9 1 (strs Z), .blk bat (.cells [.int .i64 ((n : Int) + 1), .int .i64 ((k1 : Int) + 1), .int .i64 ((k2 : Int) + 1)].toArray 68 (0, 0)), .blk bl (.cells [.slice al w.l.length cl].toArray 23 (0, 0)), .row al cl 36 5 (cfs w.l)] ++ H)) zpk ?_
    refine w_callF Try.func29 ?_ (hs := writeString_any hao hab (by unfold FitsB; omega) _ _ _)
    rintro v m9 H9 ⟨rfl, rfl, ao2, ab2, cb2, hao2, hab2, rfl⟩
    (try (refine st_D14_1 ?_; intros))
    rw [hW, hn1, hk11, hk21]
    exact q_finNorm0 (H0 := [.blk bx (.cells [.slice ax X.length cx].toArray 49 (0, 0)), .row ax cx 9 1 (strs X), .blk by_ (.cells [.slice ay Y.length cy].toArray 49 (0, 0)), .row ay cy 9 1 (strs Y), .blk bz (.cells [.slice az Z.length cz].toArray 49 (0, 0)), .row az cz 9 1 (strs Z), .blk bat (.cells [.int .i64 ((n + 1 : Nat) : Int), .int .i64 ((k1 + 1 : Nat) : Int), .int .i64 ((k2 + 1 : Nat) : Int)].toArray 68 (0, 0)), .blk bl (.cells [.slice al w.l.length cl].toArray 23 (0, 0)), .row al cl 36 5 (cfs w.l), .blk bb (.cells [.pointer ao2, .slice ab2 (w.out ++ tA).length cb2].toArray 67 (0, 0)), .row ab2 cb2 5 1 (bCs (w.out ++ tA))] ++ H) ⟨rfl, al, cl, ao2, ab2, cb2, hao2, hab2, rfl⟩ (hd := zpk)
  · have hW : w.side X Y Z n k1 k2 = ⟨w.out ++ tA, w.l ++ [⟨w.out.length, w.out.length + tA.length, tO, tA, tC⟩], n + 1, k1 + 1, k2 + 1⟩ := by rw [hside, show sideT tO tA tC = tA from if_neg (fun g => h2 g.2), show sideC w.out.length tO tA tC = [⟨w.out.length, w.out.length + tA.length, tO, tA, tC⟩] from if_pos ⟨h1, h2, h3⟩]
    (try (refine st_D14_1 ?_; intros))
    refine WC.drawE 13 ([.blk bx (.cells [.slice ax X.length cx].toArray 49 (0, 0)), .row ax cx 9 1 (strs X), .blk by_ (.cells [.slice ay Y.length cy].toArray 49 (0, 0)), .row ay cy 9 1 (strs Y), .blk bz (.cells [.slice az Z.length cz].toArray 49 (0, 0)), .row az cz 9 1 (strs Z), .blk bat (.cells [.int .i64 ((n : Int) + 1), .int .i64 ((k1 : Int) + 1), .int .i64 ((k2 : Int) + 1)].toArray 68 (0, 0)), .blk bl (.cells [.slice al w.l.length cl].toArray 23 (0, 0)), .blk bb (.cells [.pointer ao, .slice ab w.out.length cb].toArray 67 (0, 0))]) (.row al cl 36 5 (cfs w.l) :: .row ab cb 5 1 (bCs w.out) :: H) rfl (by decide +kernel) zpk ?_
    (refine cm_D14_1 ?_)
    (refine WE.calm 1 (by decide +kernel) rfl rfl (by decide +kernel) rfl (fun c h => by cases h) (by intro zm zF zle; refine w_callF Try.func28 ?_ (hs := bLen_mem zhs); rintro _ _ _ ⟨rfl, rfl, rfl⟩; exact sq_D14_1) ?_)
    (refine WE.calm 2 (by decide +kernel) rfl rfl (by decide +kernel) rfl (fun c h => by cases h) (by intro zm zF zle; refine w_callF Try.func28 ?_ (hs := bLen_mem zhs); rintro _ _ _ ⟨rfl, rfl, rfl⟩; exact sq_D14_1) ?_)
    (refine cm_D14_1 ?_)
    refine WE.act1 11 (by decide +kernel) rfl rfl (fun c h => by cases h) ?_
    (refine st_D14_1 ?_; intros; rename_i b9)
    refine WQ.acted (B := [.blk b9 (.cells [.int .i64 (w.out.length : Int), .int .i64 ((w.out.length : Int) + (tA.length : Int)), str tO, str tA, str tC].toArray 36 (0, 0))]) (U := .row al cl 36 5 (cfs w.l) :: .row ab cb 5 1 (bCs w.out) :: H) rfl (Mem.le.refl _) zpk ?_
    (refine cm_D14_1 ?_)
    refine WE.act1 12 (by decide +kernel) rfl rfl (fun c h => by cases h) ?_
    (refine st_D14_1 ?_; intros; rename_i al2 cl2)
    rw [hcf]
    refine WQ.acted (B := []) (U := .row al2 cl2 36 5 (cfs w.l ++ [[.int .i64 (w.out.length : Int), .int .i64 ((w.out.length : Int) + (tA.length : Int)), str tO, str tA, str tC]]) :: .row ab cb 5 1 (bCs w.out) :: H) rfl (Mem.le.refl _) zpk ?_
    refine WE.done (by decide +kernel) ?_
    have hll : w.l.length + 1 = (w.l ++ [(⟨w.out.length, w.out.length + tA.length, tO, tA, tC⟩ : Cf)]).length := by simp
    have hlc : cfs w.l ++ [[.int .i64 (w.out.length : Int), .int .i64 ((w.out.length : Int) + (tA.length : Int)), str tO, str tA, str tC]] = cfs (w.l ++ [⟨w.out.length, w.out.length + tA.length, tO, tA, tC⟩]) := by
      unfold cfs
      rw [List.map_append]
      simp [Cf.cs]
    (try (refine st_D14_1 ?_; intros))
    refine WL.heap (H' := .blk bb (.cells [.pointer ao, .slice ab w.out.length cb].toArray 67 (0, 0)) :: .row ab cb 5 1 (bCs w.out) :: ([.blk bx (.cells [.slice ax X.length cx].toArray 49 (0, 0)), .row ax cx 9 1 (strs X), .blk by_ (.cells [.slice ay Y.length cy].toArray 49 (0, 0)), .row ay cy 9 1 (strs Y), .blk bz (.cells [.slice az Z.length cz].toArray 49 (0, 0)), .row az cz 9 1 (strs Z), .blk bat (.cells [.int .i64 ((n : Int) + 1), .int .i64 ((k1 : Int) + 1), .int .i64 ((k2 : Int) + 1)].toArray 68 (0, 0)), .blk bl (.cells [.slice al2 (w.l.length + 1) cl2].toArray 23 (0, 0)), .row al2 cl2 36 5 (cfs w.l ++ [[.int .i64 (w.out.length : Int), .int .i64 ((w.out.length : Int) + (tA.length : Int)), str tO, str tA, str tC]])] ++ H)) zpk ?_
    refine w_callF Try.func29 ?_ (hs := writeString_any hao hab (by unfold FitsB; omega) _ _ _)
    rintro v m9 H9 ⟨rfl, rfl, ao2, ab2, cb2, hao2, hab2, rfl⟩
    (try (refine st_D14_1 ?_; intros))
    rw [hW, hn1, hk11, hk21, hll, hlc]
    exact q_finNorm0 (H0 := [.blk bx (.cells [.slice ax X.length cx].toArray 49 (0, 0)), .row ax cx 9 1 (strs X), .blk by_ (.cells [.slice ay Y.length cy].toArray 49 (0, 0)), .row ay cy 9 1 (strs Y), .blk bz (.cells [.slice az Z.length cz].toArray 49 (0, 0)), .row az cz 9 1 (strs Z), .blk bat (.cells [.int .i64 ((n + 1 : Nat) : Int), .int .i64 ((k1 + 1 : Nat) : Int), .int .i64 ((k2 + 1 : Nat) : Int)].toArray 68 (0, 0)), .blk bl (.cells [.slice al2 (w.l ++ [(⟨w.out.length, w.out.length + tA.length, tO, tA, tC⟩ : Cf)]).length cl2].toArray 23 (0, 0)), .row al2 cl2 36 5 (cfs (w.l ++ [⟨w.out.length, w.out.length + tA.length, tO, tA, tC⟩])), .blk bb (.cells [.pointer ao2, .slice ab2 (w.out ++ tA).length cb2].toArray 67 (0, 0)), .row ab2 cb2 5 1 (bCs (w.out ++ tA))] ++ H) ⟨rfl, al2, cl2, ao2, ab2, cb2, hao2, hab2, rfl⟩ (hd := zpk)
end Go.Proofs.Ytieangfnjflfmaa

/-
  The walk of draft.Weave: its maps. No condition.
-/
namespace Go.Eng
open Go Go.RowKit
/-- a match as a map's entries -/
def kv (M : List (Nat × Nat)) : List (Int × Value) := M.map fun p => ((p.1 : Int), .int .i64 (p.2 : Int))
theorem kv_lookup (n : Nat) : ∀ M : List (Nat × Nat), (kv M).lookup (n : Int) = (M.lookup n).map fun k => .int .i64 (k : Int)
  | [] => rfl
  | (a, b) :: M => by
    show List.lookup (n : Int) (((a : Int), Value.int .i64 (b : Int)) :: kv M) = _
    rw [List.lookup_cons, List.lookup_cons]
    by_cases h : n = a
    · subst h; simp
    · rw [show ((n : Int) == (a : Int)) = false by simp; omega, show (n == a) = false by simp; exact h]
      exact kv_lookup n M
theorem PrOk.fresh {a b : List Tx} : ∀ {M A B : List (Nat × Nat)} {p : Nat × Nat} {i k n m : Nat}, PrOk a b i k M n m → M = A ++ p :: B → A.lookup p.1 = Option.none
  | M, [], B, p, i, k, n, m, h, e => rfl
  | M, q :: A, B, p, i, k, n, m, h, e => by
    subst e
    obtain ⟨h1, h2, h3, h4, h5, h6⟩ := h
    obtain ⟨q1, q2⟩ := q
    have hlt : ∀ {A B : List (Nat × Nat)} {p : Nat × Nat} {i k : Nat}, PrOk a b i k (A ++ p :: B) n m → i ≤ p.1 := by
      intro A
      induction A with
      | nil => intro B p i k h; exact h.1
      | cons r A ih => intro B p i k h; obtain ⟨g1, _, _, _, _, g6⟩ := h; have := ih g6; omega
    have hl := hlt h6
    simp only at hl
    rw [List.lookup_cons, show (p.1 == q1) = false by simp; omega]
    exact PrOk.fresh h6 rfl
end Go.Eng
namespace Go.Proofs.Ytieangfnjflfmaa
open Go Go.Eng
set_option maxRecDepth 100000
set_option maxHeartbeats 4000000
set_option linter.all false
attribute [local irreducible] WL WC WQ QFun QLoop Does Q1 QRound QAssign Go.Addr.add
attribute [local irreducible] kv mapO
theorem sq_D15_1 {G : Prop} (h : G := by (repeat (first | (refine sp ?_; (repeat intro zzc)) | (refine WL.indexAddrA rfl rfl (by (first | with_reducible exact natz _ | with_reducible exact natz0 | with_reducible exact natz1 | with_reducible exact natz2 | with_reducible exact natz3 | with_reducible exact natz4 | with_reducible exact natz8 | (apply natz_add; (· first | with_reducible exact natz _ | with_reducible exact natz0 | with_reducible exact natz1 | with_reducible exact natz2 | with_reducible exact natz3 | with_reducible exact natz4 | with_reducible exact natz8); (· first | with_reducible exact natz _ | with_reducible exact natz0 | with_reducible exact natz1 | with_reducible exact natz2 | with_reducible exact natz3 | with_reducible exact natz4 | with_reducible exact natz8)) | (apply natz_sub; (· first | with_reducible exact natz _ | with_reducible exact natz0 | with_reducible exact natz1 | with_reducible exact natz2 | with_reducible exact natz3 | with_reducible exact natz4 | with_reducible exact natz8); (· first | with_reducible exact natz _ | with_reducible exact natz0 | with_reducible exact natz1 | with_reducible exact natz2 | with_reducible exact natz3 | with_reducible exact natz4 | with_reducible exact natz8); (· omega)) | exact (Int.toNat_of_nonneg (by omega)).symm)) rfl rfl (by omega) rfl rfl ?_))); exact WQ.q1 rfl) : G := h
theorem st_D15_1 {G G' : Prop} (next : G') (h : Bx G' → G := by intro zzn; (first | ((refine st ?_; (repeat intro zzc)); (try ((first | (refine WL.indexAddrA rfl rfl (by (first | with_reducible exact natz _ | with_reducible exact natz0 | with_reducible exact natz1 | with_reducible exact natz2 | with_reducible exact natz3 | with_reducible exact natz4 | with_reducible exact natz8 | (apply natz_add; (· first | with_reducible exact natz _ | with_reducible exact natz0 | with_reducible exact natz1 | with_reducible exact natz2 | with_reducible exact natz3 | with_reducible exact natz4 | with_reducible exact natz8); (· first | with_reducible exact natz _ | with_reducible exact natz0 | with_reducible exact natz1 | with_reducible exact natz2 | with_reducible exact natz3 | with_reducible exact natz4 | with_reducible exact natz8)) | (apply natz_sub; (· first | with_reducible exact natz _ | with_reducible exact natz0 | with_reducible exact natz1 | with_reducible exact natz2 | with_reducible exact natz3 | with_reducible exact natz4 | with_reducible exact natz8); (· first | with_reducible exact natz _ | with_reducible exact natz0 | with_reducible exact natz1 | with_reducible exact natz2 | with_reducible exact natz3 | with_reducible exact natz4 | with_reducible exact natz8); (· omega)) | exact (Int.toNat_of_nonneg (by omega)).symm)) rfl rfl (by omega) rfl rfl ?_) | ((refine iDraw ?_; (first | refine WC.drawAll rfl (by decide +kernel) ?_ | refine WC.draw 1 rfl (by decide +kernel) ?_ | refine WC.draw 2 rfl (by decide +kernel) ?_ | refine WC.draw 3 rfl (by decide +kernel) ?_ | refine WC.draw 4 rfl (by decide +kernel) ?_ | refine WC.draw 5 rfl (by decide +kernel) ?_ | refine WC.draw 6 rfl (by decide +kernel) ?_ | refine WC.draw 7 rfl (by decide +kernel) ?_ | refine WC.draw 8 rfl (by decide +kernel) ?_ | refine WC.draw 9 rfl (by decide +kernel) ?_ | refine WC.draw 10 rfl (by decide +kernel) ?_ | refine WC.draw 11 rfl (by decide +kernel) ?_ | refine WC.draw 12 rfl (by decide +kernel) ?_ | refine WC.draw 13 rfl (by decide +kernel) ?_ | refine WC.draw 14 rfl (by decide +kernel) ?_ | refine WC.draw 15 rfl (by decide +kernel) ?_ | refine WC.draw 16 rfl (by decide +kernel) ?_ | refine WC.draw 17 rfl (by decide +kernel) ?_ | refine WC.draw 18 rfl (by decide +kernel) ?_ | refine WC.draw 19 rfl (by decide +kernel) ?_ | refine WC.draw 20 rfl (by decide +kernel) ?_ | refine WC.draw 21 rfl (by decide +kernel) ?_ | refine WC.draw 22 rfl (by decide +kernel) ?_ | refine WC.draw 23 rfl (by decide +kernel) ?_ | refine WC.draw 24 rfl (by decide +kernel) ?_)); (repeat (refine WD.cons rfl (fun c h => by cases h) sq_D15_1 ?_)); refine WD.nil ?_)); (try (refine st ?_; (repeat intro zzc)))))) | ((first | (refine WL.indexAddrA rfl rfl (by (first | with_reducible exact natz _ | with_reducible exact natz0 | with_reducible exact natz1 | with_reducible exact natz2 | with_reducible exact natz3 | with_reducible exact natz4 | with_reducible exact natz8 | (apply natz_add; (· first | with_reducible exact natz _ | with_reducible exact natz0 | with_reducible exact natz1 | with_reducible exact natz2 | with_reducible exact natz3 | with_reducible exact natz4 | with_reducible exact natz8); (· first | with_reducible exact natz _ | with_reducible exact natz0 | with_reducible exact natz1 | with_reducible exact natz2 | with_reducible exact natz3 | with_reducible exact natz4 | with_reducible exact natz8)) | (apply natz_sub; (· first | with_reducible exact natz _ | with_reducible exact natz0 | with_reducible exact natz1 | with_reducible exact natz2 | with_reducible exact natz3 | with_reducible exact natz4 | with_reducible exact natz8); (· first | with_reducible exact natz _ | with_reducible exact natz0 | with_reducible exact natz1 | with_reducible exact natz2 | with_reducible exact natz3 | with_reducible exact natz4 | with_reducible exact natz8); (· omega)) | exact (Int.toNat_of_nonneg (by omega)).symm)) rfl rfl (by omega) rfl rfl ?_) | ((refine iDraw ?_; (first | refine WC.drawAll rfl (by decide +kernel) ?_ | refine WC.draw 1 rfl (by decide +kernel) ?_ | refine WC.draw 2 rfl (by decide +kernel) ?_ | refine WC.draw 3 rfl (by decide +kernel) ?_ | refine WC.draw 4 rfl (by decide +kernel) ?_ | refine WC.draw 5 rfl (by decide +kernel) ?_ | refine WC.draw 6 rfl (by decide +kernel) ?_ | refine WC.draw 7 rfl (by decide +kernel) ?_ | refine WC.draw 8 rfl (by decide +kernel) ?_ | refine WC.draw 9 rfl (by decide +kernel) ?_ | refine WC.draw 10 rfl (by decide +kernel) ?_ | refine WC.draw 11 rfl (by decide +kernel) ?_ | refine WC.draw 12 rfl (by decide +kernel) ?_ | refine WC.draw 13 rfl (by decide +kernel) ?_ | refine WC.draw 14 rfl (by decide +kernel) ?_ | refine WC.draw 15 rfl (by decide +kernel) ?_ | refine WC.draw 16 rfl (by decide +kernel) ?_ | refine WC.draw 17 rfl (by decide +kernel) ?_ | refine WC.draw 18 rfl (by decide +kernel) ?_ | refine WC.draw 19 rfl (by decide +kernel) ?_ | refine WC.draw 20 rfl (by decide +kernel) ?_ | refine WC.draw 21 rfl (by decide +kernel) ?_ | refine WC.draw 22 rfl (by decide +kernel) ?_ | refine WC.draw 23 rfl (by decide +kernel) ?_ | refine WC.draw 24 rfl (by decide +kernel) ?_)); (repeat (refine WD.cons rfl (fun c h => by cases h) sq_D15_1 ?_)); refine WD.nil ?_)); (try (refine st ?_; (repeat intro zzc))))); (repeat ((first | (refine WL.indexAddrA rfl rfl (by (first | with_reducible exact natz _ | with_reducible exact natz0 | with_reducible exact natz1 | with_reducible exact natz2 | with_reducible exact natz3 | with_reducible exact natz4 | with_reducible exact natz8 | (apply natz_add; (· first | with_reducible exact natz _ | with_reducible exact natz0 | with_reducible exact natz1 | with_reducible exact natz2 | with_reducible exact natz3 | with_reducible exact natz4 | with_reducible exact natz8); (· first | with_reducible exact natz _ | with_reducible exact natz0 | with_reducible exact natz1 | with_reducible exact natz2 | with_reducible exact natz3 | with_reducible exact natz4 | with_reducible exact natz8)) | (apply natz_sub; (· first | with_reducible exact natz _ | with_reducible exact natz0 | with_reducible exact natz1 | with_reducible exact natz2 | with_reducible exact natz3 | with_reducible exact natz4 | with_reducible exact natz8); (· first | with_reducible exact natz _ | with_reducible exact natz0 | with_reducible exact natz1 | with_reducible exact natz2 | with_reducible exact natz3 | with_reducible exact natz4 | with_reducible exact natz8); (· omega)) | exact (Int.toNat_of_nonneg (by omega)).symm)) rfl rfl (by omega) rfl rfl ?_) | ((refine iDraw ?_; (first | refine WC.drawAll rfl (by decide +kernel) ?_ | refine WC.draw 1 rfl (by decide +kernel) ?_ | refine WC.draw 2 rfl (by decide +kernel) ?_ | refine WC.draw 3 rfl (by decide +kernel) ?_ | refine WC.draw 4 rfl (by decide +kernel) ?_ | refine WC.draw 5 rfl (by decide +kernel) ?_ | refine WC.draw 6 rfl (by decide +kernel) ?_ | refine WC.draw 7 rfl (by decide +kernel) ?_ | refine WC.draw 8 rfl (by decide +kernel) ?_ | refine WC.draw 9 rfl (by decide +kernel) ?_ | refine WC.draw 10 rfl (by decide +kernel) ?_ | refine WC.draw 11 rfl (by decide +kernel) ?_ | refine WC.draw 12 rfl (by decide +kernel) ?_ | refine WC.draw 13 rfl (by decide +kernel) ?_ | refine WC.draw 14 rfl (by decide +kernel) ?_ | refine WC.draw 15 rfl (by decide +kernel) ?_ | refine WC.draw 16 rfl (by decide +kernel) ?_ | refine WC.draw 17 rfl (by decide +kernel) ?_ | refine WC.draw 18 rfl (by decide +kernel) ?_ | refine WC.draw 19 rfl (by decide +kernel) ?_ | refine WC.draw 20 rfl (by decide +kernel) ?_ | refine WC.draw 21 rfl (by decide +kernel) ?_ | refine WC.draw 22 rfl (by decide +kernel) ?_ | refine WC.draw 23 rfl (by decide +kernel) ?_ | refine WC.draw 24 rfl (by decide +kernel) ?_)); (repeat (refine WD.cons rfl (fun c h => by cases h) sq_D15_1 ?_)); refine WD.nil ?_)); (try (refine st ?_; (repeat intro zzc))))); (repeat revert zzc); exact zzn.out) : G := h ⟨next⟩
theorem fill_own {X Y : List Tx} {M : List (Nat × Nat)} {a : Option Addr} {cp bm bm2 bx by_ bz : Nat} {w0 : World} {m : Mem} {H : SHeap} {Q : Exit → Act → World → Prop} (hM : PrOk X Y 0 0 M X.length Y.length) (hl : M.length ≤ 4194304) (hX : X.length ≤ 4194304 ∧ Y.length ≤ 4194304)
    (hK : WQ 116 w0 Q (.exit 0) [(12, .map (some bm)), (9, .pointer (some ⟨bx, 0, none⟩)), (10, .pointer (some ⟨by_, 0, none⟩)), (11, .pointer (some ⟨bz, 0, none⟩)), (13, .map (some bm2))] [] m (.blk bm (mapO .i64 (kv M)) :: H)) :
    WC Try.prog none 116 w0 ((loopsIn (Try.f8.body.getD .skip)).getD 0 .skip) Q [(45, .int .i64 0), (44, .int .i64 (M.length : Int)), (43, .slice a M.length cp), (12, .map (some bm)), (9, .pointer (some ⟨bx, 0, none⟩)), (10, .pointer (some ⟨by_, 0, none⟩)), (11, .pointer (some ⟨bz, 0, none⟩)), (13, .map (some bm2))] [] m
      (.blk bm (mapO .i64 []) :: .row a cp 44 2 (M.map prE) :: H) := by
  have hml : (M.map prE).length = M.length := List.length_map _
  rw [show ([] : List (Int × Value)) = kv (M.take 0) from by unfold kv; rfl]
  refine WC.loopH [(45, .int .i64 ((0) : Int)), (44, .int .i64 (M.length : Int)), (43, .slice a M.length cp), (12, .map (some bm)), (9, .pointer (some ⟨bx, 0, none⟩)), (10, .pointer (some ⟨by_, 0, none⟩)), (11, .pointer (some ⟨bz, 0, none⟩)), (13, .map (some bm2))] ?_ ?_ (fun j r ds m' H' => ∃ i, j = M.length - i ∧ r = [(45, .int .i64 (i : Int)), (44, .int .i64 (M.length : Int)), (43, .slice a M.length cp), (12, .map (some bm)), (9, .pointer (some ⟨bx, 0, none⟩)), (10, .pointer (some ⟨by_, 0, none⟩)), (11, .pointer (some ⟨bz, 0, none⟩)), (13, .map (some bm2))] ∧ ds = [] ∧ m = m' ∧ H' = .blk bm (mapO .i64 (kv (M.take i))) :: .row a cp 44 2 (M.map prE) :: H ∧ (i ≤ M.length)) (M.length - (0)) ⟨0, rfl, rfl, rfl, rfl, rfl, by omega⟩ ?_
  · (repeat (first | exact Env.Sub.nil | refine Env.Sub.cons rfl ?_))
  · exact zpk
  rintro j r ds m' H' ⟨i, rfl, rfl, rfl, rfl, rfl, hi⟩
  by_cases hlt : i < M.length
  · obtain ⟨p, hp⟩ : ∃ p, M[i]? = some p := ⟨_, List.getElem?_eq_getElem hlt⟩
    have hgp : (M.map prE)[i]? = some [.int .i64 (p.1 : Int), .int .i64 (p.2 : Int)] := by rw [List.getElem?_map, hp]; rfl
    have hnew : (kv (M.take i)).lookup (p.1 : Int) = none := by
      rw [kv_lookup, hM.fresh (A := M.take i) (p := p) (B := M.drop (i + 1)) (by
        obtain ⟨h1, h2⟩ := List.getElem?_eq_some_iff.1 hp
        conv => lhs; rw [← List.take_append_drop i M, List.drop_eq_getElem_cons h1, h2])]
      rfl
    have hsnoc : kv (M.take i) ++ [((p.1 : Int), Value.int .i64 (p.2 : Int))] = kv (M.take (i + 1)) := by
      unfold kv
      rw [List.take_succ, hp]; simp
    generalize M.map prE = ME at *
    generalize kv (M.take i) = K at *
    refine WC.rowSome zhs (by omega) ?_
    rintro a0 rfl
    (refine st_D15_1 ?_; intros; rename_i bp)
    refine WL.mapNew (q := .i64) (q' := .i64) rfl rfl rfl rfl rfl (by repeat (first | exact Repl.here | apply Repl.there)) hnew ?_
    rw [hsnoc]
    (try (refine st_D15_1 ?_; intros))
    refine WQ.next (M.length - (i + 1)) ⟨i + 1, rfl, rfl, rfl, rfl, rfl, ?_⟩ (by omega) zsb zpk
    · omega
  · rw [List.take_of_length_le (by omega)]
    (try (refine st_D15_1 ?_; intros))
    exact WQ.weak zsb zpk hK
theorem fill_other {X Y : List Tx} {M : List (Nat × Nat)} {a : Option Addr} {cp bm bm2 bx by_ bz : Nat} {w0 : World} {m : Mem} {H : SHeap} {Q : Exit → Act → World → Prop} (hM : PrOk X Y 0 0 M X.length Y.length) (hl : M.length ≤ 4194304) (hX : X.length ≤ 4194304 ∧ Y.length ≤ 4194304)
    (hK : WQ 116 w0 Q (.exit 2) [(13, .map (some bm)), (9, .pointer (some ⟨bx, 0, none⟩)), (10, .pointer (some ⟨by_, 0, none⟩)), (11, .pointer (some ⟨bz, 0, none⟩)), (12, .map (some bm2))] [] m (.blk bm (mapO .i64 (kv M)) :: H)) :
    WC Try.prog none 116 w0 ((loopsIn (Try.f8.body.getD .skip)).getD 1 .skip) Q [(59, .int .i64 0), (58, .int .i64 (M.length : Int)), (57, .slice a M.length cp), (13, .map (some bm)), (9, .pointer (some ⟨bx, 0, none⟩)), (10, .pointer (some ⟨by_, 0, none⟩)), (11, .pointer (some ⟨bz, 0, none⟩)), (12, .map (some bm2))] [] m
      (.blk bm (mapO .i64 []) :: .row a cp 44 2 (M.map prE) :: H) := by
  have hml : (M.map prE).length = M.length := List.length_map _
  rw [show ([] : List (Int × Value)) = kv (M.take 0) from by unfold kv; rfl]
  refine WC.loopH [(59, .int .i64 ((0) : Int)), (58, .int .i64 (M.length : Int)), (57, .slice a M.length cp), (13, .map (some bm)), (9, .pointer (some ⟨bx, 0, none⟩)), (10, .pointer (some ⟨by_, 0, none⟩)), (11, .pointer (some ⟨bz, 0, none⟩)), (12, .map (some bm2))] ?_ ?_ (fun j r ds m' H' => ∃ i, j = M.length - i ∧ r = [(59, .int .i64 (i : Int)), (58, .int .i64 (M.length : Int)), (57, .slice a M.length cp), (13, .map (some bm)), (9, .pointer (some ⟨bx, 0, none⟩)), (10, .pointer (some ⟨by_, 0, none⟩)), (11, .pointer (some ⟨bz, 0, none⟩)), (12, .map (some bm2))] ∧ ds = [] ∧ m = m' ∧ H' = .blk bm (mapO .i64 (kv (M.take i))) :: .row a cp 44 2 (M.map prE) :: H ∧ (i ≤ M.length)) (M.length - (0)) ⟨0, rfl, rfl, rfl, rfl, rfl, by omega⟩ ?_
  · (repeat (first | exact Env.Sub.nil | refine Env.Sub.cons rfl ?_))
  · exact zpk
  rintro j r ds m' H' ⟨i, rfl, rfl, rfl, rfl, rfl, hi⟩
  by_cases hlt : i < M.length
  · obtain ⟨p, hp⟩ : ∃ p, M[i]? = some p := ⟨_, List.getElem?_eq_getElem hlt⟩
    have hgp : (M.map prE)[i]? = some [.int .i64 (p.1 : Int), .int .i64 (p.2 : Int)] := by rw [List.getElem?_map, hp]; rfl
    have hnew : (kv (M.take i)).lookup (p.1 : Int) = none := by
      rw [kv_lookup, hM.fresh (A := M.take i) (p := p) (B := M.drop (i + 1)) (by
        obtain ⟨h1, h2⟩ := List.getElem?_eq_some_iff.1 hp
        conv => lhs; rw [← List.take_append_drop i M, List.drop_eq_getElem_cons h1, h2])]
      rfl
    have hsnoc : kv (M.take i) ++ [((p.1 : Int), Value.int .i64 (p.2 : Int))] = kv (M.take (i + 1)) := by
      unfold kv
      rw [List.take_succ, hp]; simp
    generalize M.map prE = ME at *
    generalize kv (M.take i) = K at *
    refine WC.rowSome zhs (by omega) ?_
    rintro a0 rfl
    (refine st_D15_1 ?_; intros; rename_i bp)
    refine WL.mapNew (q := .i64) (q' := .i64) rfl rfl rfl rfl rfl (by repeat (first | exact Repl.here | apply Repl.there)) hnew ?_
    rw [hsnoc]
    (try (refine st_D15_1 ?_; intros))
    refine WQ.next (M.length - (i + 1)) ⟨i + 1, rfl, rfl, rfl, rfl, rfl, ?_⟩ (by omega) zsb zpk
    · omega
  · rw [List.take_of_length_le (by omega)]
    (try (refine st_D15_1 ?_; intros))
    exact WQ.weak zsb zpk hK
end Go.Proofs.Ytieangfnjflfmaa

