/-
  Parts of a walk, joined. No condition.
-/
import Derived.Test.YtgckeelnhafgaaaGreatDoorP9
set_option linter.all false
set_option maxRecDepth 100000
set_option maxHeartbeats 4000000
open Go.Proofs Go.Proofs.YtgckeelnhafgaaaGreatDoor
open Tryz
open Go Go.Eng
variable {P : Program} {ro : Option Nat} {n : Nat} {w0 : World} {Q : Exit → Act → World → Prop} {r : Env} {ds : List Dfr} {m : Mem} {H : SHeap} {ops : Array Oper} {l : List Oper} {d : Nat} {ty : TypeId} {pos : String} {after : Array Edge}
attribute [local irreducible] WL WC WQ QFun zJ Does Q1 zD zB Go.Addr.add
namespace ZP
open Go Go.Eng
attribute [local irreducible] Great Small Wide kindN
theorem zKU (a b c : Int) (w0 : World) (m : Mem) (H : SHeap) : Does Tryz.prog 230 #[.int .i32 a, .int .i32 b, .int .i32 c] w0 m H (Gives (.bool (dcd (b ≤ a ∧ a ≤ c))) m H) := by
 refine Does.of_body func230 rfl ntmps230 rfl ?_
 (repeat' (first | (refine st ?_; intros) | (first | refine wG (fun h1 => ?_) (fun h1 => ?_) | refine xF (fun h1 => ?_) (fun h1 => ?_) | refine xA (fun h1 => ?_) (fun h1 => ?_) | refine yK (fun h1 => ?_) (fun h1 => ?_))))
 all_goals ((refine zR ?_); refine Gives.mk (congrArg _ ?_))
 all_goals first | (refine kQ ?_; omega) | (refine zAu ?_; omega) | (refine xW ?_; omega)
namespace ZC3a
theorem zal {G G' : Prop} (next : G') (h : Bx G' → G := by intro zzn; (first | (refine iF 230 rfl ?_; refine zU func230 ?_ (hs := zKU _ _ _ _ _ _))); (repeat revert zzf); exact zzn.out) : G := h ⟨next⟩
end ZC3a
open ZC3a in
theorem zD4 (r : Nat) (hr : r ≤ 1114111) (w0 : World) (m : Mem) (H : SHeap) : Does Tryz.prog 231 #[.int .i32 (r : Int)] w0 m H (Gives (.bool (dcd (Great r))) m H) := by
 refine Does.of_body func231 rfl ntmps231 rfl ?_
 (repeat' (first | (refine stg ?_; intros) | (first | refine wG (fun h1 => ?_) (fun h1 => ?_) | refine xF (fun h1 => ?_) (fun h1 => ?_) | refine xA (fun h1 => ?_) (fun h1 => ?_) | refine yK (fun h1 => ?_) (fun h1 => ?_))))
 all_goals ((refine zR ?_); refine Gives.mk (congrArg _ ?_))
 all_goals first | (refine kQ ?_; unfold Great; omega) | (refine zAu ?_; unfold Great; omega) | (refine xW ?_; unfold Great; omega) | (rw [zDo]; refine xW ?_; unfold Great; omega)
open ZC3a in
theorem zD6 (r : Nat) (hr : r ≤ 1114111) (w0 : World) (m : Mem) (H : SHeap) : Does Tryz.prog 232 #[.int .i32 (r : Int)] w0 m H (Gives (.bool (dcd (Small r))) m H) := by
 refine Does.of_body func232 rfl ntmps232 rfl ?_
 (repeat' (first | (refine stg ?_; intros) | (first | refine wG (fun h1 => ?_) (fun h1 => ?_) | refine xF (fun h1 => ?_) (fun h1 => ?_) | refine xA (fun h1 => ?_) (fun h1 => ?_) | refine yK (fun h1 => ?_) (fun h1 => ?_))))
 all_goals ((refine zR ?_); refine Gives.mk (congrArg _ ?_))
 all_goals first | (refine kQ ?_; unfold Small; omega) | (refine zAu ?_; unfold Small; omega) | (refine xW ?_; unfold Small; omega) | (rw [zDo]; refine xW ?_; unfold Small; omega)
namespace ZC3b
theorem zal {G G' : Prop} (next : G') (h : Bx G' → G := by intro zzn; (first | (refine ZC3a.zal ?_; (repeat intro zzf)) | (refine iF 231 rfl ?_; refine zU func231 ?_ (hs := zD4 _ (by omega) _ _ _)) | (refine iF 232 rfl ?_; refine zU func232 ?_ (hs := zD6 _ (by omega) _ _ _))); (repeat revert zzf); exact zzn.out) : G := h ⟨next⟩
end ZC3b
open ZC3b in
theorem zFa (r : Nat) (hr : r ≤ 1114111) (ho : r < 55296 ∨ 57343 < r) (w0 : World) (m : Mem) (H : SHeap) : Does Tryz.prog 208 #[.int .i32 (r : Int)] w0 m H (Gives (.int .i64 (kindN r : Int)) m H) := by
 refine Does.of_body func208 rfl ntmps208 rfl ?_
 (repeat' (first | (refine stg ?_; intros) | (first | refine wG (fun h1 => ?_) (fun h1 => ?_) | refine xF (fun h1 => ?_) (fun h1 => ?_) | refine xA (fun h1 => ?_) (fun h1 => ?_) | refine yK (fun h1 => ?_) (fun h1 => ?_))))
 all_goals ((refine zR ?_); refine Gives.mk (congrArg _ ?_))
 all_goals first | (have hk := kI (r := r) (.inl (by assumption)); omega) | (have hk := kI (r := r) (.inr (by assumption)); omega) | (have hk := zEv (r := r) (not_or.2 ⟨by assumption, by assumption⟩); unfold Blank Dash Quote Point Ctl at hk; omega)
end ZP
namespace Go.Eng
open Go
def optU : Option Un → List Un
 | none => []
 | some u => [u]
end Go.Eng
namespace ZP
open Go Go.Eng
attribute [local irreducible] Wide kindN kindP colP zK zC dl xD uGo usE
namespace ZD22a
theorem zal {G G' : Prop} (next : G') (h : Bx G' → G := by intro zzn; (first | (refine iF 208 rfl ?_; refine zU func208 ?_ (hs := zFa _ (by omega) (by omega) _ _ _))); (repeat revert zzf); exact zzn.out) : G := h ⟨next⟩
end ZD22a
end ZP
namespace Go.Eng
open Go
def rToks (us : List Un) : List Tk := rTok us.length us
end Go.Eng
