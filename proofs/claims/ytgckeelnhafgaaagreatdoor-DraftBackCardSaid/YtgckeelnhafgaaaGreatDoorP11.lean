/-
  Parts of a walk, joined. No condition.
-/
import Derived.Test.YtgckeelnhafgaaaGreatDoorP10
set_option linter.all false
set_option maxRecDepth 100000
set_option maxHeartbeats 4000000
open Go.Proofs Go.Proofs.YtgckeelnhafgaaaGreatDoor
open Tryz
open Go Go.Eng
variable {P : Program} {ro : Option Nat} {n : Nat} {w0 : World} {Q : Exit → Act → World → Prop} {r : Env} {ds : List Dfr} {m : Mem} {H : SHeap} {ops : Array Oper} {l : List Oper} {d : Nat} {ty : TypeId} {pos : String} {after : Array Edge}
attribute [local irreducible] WL WC WQ QFun zJ Does Q1 zD zB Go.Addr.add
namespace Go.Eng
open Go Go.RowKit
def tkE (ts : List Tk) : List (List Value) := ts.map Tk.cs
theorem ChU.len : ∀ {us : List Un} {a z : Nat}, ChU a us z → us.length ≤ z - a
 | [], _, _, _ => Nat.zero_le _
 | u :: us, a, z, h => by
  obtain ⟨h1, h2, h3⟩ := h
  have := ChU.len h3
  have := ChU.le h3
  rw [List.length_cons]; omega
end Go.Eng
namespace ZP
open Go Go.Eng
attribute [local irreducible] usE tkE unitsL rToks tokens runU
namespace ZXD231
end ZXD231
end ZP
namespace Go.Eng
open Go
end Go.Eng
namespace ZP
open Go Go.Eng
attribute [local irreducible] tkE strs tokens toks
end ZP
namespace ZP
open Go Go.Eng
attribute [local irreducible] midL strs yA mid yI tailP yE toks
end ZP
namespace Go.Eng
open Go
def filled (n k i : Nat) : List Nat := List.replicate i k ++ List.replicate (n - i) 0
end Go.Eng
namespace ZP
open Go Go.Eng
attribute [local irreducible] setAll orgK toks filled
namespace ZD74a
theorem zal {G G' : Prop} (next : G') (h : Bx G' → G := by intro zzn; (first | (refine WL.indexAddrA rfl rfl (by exact znz) rfl rfl (by omega) rfl rfl ?_)); (repeat revert zzf); exact zzn.out) : G := h ⟨next⟩
end ZD74a
end ZP
