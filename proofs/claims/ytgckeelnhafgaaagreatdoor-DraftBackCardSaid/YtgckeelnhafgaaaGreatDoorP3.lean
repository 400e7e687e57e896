/-
  Parts of a walk, joined. No condition.
-/
import Derived.Test.YtgckeelnhafgaaaGreatDoorP2
import Derived.Test.YtgckeelnhafgaaaGreatDoorProg
set_option linter.all false
set_option maxRecDepth 100000
set_option maxHeartbeats 4000000
open Go.Proofs Go.Proofs.YtgckeelnhafgaaaGreatDoor
open Tryz
open Go Go.Eng
variable {P : Program} {ro : Option Nat} {n : Nat} {w0 : World} {Q : Exit → Act → World → Prop} {r : Env} {ds : List Dfr} {m : Mem} {H : SHeap} {ops : Array Oper} {l : List Oper} {d : Nat} {ty : TypeId} {pos : String} {after : Array Edge}
namespace Go.Eng
open Go Go.RowKit
section
variable {dst : Option Nat} {op : Op} {c : Code} {e : Exit}
theorem iWL (h : WL P ro n w0 ops Q l r ds m H) : WL P ro n w0 ops Q l r ds m H := h
theorem iWC (h : WC P ro n w0 c Q r ds m H) : WC P ro n w0 c Q r ds m H := h
theorem iWQ (h : WQ n w0 Q e r ds m H) : WQ n w0 Q e r ds m H := h
theorem iDraw {id : Nat} {lo : List Oper} (h : WC P ro n w0 (.region id lo.toArray true) Q r ds m H) : WC P ro n w0 (.region id lo.toArray true) Q r ds m H := h
theorem iN (h : WL P ro n w0 ops Q (⟨dst, op, ty, pos, after, none⟩ :: l) r ds m H) : WL P ro n w0 ops Q (⟨dst, op, ty, pos, after, none⟩ :: l) r ds m H := h
theorem iG {g : Nat × Bool} (h : WL P ro n w0 ops Q (⟨dst, op, ty, pos, after, some g⟩ :: l) r ds m H) : WL P ro n w0 ops Q (⟨dst, op, ty, pos, after, some g⟩ :: l) r ds m H := h
def isF (f : Nat) : Op → Bool
 | .call ⟨.value (.func g), _, _⟩ => Nat.beq g f
 | _ => false
theorem iF (f : Nat) (_hk : isF f op = true) (h : WL P ro n w0 ops Q (⟨dst, op, ty, pos, after, none⟩ :: l) r ds m H) : WL P ro n w0 ops Q (⟨dst, op, ty, pos, after, none⟩ :: l) r ds m H := h
def isConv : Op → Bool
 | .convert .. => true
 | _ => false
theorem iConv (_hk : isConv op = true) (h : WL P ro n w0 ops Q (⟨dst, op, ty, pos, after, none⟩ :: l) r ds m H) : WL P ro n w0 ops Q (⟨dst, op, ty, pos, after, none⟩ :: l) r ds m H := h
def isApp : Op → Bool
 | .call ⟨.builtin .append, _, _⟩ => true
 | _ => false
def isEq : Op → Bool
 | .binOp .eql .. => true
 | _ => false
def isNe : Op → Bool
 | .binOp .neq .. => true
 | _ => false
theorem zJY (_hk : isEq op = true) (h : WL P ro n w0 ops Q (⟨dst, op, ty, pos, after, none⟩ :: l) r ds m H) : WL P ro n w0 ops Q (⟨dst, op, ty, pos, after, none⟩ :: l) r ds m H := h
theorem zJ3 (_hk : isNe op = true) (h : WL P ro n w0 ops Q (⟨dst, op, ty, pos, after, none⟩ :: l) r ds m H) : WL P ro n w0 ops Q (⟨dst, op, ty, pos, after, none⟩ :: l) r ds m H := h
def clsA : Op → Bool
 | .move _ | .assign _ | .extract _ _ | .field _ _ _ => true
 | _ => false
theorem iA (_hk : clsA op = true) (h : WL P ro n w0 ops Q (⟨dst, op, ty, pos, after, none⟩ :: l) r ds m H) : WL P ro n w0 ops Q (⟨dst, op, ty, pos, after, none⟩ :: l) r ds m H := h
def clsB : Op → Bool
 | .binOp _ _ _ _ _ | .unOp _ _ _ | .convert _ _ _ | .pick _ _ _ => true
 | _ => false
theorem iB (_hk : clsB op = true) (h : WL P ro n w0 ops Q (⟨dst, op, ty, pos, after, none⟩ :: l) r ds m H) : WL P ro n w0 ops Q (⟨dst, op, ty, pos, after, none⟩ :: l) r ds m H := h
def clsC : Op → Bool
 | .load _ _ | .fieldAddr _ _ _ | .indexAddr _ _ _ | .store _ _ _ | .alloc _ | .box _ _ | .nilCheck _ => true
 | _ => false
theorem iC (_hk : clsC op = true) (h : WL P ro n w0 ops Q (⟨dst, op, ty, pos, after, none⟩ :: l) r ds m H) : WL P ro n w0 ops Q (⟨dst, op, ty, pos, after, none⟩ :: l) r ds m H := h
def clsD (op : Op) : Bool := !(clsA op || clsB op || clsC op)
theorem iD (_hk : clsD op = true) (h : WL P ro n w0 ops Q (⟨dst, op, ty, pos, after, none⟩ :: l) r ds m H) : WL P ro n w0 ops Q (⟨dst, op, ty, pos, after, none⟩ :: l) r ds m H := h
end
def kK1 : Op → Bool
 | .move .. => true
 | _ => false
section
variable {dst : Option Nat} {op : Op}
theorem iK1 (_hk : kK1 op = true) (h : WL P ro n w0 ops Q (⟨dst, op, ty, pos, after, none⟩ :: l) r ds m H) : WL P ro n w0 ops Q (⟨dst, op, ty, pos, after, none⟩ :: l) r ds m H := h
end
def kK2 : Op → Bool
 | .assign .. => true
 | _ => false
section
variable {dst : Option Nat} {op : Op}
theorem iK2 (_hk : kK2 op = true) (h : WL P ro n w0 ops Q (⟨dst, op, ty, pos, after, none⟩ :: l) r ds m H) : WL P ro n w0 ops Q (⟨dst, op, ty, pos, after, none⟩ :: l) r ds m H := h
end
def kK3 : Op → Bool
 | .extract .. => true
 | _ => false
section
variable {dst : Option Nat} {op : Op}
theorem iK3 (_hk : kK3 op = true) (h : WL P ro n w0 ops Q (⟨dst, op, ty, pos, after, none⟩ :: l) r ds m H) : WL P ro n w0 ops Q (⟨dst, op, ty, pos, after, none⟩ :: l) r ds m H := h
end
def kK4 : Op → Bool
 | .field .. => true
 | _ => false
section
variable {dst : Option Nat} {op : Op}
theorem iK4 (_hk : kK4 op = true) (h : WL P ro n w0 ops Q (⟨dst, op, ty, pos, after, none⟩ :: l) r ds m H) : WL P ro n w0 ops Q (⟨dst, op, ty, pos, after, none⟩ :: l) r ds m H := h
end
def kK5 : Op → Bool
 | .binOp .lss .. => true
 | _ => false
section
variable {dst : Option Nat} {op : Op}
theorem iK5 (_hk : kK5 op = true) (h : WL P ro n w0 ops Q (⟨dst, op, ty, pos, after, none⟩ :: l) r ds m H) : WL P ro n w0 ops Q (⟨dst, op, ty, pos, after, none⟩ :: l) r ds m H := h
end
def kK6 : Op → Bool
 | .binOp .leq .. => true
 | _ => false
section
variable {dst : Option Nat} {op : Op}
theorem iK6 (_hk : kK6 op = true) (h : WL P ro n w0 ops Q (⟨dst, op, ty, pos, after, none⟩ :: l) r ds m H) : WL P ro n w0 ops Q (⟨dst, op, ty, pos, after, none⟩ :: l) r ds m H := h
end
def kK7 : Op → Bool
 | .binOp .gtr .. => true
 | _ => false
section
variable {dst : Option Nat} {op : Op}
theorem iK7 (_hk : kK7 op = true) (h : WL P ro n w0 ops Q (⟨dst, op, ty, pos, after, none⟩ :: l) r ds m H) : WL P ro n w0 ops Q (⟨dst, op, ty, pos, after, none⟩ :: l) r ds m H := h
end
def kK8 : Op → Bool
 | .binOp .geq .. => true
 | _ => false
section
variable {dst : Option Nat} {op : Op}
theorem iK8 (_hk : kK8 op = true) (h : WL P ro n w0 ops Q (⟨dst, op, ty, pos, after, none⟩ :: l) r ds m H) : WL P ro n w0 ops Q (⟨dst, op, ty, pos, after, none⟩ :: l) r ds m H := h
end
def kK9 : Op → Bool
 | .binOp .eql .. => true
 | _ => false
section
variable {dst : Option Nat} {op : Op}
theorem iK9 (_hk : kK9 op = true) (h : WL P ro n w0 ops Q (⟨dst, op, ty, pos, after, none⟩ :: l) r ds m H) : WL P ro n w0 ops Q (⟨dst, op, ty, pos, after, none⟩ :: l) r ds m H := h
end
def kK10 : Op → Bool
 | .binOp .neq .. => true
 | _ => false
section
variable {dst : Option Nat} {op : Op}
theorem iK10 (_hk : kK10 op = true) (h : WL P ro n w0 ops Q (⟨dst, op, ty, pos, after, none⟩ :: l) r ds m H) : WL P ro n w0 ops Q (⟨dst, op, ty, pos, after, none⟩ :: l) r ds m H := h
end
def kK11 : Op → Bool
 | .binOp .add .. => true
 | _ => false
section
variable {dst : Option Nat} {op : Op}
theorem iK11 (_hk : kK11 op = true) (h : WL P ro n w0 ops Q (⟨dst, op, ty, pos, after, none⟩ :: l) r ds m H) : WL P ro n w0 ops Q (⟨dst, op, ty, pos, after, none⟩ :: l) r ds m H := h
end
def kK12 : Op → Bool
 | .binOp .sub .. => true
 | _ => false
section
variable {dst : Option Nat} {op : Op}
theorem iK12 (_hk : kK12 op = true) (h : WL P ro n w0 ops Q (⟨dst, op, ty, pos, after, none⟩ :: l) r ds m H) : WL P ro n w0 ops Q (⟨dst, op, ty, pos, after, none⟩ :: l) r ds m H := h
end
def kK13 : Op → Bool
 | .binOp .mul .. => true
 | _ => false
section
variable {dst : Option Nat} {op : Op}
theorem iK13 (_hk : kK13 op = true) (h : WL P ro n w0 ops Q (⟨dst, op, ty, pos, after, none⟩ :: l) r ds m H) : WL P ro n w0 ops Q (⟨dst, op, ty, pos, after, none⟩ :: l) r ds m H := h
end
def kK14 : Op → Bool
 | .binOp .quo .. => true
 | _ => false
section
variable {dst : Option Nat} {op : Op}
theorem iK14 (_hk : kK14 op = true) (h : WL P ro n w0 ops Q (⟨dst, op, ty, pos, after, none⟩ :: l) r ds m H) : WL P ro n w0 ops Q (⟨dst, op, ty, pos, after, none⟩ :: l) r ds m H := h
end
def kK15 : Op → Bool
 | .binOp .rem .. => true
 | _ => false
section
variable {dst : Option Nat} {op : Op}
theorem iK15 (_hk : kK15 op = true) (h : WL P ro n w0 ops Q (⟨dst, op, ty, pos, after, none⟩ :: l) r ds m H) : WL P ro n w0 ops Q (⟨dst, op, ty, pos, after, none⟩ :: l) r ds m H := h
end
def kK16 : Op → Bool
 | .binOp .shl .. => true
 | _ => false
section
variable {dst : Option Nat} {op : Op}
theorem iK16 (_hk : kK16 op = true) (h : WL P ro n w0 ops Q (⟨dst, op, ty, pos, after, none⟩ :: l) r ds m H) : WL P ro n w0 ops Q (⟨dst, op, ty, pos, after, none⟩ :: l) r ds m H := h
end
def kK17 : Op → Bool
 | .binOp .shr .. => true
 | _ => false
section
variable {dst : Option Nat} {op : Op}
theorem iK17 (_hk : kK17 op = true) (h : WL P ro n w0 ops Q (⟨dst, op, ty, pos, after, none⟩ :: l) r ds m H) : WL P ro n w0 ops Q (⟨dst, op, ty, pos, after, none⟩ :: l) r ds m H := h
end
def kK18 : Op → Bool
 | .binOp .and .. => true
 | _ => false
section
variable {dst : Option Nat} {op : Op}
theorem iK18 (_hk : kK18 op = true) (h : WL P ro n w0 ops Q (⟨dst, op, ty, pos, after, none⟩ :: l) r ds m H) : WL P ro n w0 ops Q (⟨dst, op, ty, pos, after, none⟩ :: l) r ds m H := h
end
def kK19 : Op → Bool
 | .binOp .or .. => true
 | _ => false
section
variable {dst : Option Nat} {op : Op}
theorem iK19 (_hk : kK19 op = true) (h : WL P ro n w0 ops Q (⟨dst, op, ty, pos, after, none⟩ :: l) r ds m H) : WL P ro n w0 ops Q (⟨dst, op, ty, pos, after, none⟩ :: l) r ds m H := h
end
def kK20 : Op → Bool
 | .unOp .not .. => true
 | _ => false
section
variable {dst : Option Nat} {op : Op}
theorem iK20 (_hk : kK20 op = true) (h : WL P ro n w0 ops Q (⟨dst, op, ty, pos, after, none⟩ :: l) r ds m H) : WL P ro n w0 ops Q (⟨dst, op, ty, pos, after, none⟩ :: l) r ds m H := h
end
def kK21 : Op → Bool
 | .unOp .neg .. => true
 | _ => false
section
variable {dst : Option Nat} {op : Op}
theorem iK21 (_hk : kK21 op = true) (h : WL P ro n w0 ops Q (⟨dst, op, ty, pos, after, none⟩ :: l) r ds m H) : WL P ro n w0 ops Q (⟨dst, op, ty, pos, after, none⟩ :: l) r ds m H := h
end
def kK22 : Op → Bool
 | .convert .. => true
 | _ => false
section
variable {dst : Option Nat} {op : Op}
theorem iK22 (_hk : kK22 op = true) (h : WL P ro n w0 ops Q (⟨dst, op, ty, pos, after, none⟩ :: l) r ds m H) : WL P ro n w0 ops Q (⟨dst, op, ty, pos, after, none⟩ :: l) r ds m H := h
end
def kK23 : Op → Bool
 | .pick .. => true
 | _ => false
section
variable {dst : Option Nat} {op : Op}
theorem iK23 (_hk : kK23 op = true) (h : WL P ro n w0 ops Q (⟨dst, op, ty, pos, after, none⟩ :: l) r ds m H) : WL P ro n w0 ops Q (⟨dst, op, ty, pos, after, none⟩ :: l) r ds m H := h
end
def kK24 : Op → Bool
 | .load .. => true
 | _ => false
section
variable {dst : Option Nat} {op : Op}
theorem iK24 (_hk : kK24 op = true) (h : WL P ro n w0 ops Q (⟨dst, op, ty, pos, after, none⟩ :: l) r ds m H) : WL P ro n w0 ops Q (⟨dst, op, ty, pos, after, none⟩ :: l) r ds m H := h
end
def kK25 : Op → Bool
 | .fieldAddr .. => true
 | _ => false
section
variable {dst : Option Nat} {op : Op}
theorem iK25 (_hk : kK25 op = true) (h : WL P ro n w0 ops Q (⟨dst, op, ty, pos, after, none⟩ :: l) r ds m H) : WL P ro n w0 ops Q (⟨dst, op, ty, pos, after, none⟩ :: l) r ds m H := h
end
def kK26 : Op → Bool
 | .indexAddr .. => true
 | _ => false
section
variable {dst : Option Nat} {op : Op}
theorem iK26 (_hk : kK26 op = true) (h : WL P ro n w0 ops Q (⟨dst, op, ty, pos, after, none⟩ :: l) r ds m H) : WL P ro n w0 ops Q (⟨dst, op, ty, pos, after, none⟩ :: l) r ds m H := h
end
def kK27 : Op → Bool
 | .store .. => true
 | _ => false
section
variable {dst : Option Nat} {op : Op}
theorem iK27 (_hk : kK27 op = true) (h : WL P ro n w0 ops Q (⟨dst, op, ty, pos, after, none⟩ :: l) r ds m H) : WL P ro n w0 ops Q (⟨dst, op, ty, pos, after, none⟩ :: l) r ds m H := h
end
def kK28 : Op → Bool
 | .alloc .. => true
 | _ => false
section
variable {dst : Option Nat} {op : Op}
theorem iK28 (_hk : kK28 op = true) (h : WL P ro n w0 ops Q (⟨dst, op, ty, pos, after, none⟩ :: l) r ds m H) : WL P ro n w0 ops Q (⟨dst, op, ty, pos, after, none⟩ :: l) r ds m H := h
end
def kK29 : Op → Bool
 | .box .. => true
 | _ => false
section
variable {dst : Option Nat} {op : Op}
theorem iK29 (_hk : kK29 op = true) (h : WL P ro n w0 ops Q (⟨dst, op, ty, pos, after, none⟩ :: l) r ds m H) : WL P ro n w0 ops Q (⟨dst, op, ty, pos, after, none⟩ :: l) r ds m H := h
end
def kK30 : Op → Bool
 | .nilCheck .. => true
 | _ => false
section
variable {dst : Option Nat} {op : Op}
theorem iK30 (_hk : kK30 op = true) (h : WL P ro n w0 ops Q (⟨dst, op, ty, pos, after, none⟩ :: l) r ds m H) : WL P ro n w0 ops Q (⟨dst, op, ty, pos, after, none⟩ :: l) r ds m H := h
end
def kK31 : Op → Bool
 | .call ⟨.builtin .min, _, _⟩ => true
 | _ => false
section
variable {dst : Option Nat} {op : Op}
theorem iK31 (_hk : kK31 op = true) (h : WL P ro n w0 ops Q (⟨dst, op, ty, pos, after, none⟩ :: l) r ds m H) : WL P ro n w0 ops Q (⟨dst, op, ty, pos, after, none⟩ :: l) r ds m H := h
end
def kK32 : Op → Bool
 | .call ⟨.builtin .max, _, _⟩ => true
 | _ => false
section
variable {dst : Option Nat} {op : Op}
theorem iK32 (_hk : kK32 op = true) (h : WL P ro n w0 ops Q (⟨dst, op, ty, pos, after, none⟩ :: l) r ds m H) : WL P ro n w0 ops Q (⟨dst, op, ty, pos, after, none⟩ :: l) r ds m H := h
end
def kK33 : Op → Bool
 | .call ⟨.builtin .len, _, _⟩ => true
 | _ => false
section
variable {dst : Option Nat} {op : Op}
theorem iK33 (_hk : kK33 op = true) (h : WL P ro n w0 ops Q (⟨dst, op, ty, pos, after, none⟩ :: l) r ds m H) : WL P ro n w0 ops Q (⟨dst, op, ty, pos, after, none⟩ :: l) r ds m H := h
end
def kK34 : Op → Bool
 | .index .. => true
 | _ => false
section
variable {dst : Option Nat} {op : Op}
theorem iK34 (_hk : kK34 op = true) (h : WL P ro n w0 ops Q (⟨dst, op, ty, pos, after, none⟩ :: l) r ds m H) : WL P ro n w0 ops Q (⟨dst, op, ty, pos, after, none⟩ :: l) r ds m H := h
end
def kK35 : Op → Bool
 | .slice .. => true
 | _ => false
section
variable {dst : Option Nat} {op : Op}
theorem iK35 (_hk : kK35 op = true) (h : WL P ro n w0 ops Q (⟨dst, op, ty, pos, after, none⟩ :: l) r ds m H) : WL P ro n w0 ops Q (⟨dst, op, ty, pos, after, none⟩ :: l) r ds m H := h
end
def kK36 : Op → Bool
 | .makeFunc .. => true
 | _ => false
section
variable {dst : Option Nat} {op : Op}
theorem iK36 (_hk : kK36 op = true) (h : WL P ro n w0 ops Q (⟨dst, op, ty, pos, after, none⟩ :: l) r ds m H) : WL P ro n w0 ops Q (⟨dst, op, ty, pos, after, none⟩ :: l) r ds m H := h
end
def kK37 : Op → Bool
 | .makeInterface .. => true
 | _ => false
section
variable {dst : Option Nat} {op : Op}
theorem iK37 (_hk : kK37 op = true) (h : WL P ro n w0 ops Q (⟨dst, op, ty, pos, after, none⟩ :: l) r ds m H) : WL P ro n w0 ops Q (⟨dst, op, ty, pos, after, none⟩ :: l) r ds m H := h
end
def kK38 : Op → Bool
 | .build .. => true
 | _ => false
section
variable {dst : Option Nat} {op : Op}
theorem iK38 (_hk : kK38 op = true) (h : WL P ro n w0 ops Q (⟨dst, op, ty, pos, after, none⟩ :: l) r ds m H) : WL P ro n w0 ops Q (⟨dst, op, ty, pos, after, none⟩ :: l) r ds m H := h
end
def kK39 : Op → Bool
 | .buildSlice .. => true
 | _ => false
section
variable {dst : Option Nat} {op : Op}
theorem iK39 (_hk : kK39 op = true) (h : WL P ro n w0 ops Q (⟨dst, op, ty, pos, after, none⟩ :: l) r ds m H) : WL P ro n w0 ops Q (⟨dst, op, ty, pos, after, none⟩ :: l) r ds m H := h
end
def kK40 : Op → Bool
 | .makeSlice .. => true
 | _ => false
section
variable {dst : Option Nat} {op : Op}
theorem iK40 (_hk : kK40 op = true) (h : WL P ro n w0 ops Q (⟨dst, op, ty, pos, after, none⟩ :: l) r ds m H) : WL P ro n w0 ops Q (⟨dst, op, ty, pos, after, none⟩ :: l) r ds m H := h
end
def kK41 : Op → Bool
 | .range .. => true
 | _ => false
section
variable {dst : Option Nat} {op : Op}
theorem iK41 (_hk : kK41 op = true) (h : WL P ro n w0 ops Q (⟨dst, op, ty, pos, after, none⟩ :: l) r ds m H) : WL P ro n w0 ops Q (⟨dst, op, ty, pos, after, none⟩ :: l) r ds m H := h
end
def kK42 : Op → Bool
 | .next .. => true
 | _ => false
section
variable {dst : Option Nat} {op : Op}
theorem iK42 (_hk : kK42 op = true) (h : WL P ro n w0 ops Q (⟨dst, op, ty, pos, after, none⟩ :: l) r ds m H) : WL P ro n w0 ops Q (⟨dst, op, ty, pos, after, none⟩ :: l) r ds m H := h
end
def kK43 : Op → Bool
 | .call ⟨.builtin .append, _, _⟩ => true
 | _ => false
section
variable {dst : Option Nat} {op : Op}
theorem iK43 (_hk : kK43 op = true) (h : WL P ro n w0 ops Q (⟨dst, op, ty, pos, after, none⟩ :: l) r ds m H) : WL P ro n w0 ops Q (⟨dst, op, ty, pos, after, none⟩ :: l) r ds m H := h
end
structure Bx (p : Prop) : Prop where
 out : p
theorem zdr {G G' : Prop} (next : G') (h : Bx G' → G := by intro zzn; (refine iDraw ?_; (first | refine WC.drawAll rfl (by decide +kernel) ?_ | refine WC.draw 1 rfl (by decide +kernel) ?_ | refine WC.draw 2 rfl (by decide +kernel) ?_ | refine WC.draw 3 rfl (by decide +kernel) ?_ | refine WC.draw 4 rfl (by decide +kernel) ?_ | refine WC.draw 5 rfl (by decide +kernel) ?_ | refine WC.draw 6 rfl (by decide +kernel) ?_ | refine WC.draw 7 rfl (by decide +kernel) ?_ | refine WC.draw 8 rfl (by decide +kernel) ?_ | refine WC.draw 9 rfl (by decide +kernel) ?_ | refine WC.draw 10 rfl (by decide +kernel) ?_ | refine WC.draw 11 rfl (by decide +kernel) ?_ | refine WC.draw 12 rfl (by decide +kernel) ?_ | refine WC.draw 13 rfl (by decide +kernel) ?_ | refine WC.draw 14 rfl (by decide +kernel) ?_ | refine WC.draw 15 rfl (by decide +kernel) ?_ | refine WC.draw 16 rfl (by decide +kernel) ?_ | refine WC.draw 17 rfl (by decide +kernel) ?_ | refine WC.draw 18 rfl (by decide +kernel) ?_ | refine WC.draw 19 rfl (by decide +kernel) ?_ | refine WC.draw 20 rfl (by decide +kernel) ?_ | refine WC.draw 21 rfl (by decide +kernel) ?_ | refine WC.draw 22 rfl (by decide +kernel) ?_ | refine WC.draw 23 rfl (by decide +kernel) ?_ | refine WC.draw 24 rfl (by decide +kernel) ?_)); exact zzn.out) : G := h ⟨next⟩
theorem zlo {P : Program} {w0 : World} {m : Mem} {H : SHeap} {t : TypeId} {a : Addr} {v : Value} (h : Loads P w0 m H t a v := by (first | (apply Loads.one; (· exact rfl); (· first | (apply Cell.blk; (· (repeat (first | exact List.Mem.head _ | apply List.Mem.tail))); (· exact rfl)) | (apply Cell.mem; (· assumption); (· exact rfl)))) | (apply Loads.whole; (· exact rfl); (· exact rfl); (· (repeat (first | exact List.Mem.head _ | apply List.Mem.tail))); (· exact rfl)) | (apply Loads.blk; (· exact rfl); (· exact rfl); (· (repeat (first | exact List.Mem.head _ | apply List.Mem.tail))); (· (repeat (first | exact Seg.nil | (apply Seg.cons; (· exact rfl)))))) | (apply Loads.row; (· (repeat (first | exact List.Mem.head _ | apply List.Mem.tail))); (first | (rotate_left; (· exact rfl); rotate_right; (· assumption)) | ((· assumption); (· exact rfl))); (· exact rfl); (· exact rfl); (· exact rfl)) | (apply Loads.row1; (· (repeat (first | exact List.Mem.head _ | apply List.Mem.tail))); (first | (rotate_left; (· exact rfl); rotate_right; (· assumption)) | ((· assumption); (· exact rfl))); (· exact rfl)) | (apply Loads.rowF; (· (repeat (first | exact List.Mem.head _ | apply List.Mem.tail))); (first | (rotate_left; (· exact rfl); rotate_right; (· assumption)) | ((· assumption); (· exact rfl))); (· exact rfl); (· exact rfl)) | (apply Loads.prow; (· assumption); (first | (rotate_left; (· exact rfl); rotate_right; (· assumption)) | ((· assumption); (· exact rfl))); (· exact rfl); (· exact rfl); (· exact rfl)) | (apply Loads.prow1; (· assumption); (first | (rotate_left; (· exact rfl); rotate_right; (· assumption)) | ((· assumption); (· exact rfl))); (· exact rfl)) | (apply Loads.prowF; (· assumption); (first | (rotate_left; (· exact rfl); rotate_right; (· assumption)) | ((· assumption); (· exact rfl))); (· exact rfl); (· exact rfl)) | (apply Loads.rrow; (· assumption); (first | (rotate_left; (· exact rfl); rotate_right; (· assumption)) | ((· assumption); (· exact rfl))); (· exact rfl); (· exact rfl); (· exact rfl)) | (apply Loads.rrow1; (· assumption); (first | (rotate_left; (· exact rfl); rotate_right; (· assumption)) | ((· assumption); (· exact rfl))); (· exact rfl)) | (apply Loads.rrowF; (· assumption); (first | (rotate_left; (· exact rfl); rotate_right; (· assumption)) | ((· assumption); (· exact rfl))); (· exact rfl); (· exact rfl)) | (apply Loads.rowS; (· (repeat (first | exact List.Mem.head _ | apply List.Mem.tail))); (first | (rotate_left; (· exact rfl); rotate_right; (· assumption)) | ((· assumption); (· exact rfl))); (· exact rfl); (· exact rfl); (· (repeat (first | exact Seg.nil | (apply Seg.cons; (· exact rfl)))))))) : Loads P w0 m H t a v := h
theorem sp {G G' : Prop} (next : G') (h : Bx G' → G := by intro zzn; (repeat1' (refine iWL ?_; (first | (refine iN ?_; (first | (refine iA rfl ?_; (first | (refine iK1 rfl ?_; (first | refine WL.move rfl rfl ?_)) | (refine iK2 rfl ?_; (first | refine WL.assign rfl rfl ?_)) | (refine iK3 rfl ?_; (first | refine WL.extract rfl rfl rfl ?_)) | (refine iK4 rfl ?_; (first | refine WL.field1 rfl rfl rfl rfl rfl ?_)))) | (refine iB rfl ?_; (first | (refine iK5 rfl ?_; (first | refine WL.lss rfl rfl rfl ?_ | refine WL.lssS rfl rfl rfl ?_)) | (refine iK6 rfl ?_; (first | refine WL.leq rfl rfl rfl ?_)) | (refine iK7 rfl ?_; (first | refine WL.gtr rfl rfl rfl ?_)) | (refine iK8 rfl ?_; (first | refine WL.geq rfl rfl rfl ?_)) | (refine iK9 rfl ?_; (first | refine WL.eqlI rfl rfl rfl ?_ | refine WL.eqlS rfl rfl rfl ?_ | refine WL.eqlBool rfl rfl rfl rfl ?_ | refine WL.eqlNilF rfl rfl rfl rfl ?_ | refine WL.eqlNilP rfl rfl rfl rfl ?_ | refine WL.eqlNilSl rfl rfl rfl rfl ?_)) | (refine iK10 rfl ?_; (first | refine WL.neqI rfl rfl rfl ?_ | refine WL.neqS rfl rfl rfl ?_ | refine WL.neqBool rfl rfl rfl rfl ?_ | refine WL.neqNilP rfl rfl rfl rfl ?_ | refine WL.neqNilSl rfl rfl rfl rfl ?_)) | (refine iK11 rfl ?_; (first | refine WL.add64 rfl rfl rfl (by omega) ?_ | refine WL.add32 rfl rfl rfl (by omega) ?_ | refine WL.addu8 rfl rfl rfl (by omega) ?_ | refine WL.addS rfl rfl rfl (by omega) ?_)) | (refine iK12 rfl ?_; (first | refine WL.sub64 rfl rfl rfl (by omega) ?_ | refine WL.sub32 rfl rfl rfl (by omega) ?_ | refine WL.subu8 rfl rfl rfl (by omega) ?_)) | (refine iK13 rfl ?_; (first | refine WL.mul64 rfl rfl rfl (by omega) ?_ | refine WL.mul32 rfl rfl rfl (by omega) ?_)) | (refine iK14 rfl ?_; (first | refine WL.quo64 rfl rfl rfl (by omega) (by omega) ?_ | refine WL.quo32 rfl rfl rfl (by omega) (by omega) ?_)) | (refine iK15 rfl ?_; (first | refine WL.rem64 rfl rfl rfl (by omega) (by omega) ?_ | refine WL.rem32 rfl rfl rfl (by omega) (by omega) ?_ | refine WL.remu64 rfl rfl rfl (by omega) (by omega) ?_)) | (refine iK16 rfl ?_; (first | refine WL.shl rfl rfl rfl rfl rfl ?_)) | (refine iK17 rfl ?_; (first | refine WL.shr rfl rfl rfl rfl rfl ?_)) | (refine iK18 rfl ?_; (first | refine WL.and8 rfl rfl rfl (by omega) (by omega) ?_)) | (refine iK19 rfl ?_; (first | refine WL.or8 rfl rfl rfl (by omega) (by omega) ?_)) | (refine iK20 rfl ?_; (first | refine WL.not rfl rfl ?_)) | (refine iK21 rfl ?_; (first | refine WL.neg64 rfl rfl (by omega) ?_)) | (refine iK22 rfl ?_; (first | refine WL.conv64 rfl rfl rfl rfl (by omega) ?_ | refine WL.conv32 rfl rfl rfl rfl (by omega) ?_ | refine WL.conv8 rfl rfl rfl rfl (by omega) ?_ | refine WL.conv8mod rfl rfl rfl rfl ?_ | refine WL.convu64 rfl rfl rfl rfl (by omega) ?_ | refine WL.convRS rfl rfl rfl rfl ?_ | refine WL.convu64mod rfl rfl rfl rfl ?_ | (refine WL.strBytes rfl rfl rfl rfl rfl ?_; intro zza zza) | (refine WL.strRunes rfl rfl rfl rfl rfl ?_; intro zza zza))) | (refine iK23 rfl ?_; (first | refine WL.pick_t rfl rfl rfl ?_ | refine WL.pick_f rfl rfl rfl ?_ | refine WL.pickYes rfl (by first | omega | assumption | with_reducible rfl | with_reducible exact ⟨rfl, rfl⟩ | with_reducible exact ⟨rfl, rfl, rfl⟩ | exact ⟨rfl, rfl, rfl, rfl⟩) rfl rfl ?_ | refine WL.pickNo rfl (by first | omega | assumption | with_reducible rfl | with_reducible exact ⟨rfl, rfl⟩ | with_reducible exact ⟨rfl, rfl, rfl⟩ | exact ⟨rfl, rfl, rfl, rfl⟩) rfl rfl ?_ | refine WL.pickNyes rfl (by first | omega | assumption | with_reducible rfl | with_reducible exact ⟨rfl, rfl⟩ | with_reducible exact ⟨rfl, rfl, rfl⟩ | exact ⟨rfl, rfl, rfl, rfl⟩) rfl rfl ?_ | refine WL.pickNno rfl (by first | omega | assumption | with_reducible rfl | with_reducible exact ⟨rfl, rfl⟩ | with_reducible exact ⟨rfl, rfl, rfl⟩ | exact ⟨rfl, rfl, rfl, rfl⟩) rfl rfl ?_ | refine WL.pickIsT rfl (by assumption) rfl rfl ?_ | refine WL.pickIsF rfl (by assumption) rfl rfl ?_)))) | (refine iC rfl ?_; (first | (refine iK24 rfl ?_; (first | refine WL.load rfl zlo (by exact rfl) ?_)) | (refine iK25 rfl ?_; (first | refine WL.fieldAddr0 rfl rfl rfl rfl rfl ?_ | refine WL.fieldAddrR rfl rfl rfl rfl rfl ?_ | refine WL.fieldAddr rfl rfl rfl rfl ?_)) | (refine iK26 rfl ?_; (first | refine WL.indexAddr rfl rfl znz (by exact rfl) (by exact rfl) (by omega) (by exact rfl) ?_)) | (refine iK27 rfl ?_; (first | refine WL.store rfl rfl rfl rfl rfl (by (repeat (first | exact Repl.here | apply Repl.there))) (by (repeat (first | (apply NF.cons; (· exact rfl)) | exact NF.nil rfl))) (by exact rfl) (by exact .inl rfl) (by exact rfl) ?_ | refine WL.storeRow rfl rfl rfl rfl rfl rfl rfl (by (repeat (first | exact Repl.here | apply Repl.there))) (by first | omega | (simp; omega)) (by exact rfl) ?_ | refine WL.storeRowF rfl rfl rfl rfl rfl rfl rfl (by (repeat (first | exact Repl.here | apply Repl.there))) (by assumption) (by (repeat (first | (apply NF.cons; (· exact rfl)) | exact NF.nil rfl))) (by exact rfl) (by exact rfl) ?_)) | (refine iK28 rfl ?_; (first | (refine WL.alloc rfl rfl rfl ?_; intro zza))) | (refine iK29 rfl ?_; (first | (refine WL.box rfl rfl rfl ?_; intro zza))) | (refine iK30 rfl ?_; (first | refine WL.nilCheck rfl rfl ?_ | refine WL.nilCheckFunc rfl rfl ?_)))) | (refine iD rfl ?_; (first | (refine iK31 rfl ?_; (first | refine WL.min2 rfl rfl rfl ?_)) | (refine iK32 rfl ?_; (first | refine WL.max2 rfl rfl rfl ?_)) | (refine iK33 rfl ?_; (first | refine WL.lenS rfl rfl rfl ?_ | refine WL.lenSl rfl rfl rfl ?_)) | (refine iK34 rfl ?_; (first | refine WL.indexS rfl rfl znz (by exact rfl) (by exact rfl) (by omega) ?_)) | (refine iK35 rfl ?_; (first | refine WL.sliceLH rfl rfl rfl znz znz (by exact rfl) (by exact rfl) (by omega) ?_ | refine WL.sliceL rfl rfl znz (by exact rfl) (by exact rfl) (by omega) ?_ | refine WL.sliceH rfl rfl znz (by exact rfl) (by exact rfl) (by omega) ?_ | refine WL.slLH rfl rfl rfl znz znz (by exact rfl) (by exact rfl) (by exact rfl) (by omega) ?_ | refine WL.slH rfl rfl znz (by exact rfl) (by exact rfl) (by exact rfl) (by omega) ?_ | refine WL.slL rfl rfl znz (by exact rfl) (by exact rfl) (by exact rfl) (by omega) ?_)) | (refine iK36 rfl ?_; (first | refine WL.makeFunc rfl rfl rfl ?_)) | (refine iK37 rfl ?_; (first | refine WL.makeIface rfl rfl rfl ?_)) | (refine iK38 rfl ?_; (first | refine WL.build rfl rfl rfl rfl rfl (by (repeat (first | (apply NF.cons; (· exact rfl)) | exact NF.nil rfl))) (by exact rfl) ?_ | refine WL.buildArr rfl rfl rfl rfl rfl rfl (by (repeat (first | (apply NF.cons; (· exact rfl)) | exact NF.nil rfl))) (by exact rfl) ?_)) | (refine iK39 rfl ?_; (first | (refine WL.buildSlice rfl rfl rfl rfl rfl rfl rfl rfl (by (repeat (first | (apply NF.cons; (· exact rfl)) | exact NF.nil rfl))) (by exact rfl) ?_; intro zza) | (refine WL.buildSlice0 (sz:=1) rfl rfl rfl ?_; intro zza))) | (refine iK40 rfl ?_; (first | (refine WL.makeRow (sz:=1) (by':=1) (zs:=[.int .u8 0]) rfl rfl znz znz (by exact rfl) (by exact rfl) (by exact rfl) (by exact rfl) (by exact rfl) (by exact rfl) (by decide) (by omega) (by omega) (by exact rfl) ?_; intro zza) | (refine WL.makeRow (sz:=1) (by':=8) (zs:=[.int .i64 0]) rfl rfl znz znz (by exact rfl) (by exact rfl) (by exact rfl) (by exact rfl) (by exact rfl) (by exact rfl) (by decide) (by omega) (by omega) (by exact rfl) ?_; intro zza) | (refine WL.makeRow (sz:=1) (by':=4) (zs:=[.int .i32 0]) rfl rfl znz znz (by exact rfl) (by exact rfl) (by exact rfl) (by exact rfl) (by exact rfl) (by exact rfl) (by decide) (by omega) (by omega) (by exact rfl) ?_; intro zza) | (refine WL.makeRoom (by':=4) rfl rfl rfl znz (by exact rfl) (by exact rfl) (by exact rfl) (by exact rfl) (by omega) (by omega) (by exact rfl) ?_; intro zza) | (refine WL.makeRoom (by':=8) rfl rfl rfl znz (by exact rfl) (by exact rfl) (by exact rfl) (by exact rfl) (by omega) (by omega) (by exact rfl) ?_; intro zza) | (refine WL.makeRoom (by':=1) rfl rfl rfl znz (by exact rfl) (by exact rfl) (by exact rfl) (by exact rfl) (by omega) (by omega) (by exact rfl) ?_; intro zza) | (refine WL.makeRoom (by':=24) rfl rfl rfl znz (by exact rfl) (by exact rfl) (by exact rfl) (by exact rfl) (by omega) (by omega) (by exact rfl) ?_; intro zza) | (refine WL.makeRoom (by':=16) rfl rfl rfl znz (by exact rfl) (by exact rfl) (by exact rfl) (by exact rfl) (by omega) (by omega) (by exact rfl) ?_; intro zza) | (refine WL.makeRoom (by':=40) rfl rfl rfl znz (by exact rfl) (by exact rfl) (by exact rfl) (by exact rfl) (by omega) (by omega) (by exact rfl) ?_; intro zza))) | (refine iK41 rfl ?_; (first | (refine WL.rangeS rfl rfl rfl ?_; intro zza))) | (refine iK42 rfl ?_; (first | refine WL.nextS rfl (by (repeat (first | exact Repl.here | apply Repl.there))) (by first | omega | (simp; omega)) (by exact rfl) ?_ | refine WL.nextEnd rfl (by (repeat (first | exact Out.here | apply Out.there))) (by first | omega | (simp; omega)) (by exact rfl) ?_)) | (refine iK43 rfl ?_; (first | (refine WL.append1 (by':=24) rfl rfl rfl rfl (by (repeat (first | exact Out.here | apply Out.there))) (by (repeat (first | exact List.Mem.head _ | apply List.Mem.tail))) (by exact rfl) (by exact rfl) (by exact rfl) (by exact rfl) (by exact rfl) (by exact rfl) (by first | exact rfl | (simp; done) | omega) (by first | omega | (simp; omega)) (by decide) (by exact rfl) ?_; intro zza zza) | (refine WL.append1 (by':=8) rfl rfl rfl rfl (by (repeat (first | exact Out.here | apply Out.there))) (by (repeat (first | exact List.Mem.head _ | apply List.Mem.tail))) (by exact rfl) (by exact rfl) (by exact rfl) (by exact rfl) (by exact rfl) (by exact rfl) (by first | exact rfl | (simp; done) | omega) (by first | omega | (simp; omega)) (by decide) (by exact rfl) ?_; intro zza zza) | (refine WL.append1 (by':=4) rfl rfl rfl rfl (by (repeat (first | exact Out.here | apply Out.there))) (by (repeat (first | exact List.Mem.head _ | apply List.Mem.tail))) (by exact rfl) (by exact rfl) (by exact rfl) (by exact rfl) (by exact rfl) (by exact rfl) (by first | exact rfl | (simp; done) | omega) (by first | omega | (simp; omega)) (by decide) (by exact rfl) ?_; intro zza zza) | (refine WL.append1 (by':=1) rfl rfl rfl rfl (by (repeat (first | exact Out.here | apply Out.there))) (by (repeat (first | exact List.Mem.head _ | apply List.Mem.tail))) (by exact rfl) (by exact rfl) (by exact rfl) (by exact rfl) (by exact rfl) (by exact rfl) (by first | exact rfl | (simp; done) | omega) (by first | omega | (simp; omega)) (by decide) (by exact rfl) ?_; intro zza zza) | (refine WL.append1 (by':=16) rfl rfl rfl rfl (by (repeat (first | exact Out.here | apply Out.there))) (by (repeat (first | exact List.Mem.head _ | apply List.Mem.tail))) (by exact rfl) (by exact rfl) (by exact rfl) (by exact rfl) (by exact rfl) (by exact rfl) (by first | exact rfl | (simp; done) | omega) (by first | omega | (simp; omega)) (by decide) (by exact rfl) ?_; intro zza zza) | (refine WL.append1 (by':=40) rfl rfl rfl rfl (by (repeat (first | exact Out.here | apply Out.there))) (by (repeat (first | exact List.Mem.head _ | apply List.Mem.tail))) (by exact rfl) (by exact rfl) (by exact rfl) (by exact rfl) (by exact rfl) (by exact rfl) (by first | exact rfl | (simp; done) | omega) (by first | omega | (simp; omega)) (by decide) (by exact rfl) ?_; intro zza zza) | (refine WL.append1 (by':=32) rfl rfl rfl rfl (by (repeat (first | exact Out.here | apply Out.there))) (by (repeat (first | exact List.Mem.head _ | apply List.Mem.tail))) (by exact rfl) (by exact rfl) (by exact rfl) (by exact rfl) (by exact rfl) (by exact rfl) (by first | exact rfl | (simp; done) | omega) (by first | omega | (simp; omega)) (by decide) (by exact rfl) ?_; intro zza zza) | (refine WL.append1 (by':=48) rfl rfl rfl rfl (by (repeat (first | exact Out.here | apply Out.there))) (by (repeat (first | exact List.Mem.head _ | apply List.Mem.tail))) (by exact rfl) (by exact rfl) (by exact rfl) (by exact rfl) (by exact rfl) (by exact rfl) (by first | exact rfl | (simp; done) | omega) (by first | omega | (simp; omega)) (by decide) (by exact rfl) ?_; intro zza zza) | (refine WL.appendS rfl rfl rfl rfl (by (repeat (first | exact Out.here | apply Out.there))) (by exact rfl) (by exact rfl) (by exact rfl) (by exact rfl) (by first | exact rfl | (simp; done) | omega) (by omega) (by exact rfl) ?_; intro zza zza))))))) | refine WL.nil ?_ | (refine iG ?_; (first | refine WL.on rfl rfl ?_ | refine WL.off rfl rfl rfl rfl ?_ | refine WL.off' rfl rfl rfl ?_ | refine WL.offU rfl rfl rfl ?_ | refine WL.gyes rfl rfl (by first | omega | assumption | with_reducible rfl | with_reducible exact ⟨rfl, rfl⟩ | with_reducible exact ⟨rfl, rfl, rfl⟩ | exact ⟨rfl, rfl, rfl, rfl⟩) ?_ | refine WL.gno rfl rfl (by first | omega | assumption | with_reducible rfl | with_reducible exact ⟨rfl, rfl⟩ | with_reducible exact ⟨rfl, rfl, rfl⟩ | exact ⟨rfl, rfl, rfl, rfl⟩) ?_ | refine WL.gnyes rfl rfl (by first | omega | assumption | with_reducible rfl | with_reducible exact ⟨rfl, rfl⟩ | with_reducible exact ⟨rfl, rfl, rfl⟩ | exact ⟨rfl, rfl, rfl, rfl⟩) ?_ | refine WL.gnno rfl rfl (by first | omega | assumption | with_reducible rfl | with_reducible exact ⟨rfl, rfl⟩ | with_reducible exact ⟨rfl, rfl, rfl⟩ | exact ⟨rfl, rfl, rfl, rfl⟩) ?_ | refine WL.gis (k:=true) rfl rfl (by assumption) ?_ | refine WL.gis (k:=false) rfl rfl (by assumption) ?_))))); (repeat revert zza); exact zzn.out) : G := h ⟨next⟩
theorem st {G G' : Prop} (next : G') (h : Bx G' → G := by intro zzn; (repeat1' (first | (refine sp ?_; (repeat intro zzb)) | (refine iWC ?_; (first | refine WC.seq ?_ | refine WC.region ?_ | refine WC.block ?_ | refine WC.ret ?_ | refine WC.skip ?_ | refine WC.exit ?_ | refine WC.cond_t rfl ?_ | refine WC.cond_f rfl ?_ | refine WC.yes rfl (by first | omega | assumption | with_reducible rfl | with_reducible exact ⟨rfl, rfl⟩ | with_reducible exact ⟨rfl, rfl, rfl⟩ | exact ⟨rfl, rfl, rfl, rfl⟩) ?_ | refine WC.no rfl (by first | omega | assumption | with_reducible rfl | with_reducible exact ⟨rfl, rfl⟩ | with_reducible exact ⟨rfl, rfl, rfl⟩ | exact ⟨rfl, rfl, rfl, rfl⟩) ?_ | refine WC.nyes rfl (by first | omega | assumption | with_reducible rfl | with_reducible exact ⟨rfl, rfl⟩ | with_reducible exact ⟨rfl, rfl, rfl⟩ | exact ⟨rfl, rfl, rfl, rfl⟩) ?_ | refine WC.nno rfl (by first | omega | assumption | with_reducible rfl | with_reducible exact ⟨rfl, rfl⟩ | with_reducible exact ⟨rfl, rfl, rfl⟩ | exact ⟨rfl, rfl, rfl, rfl⟩) ?_ | refine WC.is_t rfl (by assumption) ?_ | refine WC.is_f rfl (by assumption) ?_ | refine WC.scope ?_ | refine WC.label ?_ | refine WC.goto ?_)) | (refine iWQ ?_; (first | refine WQ.norm ?_ | refine WQ.thenRet ?_ | refine WQ.thenExit ?_ | refine WQ.blockNorm ?_ | refine WQ.blockRet ?_ | refine WQ.blockSame ?_ | refine WQ.blockOther rfl ?_ | refine WQ.loopExit ?_ | refine WQ.loopRet ?_ | refine WQ.joinRet ?_ | refine WQ.joinExit ?_ | refine WQ.thenGoto ?_ | refine WQ.blockGoto ?_ | refine WQ.labNorm ?_ | refine WQ.labRet ?_ | refine WQ.labExit ?_ | refine WQ.labGoto rfl ?_ | refine WQ.scopeNorm ?_ | refine WQ.scopeRet ?_ | refine WQ.scopeExit ?_)) | ((refine zdr ?_); (repeat (refine WD.cons rfl (fun c h => by cases h) (by (repeat (first | (refine sp ?_; (repeat intro zzb)))); exact WQ.q1 rfl) ?_)); refine WD.nil ?_))); (repeat revert zzb); exact zzn.out) : G := h ⟨next⟩
section
variable {H' : SHeap}
theorem zpk (h : Pick H H' := by iterate 60 (try (first | exact Pick.all | (apply Pick.take; (· (repeat (first | exact Out.here | apply Out.there)))) | apply Pick.drop))) : ∀ w, Sat w0 m H w → Sat w0 m H' w := fun _ hs => Pick.sat h hs
theorem zhs {i : Item} (h : i ∈ H := by (repeat (first | exact List.Mem.head _ | apply List.Mem.tail))) : i ∈ H := h
theorem zsb {r r' : Env} (h : Env.Sub r' r := by (repeat (first | exact Env.Sub.nil | refine Env.Sub.cons rfl ?_))) : Env.Sub r' r := h
end
end Go.Eng
namespace Go.Eng
open Go Go.RowKit
def QE (w0 : World) (d : Nat) (ds : List Dfr) (S : SHeap) (m : Mem) (K : Value → Mem → SHeap → SHeap → Prop) : Exit → Act → World → Prop
 | .normal, a, w => ∃ v m' B U, a.tmps[d]? = some v ∧ a.defers = marks ds ∧ m.le m' ∧ Sat w0 m' (S ++ B ++ U) w ∧ K v m' (S ++ B) U
 | _, _, _ => False
def QN (w0 : World) (ds : List Dfr) (S : SHeap) (m : Mem) (K : Mem → SHeap → SHeap → Prop) : Exit → Act → World → Prop
 | .normal, a, w => ∃ m' B U, a.defers = marks ds ∧ m.le m' ∧ Sat w0 m' (S ++ B ++ U) w ∧ K m' (S ++ B) U
 | _, _, _ => False
def readyV (V : Nat) (o : Oper) : Prop := ∀ e ∈ o.after, bind1 e = true → V.testBit e.on = true
section
theorem WQ.acted {d : Nat} {S B U : SHeap} {m0 : Mem} {K : Value → Mem → SHeap → SHeap → Prop} {v : Value} (hv : r.get d = some v) (hm : m0.le m) (hh : ∀ w, Sat w0 m H w → Sat w0 m (S ++ B ++ U) w) (hK : K v m (S ++ B) U) :
  WQ n w0 (QE w0 d ds S m0 K) .normal r ds m H := fun _ w ho hs => ⟨v, m, B, U, ho.at_ _ _ hv, rfl, hm, hh w hs, hK⟩
theorem WQ.stored {S B U : SHeap} {m0 : Mem} {K : Mem → SHeap → SHeap → Prop} (hm : m0.le m) (hh : ∀ w, Sat w0 m H w → Sat w0 m (S ++ B ++ U) w) (hK : K m (S ++ B) U) :
  WQ n w0 (QN w0 ds S m0 K) .normal r ds m H := fun _ w _ hs => ⟨m, B, U, rfl, hm, hh w hs, hK⟩
def WE (P : Program) (ro : Option Nat) (n : Nat) (w0 : World) (l : List Oper) (g : Nat) (ds : List Dfr) (K : Env → Mem → SHeap → SHeap → Prop) : Nat → Nat → Env → Mem → SHeap → SHeap → Prop
 | 0, _, _, _, _, _ => False
 | k + 1, V, r, m, S, U =>
  ((∀ i, i < g → V.testBit i = true) ∧ K r m S U) ∨
  (∃ i o d v, i < g ∧ l[i]? = some o ∧ V.testBit i = false ∧ readyV V o ∧ o.dst = some d ∧ (∀ c, o.op ≠ .defer c) ∧
   (∀ m' F, m.le m' → WL P ro n w0 l.toArray (Q1 w0 d v ds m' (S ++ F)) [o] (Env.sel (o.looksAt l.toArray) r) ds m' (S ++ F)) ∧
   WE P ro n w0 l g ds K k (V ||| 1 <<< i) ((d, v) :: r) m S U) ∨
  ((∃ i, i < g ∧ V.testBit i = false) ∧ ∀ i o, i < g → l[i]? = some o → V.testBit i = false → readyV V o → (∃ d, o.dst = some d ∧ (∀ c, o.op ≠ .defer c) ∧
   WL P ro n w0 l.toArray (QE w0 d ds S m fun v m' S' U' => WE P ro n w0 l g ds K k (V ||| 1 <<< i) ((d, v) :: r) m' S' U') [o] (Env.sel (o.looksAt l.toArray) r) ds m (S ++ U)) ∨
   (o.dst = none ∧ (∀ c, o.op ≠ .defer c) ∧ WL P ro n w0 l.toArray (QN w0 ds S m fun m' S' U' => WE P ro n w0 l g ds K k (V ||| 1 <<< i) r m' S' U') [o] (Env.sel (o.looksAt l.toArray) r) ds m (S ++ U)))
theorem zEB (V i j : Nat) : (V ||| 1 <<< i).testBit j = (V.testBit j || decide (i = j)) := by
 rw [Nat.testBit_or, Nat.one_shiftLeft, Nat.testBit_two_pow]
theorem wU {V i j : Nat} (h : V.testBit j = true) : (V ||| 1 <<< i).testBit j = true := by rw [zEB, h]; rfl
theorem zAX (V i : Nat) : (V ||| 1 <<< i).testBit i = true := by rw [zEB]; simp
theorem qR {V i j : Nat} (h : (V ||| 1 <<< i).testBit j = true) (hne : j ≠ i) : V.testBit j = true := by
 rw [zEB] at h
 have : decide (i = j) = false := by simp; exact fun e => hne e.symm
 simpa [this] using h
theorem zKp {l : List Oper} {g : Nat} {M : List Nat} (ok : DrawOk l g M) {p : Nat → Prop} {b : Nat} (hb : b ≤ l.length) (hc : ∀ j o, j < b → l[j]? = some o → p j → ∀ e ∈ o.after, bind1 e = true → p e.on) :
  ∀ j o, j < b → l[j]? = some o → (∀ e ∈ o.after, bind1 e = true → p e.on) → ∀ i, (M.getD j 0).testBit i = true → p i := by
 intro j
 induction j using Nat.strongRecOn with
 | _ j ih =>
  intro o hjb ho hw i hi
  rw [← ok.sub j o ho, Nat.testBit_and, Bool.and_eq_true] at hi
  rcases zBT M o.after.toList 0 i hi.2 with h | ⟨e, he, hbd, h⟩
  ·simp at h
  ·have he' : e ∈ o.after := by simpa using he
   have hon := hw e he' hbd
   rcases h with rfl | h
   ·exact hon
   ·have hlt := ok.down j o ho e he' hbd
    have hl : e.on < l.length := by omega
    exact ih e.on hlt l[e.on] (by omega) (List.getElem?_eq_getElem hl) (hc e.on _ (by omega) (List.getElem?_eq_getElem hl) hon) i h
theorem zDH {ops : Array Oper} {i : Nat} {o : Oper} {d : Nat} {tmps : Array Value} {w : World} {Qx : Exit → Act → World → Prop} {K : Act → World → Prop} (hi : ops[i]? = some o) (hd : o.dst = some d) (hnd : ∀ c, o.op ≠ .defer c)
  (hdf : ∀ a w, Qx .normal a w → a.defers = marks ds) (hbad : ∀ e a w, Qx e a w → e = .normal)
  (h : wpListIn (FW ro) 0 P ops Qx [o] ⟨tmps, marks ds⟩ w) (hK : ∀ v0 w', Qx .normal ⟨tmps.setIfInBounds d v0, marks ds⟩ w' → K ⟨tmps.setIfInBounds d v0, marks ds⟩ w') : wpOpIn (FW ro) 0 P ops Q i K ⟨tmps, marks ds⟩ w := by
 have key : ∀ v0 w', Qx .normal ((Act.mk tmps (marks ds)).put o.dst v0) w' → K ((Act.mk tmps (marks ds)).put o.dst v0) w' := by
  intro v0 w' hq
  rw [hd] at hq ⊢
  exact hK v0 w' hq
 unfold wpOpIn
 rw [hi]
 unfold wpListIn at h
 simp only
 split
 ·rename_i hw
  rw [if_pos hw] at h
  refine ⟨h.1, ?_⟩
  have h2 := h.2
  rw [w6 (FW ro).round _ _ hnd] at h2 ⊢
  generalize hr : (execOp (Act.mk tmps (marks ds)).eval o).run P w = res at *
  cases res with
  | ok x w' =>
   cases x <;> simp only [Oper.uponIn] at h2 ⊢
   case value v0 => exact key _ _ h2
   case skip => exact key _ _ h2
   case defer df =>
    exfalso
    have h4 := congrArg List.length (hdf _ _ h2)
    rw [hd] at h4
    simp [Act.put] at h4
   case enter f args => exact ⟨h2.1, CallsIn.mono h2.2 fun e w'' he => by
    cases e with
    | returned v0 => exact key _ _ he
    | panicked chain => exact absurd (hbad _ _ _ he) (by simp)
    | outgrown => obtain ⟨a, b, hh⟩ := he; exact absurd (hbad _ _ _ hh) (by simp)⟩
   case row rw' args => exact ⟨h2.1, RowsIn.mono h2.2 fun v0 w'' he => key _ _ he⟩
   case round l f tm asg bd => exact ⟨h2.1, RoundIn.mono h2.2 fun e w'' he => by
    cases e with
    | returned v0 => exact key _ _ he
    | panicked chain => exact absurd (hbad _ _ _ he) (by simp)
    | outgrown => obtain ⟨a, b, hh⟩ := he; exact absurd (hbad _ _ _ hh) (by simp)⟩
  | halt x w' =>
   cases x <;> simp only [Oper.uponIn] at h2 ⊢
   all_goals first | exact h2.elim | exact absurd (hbad _ _ _ h2) (by simp) | exact absurd (hbad _ _ _ h2.2) (by simp) | skip
 ·rename_i hw
  rw [if_neg hw] at h
  exact ⟨h.1, key _ _ h.2⟩
theorem zC7 {ops : Array Oper} {i : Nat} {o : Oper} {tmps : Array Value} {w : World} {Qx : Exit → Act → World → Prop} {K : Act → World → Prop} (hi : ops[i]? = some o) (hd : o.dst = none) (hnd : ∀ c, o.op ≠ .defer c)
  (hdf : ∀ a w, Qx .normal a w → a.defers = marks ds) (hbad : ∀ e a w, Qx e a w → e = .normal)
  (h : wpListIn (FW ro) 0 P ops Qx [o] ⟨tmps, marks ds⟩ w) (hK : ∀ w', Qx .normal ⟨tmps, marks ds⟩ w' → K ⟨tmps, marks ds⟩ w') : wpOpIn (FW ro) 0 P ops Q i K ⟨tmps, marks ds⟩ w := by
 have key : ∀ v0 w', Qx .normal ((Act.mk tmps (marks ds)).put o.dst v0) w' → K ((Act.mk tmps (marks ds)).put o.dst v0) w' := by
  intro v0 w' hq
  rw [hd] at hq ⊢
  exact hK w' hq
 unfold wpOpIn
 rw [hi]
 unfold wpListIn at h
 simp only
 split
 ·rename_i hw
  rw [if_pos hw] at h
  refine ⟨h.1, ?_⟩
  have h2 := h.2
  rw [w6 (FW ro).round _ _ hnd] at h2 ⊢
  generalize hr : (execOp (Act.mk tmps (marks ds)).eval o).run P w = res at *
  cases res with
  | ok x w' =>
   cases x <;> simp only [Oper.uponIn] at h2 ⊢
   case value v0 => exact key _ _ h2
   case skip => exact key _ _ h2
   case defer df =>
    exfalso
    have h4 := congrArg List.length (hdf _ _ h2)
    rw [hd] at h4
    simp [Act.put] at h4
   case enter f args => exact ⟨h2.1, CallsIn.mono h2.2 fun e w'' he => by
    cases e with
    | returned v0 => exact key _ _ he
    | panicked chain => exact absurd (hbad _ _ _ he) (by simp)
    | outgrown => obtain ⟨a, b, hh⟩ := he; exact absurd (hbad _ _ _ hh) (by simp)⟩
   case row rw' args => exact ⟨h2.1, RowsIn.mono h2.2 fun v0 w'' he => key _ _ he⟩
   case round l f tm asg bd => exact ⟨h2.1, RoundIn.mono h2.2 fun e w'' he => by
    cases e with
    | returned v0 => exact key _ _ he
    | panicked chain => exact absurd (hbad _ _ _ he) (by simp)
    | outgrown => obtain ⟨a, b, hh⟩ := he; exact absurd (hbad _ _ _ hh) (by simp)⟩
  | halt x w' =>
   cases x <;> simp only [Oper.uponIn] at h2 ⊢
   all_goals first | exact h2.elim | exact absurd (hbad _ _ _ h2) (by simp) | exact absurd (hbad _ _ _ h2.2) (by simp) | skip
 ·rename_i hw
  rw [if_neg hw] at h
  exact ⟨h.1, key _ _ h.2⟩
theorem zHP {l : List Oper} {listed : Array Bool} {i : Nat} (hs : listed.size = l.length) (hil : i < l.length) (hnl : listed.getD i false = false) :
  ((List.range l.length).filter fun k => !(listed.setIfInBounds i true).getD k false).length < ((List.range l.length).filter fun k => !listed.getD k false).length := by
 have hsub : List.Sublist ((List.range l.length).filter fun k => !(listed.setIfInBounds i true).getD k false) (((List.range l.length).filter fun k => !listed.getD k false).erase i) := by
  have hnd : ((List.range l.length).filter fun k => !listed.getD k false).Nodup := List.Pairwise.filter _ List.nodup_range
  rw [hnd.erase_eq_filter, List.filter_filter]
  refine zDM ?_
  apply List.filter_congr
  intro k hk
  simp only [Array.getD_eq_getD_getElem?]
  by_cases hik : i = k
  ·subst hik; simp [show i < listed.size by omega]
  ·rw [Array.getElem?_setIfInBounds_ne hik]; simp [Ne.symm hik]
 have hmem : i ∈ (List.range l.length).filter fun k => !listed.getD k false := by simp only [List.mem_filter, List.mem_range]; exact ⟨hil, by rw [hnl]; rfl⟩
 have h5 := hsub.length_le
 rw [List.length_erase_of_mem hmem] at h5
 have := List.length_pos_of_mem hmem
 omega
theorem wN {listed : Array Bool} {i j : Nat} (h : (listed.setIfInBounds i true).getD j false = true) (hne : j ≠ i) : listed.getD j false = true := by
 simp only [Array.getD_eq_getD_getElem?] at h ⊢
 rwa [Array.getElem?_setIfInBounds_ne (fun e => hne e.symm)] at h
theorem vQ {listed : Array Bool} {i j : Nat} (h : listed.getD j false = true) : (listed.setIfInBounds i true).getD j false = true := by
 simp only [Array.getD_eq_getD_getElem?] at h ⊢
 by_cases hij : i = j
 ·subst hij
  by_cases hlt : i < listed.size
  ·simp [hlt]
  ·simp [Array.getElem?_eq_none (Nat.le_of_not_lt hlt)] at h
 ·rwa [Array.getElem?_setIfInBounds_ne hij]
structure DInv (P : Program) (ro : Option Nat) (n : Nat) (w0 : World) (l : List Oper) (g : Nat) (M : List Nat) (ds : List Dfr) (S : SHeap) (r0 : Env) (V : Nat) (r : Env) (m : Mem) (val : Nat → Value) (listed : Array Bool) (tmps : Array Value) : Prop where
 env : ∀ t u, r.get t = some u → (∃ j o, j < g ∧ V.testBit j = true ∧ l[j]? = some o ∧ o.dst = some t ∧ val j = u) ∨ (r0.get t = some u ∧ ∀ j o, j < g → V.testBit j = true → l[j]? = some o → o.dst ≠ some t)
 vclosed : ∀ j o, j < g → l[j]? = some o → V.testBit j = true → readyV V o
 rcd : ∀ i o, i < g → l[i]? = some o → V.testBit i = true → listed.getD i false = false → ∃ d ri, o.dst = some d ∧ (∀ c, o.op ≠ .defer c) ∧
  (∀ t ∈ o.looksAt l.toArray, ∀ u, ri.get t = some u → (∃ j oj, j < g ∧ l[j]? = some oj ∧ oj.dst = some t ∧ val j = u ∧ ∃ e ∈ o.after, bind1 e = true ∧ e.on = j) ∨ (r0.get t = some u ∧ ∀ j oj, j < g → l[j]? = some oj → oj.dst = some t → (M.getD j 0).testBit i = true)) ∧
  ∀ m' F, m.le m' → WL P ro n w0 l.toArray (Q1 w0 d (val i) ds m' (S ++ F)) [o] (Env.sel (o.looksAt l.toArray) ri) ds m' (S ++ F)
 size : listed.size = l.length
 closed : Closed l listed
 sub : ∀ j, j < g → listed.getD j false = true → V.testBit j = true
 tail : ∀ j, g ≤ j → j < l.length → listed.getD j false = false
 tsize : tmps.size = n
 done : ∀ j o d, j < g → listed.getD j false = true → l[j]? = some o → o.dst = some d → tmps[d]? = some (val j)
 old : ∀ t u, r0.get t = some u → (∀ j o, j < g → listed.getD j false = true → l[j]? = some o → o.dst ≠ some t) → tmps[t]? = some u
section sound
variable {g : Nat} {M : List Nat} {S U : SHeap} {r0 : Env} {V : Nat} {val : Nat → Value} {listed : Array Bool} {tmps : Array Value} {w : World}
theorem DInv.vmask (ok : DrawOk l g M) (h : DInv P ro n w0 l g M ds S r0 V r m val listed tmps) {j i : Nat} {o : Oper} (hj : j < g) (ho : l[j]? = some o) (hr : readyV V o) (hb : (M.getD j 0).testBit i = true) : V.testBit i = true :=
 zKp ok ok.le (p := fun j => V.testBit j = true) (fun j o hj ho hp => h.vclosed j o hj ho hp) j o hj ho hr i hb
theorem DInv.deferred (ok : DrawOk l g M) (h : DInv P ro n w0 l g M ds S r0 V r m val listed tmps) (hsat : Sat w0 m (S ++ U) w) {i : Nat} {o : Oper} (hi : i < g) (ho : l[i]? = some o) (hV : V.testBit i = true) (hnl : listed.getD i false = false)
  (hw : ∀ e ∈ o.after, bind1 e = true → listed.getD e.on false = true) {K : Act → World → Prop}
  (hK : ∀ tmps' w', DInv P ro n w0 l g M ds S r0 V r m val (listed.setIfInBounds i true) tmps' → Sat w0 m (S ++ U) w' → K ⟨tmps', marks ds⟩ w') : wpOpIn (FW ro) 0 P l.toArray Q i K ⟨tmps, marks ds⟩ w := by
 obtain ⟨d, ri, hd, hnd, hri, hwl⟩ := h.rcd i o hi ho hV hnl
 refine zCn (m := m) (H := S ++ U) (w0 := w0) (v := val i) (by simpa using ho) hd hnd ?_ ?_
 ·refine hwl m U zml tmps w ⟨h.tsize, fun t u ht => ?_⟩ hsat
  obtain ⟨hlook, hget⟩ := Env.sel_get ht
  rcases hri t hlook u hget with ⟨j, oj, hj, hoj, hdj, hv, e, he, hb, hon⟩ | ⟨h0, hno⟩
  ·have := hw e he hb
   rw [hon] at this
   rw [h.done j oj t hj this hoj hdj, hv]
  ·refine h.old t u h0 (fun j oj hj hjl hoj hdj => ?_)
   have := uK ok h.closed j oj hoj (h.closed j oj hoj hjl) i (hno j oj hj hoj hdj)
   rw [hnl] at this; cases this
 ·intro w' hsat' hdlt
  have hil := (List.getElem?_eq_some_iff.1 ho).1
  refine hK _ w' ⟨h.env, h.vclosed, ?_, by simp [h.size], jW h.closed ho hw, ?_, ?_, by simp [h.tsize], ?_, ?_⟩ hsat'
  ·intro i' o' hi' ho' hV' hnl'
   refine h.rcd i' o' hi' ho' hV' ?_
   cases hq : listed.getD i' false with
   | false => rfl
   | true => rw [vQ hq] at hnl'; cases hnl'
  ·intro j hj hjl
   by_cases e : j = i
   ·subst e; exact hV
   ·exact h.sub j hj (wN hjl e)
  ·intro j hj hjl
   cases hq : (listed.setIfInBounds i true).getD j false with
   | false => rfl
   | true => have := wN hq (by omega); rw [h.tail j hj hjl] at this; cases this
  ·intro j oj dj hj hjl hoj hdj
   by_cases e : j = i
   ·subst e
    rw [ho] at hoj; cases hoj
    rw [hd] at hdj; cases hdj
    exact Array.getElem?_setIfInBounds_self_of_lt hdlt
   ·have hne : d ≠ dj := fun e2 => by
     subst e2
     exact e (ok.dst j oj hj hoj _ hdj i o hi ho hd)
    rw [Array.getElem?_setIfInBounds_ne hne]
    exact h.done j oj dj hj (wN hjl e) hoj hdj
  ·intro t u ht hno
   have hil' : (listed.setIfInBounds i true).getD i false = true := by simp [show i < listed.size by rw [h.size]; exact hil]
   have hne : d ≠ t := fun e => by subst e; exact hno i o hi hil' ho hd
   rw [Array.getElem?_setIfInBounds_ne hne]
   exact h.old t u ht (fun j oj hj hjl hoj => hno j oj hj (vQ hjl) hoj)
theorem DInv.calm (ok : DrawOk l g M) (h : DInv P ro n w0 l g M ds S r0 V r m val listed tmps) {i d : Nat} {o : Oper} {v : Value} (hi : i < g) (ho : l[i]? = some o) (hV : V.testBit i = false) (hr : readyV V o) (hd : o.dst = some d) (hnd : ∀ c, o.op ≠ .defer c)
  (hwl : ∀ m' F, m.le m' → WL P ro n w0 l.toArray (Q1 w0 d v ds m' (S ++ F)) [o] (Env.sel (o.looksAt l.toArray) r) ds m' (S ++ F)) :
  DInv P ro n w0 l g M ds S r0 (V ||| 1 <<< i) ((d, v) :: r) m (fun j => if j = i then v else val j) listed tmps := by
 have hval : ∀ j, V.testBit j = true → (if j = i then v else val j) = val j := fun j hj => if_neg (fun e => by subst e; rw [hV] at hj; cases hj)
 refine ⟨?_, ?_, ?_, h.size, h.closed, fun j hj hjl => wU (h.sub j hj hjl), h.tail, h.tsize, ?_, h.old⟩
 ·intro t u ht
  simp only [Env.get] at ht
  cases hq : Nat.beq d t with
  | true =>
   have e := Nat.eq_of_beq_eq_true hq
   subst e
   simp [hq] at ht
   subst ht
   exact .inl ⟨i, o, hi, zAX V i, ho, hd, if_pos rfl⟩
  | false =>
   simp [hq] at ht
   rcases h.env t u ht with ⟨j, oj, hj, hjV, hoj, hdj, hv⟩ | ⟨h0, hno⟩
   ·exact .inl ⟨j, oj, hj, wU hjV, hoj, hdj, by rw [hval j hjV]; exact hv⟩
   ·refine .inr ⟨h0, fun j oj hj hjV hoj hdj => ?_⟩
    by_cases e : j = i
    ·subst e
     rw [ho] at hoj; cases hoj
     rw [hd] at hdj; cases hdj
     exact Nat.ne_of_beq_eq_false hq rfl
    ·exact hno j oj hj (qR hjV e) hoj hdj
 ·intro j oj hj hoj hjV e he hb
  by_cases e2 : j = i
  ·subst e2
   rw [ho] at hoj; cases hoj
   exact wU (hr e he hb)
  ·exact wU (h.vclosed j oj hj hoj (qR hjV e2) e he hb)
 ·intro i' o' hi' ho' hV' hnl'
  by_cases e : i' = i
  ·subst e
   rw [ho] at ho'; cases ho'
   refine ⟨d, r, hd, hnd, ?_, ?_⟩
   ·intro t hlook u hget
    rcases h.env t u hget with ⟨j, oj, hj, hjV, hoj, hdj, hv⟩ | ⟨h0, hno⟩
    ·rcases ok.reads i' o hi ho t hlook j oj hj hoj hdj with ⟨_, e, he, hb, hon⟩ | ⟨_, hbit⟩
     ·exact .inl ⟨j, oj, hj, hoj, hdj, by rw [hval j hjV]; exact hv, e, he, hb, hon⟩
     ·have := h.vmask ok hj hoj (h.vclosed j oj hj hoj hjV) hbit
      rw [hV] at this; cases this
    ·refine .inr ⟨h0, fun j oj hj hoj hdj => ?_⟩
     rcases ok.reads i' o hi ho t hlook j oj hj hoj hdj with ⟨_, e, he, hb, hon⟩ | ⟨_, hbit⟩
     ·have := hr e he hb
      rw [hon] at this
      exact absurd hdj (hno j oj hj this hoj)
     ·exact hbit
   ·simp only [if_true]
    exact hwl
  ·have hVo := qR hV' e
   obtain ⟨d', ri, k1, k2, k3, k4⟩ := h.rcd i' o' hi' ho' hVo hnl'
   refine ⟨d', ri, k1, k2, ?_, by rw [hval i' hVo]; exact k4⟩
   intro t hlook u hget
   rcases k3 t hlook u hget with ⟨j, oj, hj, hoj, hdj, hv, e', he', hb', hon'⟩ | h2
   ·have hjV : V.testBit j = true := by have := h.vclosed i' o' hi' ho' hVo e' he' hb'; rwa [hon'] at this
    exact .inl ⟨j, oj, hj, hoj, hdj, by rw [hval j hjV]; exact hv, e', he', hb', hon'⟩
   ·exact .inr h2
 ·intro j oj dj hj hjl hoj hdj
  rw [hval j (h.sub j hj hjl)]
  exact h.done j oj dj hj hjl hoj hdj
theorem DInv.act (ok : DrawOk l g M) (h : DInv P ro n w0 l g M ds S r0 V r m val listed tmps) {i d : Nat} {o : Oper} {v : Value} {m' : Mem} {B : SHeap} (hi : i < g) (ho : l[i]? = some o) (hV : V.testBit i = false)
  (hw : ∀ e ∈ o.after, bind1 e = true → listed.getD e.on false = true) (hd : o.dst = some d) (hm : m.le m') (hdlt : d < tmps.size) :
  DInv P ro n w0 l g M ds (S ++ B) r0 (V ||| 1 <<< i) ((d, v) :: r) m' (fun j => if j = i then v else val j) (listed.setIfInBounds i true) (tmps.setIfInBounds d v) := by
 have hval : ∀ j, V.testBit j = true → (if j = i then v else val j) = val j := fun j hj => if_neg (fun e => by subst e; rw [hV] at hj; cases hj)
 have hil := (List.getElem?_eq_some_iff.1 ho).1
 have hr : readyV V o := fun e he hb => h.sub e.on (by have := ok.down i o ho e he hb; omega) (hw e he hb)
 refine ⟨?_, ?_, ?_, by simp [h.size], jW h.closed ho hw, ?_, ?_, by simp [h.tsize], ?_, ?_⟩
 ·intro t u ht
  simp only [Env.get] at ht
  cases hq : Nat.beq d t with
  | true =>
   have e := Nat.eq_of_beq_eq_true hq
   subst e
   simp [hq] at ht
   subst ht
   exact .inl ⟨i, o, hi, zAX V i, ho, hd, if_pos rfl⟩
  | false =>
   simp [hq] at ht
   rcases h.env t u ht with ⟨j, oj, hj, hjV, hoj, hdj, hv⟩ | ⟨h0, hno⟩
   ·exact .inl ⟨j, oj, hj, wU hjV, hoj, hdj, by rw [hval j hjV]; exact hv⟩
   ·refine .inr ⟨h0, fun j oj hj hjV hoj hdj => ?_⟩
    by_cases e : j = i
    ·subst e
     rw [ho] at hoj; cases hoj
     rw [hd] at hdj; cases hdj
     exact Nat.ne_of_beq_eq_false hq rfl
    ·exact hno j oj hj (qR hjV e) hoj hdj
 ·intro j oj hj hoj hjV e he hb
  by_cases e2 : j = i
  ·subst e2
   rw [ho] at hoj; cases hoj
   exact wU (hr e he hb)
  ·exact wU (h.vclosed j oj hj hoj (qR hjV e2) e he hb)
 ·intro i' o' hi' ho' hV' hnl'
  have e : i' ≠ i := fun e => by
   subst e
   have : (listed.setIfInBounds i' true).getD i' false = true := by simp [show i' < listed.size by rw [h.size]; exact hil]
   rw [this] at hnl'; cases hnl'
  have hVo := qR hV' e
  have hnl : listed.getD i' false = false := by
   cases hq : listed.getD i' false with
   | false => rfl
   | true => rw [vQ hq] at hnl'; cases hnl'
  obtain ⟨d', ri, k1, k2, k3, k4⟩ := h.rcd i' o' hi' ho' hVo hnl
  refine ⟨d', ri, k1, k2, ?_, by rw [hval i' hVo]; exact fun m'' F hle => by rw [List.append_assoc]; exact k4 m'' (B ++ F) (hm.trans hle)⟩
  intro t hlook u hget
  rcases k3 t hlook u hget with ⟨j, oj, hj, hoj, hdj, hv, e', he', hb', hon'⟩ | h2
  ·have hjV : V.testBit j = true := by have := h.vclosed i' o' hi' ho' hVo e' he' hb'; rwa [hon'] at this
   exact .inl ⟨j, oj, hj, hoj, hdj, by rw [hval j hjV]; exact hv, e', he', hb', hon'⟩
  ·exact .inr h2
 ·intro j hj hjl
  by_cases e : j = i
  ·subst e; exact zAX V j
  ·exact wU (h.sub j hj (wN hjl e))
 ·intro j hj hjl
  cases hq : (listed.setIfInBounds i true).getD j false with
  | false => rfl
  | true => have := wN hq (by omega); rw [h.tail j hj hjl] at this; cases this
 ·intro j oj dj hj hjl hoj hdj
  by_cases e : j = i
  ·subst e
   rw [ho] at hoj; cases hoj
   rw [hd] at hdj; cases hdj
   simp only [if_true]
   exact Array.getElem?_setIfInBounds_self_of_lt hdlt
  ·have hjl' := wN hjl e
   have hne : d ≠ dj := fun e2 => by
    subst e2
    exact e (ok.dst j oj hj hoj _ hdj i o hi ho hd)
   rw [Array.getElem?_setIfInBounds_ne hne, hval j (h.sub j hj hjl')]
   exact h.done j oj dj hj hjl' hoj hdj
 ·intro t u ht hno
  have hil' : (listed.setIfInBounds i true).getD i false = true := by simp [show i < listed.size by rw [h.size]; exact hil]
  have hne : d ≠ t := fun e => by subst e; exact hno i o hi hil' ho hd
  rw [Array.getElem?_setIfInBounds_ne hne]
  exact h.old t u ht (fun j oj hj hjl hoj => hno j oj hj (vQ hjl) hoj)
theorem DInv.actN (ok : DrawOk l g M) (h : DInv P ro n w0 l g M ds S r0 V r m val listed tmps) {i : Nat} {o : Oper} {m' : Mem} {B : SHeap} (hi : i < g) (ho : l[i]? = some o) (hV : V.testBit i = false)
  (hw : ∀ e ∈ o.after, bind1 e = true → listed.getD e.on false = true) (hd : o.dst = none) (hm : m.le m') :
  DInv P ro n w0 l g M ds (S ++ B) r0 (V ||| 1 <<< i) r m' val (listed.setIfInBounds i true) tmps := by
 have hil := (List.getElem?_eq_some_iff.1 ho).1
 have hr : readyV V o := fun e he hb => h.sub e.on (by have := ok.down i o ho e he hb; omega) (hw e he hb)
 refine ⟨?_, ?_, ?_, by simp [h.size], jW h.closed ho hw, ?_, ?_, h.tsize, ?_, ?_⟩
 ·intro t u ht
  rcases h.env t u ht with ⟨j, oj, hj, hjV, hoj, hdj, hv⟩ | ⟨h0, hno⟩
  ·exact .inl ⟨j, oj, hj, wU hjV, hoj, hdj, hv⟩
  ·refine .inr ⟨h0, fun j oj hj hjV hoj hdj => ?_⟩
   by_cases e : j = i
   ·subst e
    rw [ho] at hoj; cases hoj
    rw [hd] at hdj; cases hdj
   ·exact hno j oj hj (qR hjV e) hoj hdj
 ·intro j oj hj hoj hjV e he hb
  by_cases e2 : j = i
  ·subst e2
   rw [ho] at hoj; cases hoj
   exact wU (hr e he hb)
  ·exact wU (h.vclosed j oj hj hoj (qR hjV e2) e he hb)
 ·intro i' o' hi' ho' hV' hnl'
  have e : i' ≠ i := fun e => by
   subst e
   have : (listed.setIfInBounds i' true).getD i' false = true := by simp [show i' < listed.size by rw [h.size]; exact hil]
   rw [this] at hnl'; cases hnl'
  have hVo := qR hV' e
  have hnl : listed.getD i' false = false := by
   cases hq : listed.getD i' false with
   | false => rfl
   | true => rw [vQ hq] at hnl'; cases hnl'
  obtain ⟨d', ri, k1, k2, k3, k4⟩ := h.rcd i' o' hi' ho' hVo hnl
  exact ⟨d', ri, k1, k2, k3, fun m'' F hle => by rw [List.append_assoc]; exact k4 m'' (B ++ F) (hm.trans hle)⟩
 ·intro j hj hjl
  by_cases e : j = i
  ·subst e; exact zAX V j
  ·exact wU (h.sub j hj (wN hjl e))
 ·intro j hj hjl
  cases hq : (listed.setIfInBounds i true).getD j false with
  | false => rfl
  | true => have := wN hq (by omega); rw [h.tail j hj hjl] at this; cases this
 ·intro j oj dj hj hjl hoj hdj
  by_cases e : j = i
  ·subst e
   rw [ho] at hoj; cases hoj
   rw [hd] at hdj; cases hdj
  ·exact h.done j oj dj hj (wN hjl e) hoj hdj
 ·intro t u ht hno
  exact h.old t u ht (fun j oj hj hjl hoj => hno j oj hj (vQ hjl) hoj)
theorem zKD (ok : DrawOk l g M) {K : Env → Mem → SHeap → SHeap → Prop} (hK : ∀ r m S U, K r m S U → WL P ro n w0 l.toArray Q (l.drop g) r ds m (S ++ U)) :
  ∀ (fuel k : Nat) (V : Nat) (r : Env) (m : Mem) (S U : SHeap) (val : Nat → Value) (listed : Array Bool) (tmps : Array Value) (w : World),
   WE P ro n w0 l g ds K k V r m S U → DInv P ro n w0 l g M ds S r0 V r m val listed tmps → Sat w0 m (S ++ U) w →
   ((List.range l.length).filter fun i => !listed.getD i false).length ≤ fuel → wpAnyIn (FW ro) 0 P .any l.toArray Q fuel listed ⟨tmps, marks ds⟩ w := by
 -- where all is done
 have final : ∀ (fuel : Nat) (V : Nat) (r : Env) (m : Mem) (S U : SHeap) (val : Nat → Value) (listed : Array Bool) (tmps : Array Value) (w : World), K r m S U → DInv P ro n w0 l g M ds S r0 V r m val listed tmps → Sat w0 m (S ++ U) w →
   (∀ i, i < g → listed.getD i false = true) → (∀ i, i < g → V.testBit i = true) → ((List.range l.length).filter fun i => !listed.getD i false).length ≤ fuel → wpAnyIn (FW ro) 0 P .any l.toArray Q fuel listed ⟨tmps, marks ds⟩ w := by
  intro fuel V r m S U val listed tmps w hk hI hs hall hV hf
  refine zC8 ok fuel g listed _ _ hI.size (Nat.le_refl _) ok.le (fun i hi => ⟨fun h => ?_, hall i⟩) ?_ ?_
  ·rcases Nat.lt_or_ge i g with hlt | hge
   ·exact hlt
   ·rw [hI.tail i hge hi] at h; cases h
  ·have : (List.range l.length).filter (fun i => !listed.getD i false) = (List.range l.length).filter (fun i => decide (g ≤ i)) := by
    apply List.filter_congr
    intro i hi
    have hi' := List.mem_range.1 hi
    rcases Nat.lt_or_ge i g with hlt | hge
    ·rw [hall i hlt]; simp; omega
    ·rw [hI.tail i hge hi']; simp [hge]
   rw [this] at hf
   have hcnt : l.length - g ≤ ((List.range l.length).filter (fun i => decide (g ≤ i))).length := by
    have hsub : List.Sublist (List.range' g (l.length - g)) ((List.range l.length).filter (fun i => decide (g ≤ i))) := by
     obtain ⟨k, hk⟩ : ∃ k, l.length = g + k := ⟨l.length - g, by have := ok.le; omega⟩
     have e : List.range l.length = List.range' 0 g ++ List.range' g (l.length - g) := by
      rw [List.range_eq_range', hk, Nat.add_sub_cancel_left]
      have := @List.range'_append 0 g k 1
      simpa using this.symm
     rw [e, List.filter_append]
     refine List.Sublist.trans ?_ (List.sublist_append_right _ _)
     rw [List.filter_eq_self.2 (fun i hi => by have := List.mem_range'_1.1 hi; simp; omega)]
     exact List.Sublist.refl _
    have := hsub.length_le
    simpa using this
   omega
  ·refine hK r m S U hk tmps w ⟨hI.tsize, fun t u ht => ?_⟩ hs
   rcases hI.env t u ht with ⟨j, o, hj, _, hoj, hdj, hv⟩ | ⟨h0, hno⟩
   ·rw [hI.done j o t hj (hall j hj) hoj hdj, hv]
   ·exact hI.old t u h0 (fun j o hj hjl hoj => hno j o hj (hV j hj) hoj)
 intro fuel
 induction fuel with
 | zero =>
  intro k
  induction k with
  | zero => intro V r m S U val listed tmps w h; exact h.elim
  | succ k ihk =>
   intro V r m S U val listed tmps w h hI hs hf
   have hall : ∀ i, i < l.length → listed.getD i false = true := by
    intro i hi
    cases hq : listed.getD i false with
    | true => rfl
    | false =>
     exfalso
     have : i ∈ (List.range l.length).filter fun i => !listed.getD i false := by simp only [List.mem_filter, List.mem_range]; exact ⟨hi, by rw [hq]; rfl⟩
     have h0 := List.eq_nil_of_length_eq_zero (Nat.le_zero.1 hf)
     rw [h0] at this; cases this
   have hV : ∀ i, i < g → V.testBit i = true := fun i hi => hI.sub i hi (hall i (by have := ok.le; omega))
   rcases h with ⟨_, hk⟩ | ⟨i, o, d, v, hi, _, hVi, _⟩ | ⟨⟨i, hi, hVi⟩, _⟩
   ·exact final 0 V r m S U val listed tmps w hk hI hs (fun i hi => hall i (by have := ok.le; omega)) hV hf
   ·rw [hV i hi] at hVi; cases hVi
   ·rw [hV i hi] at hVi; cases hVi
 | succ fuel ihf =>
  intro k
  induction k with
  | zero => intro V r m S U val listed tmps w h; exact h.elim
  | succ k ihk =>
   intro V r m S U val listed tmps w h hI hs hf
   by_cases hcalm : ∃ i o d v, i < g ∧ l[i]? = some o ∧ V.testBit i = false ∧ readyV V o ∧ o.dst = some d ∧ (∀ c, o.op ≠ .defer c) ∧
     (∀ m' F, m.le m' → WL P ro n w0 l.toArray (Q1 w0 d v ds m' (S ++ F)) [o] (Env.sel (o.looksAt l.toArray) r) ds m' (S ++ F)) ∧ WE P ro n w0 l g ds K k (V ||| 1 <<< i) ((d, v) :: r) m S U
   ·obtain ⟨i, o, d, v, hi, ho, hV, hr, hd, hnd, hwl, hwe⟩ := hcalm
    exact ihk _ _ m S U _ listed tmps w hwe (hI.calm ok hi ho hV hr hd hnd hwl) hs hf
   -- an operation that is calm already, or one that acts
   have hcount : ∀ i, i < l.length → listed.getD i false = false → ((List.range l.length).filter fun k => !(listed.setIfInBounds i true).getD k false).length ≤ fuel := fun i hi hnl => by
    have := zHP hI.size hi hnl; omega
   by_cases hfin : ∀ i, i < g → listed.getD i false = true
   ·have hV : ∀ i, i < g → V.testBit i = true := fun i hi => hI.sub i hi (hfin i hi)
    rcases h with ⟨_, hk⟩ | h | ⟨⟨i, hi, hVi⟩, _⟩
    ·exact final _ V r m S U val listed tmps w hk hI hs hfin hV hf
    ·exact absurd h hcalm
    ·rw [hV i hi] at hVi; cases hVi
   refine ⟨fun hr => absurd (fun i hi => qL ok hI.size hr i (by have := ok.le; omega)) hfin, fun i hir => ?_⟩
   obtain ⟨h1, o, h2, h3⟩ := zA4 hir
   have hil := (List.getElem?_eq_some_iff.1 h2).1
   have hig : i < g := by
    rcases Nat.lt_or_ge i g with hlt | hge
    ·exact hlt
    ·exfalso
     refine hfin (fun k hk => ?_)
     exact uK ok hI.closed i o h2 h3 k (ok.all i hge hil k (by omega))
   have hnl : listed.getD i false = false := by
    have hsz := hI.size
    simp only [Array.getD_eq_getD_getElem?] at h1 ⊢
    rw [Array.getElem?_eq_getElem (by omega)] at h1 ⊢
    exact h1
   cases hVi : V.testBit i with
   | true =>
    refine hI.deferred ok hs hig h2 hVi hnl h3 (fun tmps' w' hI' hs' => ?_)
    exact ihf (k + 1) V r m S U val _ tmps' w' h hI' hs' (hcount i hil hnl)
   | false =>
    rcases h with ⟨hV, _⟩ | h | ⟨_, h⟩
    ·rw [hV i hig] at hVi; cases hVi
    ·exact absurd h hcalm
    ·have hrV : readyV V o := fun e he hb => hI.sub e.on (by have := ok.down i o h2 e he hb; omega) (h3 e he hb)
     have henv : ∀ t u, (Env.sel (o.looksAt l.toArray) r).get t = some u → tmps[t]? = some u := by
      intro t u ht
      obtain ⟨hlook, hget⟩ := Env.sel_get ht
      rcases hI.env t u hget with ⟨j, oj, hj, hjV, hoj, hdj, hv⟩ | ⟨h0, hno⟩
      ·rcases ok.reads i o hig h2 t hlook j oj hj hoj hdj with ⟨_, e, he, hb, hon⟩ | ⟨_, hbit⟩
       ·have := h3 e he hb
        rw [hon] at this
        rw [hI.done j oj t hj this hoj hdj, hv]
       ·have := hI.vmask ok hj hoj (hI.vclosed j oj hj hoj hjV) hbit
        rw [hVi] at this; cases this
      ·exact hI.old t u h0 (fun j oj hj hjl hoj => hno j oj hj (hI.sub j hj hjl) hoj)
     rcases h i o hig h2 hVi hrV with ⟨d, hd, hnd, hwl⟩ | ⟨hd, hnd, hwl⟩
     ·refine zDH (by simpa using h2) hd hnd ?_ ?_ (hwl tmps w ⟨hI.tsize, henv⟩ hs) ?_
      ·rintro a w ⟨v, m', B, U', _, hdf, _⟩; exact hdf
      ·intro e a w hq
       cases e <;> first | rfl | exact hq.elim
      ·rintro v0 w' ⟨v, m', B, U', hv, _, hm, hs', hwe⟩
       have hdlt : d < tmps.size := by
        rcases Nat.lt_or_ge d tmps.size with hlt | hge
        ·exact hlt
        ·simp only at hv
         rw [Array.getElem?_eq_none (by simpa using hge)] at hv; cases hv
       have hv0 : v0 = v := by
        simp only at hv
        rw [Array.getElem?_setIfInBounds_self_of_lt hdlt] at hv
        exact Option.some.inj hv
       subst hv0
       exact ihf k _ _ m' (S ++ B) U' _ _ _ w' hwe (hI.act ok hig h2 hVi h3 hd hm hdlt) hs' (hcount i hil hnl)
     ·refine zC7 (by simpa using h2) hd hnd ?_ ?_ (hwl tmps w ⟨hI.tsize, henv⟩ hs) ?_
      ·rintro a w ⟨m', B, U', hdf, _⟩; exact hdf
      ·intro e a w hq
       cases e <;> first | rfl | exact hq.elim
      ·rintro w' ⟨m', B, U', _, hm, hs', hwe⟩
       exact ihf k _ _ m' (S ++ B) U' _ _ _ w' hwe (hI.actN ok hig h2 hVi h3 hd hm) hs' (hcount i hil hnl)
end sound
def readyB (V : Nat) (o : Oper) : Bool := o.after.all fun e => !bind1 e || V.testBit e.on
theorem readyB_iff {V : Nat} {o : Oper} : readyB V o = true ↔ readyV V o := by
 unfold readyB readyV
 rw [Array.all_eq_true']
 constructor
 ·intro h e he hb
  have := h e he
  simpa [hb] using this
 ·intro h e he
  cases hb : bind1 e with
  | false => simp
  | true => simp [h e he hb]
def onlyB (l : List Oper) (g V : Nat) (js : List Nat) : Bool :=
 ((List.range g).any fun i => !V.testBit i) && ((List.range g).all fun i => V.testBit i || js.contains i || match l[i]? with | some o => !readyB V o | none => true)
theorem zFU {l : List Oper} {g V : Nat} {js : List Nat} (h : onlyB l g V js = true) : (∃ i, i < g ∧ V.testBit i = false) ∧ ∀ i o, i < g → l[i]? = some o → V.testBit i = false → readyV V o → i ∈ js := by
 unfold onlyB at h
 rw [Bool.and_eq_true] at h
 constructor
 ·obtain ⟨i, hi, hV⟩ := List.any_eq_true.1 h.1
  exact ⟨i, List.mem_range.1 hi, by simpa using hV⟩
 ·intro i o hi ho hV hr
  have := List.all_eq_true.1 h.2 i (List.mem_range.2 hi)
  have hrb := readyB_iff.2 hr
  rw [ho, hV] at this
  simpa [hrb] using this
section build
variable {g : Nat} {S U : SHeap} {K : Env → Mem → SHeap → SHeap → Prop} {k V : Nat}
theorem WE.done (h : ((List.range g).all fun i => V.testBit i) = true) (hK : K r m S U) : WE P ro n w0 l g ds K (k + 1) V r m S U :=
 .inl ⟨fun i hi => List.all_eq_true.1 h i (List.mem_range.2 hi), hK⟩
theorem WE.calm (i : Nat) {o : Oper} {d : Nat} {v : Value} (hV : V.testBit i = false) (hi : Nat.blt i g = true) (ho : l[i]? = some o) (hr : readyB V o = true) (hd : o.dst = some d) (hnd : ∀ c, o.op ≠ .defer c)
  (hwl : ∀ m' F, m.le m' → WL P ro n w0 l.toArray (Q1 w0 d v ds m' (S ++ F)) [o] (Env.sel (o.looksAt l.toArray) r) ds m' (S ++ F))
  (h : WE P ro n w0 l g ds K k (V ||| 1 <<< i) ((d, v) :: r) m S U) : WE P ro n w0 l g ds K (k + 1) V r m S U :=
 .inr (.inl ⟨i, o, d, v, by simpa [Nat.blt_eq] using hi, ho, hV, readyB_iff.1 hr, hd, hnd, hwl, h⟩)
def Acts (P : Program) (ro : Option Nat) (n : Nat) (w0 : World) (l : List Oper) (g : Nat) (ds : List Dfr) (K : Env → Mem → SHeap → SHeap → Prop) (k V : Nat) (r : Env) (m : Mem) (S U : SHeap) (i : Nat) : Prop :=
 ∃ o d, l[i]? = some o ∧ o.dst = some d ∧ (∀ c, o.op ≠ .defer c) ∧
  WL P ro n w0 l.toArray (QE w0 d ds S m fun v m' S' U' => WE P ro n w0 l g ds K k (V ||| 1 <<< i) ((d, v) :: r) m' S' U') [o] (Env.sel (o.looksAt l.toArray) r) ds m (S ++ U)
theorem WE.acts (js : List Nat) (h : onlyB l g V js = true) (hj : ∀ i ∈ js, Acts P ro n w0 l g ds K k V r m S U i) : WE P ro n w0 l g ds K (k + 1) V r m S U := by
 obtain ⟨h1, h2⟩ := zFU h
 refine .inr (.inr ⟨h1, fun i o hi ho hV hr => ?_⟩)
 obtain ⟨o', d, ho', hd, hnd, hwl⟩ := hj i (h2 i o hi ho hV hr)
 rw [ho] at ho'; cases ho'
 exact .inl ⟨d, hd, hnd, hwl⟩
theorem WE.act0 (i : Nat) {o : Oper} (h : onlyB l g V [i] = true) (ho : l[i]? = some o) (hd : o.dst = none) (hnd : ∀ c, o.op ≠ .defer c)
  (hwl : WL P ro n w0 l.toArray (QN w0 ds S m fun m' S' U' => WE P ro n w0 l g ds K k (V ||| 1 <<< i) r m' S' U') [o] (Env.sel (o.looksAt l.toArray) r) ds m (S ++ U)) : WE P ro n w0 l g ds K (k + 1) V r m S U := by
 obtain ⟨h1, h2⟩ := zFU h
 refine .inr (.inr ⟨h1, fun i' o' hi ho' hV hr => ?_⟩)
 have := h2 i' o' hi ho' hV hr
 rw [List.mem_singleton] at this
 subst this
 rw [ho] at ho'; cases ho'
 exact .inr ⟨hd, hnd, hwl⟩
theorem WE.act1 (i : Nat) {o : Oper} {d : Nat} (h : onlyB l g V [i] = true) (ho : l[i]? = some o) (hd : o.dst = some d) (hnd : ∀ c, o.op ≠ .defer c)
  (hwl : WL P ro n w0 l.toArray (QE w0 d ds S m fun v m' S' U' => WE P ro n w0 l g ds K k (V ||| 1 <<< i) ((d, v) :: r) m' S' U') [o] (Env.sel (o.looksAt l.toArray) r) ds m (S ++ U)) : WE P ro n w0 l g ds K (k + 1) V r m S U :=
 .acts [i] h (fun j hj => by rw [List.mem_singleton] at hj; subst hj; exact ⟨o, d, ho, hd, hnd, hwl⟩)
theorem WE.act2 (i j : Nat) {o o' : Oper} {d d' : Nat} (h : onlyB l g V [i, j] = true) (ho : l[i]? = some o) (hd : o.dst = some d) (hnd : ∀ c, o.op ≠ .defer c) (ho' : l[j]? = some o') (hd' : o'.dst = some d') (hnd' : ∀ c, o'.op ≠ .defer c)
  (hwl : WL P ro n w0 l.toArray (QE w0 d ds S m fun v m' S' U' => WE P ro n w0 l g ds K k (V ||| 1 <<< i) ((d, v) :: r) m' S' U') [o] (Env.sel (o.looksAt l.toArray) r) ds m (S ++ U))
  (hwl' : WL P ro n w0 l.toArray (QE w0 d' ds S m fun v m' S' U' => WE P ro n w0 l g ds K k (V ||| 1 <<< j) ((d', v) :: r) m' S' U') [o'] (Env.sel (o'.looksAt l.toArray) r) ds m (S ++ U)) : WE P ro n w0 l g ds K (k + 1) V r m S U :=
 .acts [i, j] h (fun q hq => by
  rcases List.mem_cons.1 hq with rfl | hq
  ·exact ⟨o, d, ho, hd, hnd, hwl⟩
  ·rw [List.mem_singleton] at hq; subst hq; exact ⟨o', d', ho', hd', hnd', hwl'⟩)
end build
theorem WC.drawE {id : Nat} {l : List Oper} (g : Nat) (S U : SHeap) (hm : P.follows .mixedOrders = true) (hc : drawC l g = true) (hS : ∀ w, Sat w0 m H w → Sat w0 m (S ++ U) w)
  (h : WE P ro n w0 l g ds (fun r' m' S' U' => WL P ro n w0 l.toArray Q (l.drop g) r' ds m' (S' ++ U')) 200 0 r m S U) : WC P ro n w0 (.region id l.toArray true) Q r ds m H := by
 intro tmps w ho hs
 have ok := zF4 hc
 refine wpIn_region_draw fun t => ?_
 simp only [Region.schedule, hm, Bool.true_or, if_true]
 refine wpAnyIn_sound _ _ _ _ _ ?_
 have hz : ∀ k, (Array.replicate l.length false).getD k false = false := by
  intro k
  simp only [Array.getD_eq_getD_getElem?]
  by_cases hk : k < l.length
  ·simp [hk]
  ·rw [Array.getElem?_eq_none (by simpa using hk)]; rfl
 have hsz : l.toArray.size = l.length := by simp
 rw [hsz]
 refine zKD (r0 := r) ok (fun _ _ _ _ h => h) l.length 200 0 r m S U (fun _ => undef) _ tmps _ h ?_ (hS _ hs.drew) ?_
 ·refine ⟨fun t u ht => .inr ⟨ht, fun j o _ hj => ?_⟩, fun j o _ _ hj => ?_, fun i o _ _ hj => ?_, by simp, fun j o _ hj => ?_, fun j _ hj => ?_, fun j _ _ => hz j, ho.size, fun j o d _ hj => ?_, fun t u ht _ => ho.at_ t u ht⟩
  ·simp at hj
  ·simp at hj
  ·simp at hj
  ·rw [hz] at hj; cases hj
  ·rw [hz] at hj; cases hj
  ·rw [hz] at hj; cases hj
 ·exact Nat.le_trans (List.length_filter_le _ _) (by simp)
end
end Go.Eng
namespace Go.Eng
open Go Go.RowKit
section
def QJoinX (n : Nat) (w0 : World) (id : Nat) (I : Env → List Dfr → Mem → SHeap → Prop) (Q : Exit → Act → World → Prop) : Exit → Act → World → Prop
 | .exit j, a, w => if j = id then ∃ r ds m H, I r ds m H ∧ r.ok n a.tmps ∧ a.defers = marks ds ∧ Sat w0 m H w else Q (.exit j) a w
 | e, a, w => Q e a w
attribute [irreducible] QJoinX
end
end Go.Eng
namespace Go.Eng
open Go Go.RowKit
section
variable {g : Nat} {S U : SHeap} {K : Env → Mem → SHeap → SHeap → Prop} {k V : Nat}
theorem wcal (i : Nat) {o : Oper} {d : Nat} {v : Value}
  (h : WE P ro n w0 l g ds K k (V ||| 1 <<< i) ((d, v) :: r) m S U) (hV : V.testBit i = false := by decide +kernel) (hi : Nat.blt i g = true := by exact rfl) (ho : l[i]? = some o := by exact rfl) (hr : readyB V o = true := by decide +kernel) (hd : o.dst = some d := by exact rfl) (hnd : ∀ c, o.op ≠ .defer c := by intro c h; cases h)
  (hwl : ∀ m' F, m.le m' → WL P ro n w0 l.toArray (Q1 w0 d v ds m' (S ++ F)) [o] (Env.sel (o.looksAt l.toArray) r) ds m' (S ++ F)) : WE P ro n w0 l g ds K (k + 1) V r m S U :=
 WE.calm i hV hi ho hr hd hnd hwl h
end
theorem cm0 {G G' : Prop} (next : G') (h : Bx G' → G := by intro zzn; (try (refine wcal 0 ?_ (hwl := by intro zm zF zle; ((repeat (refine sp ?_; intros)); exact WQ.q1 rfl)))); (try (refine wcal 1 ?_ (hwl := by intro zm zF zle; ((repeat (refine sp ?_; intros)); exact WQ.q1 rfl)))); (try (refine wcal 2 ?_ (hwl := by intro zm zF zle; ((repeat (refine sp ?_; intros)); exact WQ.q1 rfl)))); (try (refine wcal 3 ?_ (hwl := by intro zm zF zle; ((repeat (refine sp ?_; intros)); exact WQ.q1 rfl)))); (try (refine wcal 4 ?_ (hwl := by intro zm zF zle; ((repeat (refine sp ?_; intros)); exact WQ.q1 rfl)))); (try (refine wcal 5 ?_ (hwl := by intro zm zF zle; ((repeat (refine sp ?_; intros)); exact WQ.q1 rfl)))); (try (refine wcal 6 ?_ (hwl := by intro zm zF zle; ((repeat (refine sp ?_; intros)); exact WQ.q1 rfl)))); (try (refine wcal 7 ?_ (hwl := by intro zm zF zle; ((repeat (refine sp ?_; intros)); exact WQ.q1 rfl)))); (try (refine wcal 8 ?_ (hwl := by intro zm zF zle; ((repeat (refine sp ?_; intros)); exact WQ.q1 rfl)))); (try (refine wcal 9 ?_ (hwl := by intro zm zF zle; ((repeat (refine sp ?_; intros)); exact WQ.q1 rfl)))); (try (refine wcal 10 ?_ (hwl := by intro zm zF zle; ((repeat (refine sp ?_; intros)); exact WQ.q1 rfl)))); (try (refine wcal 11 ?_ (hwl := by intro zm zF zle; ((repeat (refine sp ?_; intros)); exact WQ.q1 rfl)))); (try (refine wcal 12 ?_ (hwl := by intro zm zF zle; ((repeat (refine sp ?_; intros)); exact WQ.q1 rfl)))); (try (refine wcal 13 ?_ (hwl := by intro zm zF zle; ((repeat (refine sp ?_; intros)); exact WQ.q1 rfl)))); (try (refine wcal 14 ?_ (hwl := by intro zm zF zle; ((repeat (refine sp ?_; intros)); exact WQ.q1 rfl)))); (try (refine wcal 15 ?_ (hwl := by intro zm zF zle; ((repeat (refine sp ?_; intros)); exact WQ.q1 rfl)))); (try (refine wcal 16 ?_ (hwl := by intro zm zF zle; ((repeat (refine sp ?_; intros)); exact WQ.q1 rfl)))); (try (refine wcal 17 ?_ (hwl := by intro zm zF zle; ((repeat (refine sp ?_; intros)); exact WQ.q1 rfl)))); (try (refine wcal 18 ?_ (hwl := by intro zm zF zle; ((repeat (refine sp ?_; intros)); exact WQ.q1 rfl)))); (try (refine wcal 19 ?_ (hwl := by intro zm zF zle; ((repeat (refine sp ?_; intros)); exact WQ.q1 rfl)))); (try (refine wcal 20 ?_ (hwl := by intro zm zF zle; ((repeat (refine sp ?_; intros)); exact WQ.q1 rfl)))); (try (refine wcal 21 ?_ (hwl := by intro zm zF zle; ((repeat (refine sp ?_; intros)); exact WQ.q1 rfl)))); (try (refine wcal 22 ?_ (hwl := by intro zm zF zle; ((repeat (refine sp ?_; intros)); exact WQ.q1 rfl)))); (try (refine wcal 23 ?_ (hwl := by intro zm zF zle; ((repeat (refine sp ?_; intros)); exact WQ.q1 rfl)))); (try (refine wcal 24 ?_ (hwl := by intro zm zF zle; ((repeat (refine sp ?_; intros)); exact WQ.q1 rfl)))); (try (refine wcal 25 ?_ (hwl := by intro zm zF zle; ((repeat (refine sp ?_; intros)); exact WQ.q1 rfl)))); (try (refine wcal 26 ?_ (hwl := by intro zm zF zle; ((repeat (refine sp ?_; intros)); exact WQ.q1 rfl)))); (try (refine wcal 27 ?_ (hwl := by intro zm zF zle; ((repeat (refine sp ?_; intros)); exact WQ.q1 rfl)))); (try (refine wcal 28 ?_ (hwl := by intro zm zF zle; ((repeat (refine sp ?_; intros)); exact WQ.q1 rfl)))); (try (refine wcal 29 ?_ (hwl := by intro zm zF zle; ((repeat (refine sp ?_; intros)); exact WQ.q1 rfl)))); (try (refine wcal 30 ?_ (hwl := by intro zm zF zle; ((repeat (refine sp ?_; intros)); exact WQ.q1 rfl)))); (try (refine wcal 31 ?_ (hwl := by intro zm zF zle; ((repeat (refine sp ?_; intros)); exact WQ.q1 rfl)))); (try (refine wcal 32 ?_ (hwl := by intro zm zF zle; ((repeat (refine sp ?_; intros)); exact WQ.q1 rfl)))); (try (refine wcal 33 ?_ (hwl := by intro zm zF zle; ((repeat (refine sp ?_; intros)); exact WQ.q1 rfl)))); (try (refine wcal 34 ?_ (hwl := by intro zm zF zle; ((repeat (refine sp ?_; intros)); exact WQ.q1 rfl)))); (try (refine wcal 35 ?_ (hwl := by intro zm zF zle; ((repeat (refine sp ?_; intros)); exact WQ.q1 rfl)))); (try (refine wcal 36 ?_ (hwl := by intro zm zF zle; ((repeat (refine sp ?_; intros)); exact WQ.q1 rfl)))); (try (refine wcal 37 ?_ (hwl := by intro zm zF zle; ((repeat (refine sp ?_; intros)); exact WQ.q1 rfl)))); (try (refine wcal 38 ?_ (hwl := by intro zm zF zle; ((repeat (refine sp ?_; intros)); exact WQ.q1 rfl)))); (try (refine wcal 39 ?_ (hwl := by intro zm zF zle; ((repeat (refine sp ?_; intros)); exact WQ.q1 rfl)))); (try (refine wcal 40 ?_ (hwl := by intro zm zF zle; ((repeat (refine sp ?_; intros)); exact WQ.q1 rfl)))); (try (refine wcal 41 ?_ (hwl := by intro zm zF zle; ((repeat (refine sp ?_; intros)); exact WQ.q1 rfl)))); exact zzn.out) : G := h ⟨next⟩
end Go.Eng
namespace Go.Eng
open Go Go.RowKit
section
variable {t t' : TypeId} {x y : Operand}
theorem WL.indexAddrA {e : TypeId} {b o k sz i q : Nat} {ki : IntKind} {z : Int} (hx : r.ev x = some (.pointer (some ⟨b, o, none⟩))) (hy : r.ev y = some (.int ki z)) (hz : z = (i : Int)) (hu : P.underlying t = some (.array k e)) (hsz : xI P e = some sz)
  (hi : i < k) (hd : Nat.blt d n = true) (hq : lit (o + i * sz) = some q) (h : WL P ro n w0 ops Q l ((d, .pointer (some ⟨b, q, none⟩)) :: r) ds m H) :
  WL P ro n w0 ops Q (⟨some d, .indexAddr t x y, ty, pos, after, none⟩ :: l) r ds m H := by
 rw [kF] at hq
 have hq := Option.some.inj hq
 subst hz; subst hq
 refine .val hd (fun _ h => by cases h) (fun tmps w ho _ => ?_) h
 have h1 : (0 : Int) ≤ (i : Int) ∧ (i : Int) < (k : Int) := by omega
 simp only [execOp, Instr.indexAt, asIntOf, Instr.sureAddr, ho.ev hx, ho.ev hy, Sem.run_bind, Sem.run_pure, Result.andThen_ok, run_underlying hu]
 simp [h1, y8 hsz, xP]
end
section
theorem WL.heap {H' : SHeap} (hh : ∀ w, Sat w0 m H w → Sat w0 m H' w) (h : WL P ro n w0 ops Q l r ds m H') : WL P ro n w0 ops Q l r ds m H := fun tmps w ho hs => h tmps w ho (hh w hs)
end
theorem all_cons {α : Type} {p : α → Prop} {a : α} {l : List α} (h : p a) (k : ∀ x ∈ l, p x) : ∀ x ∈ a :: l, p x := fun x hx => by
 rcases List.mem_cons.1 hx with rfl | hx
 ·exact h
 ·exact k x hx
theorem Acts.mk {P : Program} {ro : Option Nat} {n : Nat} {w0 : World} {l : List Oper} {g : Nat} {ds : List Dfr} {K : Env → Mem → SHeap → SHeap → Prop} {k V : Nat} {r : Env} {m : Mem} {S U : SHeap} {i : Nat} {o : Oper} {d : Nat} (ho : l[i]? = some o) (hd : o.dst = some d) (hnd : ∀ c, o.op ≠ .defer c)
  (h : WL P ro n w0 l.toArray (QE w0 d ds S m fun v m' S' U' => WE P ro n w0 l g ds K k (V ||| 1 <<< i) ((d, v) :: r) m' S' U') [o] (Env.sel (o.looksAt l.toArray) r) ds m (S ++ U)) : Acts P ro n w0 l g ds K k V r m S U i := ⟨o, d, ho, hd, hnd, h⟩
end Go.Eng
namespace Go.Eng
open Go Go.RowKit
@[reducible] def Item.bl (b : Nat) (L : List Value) (T : TypeId) : Item := .blk b (.cells L.toArray T (0, 0))
@[reducible] def _root_.Go.Value.pp (b : Nat) : Value := .pointer (some ⟨b, 0, none⟩)
theorem sqg {G : Prop} (h : G := by (repeat (first | (refine sp ?_; (repeat intro zzc)) | (refine zal ?_; (repeat intro zzc)))); exact WQ.q1 rfl) : G := h
theorem sag {G G' : Prop} (next : G') (h : Bx G' → G := by intro zzn; (first | (refine zal ?_; (repeat intro zze)) | ((refine zdr ?_); (repeat (refine WD.cons rfl (fun c h => by cases h) sqg ?_)); refine WD.nil ?_)); (repeat revert zze); exact zzn.out) : G := h ⟨next⟩
theorem stg {G G' : Prop} (next : G') (h : Bx G' → G := by intro zzn; (first | ((refine st ?_; (repeat intro zzc)); (try ((refine sag ?_; (repeat intro zzc)); (try (refine st ?_; (repeat intro zzc)))))) | ((refine sag ?_; (repeat intro zzc)); (try (refine st ?_; (repeat intro zzc))))); (repeat ((refine sag ?_; (repeat intro zzc)); (try (refine st ?_; (repeat intro zzc))))); (repeat revert zzc); exact zzn.out) : G := h ⟨next⟩
theorem cmg {G G' : Prop} (next : G') (h : Bx G' → G := by intro zzn; (try (refine wcal 0 ?_ (hwl := by intro zm zF zle; exact sqg))); (try (refine wcal 1 ?_ (hwl := by intro zm zF zle; exact sqg))); (try (refine wcal 2 ?_ (hwl := by intro zm zF zle; exact sqg))); (try (refine wcal 3 ?_ (hwl := by intro zm zF zle; exact sqg))); (try (refine wcal 4 ?_ (hwl := by intro zm zF zle; exact sqg))); (try (refine wcal 5 ?_ (hwl := by intro zm zF zle; exact sqg))); (try (refine wcal 6 ?_ (hwl := by intro zm zF zle; exact sqg))); (try (refine wcal 7 ?_ (hwl := by intro zm zF zle; exact sqg))); (try (refine wcal 8 ?_ (hwl := by intro zm zF zle; exact sqg))); (try (refine wcal 9 ?_ (hwl := by intro zm zF zle; exact sqg))); (try (refine wcal 10 ?_ (hwl := by intro zm zF zle; exact sqg))); (try (refine wcal 11 ?_ (hwl := by intro zm zF zle; exact sqg))); (try (refine wcal 12 ?_ (hwl := by intro zm zF zle; exact sqg))); (try (refine wcal 13 ?_ (hwl := by intro zm zF zle; exact sqg))); (try (refine wcal 14 ?_ (hwl := by intro zm zF zle; exact sqg))); (try (refine wcal 15 ?_ (hwl := by intro zm zF zle; exact sqg))); (try (refine wcal 16 ?_ (hwl := by intro zm zF zle; exact sqg))); (try (refine wcal 17 ?_ (hwl := by intro zm zF zle; exact sqg))); (try (refine wcal 18 ?_ (hwl := by intro zm zF zle; exact sqg))); (try (refine wcal 19 ?_ (hwl := by intro zm zF zle; exact sqg))); (try (refine wcal 20 ?_ (hwl := by intro zm zF zle; exact sqg))); (try (refine wcal 21 ?_ (hwl := by intro zm zF zle; exact sqg))); (try (refine wcal 22 ?_ (hwl := by intro zm zF zle; exact sqg))); (try (refine wcal 23 ?_ (hwl := by intro zm zF zle; exact sqg))); (try (refine wcal 24 ?_ (hwl := by intro zm zF zle; exact sqg))); (try (refine wcal 25 ?_ (hwl := by intro zm zF zle; exact sqg))); (try (refine wcal 26 ?_ (hwl := by intro zm zF zle; exact sqg))); (try (refine wcal 27 ?_ (hwl := by intro zm zF zle; exact sqg))); (try (refine wcal 28 ?_ (hwl := by intro zm zF zle; exact sqg))); (try (refine wcal 29 ?_ (hwl := by intro zm zF zle; exact sqg))); (try (refine wcal 30 ?_ (hwl := by intro zm zF zle; exact sqg))); (try (refine wcal 31 ?_ (hwl := by intro zm zF zle; exact sqg))); (try (refine wcal 32 ?_ (hwl := by intro zm zF zle; exact sqg))); (try (refine wcal 33 ?_ (hwl := by intro zm zF zle; exact sqg))); (try (refine wcal 34 ?_ (hwl := by intro zm zF zle; exact sqg))); (try (refine wcal 35 ?_ (hwl := by intro zm zF zle; exact sqg))); (try (refine wcal 36 ?_ (hwl := by intro zm zF zle; exact sqg))); (try (refine wcal 37 ?_ (hwl := by intro zm zF zle; exact sqg))); (try (refine wcal 38 ?_ (hwl := by intro zm zF zle; exact sqg))); (try (refine wcal 39 ?_ (hwl := by intro zm zF zle; exact sqg))); (try (refine wcal 40 ?_ (hwl := by intro zm zF zle; exact sqg))); (try (refine wcal 41 ?_ (hwl := by intro zm zF zle; exact sqg))); exact zzn.out) : G := h ⟨next⟩
section
theorem zN {l : List Oper} {f : FuncId} {fn : Func} {c : Code} {args : List Operand} {vs : List Value} {ts : Array TypeId} {Post : Value → Mem → SHeap → Prop} {H2 : SHeap} (hf : P.funcs[f]? = some fn) (h : ∀ v m' H', Post v m' H' → WL P ro n w0 ops Q l ((d, v) :: r) ds m' H')
  (hname : (fn.name == "runtime.NumGoroutine") = false := by exact rfl) (hb : fn.body = some c := by exact rfl) (hv : r.evs args = some vs := by exact rfl) (hd : Nat.blt d n = true := by exact rfl) (hs : Does P f vs.toArray w0 m H2 Post) (hp : ∀ w, Sat w0 m H w → Sat w0 m H2 w := by exact zpk) :
  WL P ro n w0 ops Q (⟨some d, .call ⟨.value (.func f), args.toArray, ts⟩, ty, pos, after, none⟩ :: l) r ds m H := WL.heap hp (zA hf h hname hb hv hd hs)
theorem q_fz {fn : Func} {Post : Value → Mem → SHeap → Prop} {H0 : SHeap} {v : Value} (hp : Post v m H0) (hres : ∀ tmps w, r.ok n tmps → Sat w0 m H w → (results fn tmps).run P w = .ok v w := by (first | (apply vW; (· exact rfl); (· exact rfl)) | (apply uD; (· exact rfl); (· exact rfl); (· exact zlo)) | (apply uE; exact rfl) | (apply v8; (· exact rfl); (· repeat (first | exact ResAll.nil | (apply ResAll.tmp; (· exact rfl)) | (apply ResAll.cell; (· exact rfl); (· exact zlo)))); (· exact rfl)))) (hd : ∀ w, Sat w0 m H w → Sat w0 m H0 w := by exact zpk) : WQ n w0 (QFun P fn w0 Post) .ret r [] m H := zR hp hres hd
theorem q_nz {fn : Func} {Post : Value → Mem → SHeap → Prop} {H0 : SHeap} {v : Value} (hp : Post v m H0) (hres : ∀ tmps w, r.ok n tmps → Sat w0 m H w → (results fn tmps).run P w = .ok v w := by (first | (apply vW; (· exact rfl); (· exact rfl)) | (apply uD; (· exact rfl); (· exact rfl); (· exact zlo)) | (apply uE; exact rfl) | (apply v8; (· exact rfl); (· repeat (first | exact ResAll.nil | (apply ResAll.tmp; (· exact rfl)) | (apply ResAll.cell; (· exact rfl); (· exact zlo)))); (· exact rfl)))) (hd : ∀ w, Sat w0 m H w → Sat w0 m H0 w := by exact zpk) : WQ n w0 (QFun P fn w0 Post) .normal r [] m H := qF hp hres hd
theorem lpz {c : Code} {H0 : SHeap} {r0 : Env} (I : Nat → Env → List Dfr → Mem → SHeap → Prop) (j : Nat) (h0 : I j r0 ds m H0)
  (round : ∀ j r ds m H, I j r ds m H → WC P ro n w0 c (zJ n w0 I j Q) r ds m H) (hr : Env.Sub r0 r := by exact zsb) (hh : ∀ w, Sat w0 m H w → Sat w0 m H0 w := by exact zpk) : WC P ro n w0 (.loop c) Q r ds m H := WC.loopH r0 hr hh I j h0 round
theorem nxz {I : Nat → Env → List Dfr → Mem → SHeap → Prop} {j : Nat} {r' : Env} {H' : SHeap} (j' : Nat) (hI : I j' r' ds m H') (hlt : j' < j := by omega) (hr : Env.Sub r' r := by exact zsb) (hh : ∀ w, Sat w0 m H w → Sat w0 m H' w := by exact zpk) :
  WQ n w0 (zJ n w0 I j Q) .normal r ds m H := WQ.next j' hI hlt hr hh
variable {g : Nat} {S U : SHeap} {K : Env → Mem → SHeap → SHeap → Prop} {k V : Nat}
theorem wc1 (i : Nat) {o : Oper} {d : Nat} {v : Value}
  (h : WE P ro n w0 l g ds K k (V ||| 1 <<< i) ((d, v) :: r) m S U) (hV : V.testBit i = false := by decide +kernel) (hi : Nat.blt i g = true := by exact rfl) (ho : l[i]? = some o := by exact rfl) (hr : readyB V o = true := by decide +kernel) (hd : o.dst = some d := by exact rfl) (hnd : ∀ c, o.op ≠ .defer c := by intro c h; cases h)
  (hwl : ∀ m' F, m.le m' → WL P ro n w0 l.toArray (Q1 w0 d v ds m' (S ++ F)) [o] (Env.sel (o.looksAt l.toArray) r) ds m' (S ++ F) := by intro zm zF zle; exact sqg) :
  WE P ro n w0 l g ds K (k + 1) V r m S U := WE.calm i hV hi ho hr hd hnd hwl h
theorem wdz (hK : K r m S U) (h : ((List.range g).all fun i => V.testBit i) = true := by decide +kernel) : WE P ro n w0 l g ds K (k + 1) V r m S U := WE.done h hK
theorem wa0 (i : Nat) {o : Oper}
  (hwl : WL P ro n w0 l.toArray (QN w0 ds S m fun m' S' U' => WE P ro n w0 l g ds K k (V ||| 1 <<< i) r m' S' U') [o] (Env.sel (o.looksAt l.toArray) r) ds m (S ++ U)) (h : onlyB l g V [i] = true := by decide +kernel) (ho : l[i]? = some o := by exact rfl) (hd : o.dst = none := by exact rfl) (hnd : ∀ c, o.op ≠ .defer c := by intro c h; cases h) : WE P ro n w0 l g ds K (k + 1) V r m S U := WE.act0 i h ho hd hnd hwl
theorem wa1 (i : Nat) {o : Oper} {d : Nat}
  (hwl : WL P ro n w0 l.toArray (QE w0 d ds S m fun v m' S' U' => WE P ro n w0 l g ds K k (V ||| 1 <<< i) ((d, v) :: r) m' S' U') [o] (Env.sel (o.looksAt l.toArray) r) ds m (S ++ U)) (h : onlyB l g V [i] = true := by decide +kernel) (ho : l[i]? = some o := by exact rfl) (hd : o.dst = some d := by exact rfl) (hnd : ∀ c, o.op ≠ .defer c := by intro c h; cases h) : WE P ro n w0 l g ds K (k + 1) V r m S U := WE.act1 i h ho hd hnd hwl
theorem waz {v : Value} {d : Nat} {m0 : Mem} {K : Value → Mem → SHeap → SHeap → Prop} (B : SHeap) (hm : m0.le m) (hK : K v m (S ++ B) U) (hh : ∀ w, Sat w0 m H w → Sat w0 m (S ++ B ++ U) w := by exact zpk) (hv : r.get d = some v := by exact rfl) :
  WQ n w0 (QE w0 d ds S m0 K) .normal r ds m H := WQ.acted hv hm hh hK
theorem wsz {m0 : Mem} {K : Mem → SHeap → SHeap → Prop} (B : SHeap) (hm : m0.le m) (hK : K m (S ++ B) U) (hh : ∀ w, Sat w0 m H w → Sat w0 m (S ++ B ++ U) w := by exact zpk) :
  WQ n w0 (QN w0 ds S m0 K) .normal r ds m H := WQ.stored hm hh hK
theorem wdw {id : Nat} {l : List Oper} (g : Nat) (S : SHeap) {U : SHeap}
  (h : WE P ro n w0 l g ds (fun r' m' S' U' => WL P ro n w0 l.toArray Q (l.drop g) r' ds m' (S' ++ U')) 200 0 r m S U) (hm : P.follows .mixedOrders = true := by exact rfl) (hc : drawC l g = true := by decide +kernel) (hS : ∀ w, Sat w0 m H w → Sat w0 m (S ++ U) w := by exact zpk) : WC P ro n w0 (.region id l.toArray true) Q r ds m H := WC.drawE g S U hm hc hS h
end
end Go.Eng
namespace Go.Eng
open Go Go.RowKit
theorem ofInt32 {a : Int} (h : 0 ≤ a ∧ a ≤ 2147483647) : (BitVec.ofInt 32 a).toNat = a.toNat := by
 rw [BitVec.toNat_ofInt]; norm_cast; omega
section
variable {t t' : TypeId} {x y : Operand} {a : Int}
theorem WL.and32 (hx : r.ev x = some (.int .i32 a)) (hy : r.ev y = some (.int .i32 1)) (hd : Nat.blt d n = true) (ha : 0 ≤ a ∧ a ≤ 2147483647)
  (h : WL P ro n w0 ops Q l ((d, .int .i32 (a % 2)) :: r) ds m H) : WL P ro n w0 ops Q (⟨some d, .binOp .and t x y t', ty, pos, after, none⟩ :: l) r ds m H := by
 refine .int2 (fun _ _ _ => yH _ _ _ _ _ _ _ _) (fun w => ?_) hx hy hd h
 have h1 := ofInt32 ha
 have h2 : (BitVec.ofInt 32 1).toNat = 1 := by decide
 show (pure (Value.int IntKind.i32 (IntKind.i32.wrap (((BitVec.ofInt 32 a) &&& (BitVec.ofInt 32 1)).toNat : Int))) : Sem Value).run P w = _
 have h4 : ((a.toNat % 2 : Nat) : Int) = a % 2 := by omega
 rw [BitVec.toNat_and, h1, h2, Nat.and_one_is_mod, h4, jN ⟨by omega, by omega⟩]; rfl
end
theorem xW {p q : Prop} [Decidable p] [Decidable q] (h : p ↔ q) : dcd p = dcd q := by rw [y6, y6]; exact decide_eq_decide.2 h
theorem zDo {p : Prop} [Decidable p] : (!dcd p) = dcd (¬ p) := by rw [y6, y6]; exact (decide_not).symm
theorem kQ {p : Prop} [Decidable p] (h : p) : true = dcd p := (zE h).symm
theorem zAu {p : Prop} [Decidable p] (h : ¬ p) : false = dcd p := (zH h).symm
end Go.Eng
namespace Go.Eng
open Go
def Reach (l : List UInt8) (j : Nat) : Prop := ∃ pre, zC l = pre ++ xD l j
theorem Reach.zero (l : List UInt8) : Reach l 0 := ⟨[], rfl⟩
theorem Reach.step {l : List UInt8} {j : Nat} (h : Reach l j) (hj : j < l.length) : Reach l (j + (zK l j).w) := by
 obtain ⟨pre, h⟩ := h
 exact ⟨pre ++ [zK l j], by rw [h, yQ hj]; simp⟩
def lastP (l : List UInt8) : Pc := (zC l).getLastD ⟨0, 0, 0, false⟩
end Go.Eng
namespace Go.Eng
open Go
theorem zCl (l : List UInt8) : ∀ d k, l.length - k ≤ d → ∀ pre p post, xD l k = pre ++ p :: post → k ≤ p.at_ ∧ p.at_ < l.length ∧ p = zK l p.at_ ∧ p :: post = xD l p.at_ ∧ (∀ q ∈ pre, q.at_ < p.at_)
 | 0, k, hd, pre, p, post, h => by
  rw [xZ (by omega)] at h; simp at h
 | d + 1, k, hd, pre, p, post, h => by
  by_cases hk : k < l.length
  ·have hw := wQ hk
   have h' := h
   rw [yQ hk] at h
   cases pre with
   | nil =>
    simp only [List.nil_append, List.cons.injEq] at h
    obtain ⟨rfl, h2⟩ := h
    have ha := vJ l k
    refine ⟨by omega, by omega, by rw [ha], by rw [ha, yQ hk, h2], by simp⟩
   | cons q pre =>
    simp only [List.cons_append, List.cons.injEq] at h
    obtain ⟨rfl, h2⟩ := h
    obtain ⟨g1, g2, g3, g4, g5⟩ := zCl l d _ (by omega) pre p post h2
    refine ⟨by omega, g2, g3, g4, fun q hq => ?_⟩
    rcases List.mem_cons.1 hq with rfl | hq
    ·rw [vJ]; omega
    ·exact g5 q hq
  ·rw [xZ hk] at h; simp at h
theorem zAK {l : List UInt8} {pre post : List Pc} {p : Pc} (h : zC l = pre ++ p :: post) : p.at_ < l.length ∧ p = zK l p.at_ ∧ p :: post = xD l p.at_ ∧ (∀ q ∈ pre, q.at_ < p.at_) :=
 (zCl l l.length 0 (by omega) pre p post h).2
theorem vT {l : List UInt8} {p : Pc} (h : p ∈ zC l) : Reach l p.at_ ∧ p.at_ < l.length ∧ p = zK l p.at_ := by
 obtain ⟨pre, post, e⟩ := List.append_of_mem h
 obtain ⟨h1, h2, h3, _⟩ := zAK e
 exact ⟨⟨pre, by rw [e, h3]⟩, h1, h2⟩
def Within (l : List UInt8) (at_ i : Nat) : Prop := i < at_ ∧ at_ < i + (zK l i).w ∧ (zK l i).b = false
end Go.Eng
namespace Go.Eng
open Go
def wt (l : List UInt8) (p : Pc) : Nat := if p.b then 16777216 + gb l p.at_ else p.r
def cm : List Nat → List Nat → Nat
 | x :: X, y :: Y => if x = y then cm X Y + 1 else 0
 | _, _ => 0
def cmpL : List Nat → List Nat → Int
 | [], [] => 0
 | [], _ :: _ => -1
 | _ :: _, [] => 1
 | x :: X, y :: Y => if x = y then cmpL X Y else if x < y then -1 else 1
theorem zJZ : ∀ (P X Y : List Nat), cm (P ++ X) (P ++ Y) = P.length + cm X Y
 | [], X, Y => by simp
 | p :: P, X, Y => by simp [cm, zJZ P X Y]; omega
theorem zFH : ∀ (P X Y : List Nat), cmpL (P ++ X) (P ++ Y) = cmpL X Y
 | [], X, Y => rfl
 | p :: P, X, Y => by simp [cmpL, zFH P X Y]
def stop : List Nat → List Nat → Prop
 | x :: _, y :: _ => x ≠ y
 | _, _ => True
theorem uO {l : List UInt8} {k : Nat} (hk : k < l.length) : ((zK l k).b = true ∧ (zK l k).w = 1 ∧ (zK l k).r = 65533) ∨ ((zK l k).b = false ∧ (zK l k).w = wd (zK l k).r ∧ (zK l k).r ≤ 1114111) := by
 unfold zK
 split
 ·exact .inl ⟨rfl, rfl, rfl⟩
 ·rename_i h
  rcases vZ (l.drop k) (by simp; omega) with ⟨h1, h2, _⟩ | ⟨h2, _⟩
  ·exact .inr ⟨rfl, h2, qZ h1⟩
  ·exact absurd h2 h
theorem zIF {l : List UInt8} {k : Nat} : wt l (zK l k) = if (zK l k).b then 16777216 + gb l k else (zK l k).r := by unfold wt; rw [vJ]
def Sh (a b : List UInt8) (n k : Nat) : Prop := ∃ pa pb, zC a = pa ++ xD a k ∧ zC b = pb ++ xD b k ∧ pa.length = n ∧ pb.length = n ∧ pa.map (wt a) = pb.map (wt b) ∧ k ≤ a.length ∧ k ≤ b.length
theorem Sh.start (a b : List UInt8) : Sh a b 0 0 := ⟨[], [], rfl, rfl, rfl, rfl, rfl, by omega, by omega⟩
theorem zKo {a b : List UInt8} {k : Nat} (ha : k < a.length) (hb : k < b.length) : wt a (zK a k) = wt b (zK b k) ↔ zK a k = zK b k ∧ ((zK a k).b = true → gb a k = gb b k) := by
 rw [zIF, zIF]
 have h1 := vJ a k
 have h2 := vJ b k
 have h3 := zIz a k
 have h4 := zIz b k
 have e1 := uO ha
 have e2 := uO hb
 generalize zK a k = p at *
 generalize zK b k = q at *
 obtain ⟨pa, pw, pr, pb⟩ := p
 obtain ⟨qa, qw, qr, qb⟩ := q
 simp only at *
 subst h1; subst h2
 simp only [Pc.mk.injEq]
 rcases e1 with ⟨rfl, rfl, rfl⟩ | ⟨rfl, rfl, h5⟩ <;> rcases e2 with ⟨rfl, rfl, rfl⟩ | ⟨rfl, rfl, h6⟩
 ·simp
 ·simp; omega
 ·simp; omega
 ·simp; intro h; rw [h]
theorem Sh.next {a b : List UInt8} {n k : Nat} (h : Sh a b n k) (ha : k < a.length) (hb : k < b.length) (hw : wt a (zK a k) = wt b (zK b k)) : Sh a b (n + 1) (k + (zK a k).w) := by
 obtain ⟨pa, pb, h1, h2, h3, h4, h5, h6, h7⟩ := h
 have he := ((zKo ha hb).1 hw).1
 rw [yQ ha] at h1
 rw [yQ hb] at h2
 have w1 := wQ ha
 have w2 := wQ hb
 refine ⟨pa ++ [zK a k], pb ++ [zK b k], by simpa using h1, by rw [he]; simpa using h2, by simp [h3], by simp [h4], by simp [h5, hw], by omega, by rw [he]; omega⟩
theorem Sh.done {a b : List UInt8} {n k : Nat} (h : Sh a b n k) (hs : k = a.length ∨ k = b.length ∨ wt a (zK a k) ≠ wt b (zK b k)) :
  n = cm ((zC a).map (wt a)) ((zC b).map (wt b)) ∧ cmpL ((zC a).map (wt a)) ((zC b).map (wt b)) = if k = a.length ∧ k = b.length then 0 else if k = a.length then -1 else if k = b.length then 1 else if wt a (zK a k) < wt b (zK b k) then -1 else 1 := by
 obtain ⟨pa, pb, h1, h2, h3, h4, h5, h6, h7⟩ := h
 rw [h1, h2, List.map_append, List.map_append, ← h5, zJZ, zFH, List.length_map, h3]
 rcases Nat.lt_or_eq_of_le h6 with ha | ha
 ·rw [yQ ha]
  rcases Nat.lt_or_eq_of_le h7 with hb | hb
  ·rw [yQ hb]
   have hne : wt a (zK a k) ≠ wt b (zK b k) := by omega
   simp only [List.map_cons, cm, cmpL, if_neg hne]
   refine ⟨by omega, ?_⟩
   simp [show ¬ k = a.length by omega, show ¬ k = b.length by omega]
  ·rw [xZ (l := b) (k := k) (by omega)]
   simp only [List.map_cons, List.map_nil, cm, cmpL]
   refine ⟨by omega, ?_⟩
   rw [if_neg (by omega), if_neg (by omega), if_pos hb]
 ·rw [xZ (l := a) (k := k) (by omega)]
  rcases Nat.lt_or_eq_of_le h7 with hb | hb
  ·rw [yQ hb]
   simp only [List.map_cons, List.map_nil, cm, cmpL]
   refine ⟨by omega, ?_⟩
   rw [if_neg (by omega), if_pos ha]
  ·rw [xZ (l := b) (k := k) (by omega)]
   simp only [List.map_nil, cm, cmpL]
   refine ⟨by omega, ?_⟩
   rw [if_pos ⟨ha, hb⟩]
def idx : List Pc → Int → Int
 | [], _ => -1
 | p :: ps, r => if (p.r : Int) = r ∧ p.b = false then (p.at_ : Int) else idx ps r
def noIdx (ps : List Pc) (r : Int) : Prop := ∀ p ∈ ps, ¬ ((p.r : Int) = r ∧ p.b = false)
end Go.Eng
namespace Go.Eng
open Go
def endsOf (l : List UInt8) : List Nat := (zC l).map Pc.at_ ++ [l.length]
def leOf (k : Nat) : List Nat → Nat → Nat
 | [], a => a
 | x :: xs, a => leOf k xs (if x ≤ k then x else a)
def geOf (k : Nat) : List Nat → Nat → Nat
 | [], a => a
 | x :: xs, a => if k ≤ x then x else geOf k xs a
end Go.Eng
namespace Go.Eng
open Go
def txt (l : List UInt8) (p : Pc) : List UInt8 := (l.take (p.at_ + p.w)).drop p.at_
theorem zKF {l : List UInt8} {p : Pc} (h : p ∈ zC l) : p.at_ < l.length ∧ 1 ≤ p.w ∧ p.w ≤ 4 ∧ p.at_ + p.w ≤ l.length := by
 obtain ⟨_, h2, h3⟩ := vT h
 have := wQ h2
 rw [← h3] at this
 omega
def mendOf (l w : List UInt8) (ps : List Pc) : List UInt8 := ps.flatMap fun p => if p.b then w else txt l p
def textsOf (l : List UInt8) (ps : List Pc) : List UInt8 := ps.flatMap (txt l)
def cutK (l : List UInt8) (n : Int) : Nat := if n ≤ 0 then 0 else (endsOf l).getD n.toNat l.length
end Go.Eng
namespace Go.Eng
open Go
end Go.Eng
namespace Go.Eng
open Go
theorem zG9 {l : List UInt8} {p : Pc} (h : p ∈ zC l) : p.b = true ↔ p.r = 65533 ∧ p.w = 1 := by
 obtain ⟨_, h2, h3⟩ := vT h
 rw [h3]
 rcases uO h2 with ⟨e1, e2, e3⟩ | ⟨e1, e2, e3⟩
 ·rw [e1, e2, e3]; simp
 ·rw [e1]
  constructor
  ·intro h; cases h
  ·rintro ⟨g1, g2⟩
   exfalso
   rw [g1] at e2
   have : wd 65533 = 3 := by decide
   omega
def Pc.sub (p : Pc) (n : Nat) : Pc := ⟨p.at_ - n, p.w, p.r, p.b⟩
end Go.Eng
namespace Go.Eng
open Go
def Great (r : Nat) : Prop := (65 ≤ r ∧ r ≤ 90) ∨ (192 ≤ r ∧ r ≤ 222 ∧ r ≠ 215) ∨ ((256 ≤ r ∧ r ≤ 311 ∨ 330 ≤ r ∧ r ≤ 375) ∧ r % 2 = 0) ∨ (313 ≤ r ∧ r ≤ 328 ∧ r % 2 = 1) ∨ r = 376 ∨ (377 ≤ r ∧ r ≤ 381 ∧ r % 2 = 1) ∨
 (902 ≤ r ∧ r ≤ 911 ∧ r ≠ 903 ∧ r ≠ 907 ∧ r ≠ 909) ∨ (913 ≤ r ∧ r ≤ 939 ∧ r ≠ 930) ∨ (1024 ≤ r ∧ r ≤ 1071)
def Small (r : Nat) : Prop := (97 ≤ r ∧ r ≤ 122) ∨ (223 ≤ r ∧ r ≤ 255 ∧ r ≠ 247) ∨ ((256 ≤ r ∧ r ≤ 311 ∨ 330 ≤ r ∧ r ≤ 375) ∧ r % 2 = 1) ∨ (313 ≤ r ∧ r ≤ 328 ∧ r % 2 = 0) ∨ r = 312 ∨ r = 329 ∨ r = 383 ∨ r = 912 ∨ (378 ≤ r ∧ r ≤ 382 ∧ r % 2 = 0) ∨
 (940 ≤ r ∧ r ≤ 974) ∨ (1072 ≤ r ∧ r ≤ 1119)
instance (r : Nat) : Decidable (Great r) := by unfold Great; infer_instance
instance (r : Nat) : Decidable (Small r) := by unfold Small; infer_instance
def Blank (r : Nat) : Prop := r = 9 ∨ r = 32 ∨ r = 160 ∨ r = 8239 ∨ r = 8287 ∨ r = 12288 ∨ (8192 ≤ r ∧ r ≤ 8202)
def Dash (r : Nat) : Prop := r = 45 ∨ (8208 ≤ r ∧ r ≤ 8213)
def Quote (r : Nat) : Prop := r = 34 ∨ r = 39 ∨ r = 171 ∨ r = 187 ∨ r = 8249 ∨ r = 8250 ∨ (8216 ≤ r ∧ r ≤ 8223)
def Point (r : Nat) : Prop := r = 33 ∨ r = 44 ∨ r = 46 ∨ r = 58 ∨ r = 59 ∨ r = 63 ∨ r = 161 ∨ r = 183 ∨ r = 191 ∨ r = 8230
def Ctl (r : Nat) : Prop := r < 32 ∨ (127 ≤ r ∧ r ≤ 159) ∨ (8203 ≤ r ∧ r ≤ 8207) ∨ r = 65279
instance (r : Nat) : Decidable (Blank r) := by unfold Blank; infer_instance
instance (r : Nat) : Decidable (Dash r) := by unfold Dash; infer_instance
instance (r : Nat) : Decidable (Quote r) := by unfold Quote; infer_instance
instance (r : Nat) : Decidable (Point r) := by unfold Point; infer_instance
instance (r : Nat) : Decidable (Ctl r) := by unfold Ctl; infer_instance
def kindN (r : Nat) : Nat :=
 if Great r ∨ Small r then 1 else if 768 ≤ r ∧ r ≤ 879 then 2 else if 48 ≤ r ∧ r ≤ 57 then 3 else if r = 10 ∨ r = 13 then 4
 else if Blank r then 5 else if Dash r then 6 else if Quote r then 7 else if Point r then 8 else if Ctl r then 9 else 10
def kindP (p : Pc) : Nat := if p.b then 11 else kindN p.r
def Wide (r : Nat) : Prop := (4352 ≤ r ∧ r ≤ 4447) ∨ (11904 ≤ r ∧ r ≤ 12350) ∨ (12353 ≤ r ∧ r ≤ 19903) ∨ (19968 ≤ r ∧ r ≤ 42191) ∨ (44032 ≤ r ∧ r ≤ 55203) ∨ (63744 ≤ r ∧ r ≤ 64255) ∨ (65072 ≤ r ∧ r ≤ 65135) ∨ (65280 ≤ r ∧ r ≤ 65376) ∨ (65504 ≤ r ∧ r ≤ 65510) ∨
 (127744 ≤ r ∧ r ≤ 128591) ∨ (129280 ≤ r ∧ r ≤ 129535) ∨ (131072 ≤ r ∧ r ≤ 262141)
instance (r : Nat) : Decidable (Wide r) := by unfold Wide; infer_instance
def colP (p : Pc) : Nat := if kindP p = 11 then 1 else if kindP p = 2 ∨ kindP p = 4 ∨ kindP p = 9 then 0 else if Wide p.r then 2 else 1
structure Cl where
 a : Nat
 z : Nat
 c : Nat
 deriving DecidableEq
def Cl.cs (c : Cl) : List Value := [.int .i64 (c.a : Int), .int .i64 (c.z : Int), .int .i64 (c.c : Int)]
def Cl.v (c : Cl) : Value := .agg c.cs.toArray
def Joins (h : Nat) (q p : Pc) : Prop := p.b = false ∧ (kindP p = 2 ∨ p.r = 8205 ∨ (h = 10 ∧ kindP p = 10 ∧ q.r = 8205))
def Glue (h : Nat) (q p : Pc) : Prop := (q.r = 13 ∧ p.r = 10) ∨ ((h ≠ 11 ∧ h ≠ 4 ∧ h ≠ 9) ∧ Joins h q p)
instance (h : Nat) (q p : Pc) : Decidable (Joins h q p) := by unfold Joins; infer_instance
instance (h : Nat) (q p : Pc) : Decidable (Glue h q p) := by unfold Glue; infer_instance
def Cl.ext (c : Cl) (p : Pc) : Cl := ⟨c.a, p.at_ + p.w, max c.c (colP p)⟩
def headC (p : Pc) : Cl := ⟨p.at_, p.at_ + p.w, colP p⟩
def clGo : Option (Cl × Nat × Pc) → List Pc → List Cl
 | none, [] => []
 | some s, [] => [s.1]
 | none, p :: ps => clGo (some (headC p, kindP p, p)) ps
 | some s, p :: ps => if Glue s.2.1 s.2.2 p then clGo (some (s.1.ext p, s.2.1, p)) ps else s.1 :: clGo (some (headC p, kindP p, p)) ps
def clusters (l : List UInt8) : List Cl := clGo none (zC l)
theorem kI {r : Nat} (h : Great r ∨ Small r) : kindN r = 1 := if_pos h
theorem zEv {r : Nat} (h : ¬ (Great r ∨ Small r)) : (768 ≤ r ∧ r ≤ 879 ∧ kindN r = 2) ∨ (48 ≤ r ∧ r ≤ 57 ∧ kindN r = 3) ∨ ((r = 10 ∨ r = 13) ∧ kindN r = 4) ∨ (Blank r ∧ kindN r = 5) ∨ (Dash r ∧ kindN r = 6) ∨ (Quote r ∧ kindN r = 7) ∨ (Point r ∧ kindN r = 8) ∨ (Ctl r ∧ r ≠ 9 ∧ r ≠ 10 ∧ r ≠ 13 ∧ kindN r = 9) ∨
  (¬ (768 ≤ r ∧ r ≤ 879) ∧ ¬ (48 ≤ r ∧ r ≤ 57) ∧ ¬ (r = 10 ∨ r = 13) ∧ ¬ Blank r ∧ ¬ Dash r ∧ ¬ Quote r ∧ ¬ Point r ∧ ¬ Ctl r ∧ kindN r = 10) := by
 unfold kindN
 rw [if_neg h]
 by_cases h2 : 768 ≤ r ∧ r ≤ 879
 ·rw [if_pos h2]; exact .inl ⟨h2.1, h2.2, rfl⟩
 rw [if_neg h2]
 by_cases h3 : 48 ≤ r ∧ r ≤ 57
 ·rw [if_pos h3]; exact .inr (.inl ⟨h3.1, h3.2, rfl⟩)
 rw [if_neg h3]
 by_cases h4 : r = 10 ∨ r = 13
 ·rw [if_pos h4]; exact .inr (.inr (.inl ⟨h4, rfl⟩))
 rw [if_neg h4]
 by_cases h5 : Blank r
 ·rw [if_pos h5]; exact .inr (.inr (.inr (.inl ⟨h5, rfl⟩)))
 rw [if_neg h5]
 by_cases h6 : Dash r
 ·rw [if_pos h6]; exact .inr (.inr (.inr (.inr (.inl ⟨h6, rfl⟩))))
 rw [if_neg h6]
 by_cases h7 : Quote r
 ·rw [if_pos h7]; exact .inr (.inr (.inr (.inr (.inr (.inl ⟨h7, rfl⟩)))))
 rw [if_neg h7]
 by_cases h8 : Point r
 ·rw [if_pos h8]; exact .inr (.inr (.inr (.inr (.inr (.inr (.inl ⟨h8, rfl⟩))))))
 rw [if_neg h8]
 by_cases h9 : Ctl r
 ·rw [if_pos h9]; exact .inr (.inr (.inr (.inr (.inr (.inr (.inr (.inl ⟨h9, fun e => h5 (.inl e), fun e => h4 (.inl e), fun e => h4 (.inr e), rfl⟩)))))))
 rw [if_neg h9]
 exact .inr (.inr (.inr (.inr (.inr (.inr (.inr (.inr ⟨h2, h3, h4, h5, h6, h7, h8, h9, rfl⟩)))))))
theorem zC9 {p : Pc} (h : p.b = true) : kindP p = 11 := by unfold kindP; rw [if_pos h]
theorem zCE {p : Pc} (h : p.b = false) : kindP p = kindN p.r := by unfold kindP; rw [h]; rfl
def runC : Nat → Pc → List Pc → Nat
 | _, _, [] => 0
 | h, q, p :: ps => if Glue h q p then runC h p ps + 1 else 0
end Go.Eng
namespace ZP
open Go Go.Eng
attribute [local irreducible] WL WC WQ QFun zJ Does Q1 zD zB Go.Addr.add
attribute [local irreducible] Great Small Blank Dash Quote Point Ctl Wide kindN
namespace ZC1a
theorem zal {G G' : Prop} (next : G') (h : Bx G' → G := by intro zzn; (first | (refine WL.and32 rfl rfl rfl (by omega) ?_)); (repeat revert zzf); exact zzn.out) : G := h ⟨next⟩
end ZC1a
open ZC1a in
theorem zJF (r : Nat) (hr : r ≤ 1114111) (w0 : World) (m : Mem) (H : SHeap) : Does Tryz.prog 247 #[.int .i32 (r : Int)] w0 m H (Gives (.bool (dcd (r % 2 = 0))) m H) := by
 refine Does.of_body func247 rfl ntmps247 rfl ?_
 try (refine stg ?_; intros)
 refine zR ?_
 exact Gives.mk (congrArg _ (xW (by omega)))
namespace ZC1b
theorem zal {G G' : Prop} (next : G') (h : Bx G' → G := by intro zzn; (first | (refine ZC1a.zal ?_; (repeat intro zzf)) | (refine iF 247 rfl ?_; refine zU func247 ?_ (hs := zJF _ (by omega) _ _ _))); (repeat revert zzf); exact zzn.out) : G := h ⟨next⟩
end ZC1b
open ZC1b in
theorem zIm (r : Nat) (hr : r ≤ 1114111) (w0 : World) (m : Mem) (H : SHeap) : Does Tryz.prog 239 #[.int .i32 (r : Int)] w0 m H (Gives (.bool (dcd (Great r))) m H) := by
 refine Does.of_body func239 rfl ntmps239 rfl ?_
 (repeat' (first | (refine stg ?_; intros) | (first | refine wG (fun h1 => ?_) (fun h1 => ?_) | refine xF (fun h1 => ?_) (fun h1 => ?_) | refine xA (fun h1 => ?_) (fun h1 => ?_) | refine yK (fun h1 => ?_) (fun h1 => ?_))))
 all_goals ((refine zR ?_); refine Gives.mk (congrArg _ ?_))
 all_goals first | (refine kQ ?_; unfold Great; omega) | (refine zAu ?_; unfold Great; omega) | (refine xW ?_; unfold Great; omega) | (rw [zDo]; refine xW ?_; unfold Great; omega)
open ZC1b in
theorem zHU (r : Nat) (hr : r ≤ 1114111) (w0 : World) (m : Mem) (H : SHeap) : Does Tryz.prog 240 #[.int .i32 (r : Int)] w0 m H (Gives (.bool (dcd (Small r))) m H) := by
 refine Does.of_body func240 rfl ntmps240 rfl ?_
 (repeat' (first | (refine stg ?_; intros) | (first | refine wG (fun h1 => ?_) (fun h1 => ?_) | refine xF (fun h1 => ?_) (fun h1 => ?_) | refine xA (fun h1 => ?_) (fun h1 => ?_) | refine yK (fun h1 => ?_) (fun h1 => ?_))))
 all_goals ((refine zR ?_); refine Gives.mk (congrArg _ ?_))
 all_goals first | (refine kQ ?_; unfold Small; omega) | (refine zAu ?_; unfold Small; omega) | (refine xW ?_; unfold Small; omega) | (rw [zDo]; refine xW ?_; unfold Small; omega)
namespace ZC1c
theorem zal {G G' : Prop} (next : G') (h : Bx G' → G := by intro zzn; (first | (refine ZC1b.zal ?_; (repeat intro zzf)) | (refine iF 239 rfl ?_; refine zU func239 ?_ (hs := zIm _ (by omega) _ _ _)) | (refine iF 240 rfl ?_; refine zU func240 ?_ (hs := zHU _ (by omega) _ _ _))); (repeat revert zzf); exact zzn.out) : G := h ⟨next⟩
end ZC1c
open ZC1c in
theorem zGT (r : Nat) (hr : r ≤ 1114111) (w0 : World) (m : Mem) (H : SHeap) : Does Tryz.prog 222 #[.int .i32 (r : Int)] w0 m H (Gives (.bool (dcd (Great r ∨ Small r))) m H) := by
 refine Does.of_body func222 rfl ntmps222 rfl ?_
 by_cases h : Great r
 ·try (refine stg ?_; intros)
  refine zR ?_
  exact Gives.mk (congrArg _ (kQ (.inl h)))
 ·try (refine stg ?_; intros)
  refine zR ?_
  exact Gives.mk (congrArg _ (xW (by simp [h])))
open ZC1c in
theorem zJA (r : Nat) (hr : r ≤ 1114111) (w0 : World) (m : Mem) (H : SHeap) : Does Tryz.prog 223 #[.int .i32 (r : Int)] w0 m H (Gives (.bool (dcd (768 ≤ r ∧ r ≤ 879))) m H) := by
 refine Does.of_body func223 rfl ntmps223 rfl ?_
 (repeat' (first | (refine stg ?_; intros) | (first | refine wG (fun h1 => ?_) (fun h1 => ?_) | refine xF (fun h1 => ?_) (fun h1 => ?_) | refine xA (fun h1 => ?_) (fun h1 => ?_) | refine yK (fun h1 => ?_) (fun h1 => ?_))))
 all_goals ((refine zR ?_); refine Gives.mk (congrArg _ ?_))
 all_goals first | (refine kQ ?_; omega) | (refine zAu ?_; omega) | (refine xW ?_; omega)
end ZP
namespace ZP
open Go Go.Eng
attribute [local irreducible] WL WC WQ QFun zJ Does Q1 zD zB Go.Addr.add
attribute [local irreducible] Great Small Wide kindN
namespace ZC2a
theorem zal {G G' : Prop} (next : G') (h : Bx G' → G := by intro zzn; (first | (refine iF 222 rfl ?_; refine zU func222 ?_ (hs := zGT _ (by omega) _ _ _)) | (refine iF 223 rfl ?_; refine zU func223 ?_ (hs := zJA _ (by omega) _ _ _))); (repeat revert zzf); exact zzn.out) : G := h ⟨next⟩
end ZC2a
open ZC2a in
theorem zJE (r : Nat) (hr : r ≤ 1114111) (ho : r < 55296 ∨ 57343 < r) (w0 : World) (m : Mem) (H : SHeap) : Does Tryz.prog 199 #[.int .i32 (r : Int)] w0 m H (Gives (.int .i64 (kindN r : Int)) m H) := by
 refine Does.of_body func199 rfl ntmps199 rfl ?_
 (repeat' (first | (refine stg ?_; intros) | (first | refine wG (fun h1 => ?_) (fun h1 => ?_) | refine xF (fun h1 => ?_) (fun h1 => ?_) | refine xA (fun h1 => ?_) (fun h1 => ?_) | refine yK (fun h1 => ?_) (fun h1 => ?_))))
 all_goals ((refine zR ?_); refine Gives.mk (congrArg _ ?_))
 all_goals first | (have hk := kI (r := r) (by assumption); omega) | (have hk := zEv (r := r) (by assumption); unfold Blank Dash Quote Point Ctl at hk; omega)
namespace ZC2b
theorem zal {G G' : Prop} (next : G') (h : Bx G' → G := by intro zzn; (first | (refine ZC2a.zal ?_; (repeat intro zzf)) | (refine iF 199 rfl ?_; refine zU func199 ?_ (hs := zJE _ (by omega) (by omega) _ _ _))); (repeat revert zzf); exact zzn.out) : G := h ⟨next⟩
end ZC2b
open ZC2b in
theorem zKX (p : Pc) (hr : okr p.r) (w0 : World) (m : Mem) (H : SHeap) : Does Tryz.prog 154 #[p.v] w0 m H (Gives (.int .i64 (kindP p : Int)) m H) := by
 have hr1 := qZ hr
 have hr2 : p.r < 55296 ∨ 57343 < p.r := by unfold okr at hr; omega
 unfold Pc.v Pc.cs
 refine Does.of_body (args := [.agg #[.int .i64 (p.at_ : Int), .int .i64 (p.w : Int), .int .i32 (p.r : Int), .bool p.b]]) func154 rfl ntmps154 rfl ?_
 cases hb : p.b with
 | true =>
  try (refine stg ?_; intros)
  refine zR ?_
  exact Gives.mk (by rw [zC9 hb]; rfl)
 | false =>
  try (refine stg ?_; intros)
  refine zR ?_
  exact Gives.mk (by rw [zCE hb])
end ZP
namespace ZP
open Go Go.Eng
attribute [local irreducible] WL WC WQ QFun zJ Does Q1 zD zB Go.Addr.add
def widthS (r : Int) : Int := if r ≠ 65533 ∧ fmb (rn r) = [239, 191, 189] then 0 else (wd (rn r) : Int)
theorem zHk (r : Int) (w0 : World) (m : Mem) (H : SHeap) : Does Tryz.prog 221 #[.int .i32 r] w0 m H (Gives (.int .i64 (widthS r)) m H) := by
 refine Does.of_body func221 rfl ntmps221 rfl ?_
 try (refine st ?_; intros)
 (first | refine wG (fun h1 => ?_) (fun h1 => ?_) | refine xF (fun h1 => ?_) (fun h1 => ?_) | refine xA (fun h1 => ?_) (fun h1 => ?_) | refine yK (fun h1 => ?_) (fun h1 => ?_))
 ·try (refine st ?_; intros)
  (first | refine wG (fun h2 => ?_) (fun h2 => ?_) | refine xF (fun h2 => ?_) (fun h2 => ?_) | refine xA (fun h2 => ?_) (fun h2 => ?_) | refine yK (fun h2 => ?_) (fun h2 => ?_))
  ·try (refine st ?_; intros)
   rw [zAb] at h2
   exact WQ.fin _ (vW rfl rfl) (.mk (by rw [widthS, if_pos ⟨h1, h2⟩]))
  ·try (refine st ?_; intros)
   rw [zAb] at h2 ⊢
   exact WQ.fin _ (vW rfl rfl) (.mk (by rw [widthS, if_neg (fun h => h2 h.2), xS]))
 ·try (refine st ?_; intros)
  rw [zAb]
  exact WQ.fin _ (vW rfl rfl) (.mk (by rw [widthS, if_neg (fun h => h.1 h1), xS]))
theorem zH6 {c : Nat} (h : okr c) : widthS (c : Int) = (wd c : Int) := by
 unfold widthS
 rw [zHQ h, if_neg]
 rintro ⟨h1, h2⟩
 apply h1
 have h3 : wd c = 3 := by rw [← xS c, h2]; rfl
 have hc : ¬ c < 128 ∧ ¬ c < 2048 ∧ c < 65536 := by
  unfold wd at h3
  split at h3
  ·cases h3
  ·split at h3
   ·cases h3
   ·split at h3
    ·omega
    ·cases h3
 have h4 := zDX c 0 (by omega) (by omega)
 have h5 := zDX c 1 (by omega) (by omega)
 have h6 := zDX c 2 (by omega) (by omega)
 rw [h2] at h4 h5 h6
 unfold fm at h4 h5 h6
 rw [if_neg hc.1, if_neg hc.2.1, if_pos hc.2.2] at h4 h5 h6
 simp [nb, gb] at h4 h5 h6
 omega
theorem zFB : fmb 65533 = [239, 191, 189] := by decide
theorem zI7 (l : List UInt8) (hl : 0 < l.length) (h : (dl l).1 = 65533) : (¬ l.length < 3 ∧ l.take 3 = [239, 191, 189]) ↔ ¬ dl l = (65533, 1) := by
 have hw : wd 65533 = 3 := by decide
 constructor
 ·rintro ⟨h1, h2⟩ h3
  have := uY (l := l) (c := 65533) (by right; decide) ((qI l 65533 (by decide)).2 (by rw [hw, h2, zFB]))
  rw [h3, hw] at this
  cases this
 ·intro h3
  rcases vZ l hl with ⟨_, _, hb⟩ | ⟨he, _⟩
  ·rw [h] at hb
   have := (qI l 65533 (by decide)).1 hb
   rw [hw, zFB] at this
   have hb1 := hb.1
   rw [hw] at hb1
   exact ⟨by omega, this⟩
  ·exact absurd he h3
theorem zGS {l : List UInt8} {k : Nat} (hk : k < l.length) (h : ¬ dl (l.drop k) = (65533, 1)) : okr (dl (l.drop k)).1 ∧ widthS ((dl (l.drop k)).1 : Int) = ((dl (l.drop k)).2 : Int) := by
 rcases vZ (l.drop k) (by simp; omega) with ⟨h1, h2, _⟩ | ⟨he, _⟩
 ·exact ⟨h1, by rw [zH6 h1, h2]⟩
 ·exact absurd he h
theorem qA (l : List UInt8) (k j : Nat) : (l.take (k + j)).drop k = (l.drop k).take j := by
 rw [List.drop_take]; congr 1; omega
theorem zDm (l : List UInt8) (k : Nat) (hl : l.length ≤ 9223372036854775804) (hk : k < l.length) (w0 : World) (m : Mem) (H : SHeap) :
  Does Tryz.prog 198 #[str l, .int .i64 (k : Int)] w0 m H (Gives (zK l k).v m H) := by
 have hlen : (l.drop k).length = l.length - k := List.length_drop
 have hli := zI7 (l.drop k) (by omega)
 have hso := fun h => (zGS hk h).2
 rw [hlen] at hli
 refine Does.of_body func198 rfl ntmps198 rfl ?_
 try (refine st ?_; intros)
 apply WC.loop1
 try (refine st ?_; intros)
 refine WL.rename 15 (u := .int .i32 ((dl (l.drop k)).1 : Int)) rfl rfl ?_
 refine WL.rename 6 (u := .int .i32 ((dl (l.drop k)).1 : Int)) rfl rfl ?_
 refine zA func221 ?_ (hs := zHk _ _ _ _)
 rintro _ _ _ ⟨rfl, rfl, rfl⟩
 by_cases hA : dl (l.drop k) = (65533, 1)
 ·have h1 : (dl (l.drop k)).1 = 65533 := by rw [hA]
  try (refine st ?_; intros)
  (first | refine wG (fun h2 => ?_) (fun h2 => ?_) | refine xF (fun h2 => ?_) (fun h2 => ?_) | refine xA (fun h2 => ?_) (fun h2 => ?_) | refine yK (fun h2 => ?_) (fun h2 => ?_))
  ·try (refine st ?_; intros)
   refine zR ?_
   refine Gives.mk ?_
   unfold zK; rw [if_pos hA]; rfl
  ·try (refine st ?_; intros)
   (first | refine wG (fun h3 => ?_) (fun h3 => ?_) | refine xF (fun h3 => ?_) (fun h3 => ?_) | refine xA (fun h3 => ?_) (fun h3 => ?_) | refine yK (fun h3 => ?_) (fun h3 => ?_))
   ·try (refine st ?_; intros)
    refine zR ?_
    refine Gives.mk ?_
    unfold zK; rw [if_pos hA]; rfl
   ·exfalso
    rw [qA] at h3
    exact (hli h1).1 ⟨by omega, h3⟩ hA
 ·have hw := hso hA
  try (refine st ?_; intros)
  (first | refine wG (fun h2 => ?_) (fun h2 => ?_) | refine xF (fun h2 => ?_) (fun h2 => ?_) | refine xA (fun h2 => ?_) (fun h2 => ?_) | refine yK (fun h2 => ?_) (fun h2 => ?_))
  ·have h1 : (dl (l.drop k)).1 = 65533 := by omega
   obtain ⟨h4, h5⟩ := (hli h1).2 hA
   try (refine st ?_; intros)
   (first | refine wG (fun h3 => ?_) (fun h3 => ?_) | refine xF (fun h3 => ?_) (fun h3 => ?_) | refine xA (fun h3 => ?_) (fun h3 => ?_) | refine yK (fun h3 => ?_) (fun h3 => ?_))
   ·exfalso
    rw [qA] at h3
    exact h3 h5
   ·try (refine st ?_; intros)
    refine zR ?_
    refine Gives.mk ?_
    unfold zK; rw [if_neg hA, hw]; rfl
  ·try (refine st ?_; intros)
   refine zR ?_
   refine Gives.mk ?_
   unfold zK; rw [if_neg hA, hw]; rfl
end ZP
namespace ZP
open Go Go.Eng
attribute [local irreducible] WL WC WQ QFun zJ Does Q1 zD zB Go.Addr.add
def TextAt (b : Nat) (l : List UInt8) (m : Mem) : Prop := m b = some (.cells [str l].toArray 9 (0, 0))
def IterOf (f : Nat) (l : List UInt8) (m : Mem) (H : SHeap) : Value → Mem → SHeap → Prop := fun v m' H' =>
 ∃ b, v = .func (.func f) #[] #[.pp b] ∧ m' = m ∧ H' = .bl b [str l] 9 :: H
theorem zGD (l : List UInt8) (w0 : World) (m : Mem) (H : SHeap) : Does Tryz.prog 153 #[str l] w0 m H (IterOf 197 l m H) := by
 refine Does.of_body func153 rfl ntmps153 rfl ?_
 try (refine st ?_; intros)
 apply WQ.fin
 ·(first | (apply vW; (· exact rfl); (· exact rfl)) | (apply uD; (· exact rfl); (· exact rfl); (· exact zlo)) | (apply uE; exact rfl) | (apply v8; (· exact rfl); (· repeat (first | exact ResAll.nil | (apply ResAll.tmp; (· exact rfl)) | (apply ResAll.cell; (· exact rfl); (· exact zlo)))); (· exact rfl)))
 ·exact ⟨_, rfl, rfl, rfl⟩
theorem zGb (l : List UInt8) (hl : l.length ≤ 9223372036854775804) (b : Nat) : SeqC Tryz.prog 197 [.pp b] (fun p : Pc => [p.v]) (zC l) (TextAt b l) := by
 intro w0 lp J Jx m H hcap h0 hY
 have hcap' : m b = some (.cells [str l].toArray 9 (0, 0)) := hcap
 refine Does.of_body func197 rfl ntmps197 rfl ?_
 try (refine st ?_; intros)
 refine WC.loopW [(5, _), (0, .func (.yield lp) #[] #[]), (1, .pp b)] ?_ (fun j r ds m' H' => ∃ k pre H1 it, j = l.length - k ∧ r = [(5, .pp it), (0, .func (.yield lp) #[] #[]), (1, .pp b)] ∧ ds = [] ∧ H' = .blk it (.stringIter ⟨l.toArray⟩ k) :: H1 ∧ m.le m' ∧ zC l = pre ++ xD l k ∧ J pre m' H1) l.length ⟨0, [], H, _, rfl, rfl, rfl, rfl, Mem.le.refl _, rfl, h0⟩ ?_
 ·(repeat (first | exact Env.Sub.nil | refine Env.Sub.cons rfl ?_))
 rintro j r ds m1 H1 ⟨k, pre, H1, it, rfl, rfl, rfl, rfl, hle, hp, hJ⟩
 have hcap1 := hle _ _ hcap'
 by_cases hk : k < l.length
 ·have hw := wQ hk
  rw [yQ hk] at hp
  try (refine st ?_; intros)
  refine zA func198 ?_ (hs := zDm l k hl hk _ _ _)
  rintro _ _ _ ⟨rfl, rfl, rfl⟩
  try (refine st ?_; intros)
  rw [qG] at hp hw
  apply WL.yield
  ·exact rfl
  ·exact rfl
  ·exact rfl
  ·exact hY pre (zK l k) _ hp _ H1 [_] hJ hle
  ·rintro m2 _ ⟨H2, rfl, hJ2, hle2⟩
   try (refine st ?_; intros)
   refine WQ.next (l.length - (k + (dl (l.drop k)).2)) ⟨_, pre ++ [zK l k], H2, it, rfl, rfl, rfl, rfl, hle.trans hle2, by rw [hp]; simp, hJ2⟩ (by omega) zsb (fun w h => h)
  ·rintro m2 _ ⟨H2, rfl, hJ2, hle2⟩
   try (refine st ?_; intros)
   refine zR ?_
   exact ⟨hle.trans hle2, .inr ⟨pre ++ [zK l k], ⟨xD l (k + (dl (l.drop k)).2), by rw [hp]; simp⟩, hJ2⟩⟩
 ·rw [xZ hk, List.append_nil] at hp
  try (refine st ?_; intros)
  apply WQ.finNorm
  ·(first | (apply vW; (· exact rfl); (· exact rfl)) | (apply uD; (· exact rfl); (· exact rfl); (· exact zlo)) | (apply uE; exact rfl) | (apply v8; (· exact rfl); (· repeat (first | exact ResAll.nil | (apply ResAll.tmp; (· exact rfl)) | (apply ResAll.cell; (· exact rfl); (· exact zlo)))); (· exact rfl)))
  ·exact ⟨hle, .inl (by rw [hp]; exact hJ)⟩
end ZP
namespace Go.Eng
open Go
structure Un where
 k : Nat
 r : Nat
 a : Nat
 z : Nat
 o : Bool
 deriving DecidableEq
def Un.cs (u : Un) : List Value := [.int .i64 (u.k : Int), .int .i32 (u.r : Int), .int .i64 (u.a : Int), .int .i64 (u.z : Int), .bool u.o]
def Un.cs2 (u : Un) : List Value := [.int .i64 (u.k : Int), .int .i64 (u.a : Int), .int .i64 (u.z : Int), .int .i32 (u.r : Int), .bool u.o]
def Un.v (u : Un) : Value := .agg u.cs.toArray
def bareK (k : Nat) : Prop := k = 11 ∨ k = 4 ∨ k = 9
instance (k : Nat) : Decidable (bareK k) := by unfold bareK; infer_instance
def headU (p : Pc) : Un := ⟨kindP p, p.r, p.at_, p.at_ + p.w, true⟩
def Un.ext (u : Un) (p : Pc) : Un := ⟨u.k, u.r, u.a, u.z + p.w, false⟩
def uGo : Option Un → List Pc → List Un
 | none, [] => []
 | some u, [] => [u]
 | none, p :: ps => uGo (some (headU p)) ps
 | some u, p :: ps => if kindP p = 2 ∧ ¬ bareK u.k then uGo (some (u.ext p)) ps else u :: uGo (some (headU p)) ps
def unitsL (l : List UInt8) : List Un := uGo none (zC l)
theorem zAS (p : Pc) (ps : List Pc) : uGo none (p :: ps) = uGo (some (headU p)) ps := rfl
theorem zA2 {u : Un} {p : Pc} {ps : List Pc} (h : kindP p = 2 ∧ ¬ bareK u.k) : uGo (some u) (p :: ps) = uGo (some (u.ext p)) ps := if_pos h
theorem jS {u : Un} {p : Pc} {ps : List Pc} (h : ¬ (kindP p = 2 ∧ ¬ bareK u.k)) : uGo (some u) (p :: ps) = u :: uGo (some (headU p)) ps := if_neg h
structure Tk where
 k : Nat
 a : Nat
 z : Nat
 deriving DecidableEq
def Tk.cs (t : Tk) : List Value := [.int .i64 (t.k : Int), .int .i64 (t.a : Int), .int .i64 (t.z : Int)]
def Tk.v (t : Tk) : Value := .agg t.cs.toArray
def jointU (u : Un) : Prop := (u.r = 39 ∨ u.r = 8217 ∨ u.r = 45 ∨ u.r = 8208) ∧ u.o = true
def dotU (u : Un) : Prop := (u.r = 44 ∨ u.r = 46) ∧ u.o = true
instance (u : Un) : Decidable (jointU u) := by unfold jointU; infer_instance
instance (u : Un) : Decidable (dotU u) := by unfold dotU; infer_instance
structure Sc where
 st : Nat
 t : Tk
 h : Un
def scan0 : Sc := ⟨0, ⟨0, 0, 0⟩, ⟨0, 0, 0, 0, false⟩⟩
def zZ (st : Nat) (u : Un) : Nat × Nat :=
 if (st = 1 ∨ st = 2) ∧ u.k = 1 then (1, 1)
 else if st = 1 ∧ jointU u then (2, 2)
 else if (st = 3 ∨ st = 4) ∧ u.k = 3 then (1, 3)
 else if st = 3 ∧ dotU u then (2, 4)
 else if st = 5 ∧ u.k = 5 then (1, 5)
 else if st = 6 ∧ u.k = 11 then (1, 6)
 else if st = 8 ∧ u.k = 4 ∧ u.r = 10 then (1, 7)
 else (0, st)
def endS (s : Sc) : List Tk := if s.st = 0 then [] else if s.st = 2 ∨ s.st = 4 then [s.t, ⟨5, s.h.a, s.h.z⟩] else [s.t]
def zI (u : Un) : Nat × Nat :=
 if u.k = 1 then (1, 1) else if u.k = 3 then (2, 3) else if u.k = 5 then (3, 5) else if u.k = 11 then (7, 6)
 else if u.k = 4 then (4, if u.r = 13 then 8 else 7) else if u.k = 6 ∨ u.k = 7 ∨ u.k = 8 then (5, 9) else (6, 9)
def Sc.begin_ (s : Sc) (u : Un) : Sc := ⟨(zI u).2, ⟨(zI u).1, u.a, u.z⟩, s.h⟩
def Sc.step (s : Sc) (u : Un) : Sc :=
 if (zZ s.st u).1 = 1 then ⟨(zZ s.st u).2, ⟨s.t.k, s.t.a, u.z⟩, s.h⟩ else if (zZ s.st u).1 = 2 then ⟨(zZ s.st u).2, s.t, u⟩ else s.begin_ u
def Sc.told (s : Sc) (u : Un) : List Tk := if (zZ s.st u).1 = 0 then endS s else []
def scGo : Sc → List Un → List Tk
 | s, [] => endS s
 | s, u :: us => s.told u ++ scGo (s.step u) us
def tokens (l : List UInt8) : List Tk := scGo scan0 (unitsL l)
end Go.Eng
namespace Go.Eng
open Go
theorem zFA (st : Nat) (u : Un) : (zZ st u).1 ≤ 2 ∧ ((zZ st u).1 = 1 → (zZ st u).2 ≠ 2 ∧ (zZ st u).2 ≠ 4) := by
 unfold zZ
 (repeat' split) <;> simp
theorem zEc (u : Un) : (zI u).2 ≠ 2 ∧ (zI u).2 ≠ 4 ∧ (zI u).2 ≠ 0 := by
 unfold zI
 (repeat' split) <;> simp
theorem zIH : ∀ (us : List Un) (st : Nat) (t : Tk) (h h' : Un), st ≠ 2 → st ≠ 4 → scGo ⟨st, t, h⟩ us = scGo ⟨st, t, h'⟩ us
 | [], st, t, h, h', h2, h4 => by simp [scGo, endS, h2, h4]
 | u :: us, st, t, h, h', h2, h4 => by
  have hb := zEc u
  obtain ⟨f1, f2⟩ := zFA st u
  have he : endS ⟨st, t, h⟩ = endS ⟨st, t, h'⟩ := by simp [endS, h2, h4]
  simp only [scGo, Sc.told, Sc.step, Sc.begin_, he]
  by_cases g1 : (zZ st u).1 = 1
  ·rw [if_pos g1, if_pos g1, zIH us _ _ h h' (f2 g1).1 (f2 g1).2]
  ·rw [if_neg g1, if_neg g1]
   by_cases g2 : (zZ st u).1 = 2
   ·rw [if_pos g2, if_pos g2]
   ·rw [if_neg g2, if_neg g2, zIH us _ _ h h' hb.1 hb.2.1]
theorem fits0 (u : Un) : zZ 0 u = (0, 0) := by simp [zZ]
theorem jT (u : Un) (us : List Un) (h : Un) : scGo scan0 (u :: us) = scGo ⟨(zI u).2, ⟨(zI u).1, u.a, u.z⟩, h⟩ us := by
 have hb := zEc u
 simp only [scGo, Sc.told, Sc.step, Sc.begin_, scan0, fits0]
 simp only [endS, if_true, List.nil_append]
 exact zIH us _ _ _ _ hb.1 hb.2.1
theorem zBL : scGo scan0 [] = [] := rfl
theorem uH {s : Sc} {u : Un} {us : List Un} (h : (zZ s.st u).1 = 0) : scGo s (u :: us) = endS s ++ scGo scan0 (u :: us) := by
 rw [jT u us s.h]
 simp only [scGo, Sc.told, Sc.step, Sc.begin_, h, if_true]
 rfl
def runU (k : Nat) (J : Un → Bool) : List Un → Nat
 | [] => 0
 | [v] => if v.k = k then 1 else 0
 | v :: w :: ws => if v.k = k then runU k J (w :: ws) + 1 else if J v = true ∧ w.k = k then runU k J ws + 2 else 0
theorem qK (k : Nat) (J : Un → Bool) : ∀ us : List Un, runU k J us ≤ us.length
 | [] => Nat.le_refl _
 | [v] => by unfold runU; split <;> simp
 | v :: w :: ws => by
  have h1 := qK k J (w :: ws)
  have h2 := qK k J ws
  unfold runU
  simp only [List.length_cons] at *
  split
  ·omega
  ·split <;> omega
def lastZ (z : Nat) (us : List Un) (n : Nat) : Nat := if n = 0 then z else ((us[n - 1]?).map Un.z).getD z
def UOk (u : Un) : Prop := (u.k = 11 ∧ u.r = 65533) ∨ (u.k = kindN u.r)
theorem zAW {k st1 st2 : Nat} {J : Un → Bool} (hst1 : st1 ≠ 0 ∧ st1 ≠ 2 ∧ st1 ≠ 4) (hst2 : st2 = 2 ∨ st2 = 4)
  (h1 : ∀ u : Un, u.k = k → zZ st1 u = (1, st1) ∧ zZ st2 u = (1, st1)) (h2 : ∀ u : Un, u.k ≠ k → J u = true → zZ st1 u = (2, st2)) (h3 : ∀ u : Un, u.k ≠ k → J u = false → (zZ st1 u).1 = 0)
  (h4 : ∀ u : Un, u.k ≠ k → (zZ st2 u).1 = 0) (hJk : ∀ us : List Un, (∀ u ∈ us, UOk u) → ∀ u ∈ us, J u = true → (u.k = 6 ∨ u.k = 7 ∨ u.k = 8)) :
  ∀ (us : List Un) (_ : ∀ u ∈ us, UOk u) (t : Tk) (h : Un), scGo ⟨st1, t, h⟩ us = ⟨t.k, t.a, lastZ t.z us (runU k J us)⟩ :: scGo scan0 (us.drop (runU k J us))
 | [], ho, t, h => by simp [scGo, endS, hst1, runU, lastZ, zBL]
 | [v], ho, t, h => by
  by_cases hk : v.k = k
  ·have e : runU k J [v] = 1 := by unfold runU; rw [if_pos hk]
   rw [e]
   simp [scGo, Sc.told, Sc.step, (h1 v hk).1, endS, hst1, lastZ, scan0]
  ·have e : runU k J [v] = 0 := by unfold runU; rw [if_neg hk]
   rw [e]
   cases hJ : J v with
   | false =>
    rw [uH (h3 v hk hJ)]
    simp [endS, hst1, lastZ]
   | true =>
    have hb : zI v = (5, 9) := by unfold zI; have := hJk _ ho v List.mem_cons_self hJ; rw [if_neg (by omega), if_neg (by omega), if_neg (by omega), if_neg (by omega), if_neg (by omega), if_pos this]
    rw [List.drop_zero, jT v [] h, hb]
    have hs2 : st2 ≠ 0 := by omega
    simp [scGo, Sc.told, Sc.step, h2 v hk hJ, endS, hs2, hst2, lastZ]
 | v :: w :: ws, ho, t, h => by
  by_cases hk : v.k = k
  ·have e : runU k J (v :: w :: ws) = runU k J (w :: ws) + 1 := by rw [runU, if_pos hk]
   have hs : scGo ⟨st1, t, h⟩ (v :: w :: ws) = scGo ⟨st1, ⟨t.k, t.a, v.z⟩, h⟩ (w :: ws) := by
    rw [scGo]; simp [Sc.told, Sc.step, (h1 v hk).1]
   rw [hs, zAW hst1 hst2 h1 h2 h3 h4 hJk (w :: ws) (fun x hx => ho x (List.mem_cons_of_mem _ hx)), e, List.drop_succ_cons]
   congr 2
   unfold lastZ
   by_cases hn : runU k J (w :: ws) = 0
   ·rw [if_pos hn, if_neg (by omega), hn]; rfl
   ·rw [if_neg hn, if_neg (by omega)]
    obtain ⟨n, hn2⟩ : ∃ n, runU k J (w :: ws) = n + 1 := ⟨_, (Nat.succ_pred_eq_of_ne_zero hn).symm⟩
    have hle := qK k J (w :: ws)
    rw [hn2] at hle ⊢
    simp only [Nat.add_sub_cancel, List.getElem?_cons_succ]
    rw [List.getElem?_eq_getElem (by omega)]; rfl
  ·cases hJ : J v with
   | false =>
    have e : runU k J (v :: w :: ws) = 0 := by rw [runU, if_neg hk, if_neg (by rw [hJ]; simp)]
    rw [e, uH (h3 v hk hJ)]
    simp [endS, hst1, lastZ]
   | true =>
    have hs : scGo ⟨st1, t, h⟩ (v :: w :: ws) = scGo ⟨st2, t, v⟩ (w :: ws) := by
     rw [scGo]; simp [Sc.told, Sc.step, h2 v hk hJ]
    by_cases hw : w.k = k
    ·have e : runU k J (v :: w :: ws) = runU k J ws + 2 := by rw [runU, if_neg hk, if_pos ⟨hJ, hw⟩]
     have hs2 : scGo ⟨st2, t, v⟩ (w :: ws) = scGo ⟨st1, ⟨t.k, t.a, w.z⟩, v⟩ ws := by
      rw [scGo]; simp [Sc.told, Sc.step, (h1 w hw).2]
     rw [hs, hs2, zAW hst1 hst2 h1 h2 h3 h4 hJk ws (fun x hx => ho x (List.mem_cons_of_mem _ (List.mem_cons_of_mem _ hx))), e, List.drop_succ_cons, List.drop_succ_cons]
     congr 2
     unfold lastZ
     by_cases hn : runU k J ws = 0
     ·rw [if_pos hn, if_neg (by omega), hn]; rfl
     ·rw [if_neg hn, if_neg (by omega)]
      obtain ⟨n, hn2⟩ : ∃ n, runU k J ws = n + 1 := ⟨_, (Nat.succ_pred_eq_of_ne_zero hn).symm⟩
      have hle := qK k J ws
      rw [hn2] at hle ⊢
      simp only [Nat.add_sub_cancel, show n + 1 + 2 - 1 = n + 2 by omega, List.getElem?_cons_succ]
      rw [List.getElem?_eq_getElem (by omega)]; rfl
    ·have e : runU k J (v :: w :: ws) = 0 := by rw [runU, if_neg hk, if_neg (fun h => hw h.2)]
     have hb : zI v = (5, 9) := by unfold zI; have := hJk _ ho v List.mem_cons_self hJ; rw [if_neg (by omega), if_neg (by omega), if_neg (by omega), if_neg (by omega), if_neg (by omega), if_pos this]
     have hs2 : st2 ≠ 0 := by omega
     have h9 : ∀ t' h', scGo ⟨9, t', h'⟩ (w :: ws) = t' :: scGo scan0 (w :: ws) := fun t' h' => by
      rw [uH (by simp [zZ])]; simp [endS]
     rw [hs, e, List.drop_zero, jT v (w :: ws) h, hb, h9, uH (h4 w hw)]
     simp [endS, hs2, hst2, lastZ]
end Go.Eng
