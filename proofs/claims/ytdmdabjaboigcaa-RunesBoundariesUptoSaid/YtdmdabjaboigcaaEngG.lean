/-
  A walk's engine, seventh part: tests that are settled by a fact. No condition.
-/
import Derived.Test.YtdmdabjaboigcaaEngF
namespace Go.Eng
open Go Go.RowKit
section
variable {P : Program} {ro : Option Nat} {n : Nat} {w0 : World} {Q : Exit → Act → World → Prop} {r : Env} {ds : List Nat} {m : Mem} {H : SHeap}
  {ops : Array Oper} {l : List Oper} {c : Operand} {x y : Code} {p : Prop} {dp : Decidable p} {b : Bool}
theorem WC.yes (hc : r.ev c = some (.bool (dcd p))) (hp : p) (h : WC P ro n w0 x Q r ds m H) : WC P ro n w0 (.cond c x y) Q r ds m H := .cond_t (by rw [hc, dcd_true hp]) h
theorem c_yes (h : WC P ro n w0 x Q r ds m H) (hc : r.ev c = some (.bool (dcd p)) := by exact rfl) (hp : p := by first | omega | assumption | exact ⟨rfl, rfl, rfl, rfl⟩) : WC P ro n w0 (.cond c x y) Q r ds m H := WC.yes hc hp h
theorem WC.no (hc : r.ev c = some (.bool (dcd p))) (hp : ¬ p) (h : WC P ro n w0 y Q r ds m H) : WC P ro n w0 (.cond c x y) Q r ds m H := .cond_f (by rw [hc, dcd_false hp]) h
theorem c_no (h : WC P ro n w0 y Q r ds m H) (hc : r.ev c = some (.bool (dcd p)) := by exact rfl) (hp : ¬ p := by first | omega | assumption | exact ⟨rfl, rfl, rfl, rfl⟩) : WC P ro n w0 (.cond c x y) Q r ds m H := WC.no hc hp h
theorem WC.nyes (hc : r.ev c = some (.bool (!dcd p))) (hp : ¬ p) (h : WC P ro n w0 x Q r ds m H) : WC P ro n w0 (.cond c x y) Q r ds m H := .cond_t (by rw [hc, dcd_false hp]; rfl) h
theorem c_nyes (h : WC P ro n w0 x Q r ds m H) (hc : r.ev c = some (.bool (!dcd p)) := by exact rfl) (hp : ¬ p := by first | omega | assumption | exact ⟨rfl, rfl, rfl, rfl⟩) : WC P ro n w0 (.cond c x y) Q r ds m H := WC.nyes hc hp h
theorem WC.nno (hc : r.ev c = some (.bool (!dcd p))) (hp : p) (h : WC P ro n w0 y Q r ds m H) : WC P ro n w0 (.cond c x y) Q r ds m H := .cond_f (by rw [hc, dcd_true hp]; rfl) h
theorem c_nno (h : WC P ro n w0 y Q r ds m H) (hc : r.ev c = some (.bool (!dcd p)) := by exact rfl) (hp : p := by first | omega | assumption | exact ⟨rfl, rfl, rfl, rfl⟩) : WC P ro n w0 (.cond c x y) Q r ds m H := WC.nno hc hp h
theorem WC.is_t (hc : r.ev c = some (.bool b)) (hb : b = true) (h : WC P ro n w0 x Q r ds m H) : WC P ro n w0 (.cond c x y) Q r ds m H := .cond_t (by rw [hc, hb]) h
theorem c_is_t (h : WC P ro n w0 x Q r ds m H) (hc : r.ev c = some (.bool b) := by exact rfl) (hb : b = true := by assumption) : WC P ro n w0 (.cond c x y) Q r ds m H := WC.is_t hc hb h
theorem WC.is_f (hc : r.ev c = some (.bool b)) (hb : b = false) (h : WC P ro n w0 y Q r ds m H) : WC P ro n w0 (.cond c x y) Q r ds m H := .cond_f (by rw [hc, hb]) h
theorem c_is_f (h : WC P ro n w0 y Q r ds m H) (hc : r.ev c = some (.bool b) := by exact rfl) (hb : b = false := by assumption) : WC P ro n w0 (.cond c x y) Q r ds m H := WC.is_f hc hb h
/-- both ways, the test as a proposition -/
theorem WC.ways (hc : r.ev c = some (.bool (dcd p))) (ht : p → WC P ro n w0 x Q r ds m H) (hf : ¬ p → WC P ro n w0 y Q r ds m H) : WC P ro n w0 (.cond c x y) Q r ds m H := by
  by_cases hp : p
  · exact .yes hc hp (ht hp)
  · exact .no hc hp (hf hp)
theorem c_ways (ht : p → WC P ro n w0 x Q r ds m H) (hf : ¬ p → WC P ro n w0 y Q r ds m H) (hc : r.ev c = some (.bool (dcd p)) := by exact rfl) : WC P ro n w0 (.cond c x y) Q r ds m H := WC.ways hc ht hf
theorem WC.nways (hc : r.ev c = some (.bool (!dcd p))) (ht : ¬ p → WC P ro n w0 x Q r ds m H) (hf : p → WC P ro n w0 y Q r ds m H) : WC P ro n w0 (.cond c x y) Q r ds m H := by
  by_cases hp : p
  · exact .nno hc hp (hf hp)
  · exact .nyes hc hp (ht hp)
theorem c_nways (ht : ¬ p → WC P ro n w0 x Q r ds m H) (hf : p → WC P ro n w0 y Q r ds m H) (hc : r.ev c = some (.bool (!dcd p)) := by exact rfl) : WC P ro n w0 (.cond c x y) Q r ds m H := WC.nways hc ht hf
/-- a guard, both ways -/
theorem WL.gways {dst : Option Tmp} {op : Op} {ty : TypeId} {pos : String} {after : Array Edge} {j dj : Nat} {want : Bool} (hj : (ops[j]?).bind (·.dst) = some dj) (hd : r.get dj = some (.bool (dcd p)))
    (ht : p → WL P ro n w0 ops Q (⟨dst, op, ty, pos, after, some (j, want)⟩ :: l) ((dj, .bool true) :: r) ds m H)
    (hf : ¬ p → WL P ro n w0 ops Q (⟨dst, op, ty, pos, after, some (j, want)⟩ :: l) ((dj, .bool false) :: r) ds m H) : WL P ro n w0 ops Q (⟨dst, op, ty, pos, after, some (j, want)⟩ :: l) r ds m H := by
  have _ := hj
  by_cases hp : p
  · exact .known dj true hd (dcd_true hp) (ht hp)
  · exact .known dj false hd (dcd_false hp) (hf hp)
theorem w_gways {dst : Option Tmp} {op : Op} {ty : TypeId} {pos : String} {after : Array Edge} {j dj : Nat} {want : Bool} (ht : p → WL P ro n w0 ops Q (⟨dst, op, ty, pos, after, some (j, want)⟩ :: l) ((dj, .bool true) :: r) ds m H) (hf : ¬ p → WL P ro n w0 ops Q (⟨dst, op, ty, pos, after, some (j, want)⟩ :: l) ((dj, .bool false) :: r) ds m H) (hj : (ops[j]?).bind (·.dst) = some dj := by exact rfl) (hd : r.get dj = some (.bool (dcd p)) := by exact rfl) : WL P ro n w0 ops Q (⟨dst, op, ty, pos, after, some (j, want)⟩ :: l) r ds m H := WL.gways hj hd ht hf
theorem WL.gnways {dst : Option Tmp} {op : Op} {ty : TypeId} {pos : String} {after : Array Edge} {j dj : Nat} {want : Bool} (hj : (ops[j]?).bind (·.dst) = some dj) (hd : r.get dj = some (.bool (!dcd p)))
    (ht : ¬ p → WL P ro n w0 ops Q (⟨dst, op, ty, pos, after, some (j, want)⟩ :: l) ((dj, .bool true) :: r) ds m H)
    (hf : p → WL P ro n w0 ops Q (⟨dst, op, ty, pos, after, some (j, want)⟩ :: l) ((dj, .bool false) :: r) ds m H) : WL P ro n w0 ops Q (⟨dst, op, ty, pos, after, some (j, want)⟩ :: l) r ds m H := by
  have _ := hj
  by_cases hp : p
  · exact .known dj false hd (by simp [dcd_eq, hp]) (hf hp)
  · exact .known dj true hd (by simp [dcd_eq, hp]) (ht hp)
theorem w_gnways {dst : Option Tmp} {op : Op} {ty : TypeId} {pos : String} {after : Array Edge} {j dj : Nat} {want : Bool} (ht : ¬ p → WL P ro n w0 ops Q (⟨dst, op, ty, pos, after, some (j, want)⟩ :: l) ((dj, .bool true) :: r) ds m H) (hf : p → WL P ro n w0 ops Q (⟨dst, op, ty, pos, after, some (j, want)⟩ :: l) ((dj, .bool false) :: r) ds m H) (hj : (ops[j]?).bind (·.dst) = some dj := by exact rfl) (hd : r.get dj = some (.bool (!dcd p)) := by exact rfl) : WL P ro n w0 ops Q (⟨dst, op, ty, pos, after, some (j, want)⟩ :: l) r ds m H := WL.gnways hj hd ht hf
theorem WL.gyes {dst : Option Tmp} {op : Op} {ty : TypeId} {pos : String} {after : Array Edge} {j dj : Nat} {want : Bool} (hj : (ops[j]?).bind (·.dst) = some dj) (hd : r.get dj = some (.bool (dcd p))) (hp : p)
    (h : WL P ro n w0 ops Q (⟨dst, op, ty, pos, after, some (j, want)⟩ :: l) ((dj, .bool true) :: r) ds m H) : WL P ro n w0 ops Q (⟨dst, op, ty, pos, after, some (j, want)⟩ :: l) r ds m H := by
  have _ := hj
  exact .known dj true hd (dcd_true hp) h
theorem w_gyes {dst : Option Tmp} {op : Op} {ty : TypeId} {pos : String} {after : Array Edge} {j dj : Nat} {want : Bool} (h : WL P ro n w0 ops Q (⟨dst, op, ty, pos, after, some (j, want)⟩ :: l) ((dj, .bool true) :: r) ds m H) (hj : (ops[j]?).bind (·.dst) = some dj := by exact rfl) (hd : r.get dj = some (.bool (dcd p)) := by exact rfl) (hp : p := by first | omega | assumption | exact ⟨rfl, rfl, rfl, rfl⟩) : WL P ro n w0 ops Q (⟨dst, op, ty, pos, after, some (j, want)⟩ :: l) r ds m H := WL.gyes hj hd hp h
theorem WL.gno {dst : Option Tmp} {op : Op} {ty : TypeId} {pos : String} {after : Array Edge} {j dj : Nat} {want : Bool} (hj : (ops[j]?).bind (·.dst) = some dj) (hd : r.get dj = some (.bool (dcd p))) (hp : ¬ p)
    (h : WL P ro n w0 ops Q (⟨dst, op, ty, pos, after, some (j, want)⟩ :: l) ((dj, .bool false) :: r) ds m H) : WL P ro n w0 ops Q (⟨dst, op, ty, pos, after, some (j, want)⟩ :: l) r ds m H := by
  have _ := hj
  exact .known dj false hd (dcd_false hp) h
theorem w_gno {dst : Option Tmp} {op : Op} {ty : TypeId} {pos : String} {after : Array Edge} {j dj : Nat} {want : Bool} (h : WL P ro n w0 ops Q (⟨dst, op, ty, pos, after, some (j, want)⟩ :: l) ((dj, .bool false) :: r) ds m H) (hj : (ops[j]?).bind (·.dst) = some dj := by exact rfl) (hd : r.get dj = some (.bool (dcd p)) := by exact rfl) (hp : ¬ p := by first | omega | assumption | exact ⟨rfl, rfl, rfl, rfl⟩) : WL P ro n w0 ops Q (⟨dst, op, ty, pos, after, some (j, want)⟩ :: l) r ds m H := WL.gno hj hd hp h
theorem WL.gnyes {dst : Option Tmp} {op : Op} {ty : TypeId} {pos : String} {after : Array Edge} {j dj : Nat} {want : Bool} (hj : (ops[j]?).bind (·.dst) = some dj) (hd : r.get dj = some (.bool (!dcd p))) (hp : ¬ p)
    (h : WL P ro n w0 ops Q (⟨dst, op, ty, pos, after, some (j, want)⟩ :: l) ((dj, .bool true) :: r) ds m H) : WL P ro n w0 ops Q (⟨dst, op, ty, pos, after, some (j, want)⟩ :: l) r ds m H := by
  have _ := hj
  exact .known dj true hd (by simp [dcd_eq, hp]) h
theorem w_gnyes {dst : Option Tmp} {op : Op} {ty : TypeId} {pos : String} {after : Array Edge} {j dj : Nat} {want : Bool} (h : WL P ro n w0 ops Q (⟨dst, op, ty, pos, after, some (j, want)⟩ :: l) ((dj, .bool true) :: r) ds m H) (hj : (ops[j]?).bind (·.dst) = some dj := by exact rfl) (hd : r.get dj = some (.bool (!dcd p)) := by exact rfl) (hp : ¬ p := by first | omega | assumption | exact ⟨rfl, rfl, rfl, rfl⟩) : WL P ro n w0 ops Q (⟨dst, op, ty, pos, after, some (j, want)⟩ :: l) r ds m H := WL.gnyes hj hd hp h
theorem WL.gnno {dst : Option Tmp} {op : Op} {ty : TypeId} {pos : String} {after : Array Edge} {j dj : Nat} {want : Bool} (hj : (ops[j]?).bind (·.dst) = some dj) (hd : r.get dj = some (.bool (!dcd p))) (hp : p)
    (h : WL P ro n w0 ops Q (⟨dst, op, ty, pos, after, some (j, want)⟩ :: l) ((dj, .bool false) :: r) ds m H) : WL P ro n w0 ops Q (⟨dst, op, ty, pos, after, some (j, want)⟩ :: l) r ds m H := by
  have _ := hj
  exact .known dj false hd (by simp [dcd_eq, hp]) h
theorem w_gnno {dst : Option Tmp} {op : Op} {ty : TypeId} {pos : String} {after : Array Edge} {j dj : Nat} {want : Bool} (h : WL P ro n w0 ops Q (⟨dst, op, ty, pos, after, some (j, want)⟩ :: l) ((dj, .bool false) :: r) ds m H) (hj : (ops[j]?).bind (·.dst) = some dj := by exact rfl) (hd : r.get dj = some (.bool (!dcd p)) := by exact rfl) (hp : p := by first | omega | assumption | exact ⟨rfl, rfl, rfl, rfl⟩) : WL P ro n w0 ops Q (⟨dst, op, ty, pos, after, some (j, want)⟩ :: l) r ds m H := WL.gnno hj hd hp h
theorem WL.gis {dst : Option Tmp} {op : Op} {ty : TypeId} {pos : String} {after : Array Edge} {j dj : Nat} {want : Bool} (k : Bool) (hj : (ops[j]?).bind (·.dst) = some dj) (hd : r.get dj = some (.bool b)) (hb : b = k)
    (h : WL P ro n w0 ops Q (⟨dst, op, ty, pos, after, some (j, want)⟩ :: l) ((dj, .bool k) :: r) ds m H) : WL P ro n w0 ops Q (⟨dst, op, ty, pos, after, some (j, want)⟩ :: l) r ds m H := by
  have _ := hj
  exact .known dj k hd hb h
theorem w_gis {dst : Option Tmp} {op : Op} {ty : TypeId} {pos : String} {after : Array Edge} {j dj : Nat} {want : Bool} {k : Bool} (h : WL P ro n w0 ops Q (⟨dst, op, ty, pos, after, some (j, want)⟩ :: l) ((dj, .bool k) :: r) ds m H) (hj : (ops[j]?).bind (·.dst) = some dj := by exact rfl) (hd : r.get dj = some (.bool b) := by exact rfl) (hb : b = k := by assumption) : WL P ro n w0 ops Q (⟨dst, op, ty, pos, after, some (j, want)⟩ :: l) r ds m H := WL.gis k hj hd hb h
theorem Env.Sub.refl_cons {r : Env} {t : Nat} {v : Value} {r' : Env} (h : r.get t = some v) (h' : Env.Sub r' r) : Env.Sub ((t, v) :: r') r := .cons h h'
end
end Go.Eng
namespace Go.Eng
open Go Go.RowKit
section
variable {P : Program} {ro : Option Nat} {n : Nat} {w0 : World} {Q : Exit → Act → World → Prop} {r : Env} {ds : List Nat} {m : Mem} {H : SHeap}
/-- a loop that is left in its first round -/
theorem WC.loop1 {c : Code} (h : WC P ro n w0 c (Exit.then (fun _ _ => False) Q) r ds m H) : WC P ro n w0 (.loop c) Q r ds m H :=
  fun tmps w ho hs => wpIn_loop_once (h tmps w ho hs)
/-- what a function without a trace in memory owes -/
def Gives (v : Value) (m : Mem) (H : SHeap) : Value → Mem → SHeap → Prop := fun v' m' H' => v' = v ∧ m' = m ∧ H' = H
theorem Gives.mk {v v' : Value} (h : v' = v) : Gives v m H v' m H := ⟨h, rfl, rfl⟩
/-- at a function's end: what was laid on the way is let go -/
theorem WQ.drop {e : Exit} {i : Item} (h : WQ n w0 Q e r ds m H) : WQ n w0 Q e r ds m (i :: H) := fun tmps w ho hs => h tmps w ho hs.drop
/-- a function's end where nothing of its own is kept -/
theorem WQ.fin0 {fn : Func} {Post : Value → Mem → SHeap → Prop} {H0 : SHeap} (v : Value) (hres : ∀ tmps w, r.ok n tmps → Sat w0 m H w → (results fn tmps).run P w = .ok v w) (hd : ∀ w, Sat w0 m H w → Sat w0 m H0 w) (hp : Post v m H0) :
    WQ n w0 (QFun P fn w0 Post) .ret r [] m H :=
  fun tmps w ho hs => ⟨v, hres tmps w ho hs, v, m, H0, rfl, hp, hd w hs⟩
theorem q_fin0 {fn : Func} {Post : Value → Mem → SHeap → Prop} {H0 : SHeap} {v : Value} (hp : Post v m H0) (hres : ∀ tmps w, r.ok n tmps → Sat w0 m H w → (results fn tmps).run P w = .ok v w := by (first | (apply res_tmp; (· exact rfl); (· exact rfl)) | (apply res_cell; (· exact rfl); (· exact rfl); (· (first | (apply Loads.one; (· exact rfl); (· first | (apply Cell.blk; (· (repeat (first | exact List.Mem.head _ | apply List.Mem.tail))); (· exact rfl)) | (apply Cell.mem; (· assumption); (· exact rfl)))) | (apply Loads.whole; (· exact rfl); (· exact rfl); (· (repeat (first | exact List.Mem.head _ | apply List.Mem.tail))); (· exact rfl)) | (apply Loads.blk; (· exact rfl); (· exact rfl); (· (repeat (first | exact List.Mem.head _ | apply List.Mem.tail))); (· (repeat (first | exact Seg.nil | (apply Seg.cons; (· exact rfl)))))) | (apply Loads.row; (· (repeat (first | exact List.Mem.head _ | apply List.Mem.tail))); (· assumption); (· exact rfl); (· exact rfl); (· exact rfl); (· exact rfl)) | (apply Loads.row1; (· (repeat (first | exact List.Mem.head _ | apply List.Mem.tail))); (· assumption); (· exact rfl); (· exact rfl))))) | (apply res_none; exact rfl) | (apply res_many; (· exact rfl); (· repeat (first | exact ResAll.nil | (apply ResAll.tmp; (· exact rfl)) | (apply ResAll.cell; (· exact rfl); (· (first | (apply Loads.one; (· exact rfl); (· first | (apply Cell.blk; (· (repeat (first | exact List.Mem.head _ | apply List.Mem.tail))); (· exact rfl)) | (apply Cell.mem; (· assumption); (· exact rfl)))) | (apply Loads.whole; (· exact rfl); (· exact rfl); (· (repeat (first | exact List.Mem.head _ | apply List.Mem.tail))); (· exact rfl)) | (apply Loads.blk; (· exact rfl); (· exact rfl); (· (repeat (first | exact List.Mem.head _ | apply List.Mem.tail))); (· (repeat (first | exact Seg.nil | (apply Seg.cons; (· exact rfl)))))) | (apply Loads.row; (· (repeat (first | exact List.Mem.head _ | apply List.Mem.tail))); (· assumption); (· exact rfl); (· exact rfl); (· exact rfl); (· exact rfl)) | (apply Loads.row1; (· (repeat (first | exact List.Mem.head _ | apply List.Mem.tail))); (· assumption); (· exact rfl); (· exact rfl))))))); (· exact rfl)))) (hd : ∀ w, Sat w0 m H w → Sat w0 m H0 w := by ((repeat apply drops_cons); exact (fun w h => h))) : WQ n w0 (QFun P fn w0 Post) .ret r [] m H := WQ.fin0 v hres hd hp
theorem WQ.finNorm0 {fn : Func} {Post : Value → Mem → SHeap → Prop} {H0 : SHeap} (v : Value) (hres : ∀ tmps w, r.ok n tmps → Sat w0 m H w → (results fn tmps).run P w = .ok v w) (hd : ∀ w, Sat w0 m H w → Sat w0 m H0 w) (hp : Post v m H0) :
    WQ n w0 (QFun P fn w0 Post) .normal r [] m H :=
  fun tmps w ho hs => ⟨v, hres tmps w ho hs, v, m, H0, rfl, hp, hd w hs⟩
theorem q_finNorm0 {fn : Func} {Post : Value → Mem → SHeap → Prop} {H0 : SHeap} {v : Value} (hp : Post v m H0) (hres : ∀ tmps w, r.ok n tmps → Sat w0 m H w → (results fn tmps).run P w = .ok v w := by (first | (apply res_tmp; (· exact rfl); (· exact rfl)) | (apply res_cell; (· exact rfl); (· exact rfl); (· (first | (apply Loads.one; (· exact rfl); (· first | (apply Cell.blk; (· (repeat (first | exact List.Mem.head _ | apply List.Mem.tail))); (· exact rfl)) | (apply Cell.mem; (· assumption); (· exact rfl)))) | (apply Loads.whole; (· exact rfl); (· exact rfl); (· (repeat (first | exact List.Mem.head _ | apply List.Mem.tail))); (· exact rfl)) | (apply Loads.blk; (· exact rfl); (· exact rfl); (· (repeat (first | exact List.Mem.head _ | apply List.Mem.tail))); (· (repeat (first | exact Seg.nil | (apply Seg.cons; (· exact rfl)))))) | (apply Loads.row; (· (repeat (first | exact List.Mem.head _ | apply List.Mem.tail))); (· assumption); (· exact rfl); (· exact rfl); (· exact rfl); (· exact rfl)) | (apply Loads.row1; (· (repeat (first | exact List.Mem.head _ | apply List.Mem.tail))); (· assumption); (· exact rfl); (· exact rfl))))) | (apply res_none; exact rfl) | (apply res_many; (· exact rfl); (· repeat (first | exact ResAll.nil | (apply ResAll.tmp; (· exact rfl)) | (apply ResAll.cell; (· exact rfl); (· (first | (apply Loads.one; (· exact rfl); (· first | (apply Cell.blk; (· (repeat (first | exact List.Mem.head _ | apply List.Mem.tail))); (· exact rfl)) | (apply Cell.mem; (· assumption); (· exact rfl)))) | (apply Loads.whole; (· exact rfl); (· exact rfl); (· (repeat (first | exact List.Mem.head _ | apply List.Mem.tail))); (· exact rfl)) | (apply Loads.blk; (· exact rfl); (· exact rfl); (· (repeat (first | exact List.Mem.head _ | apply List.Mem.tail))); (· (repeat (first | exact Seg.nil | (apply Seg.cons; (· exact rfl)))))) | (apply Loads.row; (· (repeat (first | exact List.Mem.head _ | apply List.Mem.tail))); (· assumption); (· exact rfl); (· exact rfl); (· exact rfl); (· exact rfl)) | (apply Loads.row1; (· (repeat (first | exact List.Mem.head _ | apply List.Mem.tail))); (· assumption); (· exact rfl); (· exact rfl))))))); (· exact rfl)))) (hd : ∀ w, Sat w0 m H w → Sat w0 m H0 w := by ((repeat apply drops_cons); exact (fun w h => h))) : WQ n w0 (QFun P fn w0 Post) .normal r [] m H := WQ.finNorm0 v hres hd hp
theorem drops_refl {w : World} (h : Sat w0 m H w) : Sat w0 m H w := h
theorem drops_cons {i : Item} {H0 : SHeap} (h : ∀ w, Sat w0 m H w → Sat w0 m H0 w) : ∀ w, Sat w0 m (i :: H) w → Sat w0 m H0 w := fun w hs => h w hs.drop
theorem Sat.forget {m' : Mem} {w : World} (h : Sat w0 m' H w) (hm : m.le m') : Sat w0 m H w :=
  ⟨h.os, h.tape, h.output, h.size, fun b o hb => h.pers b o (hm b o hb), h.own, h.sep, fun b hb => by
    cases hq : m b with
    | none => rfl
    | some o => have := hm b o hq; rw [h.free b hb] at this; cases this⟩
/-- what is owned is let stand: from here on it is known by what lies there -/
theorem WL.persist {ops : Array Oper} {l : List Oper} {b : Nat} {o : Obj} {H1 : SHeap} (ho : Out (.blk b o) H H1) (h : ∀ m', m.le m' → m' b = some o → WL P ro n w0 ops Q l r ds m' H1) : WL P ro n w0 ops Q l r ds m H :=
  fun tmps w hok hs => by
    obtain ⟨h1, h2⟩ := (hs.perm ho.perm).persist
    exact h _ h2 (by simp [Mem.ins]) tmps w hok h1
theorem WC.persist {c : Code} {b : Nat} {o : Obj} {H1 : SHeap} (ho : Out (.blk b o) H H1) (h : ∀ m', m.le m' → m' b = some o → WC P ro n w0 c Q r ds m' H1) : WC P ro n w0 c Q r ds m H :=
  fun tmps w hok hs => by
    obtain ⟨h1, h2⟩ := (hs.perm ho.perm).persist
    exact h _ h2 (by simp [Mem.ins]) tmps w hok h1
theorem Cell.mem {b o : Nat} {L : List Value} {T : TypeId} {fz : Nat × Nat} {v : Value} (hm : m b = some (.cells L.toArray T fz)) (hv : L[o]? = some v) : Cell w0 m H ⟨b, o, none⟩ v := by
  intro w hs
  simp [World.cell?, hs.pers _ _ hm, hv]
/-- a function's end: what was laid is let go, what was let stand is forgotten -/
theorem WQ.fin1 {fn : Func} {Post : Value → Mem → SHeap → Prop} {m0 : Mem} {H0 : SHeap} (v : Value) (hres : ∀ tmps w, r.ok n tmps → Sat w0 m H w → (results fn tmps).run P w = .ok v w) (hd : ∀ w, Sat w0 m H w → Sat w0 m H0 w) (hm : m0.le m) (hp : Post v m0 H0) :
    WQ n w0 (QFun P fn w0 Post) .ret r [] m H :=
  fun tmps w ho hs => ⟨v, hres tmps w ho hs, v, m0, H0, rfl, hp, (hd w hs).forget hm⟩
theorem q_fin1 {fn : Func} {Post : Value → Mem → SHeap → Prop} {m0 : Mem} {H0 : SHeap} {v : Value} (hm : m0.le m) (hp : Post v m0 H0) (hres : ∀ tmps w, r.ok n tmps → Sat w0 m H w → (results fn tmps).run P w = .ok v w := by (first | (apply res_tmp; (· exact rfl); (· exact rfl)) | (apply res_cell; (· exact rfl); (· exact rfl); (· (first | (apply Loads.one; (· exact rfl); (· first | (apply Cell.blk; (· (repeat (first | exact List.Mem.head _ | apply List.Mem.tail))); (· exact rfl)) | (apply Cell.mem; (· assumption); (· exact rfl)))) | (apply Loads.whole; (· exact rfl); (· exact rfl); (· (repeat (first | exact List.Mem.head _ | apply List.Mem.tail))); (· exact rfl)) | (apply Loads.blk; (· exact rfl); (· exact rfl); (· (repeat (first | exact List.Mem.head _ | apply List.Mem.tail))); (· (repeat (first | exact Seg.nil | (apply Seg.cons; (· exact rfl)))))) | (apply Loads.row; (· (repeat (first | exact List.Mem.head _ | apply List.Mem.tail))); (· assumption); (· exact rfl); (· exact rfl); (· exact rfl); (· exact rfl)) | (apply Loads.row1; (· (repeat (first | exact List.Mem.head _ | apply List.Mem.tail))); (· assumption); (· exact rfl); (· exact rfl))))) | (apply res_none; exact rfl) | (apply res_many; (· exact rfl); (· repeat (first | exact ResAll.nil | (apply ResAll.tmp; (· exact rfl)) | (apply ResAll.cell; (· exact rfl); (· (first | (apply Loads.one; (· exact rfl); (· first | (apply Cell.blk; (· (repeat (first | exact List.Mem.head _ | apply List.Mem.tail))); (· exact rfl)) | (apply Cell.mem; (· assumption); (· exact rfl)))) | (apply Loads.whole; (· exact rfl); (· exact rfl); (· (repeat (first | exact List.Mem.head _ | apply List.Mem.tail))); (· exact rfl)) | (apply Loads.blk; (· exact rfl); (· exact rfl); (· (repeat (first | exact List.Mem.head _ | apply List.Mem.tail))); (· (repeat (first | exact Seg.nil | (apply Seg.cons; (· exact rfl)))))) | (apply Loads.row; (· (repeat (first | exact List.Mem.head _ | apply List.Mem.tail))); (· assumption); (· exact rfl); (· exact rfl); (· exact rfl); (· exact rfl)) | (apply Loads.row1; (· (repeat (first | exact List.Mem.head _ | apply List.Mem.tail))); (· assumption); (· exact rfl); (· exact rfl))))))); (· exact rfl)))) (hd : ∀ w, Sat w0 m H w → Sat w0 m H0 w := by ((repeat apply drops_cons); exact (fun w h => h))) : WQ n w0 (QFun P fn w0 Post) .ret r [] m H := WQ.fin1 v hres hd hm hp
theorem WQ.finNorm1 {fn : Func} {Post : Value → Mem → SHeap → Prop} {m0 : Mem} {H0 : SHeap} (v : Value) (hres : ∀ tmps w, r.ok n tmps → Sat w0 m H w → (results fn tmps).run P w = .ok v w) (hd : ∀ w, Sat w0 m H w → Sat w0 m H0 w) (hm : m0.le m) (hp : Post v m0 H0) :
    WQ n w0 (QFun P fn w0 Post) .normal r [] m H :=
  fun tmps w ho hs => ⟨v, hres tmps w ho hs, v, m0, H0, rfl, hp, (hd w hs).forget hm⟩
theorem q_finNorm1 {fn : Func} {Post : Value → Mem → SHeap → Prop} {m0 : Mem} {H0 : SHeap} {v : Value} (hm : m0.le m) (hp : Post v m0 H0) (hres : ∀ tmps w, r.ok n tmps → Sat w0 m H w → (results fn tmps).run P w = .ok v w := by (first | (apply res_tmp; (· exact rfl); (· exact rfl)) | (apply res_cell; (· exact rfl); (· exact rfl); (· (first | (apply Loads.one; (· exact rfl); (· first | (apply Cell.blk; (· (repeat (first | exact List.Mem.head _ | apply List.Mem.tail))); (· exact rfl)) | (apply Cell.mem; (· assumption); (· exact rfl)))) | (apply Loads.whole; (· exact rfl); (· exact rfl); (· (repeat (first | exact List.Mem.head _ | apply List.Mem.tail))); (· exact rfl)) | (apply Loads.blk; (· exact rfl); (· exact rfl); (· (repeat (first | exact List.Mem.head _ | apply List.Mem.tail))); (· (repeat (first | exact Seg.nil | (apply Seg.cons; (· exact rfl)))))) | (apply Loads.row; (· (repeat (first | exact List.Mem.head _ | apply List.Mem.tail))); (· assumption); (· exact rfl); (· exact rfl); (· exact rfl); (· exact rfl)) | (apply Loads.row1; (· (repeat (first | exact List.Mem.head _ | apply List.Mem.tail))); (· assumption); (· exact rfl); (· exact rfl))))) | (apply res_none; exact rfl) | (apply res_many; (· exact rfl); (· repeat (first | exact ResAll.nil | (apply ResAll.tmp; (· exact rfl)) | (apply ResAll.cell; (· exact rfl); (· (first | (apply Loads.one; (· exact rfl); (· first | (apply Cell.blk; (· (repeat (first | exact List.Mem.head _ | apply List.Mem.tail))); (· exact rfl)) | (apply Cell.mem; (· assumption); (· exact rfl)))) | (apply Loads.whole; (· exact rfl); (· exact rfl); (· (repeat (first | exact List.Mem.head _ | apply List.Mem.tail))); (· exact rfl)) | (apply Loads.blk; (· exact rfl); (· exact rfl); (· (repeat (first | exact List.Mem.head _ | apply List.Mem.tail))); (· (repeat (first | exact Seg.nil | (apply Seg.cons; (· exact rfl)))))) | (apply Loads.row; (· (repeat (first | exact List.Mem.head _ | apply List.Mem.tail))); (· assumption); (· exact rfl); (· exact rfl); (· exact rfl); (· exact rfl)) | (apply Loads.row1; (· (repeat (first | exact List.Mem.head _ | apply List.Mem.tail))); (· assumption); (· exact rfl); (· exact rfl))))))); (· exact rfl)))) (hd : ∀ w, Sat w0 m H w → Sat w0 m H0 w := by ((repeat apply drops_cons); exact (fun w h => h))) : WQ n w0 (QFun P fn w0 Post) .normal r [] m H := WQ.finNorm1 v hres hd hm hp
/-- a loop, from a part of what is known -/
theorem WC.loopW {c : Code} (r0 : Env) (hr : Env.Sub r0 r) (I : Nat → Env → List Nat → Mem → SHeap → Prop) (j : Nat) (h0 : I j r0 ds m H)
    (round : ∀ j r ds m H, I j r ds m H → WC P ro n w0 c (QLoop n w0 I j Q) r ds m H) : WC P ro n w0 (.loop c) Q r ds m H :=
  .weak hr (fun _ h => h) (.loop I j h0 round)
end
end Go.Eng
