/-
  A walk's engine, third part: the operations on numbers, texts and parts of values, each as a rule on what is known of the slots. No condition.
-/
import Derived.Test.YtdmdabjaboigcaaEngB
import Derived.Laws.Strings
import Derived.IntWalk
set_option linter.all false
namespace Go.Eng
open Go Go.RowKit

@[reducible] def str (l : List UInt8) : Value := .string ⟨l.toArray⟩
@[reducible] def i64 (x : Int) : Value := .int .i64 x
/-- a text's byte as a number -/
def gb (l : List UInt8) (k : Nat) : Nat := (l.getD k 0).toNat
theorem gb_lt (l : List UInt8) (k : Nat) : gb l k < 256 := (l.getD k 0).toNat_lt

theorem ofNat_toArray (l : List UInt8) : (⟨l.toArray⟩ : ByteArray).size = l.length := by simp [ByteArray.size]
theorem bytes_toList (l : List UInt8) : (⟨l.toArray⟩ : ByteArray).toList = l := by
  simp [ByteArray.toList_eq]

/-! what a type is -/
def aggB (P : Program) (t : TypeId) : Option Bool := (P.underlying t).map fun d => match d with | .struct _ | .array _ _ => true | _ => false
/-- a small number, worked out -/
def lit : Nat → Option Nat
  | 0 => some 0
  | 1 => some 1
  | 2 => some 2
  | 3 => some 3
  | 4 => some 4
  | 5 => some 5
  | 6 => some 6
  | 7 => some 7
  | 8 => some 8
  | 9 => some 9
  | 10 => some 10
  | 11 => some 11
  | 12 => some 12
  | 13 => some 13
  | 14 => some 14
  | 15 => some 15
  | 16 => some 16
  | 17 => some 17
  | 18 => some 18
  | 19 => some 19
  | 20 => some 20
  | 21 => some 21
  | 22 => some 22
  | 23 => some 23
  | 24 => some 24
  | 25 => some 25
  | 26 => some 26
  | 27 => some 27
  | 28 => some 28
  | 29 => some 29
  | 30 => some 30
  | 31 => some 31
  | 32 => some 32
  | 33 => some 33
  | 34 => some 34
  | 35 => some 35
  | 36 => some 36
  | 37 => some 37
  | 38 => some 38
  | 39 => some 39
  | 40 => some 40
  | n => some n
theorem lit_eq (n : Nat) : lit n = some n := by unfold lit; split <;> rfl
def sizeB (P : Program) (t : TypeId) : Option Nat := (P.info? t).bind fun d => lit d.size
def bytesB (P : Program) (t : TypeId) : Option Nat := (P.info? t).bind fun d => lit d.bytes
def zeroB (P : Program) (t : TypeId) : Option Value := (P.info? t).bind (·.zero)
section
variable {P : Program} {t : TypeId}
theorem run_agg {b : Bool} (h : aggB P t = some b) (w : World) : (isAgg t).run P w = .ok b w := by
  unfold aggB at h
  cases hu : P.underlying t with
  | none => simp [hu] at h
  | some d =>
    simp [hu] at h
    subst h
    simp only [isAgg, Sem.run_bind, run_underlying hu, Result.andThen_ok]
    cases d <;> rfl
theorem run_size {s : Nat} (h : sizeB P t = some s) (w : World) : (sizeOf t).run P w = .ok s w := by
  unfold sizeB at h
  cases hu : P.info? t with
  | none => simp [hu] at h
  | some d =>
    simp [hu, lit_eq] at h
    subst h
    simp [sizeOf, typeInfo, Sem.run_bind, hu, Result.andThen, pure]
theorem run_info {s : Nat} (h : bytesB P t = some s) (w : World) : ∃ i, P.info? t = some i ∧ i.bytes = s ∧ (typeInfo t).run P w = .ok i w := by
  unfold bytesB at h
  cases hu : P.info? t with
  | none => simp [hu] at h
  | some d =>
    simp [hu, lit_eq] at h
    exact ⟨d, rfl, h, by simp [typeInfo, Sem.run_bind, hu, Result.andThen, pure]⟩
theorem run_zero {z : Value} (h : zeroB P t = some z) (w : World) : (zeroValue t).run P w = .ok z w := by
  unfold zeroB at h
  cases hu : P.info? t with
  | none => simp [hu] at h
  | some d =>
    simp [hu] at h
    simp [zeroValue, typeInfo, Sem.run_bind, hu, Result.andThen, pure, h]
end

section
variable {P : Program} {ro : Option Nat} {n : Nat} {w0 : World} {Q : Exit → Act → World → Prop} {r : Env} {ds : List Nat} {m : Mem} {H : SHeap}
  {ops : Array Oper} {l : List Oper} {d : Nat} {ty : TypeId} {pos : String} {after : Array Edge}

theorem WL.move {x : Operand} {v : Value} (hx : r.ev x = some v) (hd : Nat.blt d n = true) (h : WL P ro n w0 ops Q l ((d, v) :: r) ds m H) :
    WL P ro n w0 ops Q (⟨some d, .move x, ty, pos, after, none⟩ :: l) r ds m H :=
  .val hd (fun _ h => by cases h) (fun tmps w ho _ => by simp [execOp, ho.ev hx]) h
theorem w_move {x : Operand} {v : Value} (h : WL P ro n w0 ops Q l ((d, v) :: r) ds m H) (hx : r.ev x = some v := by exact rfl) (hd : Nat.blt d n = true := by exact rfl) : WL P ro n w0 ops Q (⟨some d, .move x, ty, pos, after, none⟩ :: l) r ds m H := WL.move hx hd h
theorem WL.assign {x : Operand} {v : Value} (hx : r.ev x = some v) (hd : Nat.blt d n = true) (h : WL P ro n w0 ops Q l ((d, v) :: r) ds m H) :
    WL P ro n w0 ops Q (⟨some d, .assign x, ty, pos, after, none⟩ :: l) r ds m H :=
  .val hd (fun _ h => by cases h) (fun tmps w ho _ => by simp [execOp, ho.ev hx]) h
theorem w_assign {x : Operand} {v : Value} (h : WL P ro n w0 ops Q l ((d, v) :: r) ds m H) (hx : r.ev x = some v := by exact rfl) (hd : Nat.blt d n = true := by exact rfl) : WL P ro n w0 ops Q (⟨some d, .assign x, ty, pos, after, none⟩ :: l) r ds m H := WL.assign hx hd h
theorem WL.pick_t {c x y : Operand} {v : Value} (hc : r.ev c = some (.bool true)) (hx : r.ev x = some v) (hd : Nat.blt d n = true) (h : WL P ro n w0 ops Q l ((d, v) :: r) ds m H) :
    WL P ro n w0 ops Q (⟨some d, .pick c x y, ty, pos, after, none⟩ :: l) r ds m H :=
  .val hd (fun _ h => by cases h) (fun tmps w ho _ => by simp [execOp, ho.ev hx, ho.ev hc, asBool]) h
theorem w_pick_t {c x y : Operand} {v : Value} (h : WL P ro n w0 ops Q l ((d, v) :: r) ds m H) (hc : r.ev c = some (.bool true) := by exact rfl) (hx : r.ev x = some v := by exact rfl) (hd : Nat.blt d n = true := by exact rfl) : WL P ro n w0 ops Q (⟨some d, .pick c x y, ty, pos, after, none⟩ :: l) r ds m H := WL.pick_t hc hx hd h
theorem WL.pick_f {c x y : Operand} {v : Value} (hc : r.ev c = some (.bool false)) (hx : r.ev y = some v) (hd : Nat.blt d n = true) (h : WL P ro n w0 ops Q l ((d, v) :: r) ds m H) :
    WL P ro n w0 ops Q (⟨some d, .pick c x y, ty, pos, after, none⟩ :: l) r ds m H :=
  .val hd (fun _ h => by cases h) (fun tmps w ho _ => by simp [execOp, ho.ev hx, ho.ev hc, asBool]) h
theorem w_pick_f {c x y : Operand} {v : Value} (h : WL P ro n w0 ops Q l ((d, v) :: r) ds m H) (hc : r.ev c = some (.bool false) := by exact rfl) (hx : r.ev y = some v := by exact rfl) (hd : Nat.blt d n = true := by exact rfl) : WL P ro n w0 ops Q (⟨some d, .pick c x y, ty, pos, after, none⟩ :: l) r ds m H := WL.pick_f hc hx hd h
theorem WL.makeFunc {fn : Fn} {first captured : List Operand} {fv cv : List Value} (h1 : r.evs first = some fv) (h2 : r.evs captured = some cv) (hd : Nat.blt d n = true)
    (h : WL P ro n w0 ops Q l ((d, .func fn fv.toArray cv.toArray) :: r) ds m H) :
    WL P ro n w0 ops Q (⟨some d, .makeFunc fn first.toArray captured.toArray, ty, pos, after, none⟩ :: l) r ds m H :=
  .val hd (fun _ h => by cases h) (fun tmps w ho _ => by
    have e1 := ho.evs (marks ds) h1
    have e2 := ho.evs (marks ds) h2
    simp [execOp, Instr.makeFunc, e1, e2]) h
theorem w_makeFunc {fn : Fn} {first captured : List Operand} {fv cv : List Value} (h : WL P ro n w0 ops Q l ((d, .func fn fv.toArray cv.toArray) :: r) ds m H) (h1 : r.evs first = some fv := by exact rfl) (h2 : r.evs captured = some cv := by exact rfl) (hd : Nat.blt d n = true := by exact rfl) : WL P ro n w0 ops Q (⟨some d, .makeFunc fn first.toArray captured.toArray, ty, pos, after, none⟩ :: l) r ds m H := WL.makeFunc h1 h2 hd h
theorem WL.makeIface {t : TypeId} {x : Operand} {v : Value} (ht : (P.underlying t).any (fun d => match d with | .interface _ => false | _ => true) = true) (hx : r.ev x = some v) (hd : Nat.blt d n = true)
    (h : WL P ro n w0 ops Q l ((d, .iface t v) :: r) ds m H) : WL P ro n w0 ops Q (⟨some d, .makeInterface t x, ty, pos, after, none⟩ :: l) r ds m H :=
  .val hd (fun _ h => by cases h) (fun tmps w ho _ => by
    cases hu : P.underlying t with
    | none => simp [hu] at ht
    | some q =>
      simp only [execOp, Instr.makeInterface, Sem.run_bind, run_underlying hu, Result.andThen_ok, ho.ev hx]
      cases q <;> simp_all) h
theorem w_makeIface {t : TypeId} {x : Operand} {v : Value} (h : WL P ro n w0 ops Q l ((d, .iface t v) :: r) ds m H) (ht : (P.underlying t).any (fun d => match d with | .interface _ => false | _ => true) = true := by exact rfl) (hx : r.ev x = some v := by exact rfl) (hd : Nat.blt d n = true := by exact rfl) : WL P ro n w0 ops Q (⟨some d, .makeInterface t x, ty, pos, after, none⟩ :: l) r ds m H := WL.makeIface ht hx hd h
theorem WL.nilCheck {x : Operand} {a : Addr} (hx : r.ev x = some (.pointer (some a))) (hd : Nat.blt d n = true)
    (h : WL P ro n w0 ops Q l ((d, .pointer (some a)) :: r) ds m H) : WL P ro n w0 ops Q (⟨some d, .nilCheck x, ty, pos, after, none⟩ :: l) r ds m H :=
  .val hd (fun _ h => by cases h) (fun tmps w ho _ => by simp [execOp, ho.ev hx]) h
theorem w_nilCheck {x : Operand} {a : Addr} (h : WL P ro n w0 ops Q l ((d, .pointer (some a)) :: r) ds m H) (hx : r.ev x = some (.pointer (some a)) := by exact rfl) (hd : Nat.blt d n = true := by exact rfl) : WL P ro n w0 ops Q (⟨some d, .nilCheck x, ty, pos, after, none⟩ :: l) r ds m H := WL.nilCheck hx hd h
theorem WL.nilCheckFunc {x : Operand} {f : FuncId} {a b : Array Value} (hx : r.ev x = some (.func (.func f) a b)) (hd : Nat.blt d n = true)
    (h : WL P ro n w0 ops Q l ((d, .func (.func f) a b) :: r) ds m H) : WL P ro n w0 ops Q (⟨some d, .nilCheck x, ty, pos, after, none⟩ :: l) r ds m H :=
  .val hd (fun _ h => by cases h) (fun tmps w ho _ => by simp [execOp, ho.ev hx]) h
theorem w_nilCheckFunc {x : Operand} {f : FuncId} {a b : Array Value} (h : WL P ro n w0 ops Q l ((d, .func (.func f) a b) :: r) ds m H) (hx : r.ev x = some (.func (.func f) a b) := by exact rfl) (hd : Nat.blt d n = true := by exact rfl) : WL P ro n w0 ops Q (⟨some d, .nilCheck x, ty, pos, after, none⟩ :: l) r ds m H := WL.nilCheckFunc hx hd h
theorem WL.extract {x : Operand} {vs : List Value} {i : Nat} {v : Value} (hx : r.ev x = some (.tuple vs.toArray)) (hv : vs[i]? = some v) (hd : Nat.blt d n = true)
    (h : WL P ro n w0 ops Q l ((d, v) :: r) ds m H) : WL P ro n w0 ops Q (⟨some d, .extract x i, ty, pos, after, none⟩ :: l) r ds m H :=
  .val hd (fun _ h => by cases h) (fun tmps w ho _ => by simp [execOp, Instr.extract, ho.ev hx, hv]) h

theorem w_extract {x : Operand} {vs : List Value} {i : Nat} {v : Value} (h : WL P ro n w0 ops Q l ((d, v) :: r) ds m H) (hx : r.ev x = some (.tuple vs.toArray) := by exact rfl) (hv : vs[i]? = some v := by exact rfl) (hd : Nat.blt d n = true := by exact rfl) : WL P ro n w0 ops Q (⟨some d, .extract x i, ty, pos, after, none⟩ :: l) r ds m H := WL.extract hx hv hd h
/-! ### numbers -/
section
variable {k : IntKind} {x y : Operand} {a b : Int} {t t' : TypeId}
theorem WL.int2 {op : BinOp} {v : Value} (hop : ∀ tx vx vy, eqGuard op tx vx vy (.int k a) (.int k b) = pure ()) (hrun : ∀ w, (binOp op t (.int k a) (.int k b)).run P w = .ok v w)
    (hx : r.ev x = some (.int k a)) (hy : r.ev y = some (.int k b)) (hd : Nat.blt d n = true) (h : WL P ro n w0 ops Q l ((d, v) :: r) ds m H) :
    WL P ro n w0 ops Q (⟨some d, .binOp op t x y t', ty, pos, after, none⟩ :: l) r ds m H :=
  .val hd (fun _ h => by cases h) (fun tmps w ho _ => by
    simp only [execOp, ho.ev hx, ho.ev hy, hop, Sem.run_bind, Sem.run_pure, Result.andThen_ok, hrun]) h
theorem guard_int (op : BinOp) (tx : TypeId) (vx vy : Operand) (k k' : IntKind) (a b : Int) : eqGuard op tx vx vy (.int k a) (.int k' b) = pure () := by
  cases op <;> rfl
theorem WL.add (hx : r.ev x = some (.int k a)) (hy : r.ev y = some (.int k b)) (hd : Nat.blt d n = true) (h : WL P ro n w0 ops Q l ((d, .int k (k.wrap (a + b))) :: r) ds m H) :
    WL P ro n w0 ops Q (⟨some d, .binOp .add t x y t', ty, pos, after, none⟩ :: l) r ds m H :=
  .int2 (fun _ _ _ => guard_int _ _ _ _ _ _ _ _) (fun w => by simp [binOp, Op.intArith]) hx hy hd h
theorem WL.sub (hx : r.ev x = some (.int k a)) (hy : r.ev y = some (.int k b)) (hd : Nat.blt d n = true) (h : WL P ro n w0 ops Q l ((d, .int k (k.wrap (a - b))) :: r) ds m H) :
    WL P ro n w0 ops Q (⟨some d, .binOp .sub t x y t', ty, pos, after, none⟩ :: l) r ds m H :=
  .int2 (fun _ _ _ => guard_int _ _ _ _ _ _ _ _) (fun w => by simp [binOp, Op.intArith]) hx hy hd h
theorem WL.mul (hx : r.ev x = some (.int k a)) (hy : r.ev y = some (.int k b)) (hd : Nat.blt d n = true) (h : WL P ro n w0 ops Q l ((d, .int k (k.wrap (a * b))) :: r) ds m H) :
    WL P ro n w0 ops Q (⟨some d, .binOp .mul t x y t', ty, pos, after, none⟩ :: l) r ds m H :=
  .int2 (fun _ _ _ => guard_int _ _ _ _ _ _ _ _) (fun w => by simp [binOp, Op.intArith]) hx hy hd h
theorem wrap64_id {e : Int} (h : -9223372036854775808 ≤ e ∧ e ≤ 9223372036854775807) : IntKind.i64.wrap e = e := by
  rw [IntKind.wrap_i64]; omega
theorem wrap32_id {e : Int} (h : -2147483648 ≤ e ∧ e ≤ 2147483647) : IntKind.i32.wrap e = e := by
  rw [IntKind.wrap_i32]; omega
theorem wrapu8_id {e : Int} (h : 0 ≤ e ∧ e ≤ 255) : IntKind.u8.wrap e = e := by
  simp [IntKind.wrap, IntKind.signed, IntKind.bits]; omega
theorem wrapu64_id {e : Int} (h : 0 ≤ e ∧ e ≤ 18446744073709551615) : IntKind.u64.wrap e = e := by
  simp [IntKind.wrap, IntKind.signed, IntKind.bits]; omega
theorem wrapu32_id {e : Int} (h : 0 ≤ e ∧ e ≤ 4294967295) : IntKind.u32.wrap e = e := by
  simp [IntKind.wrap, IntKind.signed, IntKind.bits]; omega
theorem WL.add64 (hx : r.ev x = some (.int .i64 a)) (hy : r.ev y = some (.int .i64 b)) (hd : Nat.blt d n = true) (hb : -9223372036854775808 ≤ a + b ∧ a + b ≤ 9223372036854775807)
    (h : WL P ro n w0 ops Q l ((d, .int .i64 (a + b)) :: r) ds m H) : WL P ro n w0 ops Q (⟨some d, .binOp .add t x y t', ty, pos, after, none⟩ :: l) r ds m H :=
  .add hx hy hd (by rw [wrap64_id hb]; exact h)
theorem w_add64 (h : WL P ro n w0 ops Q l ((d, .int .i64 (a + b)) :: r) ds m H) (hx : r.ev x = some (.int .i64 a) := by exact rfl) (hy : r.ev y = some (.int .i64 b) := by exact rfl) (hd : Nat.blt d n = true := by exact rfl) (hb : -9223372036854775808 ≤ a + b ∧ a + b ≤ 9223372036854775807 := by omega) : WL P ro n w0 ops Q (⟨some d, .binOp .add t x y t', ty, pos, after, none⟩ :: l) r ds m H := WL.add64 hx hy hd hb h
theorem WL.sub64 (hx : r.ev x = some (.int .i64 a)) (hy : r.ev y = some (.int .i64 b)) (hd : Nat.blt d n = true) (hb : -9223372036854775808 ≤ a - b ∧ a - b ≤ 9223372036854775807)
    (h : WL P ro n w0 ops Q l ((d, .int .i64 (a - b)) :: r) ds m H) : WL P ro n w0 ops Q (⟨some d, .binOp .sub t x y t', ty, pos, after, none⟩ :: l) r ds m H :=
  .sub hx hy hd (by rw [wrap64_id hb]; exact h)
theorem w_sub64 (h : WL P ro n w0 ops Q l ((d, .int .i64 (a - b)) :: r) ds m H) (hx : r.ev x = some (.int .i64 a) := by exact rfl) (hy : r.ev y = some (.int .i64 b) := by exact rfl) (hd : Nat.blt d n = true := by exact rfl) (hb : -9223372036854775808 ≤ a - b ∧ a - b ≤ 9223372036854775807 := by omega) : WL P ro n w0 ops Q (⟨some d, .binOp .sub t x y t', ty, pos, after, none⟩ :: l) r ds m H := WL.sub64 hx hy hd hb h
theorem WL.mul64 (hx : r.ev x = some (.int .i64 a)) (hy : r.ev y = some (.int .i64 b)) (hd : Nat.blt d n = true) (hb : -9223372036854775808 ≤ a * b ∧ a * b ≤ 9223372036854775807)
    (h : WL P ro n w0 ops Q l ((d, .int .i64 (a * b)) :: r) ds m H) : WL P ro n w0 ops Q (⟨some d, .binOp .mul t x y t', ty, pos, after, none⟩ :: l) r ds m H :=
  .mul hx hy hd (by rw [wrap64_id hb]; exact h)
theorem w_mul64 (h : WL P ro n w0 ops Q l ((d, .int .i64 (a * b)) :: r) ds m H) (hx : r.ev x = some (.int .i64 a) := by exact rfl) (hy : r.ev y = some (.int .i64 b) := by exact rfl) (hd : Nat.blt d n = true := by exact rfl) (hb : -9223372036854775808 ≤ a * b ∧ a * b ≤ 9223372036854775807 := by omega) : WL P ro n w0 ops Q (⟨some d, .binOp .mul t x y t', ty, pos, after, none⟩ :: l) r ds m H := WL.mul64 hx hy hd hb h
theorem WL.add32 (hx : r.ev x = some (.int .i32 a)) (hy : r.ev y = some (.int .i32 b)) (hd : Nat.blt d n = true) (hb : -2147483648 ≤ a + b ∧ a + b ≤ 2147483647)
    (h : WL P ro n w0 ops Q l ((d, .int .i32 (a + b)) :: r) ds m H) : WL P ro n w0 ops Q (⟨some d, .binOp .add t x y t', ty, pos, after, none⟩ :: l) r ds m H :=
  .add hx hy hd (by rw [wrap32_id hb]; exact h)
theorem w_add32 (h : WL P ro n w0 ops Q l ((d, .int .i32 (a + b)) :: r) ds m H) (hx : r.ev x = some (.int .i32 a) := by exact rfl) (hy : r.ev y = some (.int .i32 b) := by exact rfl) (hd : Nat.blt d n = true := by exact rfl) (hb : -2147483648 ≤ a + b ∧ a + b ≤ 2147483647 := by omega) : WL P ro n w0 ops Q (⟨some d, .binOp .add t x y t', ty, pos, after, none⟩ :: l) r ds m H := WL.add32 hx hy hd hb h
theorem WL.sub32 (hx : r.ev x = some (.int .i32 a)) (hy : r.ev y = some (.int .i32 b)) (hd : Nat.blt d n = true) (hb : -2147483648 ≤ a - b ∧ a - b ≤ 2147483647)
    (h : WL P ro n w0 ops Q l ((d, .int .i32 (a - b)) :: r) ds m H) : WL P ro n w0 ops Q (⟨some d, .binOp .sub t x y t', ty, pos, after, none⟩ :: l) r ds m H :=
  .sub hx hy hd (by rw [wrap32_id hb]; exact h)
theorem w_sub32 (h : WL P ro n w0 ops Q l ((d, .int .i32 (a - b)) :: r) ds m H) (hx : r.ev x = some (.int .i32 a) := by exact rfl) (hy : r.ev y = some (.int .i32 b) := by exact rfl) (hd : Nat.blt d n = true := by exact rfl) (hb : -2147483648 ≤ a - b ∧ a - b ≤ 2147483647 := by omega) : WL P ro n w0 ops Q (⟨some d, .binOp .sub t x y t', ty, pos, after, none⟩ :: l) r ds m H := WL.sub32 hx hy hd hb h
theorem WL.mul32 (hx : r.ev x = some (.int .i32 a)) (hy : r.ev y = some (.int .i32 b)) (hd : Nat.blt d n = true) (hb : -2147483648 ≤ a * b ∧ a * b ≤ 2147483647)
    (h : WL P ro n w0 ops Q l ((d, .int .i32 (a * b)) :: r) ds m H) : WL P ro n w0 ops Q (⟨some d, .binOp .mul t x y t', ty, pos, after, none⟩ :: l) r ds m H :=
  .mul hx hy hd (by rw [wrap32_id hb]; exact h)
theorem w_mul32 (h : WL P ro n w0 ops Q l ((d, .int .i32 (a * b)) :: r) ds m H) (hx : r.ev x = some (.int .i32 a) := by exact rfl) (hy : r.ev y = some (.int .i32 b) := by exact rfl) (hd : Nat.blt d n = true := by exact rfl) (hb : -2147483648 ≤ a * b ∧ a * b ≤ 2147483647 := by omega) : WL P ro n w0 ops Q (⟨some d, .binOp .mul t x y t', ty, pos, after, none⟩ :: l) r ds m H := WL.mul32 hx hy hd hb h
theorem WL.addu8 (hx : r.ev x = some (.int .u8 a)) (hy : r.ev y = some (.int .u8 b)) (hd : Nat.blt d n = true) (hb : 0 ≤ a + b ∧ a + b ≤ 255)
    (h : WL P ro n w0 ops Q l ((d, .int .u8 (a + b)) :: r) ds m H) : WL P ro n w0 ops Q (⟨some d, .binOp .add t x y t', ty, pos, after, none⟩ :: l) r ds m H :=
  .add hx hy hd (by rw [wrapu8_id hb]; exact h)
theorem w_addu8 (h : WL P ro n w0 ops Q l ((d, .int .u8 (a + b)) :: r) ds m H) (hx : r.ev x = some (.int .u8 a) := by exact rfl) (hy : r.ev y = some (.int .u8 b) := by exact rfl) (hd : Nat.blt d n = true := by exact rfl) (hb : 0 ≤ a + b ∧ a + b ≤ 255 := by omega) : WL P ro n w0 ops Q (⟨some d, .binOp .add t x y t', ty, pos, after, none⟩ :: l) r ds m H := WL.addu8 hx hy hd hb h
theorem WL.subu8 (hx : r.ev x = some (.int .u8 a)) (hy : r.ev y = some (.int .u8 b)) (hd : Nat.blt d n = true) (hb : 0 ≤ a - b ∧ a - b ≤ 255)
    (h : WL P ro n w0 ops Q l ((d, .int .u8 (a - b)) :: r) ds m H) : WL P ro n w0 ops Q (⟨some d, .binOp .sub t x y t', ty, pos, after, none⟩ :: l) r ds m H :=
  .sub hx hy hd (by rw [wrapu8_id hb]; exact h)
theorem w_subu8 (h : WL P ro n w0 ops Q l ((d, .int .u8 (a - b)) :: r) ds m H) (hx : r.ev x = some (.int .u8 a) := by exact rfl) (hy : r.ev y = some (.int .u8 b) := by exact rfl) (hd : Nat.blt d n = true := by exact rfl) (hb : 0 ≤ a - b ∧ a - b ≤ 255 := by omega) : WL P ro n w0 ops Q (⟨some d, .binOp .sub t x y t', ty, pos, after, none⟩ :: l) r ds m H := WL.subu8 hx hy hd hb h
/-- a quotient of numbers not below 0 -/
theorem WL.quo64 (hx : r.ev x = some (.int .i64 a)) (hy : r.ev y = some (.int .i64 b)) (hd : Nat.blt d n = true) (ha : 0 ≤ a ∧ a ≤ 9223372036854775807) (hb : 1 ≤ b)
    (h : WL P ro n w0 ops Q l ((d, .int .i64 (a / b)) :: r) ds m H) : WL P ro n w0 ops Q (⟨some d, .binOp .quo t x y t', ty, pos, after, none⟩ :: l) r ds m H := by
  refine .int2 (fun _ _ _ => guard_int _ _ _ _ _ _ _ _) (fun w => ?_) hx hy hd h
  have h0 : ¬ b = 0 := by omega
  have h1 : a.tdiv b = a / b := Int.tdiv_eq_ediv_of_nonneg ha.1
  have h2 : 0 ≤ a / b := Int.ediv_nonneg ha.1 (by omega)
  have h3 : a / b ≤ a := Int.ediv_le_self b ha.1
  simp [binOp, Op.intDiv, h0, h1, wrap64_id (e := a / b) ⟨by omega, by omega⟩]
theorem w_quo64 (h : WL P ro n w0 ops Q l ((d, .int .i64 (a / b)) :: r) ds m H) (hx : r.ev x = some (.int .i64 a) := by exact rfl) (hy : r.ev y = some (.int .i64 b) := by exact rfl) (hd : Nat.blt d n = true := by exact rfl) (ha : 0 ≤ a ∧ a ≤ 9223372036854775807 := by omega) (hb : 1 ≤ b := by omega) : WL P ro n w0 ops Q (⟨some d, .binOp .quo t x y t', ty, pos, after, none⟩ :: l) r ds m H := WL.quo64 hx hy hd ha hb h
theorem WL.rem64 (hx : r.ev x = some (.int .i64 a)) (hy : r.ev y = some (.int .i64 b)) (hd : Nat.blt d n = true) (ha : 0 ≤ a) (hb : 1 ≤ b)
    (h : WL P ro n w0 ops Q l ((d, .int .i64 (a % b)) :: r) ds m H) : WL P ro n w0 ops Q (⟨some d, .binOp .rem t x y t', ty, pos, after, none⟩ :: l) r ds m H := by
  refine .int2 (fun _ _ _ => guard_int _ _ _ _ _ _ _ _) (fun w => ?_) hx hy hd h
  have h0 : ¬ b = 0 := by omega
  have h1 : a.tmod b = a % b := Int.tmod_eq_emod_of_nonneg ha
  simp [binOp, Op.intDiv, h0, h1]
theorem w_rem64 (h : WL P ro n w0 ops Q l ((d, .int .i64 (a % b)) :: r) ds m H) (hx : r.ev x = some (.int .i64 a) := by exact rfl) (hy : r.ev y = some (.int .i64 b) := by exact rfl) (hd : Nat.blt d n = true := by exact rfl) (ha : 0 ≤ a := by omega) (hb : 1 ≤ b := by omega) : WL P ro n w0 ops Q (⟨some d, .binOp .rem t x y t', ty, pos, after, none⟩ :: l) r ds m H := WL.rem64 hx hy hd ha hb h
theorem WL.quo (hx : r.ev x = some (.int k a)) (hy : r.ev y = some (.int k b)) (hd : Nat.blt d n = true) (hb : b ≠ 0)
    (h : WL P ro n w0 ops Q l ((d, .int k (k.wrap (a.tdiv b))) :: r) ds m H) : WL P ro n w0 ops Q (⟨some d, .binOp .quo t x y t', ty, pos, after, none⟩ :: l) r ds m H :=
  .int2 (fun _ _ _ => guard_int _ _ _ _ _ _ _ _) (fun w => by simp [binOp, Op.intDiv, hb]) hx hy hd h
theorem WL.rem (hx : r.ev x = some (.int k a)) (hy : r.ev y = some (.int k b)) (hd : Nat.blt d n = true) (hb : b ≠ 0)
    (h : WL P ro n w0 ops Q l ((d, .int k (a.tmod b)) :: r) ds m H) : WL P ro n w0 ops Q (⟨some d, .binOp .rem t x y t', ty, pos, after, none⟩ :: l) r ds m H :=
  .int2 (fun _ _ _ => guard_int _ _ _ _ _ _ _ _) (fun w => by simp [binOp, Op.intDiv, hb]) hx hy hd h
theorem WL.lss (hx : r.ev x = some (.int k a)) (hy : r.ev y = some (.int k b)) (hd : Nat.blt d n = true) (h : WL P ro n w0 ops Q l ((d, .bool (dcd (a < b))) :: r) ds m H) :
    WL P ro n w0 ops Q (⟨some d, .binOp .lss t x y t', ty, pos, after, none⟩ :: l) r ds m H :=
  .int2 (fun _ _ _ => guard_int _ _ _ _ _ _ _ _) (fun w => by simp [binOp, Op.intCmp, dcd_eq]) hx hy hd h
theorem w_lss (h : WL P ro n w0 ops Q l ((d, .bool (dcd (a < b))) :: r) ds m H) (hx : r.ev x = some (.int k a) := by exact rfl) (hy : r.ev y = some (.int k b) := by exact rfl) (hd : Nat.blt d n = true := by exact rfl) : WL P ro n w0 ops Q (⟨some d, .binOp .lss t x y t', ty, pos, after, none⟩ :: l) r ds m H := WL.lss hx hy hd h
theorem WL.leq (hx : r.ev x = some (.int k a)) (hy : r.ev y = some (.int k b)) (hd : Nat.blt d n = true) (h : WL P ro n w0 ops Q l ((d, .bool (dcd (a ≤ b))) :: r) ds m H) :
    WL P ro n w0 ops Q (⟨some d, .binOp .leq t x y t', ty, pos, after, none⟩ :: l) r ds m H :=
  .int2 (fun _ _ _ => guard_int _ _ _ _ _ _ _ _) (fun w => by simp [binOp, Op.intCmp, dcd_eq]) hx hy hd h
theorem w_leq (h : WL P ro n w0 ops Q l ((d, .bool (dcd (a ≤ b))) :: r) ds m H) (hx : r.ev x = some (.int k a) := by exact rfl) (hy : r.ev y = some (.int k b) := by exact rfl) (hd : Nat.blt d n = true := by exact rfl) : WL P ro n w0 ops Q (⟨some d, .binOp .leq t x y t', ty, pos, after, none⟩ :: l) r ds m H := WL.leq hx hy hd h
theorem WL.gtr (hx : r.ev x = some (.int k a)) (hy : r.ev y = some (.int k b)) (hd : Nat.blt d n = true) (h : WL P ro n w0 ops Q l ((d, .bool (dcd (b < a))) :: r) ds m H) :
    WL P ro n w0 ops Q (⟨some d, .binOp .gtr t x y t', ty, pos, after, none⟩ :: l) r ds m H :=
  .int2 (fun _ _ _ => guard_int _ _ _ _ _ _ _ _) (fun w => by simp [binOp, Op.intCmp, dcd_eq]) hx hy hd h
theorem w_gtr (h : WL P ro n w0 ops Q l ((d, .bool (dcd (b < a))) :: r) ds m H) (hx : r.ev x = some (.int k a) := by exact rfl) (hy : r.ev y = some (.int k b) := by exact rfl) (hd : Nat.blt d n = true := by exact rfl) : WL P ro n w0 ops Q (⟨some d, .binOp .gtr t x y t', ty, pos, after, none⟩ :: l) r ds m H := WL.gtr hx hy hd h
theorem WL.geq (hx : r.ev x = some (.int k a)) (hy : r.ev y = some (.int k b)) (hd : Nat.blt d n = true) (h : WL P ro n w0 ops Q l ((d, .bool (dcd (b ≤ a))) :: r) ds m H) :
    WL P ro n w0 ops Q (⟨some d, .binOp .geq t x y t', ty, pos, after, none⟩ :: l) r ds m H :=
  .int2 (fun _ _ _ => guard_int _ _ _ _ _ _ _ _) (fun w => by simp [binOp, Op.intCmp, dcd_eq]) hx hy hd h
theorem w_geq (h : WL P ro n w0 ops Q l ((d, .bool (dcd (b ≤ a))) :: r) ds m H) (hx : r.ev x = some (.int k a) := by exact rfl) (hy : r.ev y = some (.int k b) := by exact rfl) (hd : Nat.blt d n = true := by exact rfl) : WL P ro n w0 ops Q (⟨some d, .binOp .geq t x y t', ty, pos, after, none⟩ :: l) r ds m H := WL.geq hx hy hd h
theorem WL.eqlI (hx : r.ev x = some (.int k a)) (hy : r.ev y = some (.int k b)) (hd : Nat.blt d n = true) (h : WL P ro n w0 ops Q l ((d, .bool (dcd (a = b))) :: r) ds m H) :
    WL P ro n w0 ops Q (⟨some d, .binOp .eql t x y t', ty, pos, after, none⟩ :: l) r ds m H :=
  .int2 (fun _ _ _ => guard_int _ _ _ _ _ _ _ _) (fun w => by simp [binOp, Op.intCmp, dcd_eq]; rfl) hx hy hd h
theorem w_eqlI (h : WL P ro n w0 ops Q l ((d, .bool (dcd (a = b))) :: r) ds m H) (hx : r.ev x = some (.int k a) := by exact rfl) (hy : r.ev y = some (.int k b) := by exact rfl) (hd : Nat.blt d n = true := by exact rfl) : WL P ro n w0 ops Q (⟨some d, .binOp .eql t x y t', ty, pos, after, none⟩ :: l) r ds m H := WL.eqlI hx hy hd h
theorem WL.neqI (hx : r.ev x = some (.int k a)) (hy : r.ev y = some (.int k b)) (hd : Nat.blt d n = true) (h : WL P ro n w0 ops Q l ((d, .bool (!dcd (a = b))) :: r) ds m H) :
    WL P ro n w0 ops Q (⟨some d, .binOp .neq t x y t', ty, pos, after, none⟩ :: l) r ds m H :=
  .int2 (fun _ _ _ => guard_int _ _ _ _ _ _ _ _) (fun w => by simp [binOp, Op.intCmp, dcd_eq]; rfl) hx hy hd h
theorem w_neqI (h : WL P ro n w0 ops Q l ((d, .bool (!dcd (a = b))) :: r) ds m H) (hx : r.ev x = some (.int k a) := by exact rfl) (hy : r.ev y = some (.int k b) := by exact rfl) (hd : Nat.blt d n = true := by exact rfl) : WL P ro n w0 ops Q (⟨some d, .binOp .neq t x y t', ty, pos, after, none⟩ :: l) r ds m H := WL.neqI hx hy hd h
theorem shr_val {a : Int} {e : Nat} (he : e ≤ 64) (h0 : e ≤ k.bits) : (binOp .shr t (.int k a) (.int .u64 (e : Int))).run P w0 = .ok (.int k (a / 2 ^ e)) w0 := by
  have h1 : ¬ ((e : Int) < 0) := by omega
  have h2 : min e k.bits = e := Nat.min_eq_left h0
  have h3 : a.fdiv (2 ^ e) = a / 2 ^ e := Int.fdiv_eq_ediv_of_nonneg _ (by exact_mod_cast Nat.zero_le _)
  simp [binOp, Op.shift, h1, h2, h3]
/-- a shift to the right by so many places, told in the text -/
theorem WL.shr {e : Nat} {ye : Int} {ky : IntKind} (hx : r.ev x = some (.int k a)) (hy : r.ev y = some (.int ky ye)) (hye : ye = e) (h0 : Nat.ble e k.bits = true) (hd : Nat.blt d n = true)
    (h : WL P ro n w0 ops Q l ((d, .int k (a / 2 ^ e)) :: r) ds m H) : WL P ro n w0 ops Q (⟨some d, .binOp .shr t x y t', ty, pos, after, none⟩ :: l) r ds m H :=
  .val hd (fun _ h => by cases h) (fun tmps w ho _ => by
    subst hye
    have h1 : ¬ ((e : Int) < 0) := by omega
    have h2 : min e k.bits = e := Nat.min_eq_left (by simpa using h0)
    have h3 : a.fdiv (2 ^ e) = a / 2 ^ e := Int.fdiv_eq_ediv_of_nonneg _ (by exact_mod_cast Nat.zero_le _)
    simp [execOp, ho.ev hx, ho.ev hy, guard_int, binOp, Op.shift, h1, h2, h3]) h
theorem w_shr {e : Nat} {ye : Int} {ky : IntKind} (h : WL P ro n w0 ops Q l ((d, .int k (a / 2 ^ e)) :: r) ds m H) (hx : r.ev x = some (.int k a) := by exact rfl) (hy : r.ev y = some (.int ky ye) := by exact rfl) (hye : ye = e := by exact rfl) (h0 : Nat.ble e k.bits = true := by exact rfl) (hd : Nat.blt d n = true := by exact rfl) : WL P ro n w0 ops Q (⟨some d, .binOp .shr t x y t', ty, pos, after, none⟩ :: l) r ds m H := WL.shr hx hy hye h0 hd h
theorem WL.shl {e : Nat} {ye : Int} {ky : IntKind} (hx : r.ev x = some (.int k a)) (hy : r.ev y = some (.int ky ye)) (hye : ye = e) (h0 : Nat.ble e k.bits = true) (hd : Nat.blt d n = true)
    (h : WL P ro n w0 ops Q l ((d, .int k (k.wrap (a * 2 ^ e))) :: r) ds m H) : WL P ro n w0 ops Q (⟨some d, .binOp .shl t x y t', ty, pos, after, none⟩ :: l) r ds m H :=
  .val hd (fun _ h => by cases h) (fun tmps w ho _ => by
    subst hye
    have h1 : ¬ ((e : Int) < 0) := by omega
    have h2 : min e k.bits = e := Nat.min_eq_left (by simpa using h0)
    simp [execOp, ho.ev hx, ho.ev hy, guard_int, binOp, Op.shift, h1, h2]) h
theorem w_shl {e : Nat} {ye : Int} {ky : IntKind} (h : WL P ro n w0 ops Q l ((d, .int k (k.wrap (a * 2 ^ e))) :: r) ds m H) (hx : r.ev x = some (.int k a) := by exact rfl) (hy : r.ev y = some (.int ky ye) := by exact rfl) (hye : ye = e := by exact rfl) (h0 : Nat.ble e k.bits = true := by exact rfl) (hd : Nat.blt d n = true := by exact rfl) : WL P ro n w0 ops Q (⟨some d, .binOp .shl t x y t', ty, pos, after, none⟩ :: l) r ds m H := WL.shl hx hy hye h0 hd h
theorem ofInt8 {a : Int} (h : 0 ≤ a ∧ a ≤ 255) : (BitVec.ofInt 8 a).toNat = a.toNat := by
  rw [BitVec.toNat_ofInt]; norm_cast; omega
theorem WL.and8 (hx : r.ev x = some (.int .u8 a)) (hy : r.ev y = some (.int .u8 b)) (hd : Nat.blt d n = true) (ha : 0 ≤ a ∧ a ≤ 255) (hb : 0 ≤ b ∧ b ≤ 255)
    (h : WL P ro n w0 ops Q l ((d, .int .u8 ((a.toNat &&& b.toNat : Nat) : Int)) :: r) ds m H) : WL P ro n w0 ops Q (⟨some d, .binOp .and t x y t', ty, pos, after, none⟩ :: l) r ds m H := by
  refine .int2 (fun _ _ _ => guard_int _ _ _ _ _ _ _ _) (fun w => ?_) hx hy hd h
  have h1 := ofInt8 ha
  have h2 := ofInt8 hb
  have h3 : a.toNat &&& b.toNat ≤ a.toNat := Nat.and_le_left
  have h4 : IntKind.u8.wrap ((a.toNat &&& b.toNat : Nat) : Int) = ((a.toNat &&& b.toNat : Nat) : Int) := wrapu8_id ⟨by omega, by omega⟩
  show (pure (Value.int IntKind.u8 (IntKind.u8.wrap (((BitVec.ofInt 8 a) &&& (BitVec.ofInt 8 b)).toNat : Int))) : Sem Value).run P w = _
  rw [BitVec.toNat_and, h1, h2, h4]; rfl
theorem w_and8 (h : WL P ro n w0 ops Q l ((d, .int .u8 ((a.toNat &&& b.toNat : Nat) : Int)) :: r) ds m H) (hx : r.ev x = some (.int .u8 a) := by exact rfl) (hy : r.ev y = some (.int .u8 b) := by exact rfl) (hd : Nat.blt d n = true := by exact rfl) (ha : 0 ≤ a ∧ a ≤ 255 := by omega) (hb : 0 ≤ b ∧ b ≤ 255 := by omega) : WL P ro n w0 ops Q (⟨some d, .binOp .and t x y t', ty, pos, after, none⟩ :: l) r ds m H := WL.and8 hx hy hd ha hb h
theorem WL.or8 (hx : r.ev x = some (.int .u8 a)) (hy : r.ev y = some (.int .u8 b)) (hd : Nat.blt d n = true) (ha : 0 ≤ a ∧ a ≤ 255) (hb : 0 ≤ b ∧ b ≤ 255)
    (h : WL P ro n w0 ops Q l ((d, .int .u8 ((a.toNat ||| b.toNat : Nat) : Int)) :: r) ds m H) : WL P ro n w0 ops Q (⟨some d, .binOp .or t x y t', ty, pos, after, none⟩ :: l) r ds m H := by
  refine .int2 (fun _ _ _ => guard_int _ _ _ _ _ _ _ _) (fun w => ?_) hx hy hd h
  have h1 := ofInt8 ha
  have h2 := ofInt8 hb
  have h3 : a.toNat ||| b.toNat < 2 ^ 8 := Nat.or_lt_two_pow (by omega) (by omega)
  have h4 : IntKind.u8.wrap ((a.toNat ||| b.toNat : Nat) : Int) = ((a.toNat ||| b.toNat : Nat) : Int) := wrapu8_id ⟨by omega, by omega⟩
  show (pure (Value.int IntKind.u8 (IntKind.u8.wrap (((BitVec.ofInt 8 a) ||| (BitVec.ofInt 8 b)).toNat : Int))) : Sem Value).run P w = _
  rw [BitVec.toNat_or, h1, h2, h4]; rfl
theorem w_or8 (h : WL P ro n w0 ops Q l ((d, .int .u8 ((a.toNat ||| b.toNat : Nat) : Int)) :: r) ds m H) (hx : r.ev x = some (.int .u8 a) := by exact rfl) (hy : r.ev y = some (.int .u8 b) := by exact rfl) (hd : Nat.blt d n = true := by exact rfl) (ha : 0 ≤ a ∧ a ≤ 255 := by omega) (hb : 0 ≤ b ∧ b ≤ 255 := by omega) : WL P ro n w0 ops Q (⟨some d, .binOp .or t x y t', ty, pos, after, none⟩ :: l) r ds m H := WL.or8 hx hy hd ha hb h
theorem WL.neg (hx : r.ev x = some (.int k a)) (hd : Nat.blt d n = true) (h : WL P ro n w0 ops Q l ((d, .int k (k.wrap (-a))) :: r) ds m H) :
    WL P ro n w0 ops Q (⟨some d, .unOp .neg t x, ty, pos, after, none⟩ :: l) r ds m H :=
  .val hd (fun _ h => by cases h) (fun tmps w ho _ => by simp [execOp, ho.ev hx, Op.unary, Op.intArith]) h
theorem WL.neg64 (hx : r.ev x = some (.int .i64 a)) (hd : Nat.blt d n = true) (hb : -9223372036854775808 ≤ -a ∧ -a ≤ 9223372036854775807) (h : WL P ro n w0 ops Q l ((d, .int .i64 (-a)) :: r) ds m H) :
    WL P ro n w0 ops Q (⟨some d, .unOp .neg t x, ty, pos, after, none⟩ :: l) r ds m H :=
  .neg hx hd (by rw [wrap64_id hb]; exact h)
theorem w_neg64 (h : WL P ro n w0 ops Q l ((d, .int .i64 (-a)) :: r) ds m H) (hx : r.ev x = some (.int .i64 a) := by exact rfl) (hd : Nat.blt d n = true := by exact rfl) (hb : -9223372036854775808 ≤ -a ∧ -a ≤ 9223372036854775807 := by omega) : WL P ro n w0 ops Q (⟨some d, .unOp .neg t x, ty, pos, after, none⟩ :: l) r ds m H := WL.neg64 hx hd hb h
theorem WL.not {b : Bool} (hx : r.ev x = some (.bool b)) (hd : Nat.blt d n = true) (h : WL P ro n w0 ops Q l ((d, .bool (!b)) :: r) ds m H) :
    WL P ro n w0 ops Q (⟨some d, .unOp .not t x, ty, pos, after, none⟩ :: l) r ds m H :=
  .val hd (fun _ h => by cases h) (fun tmps w ho _ => by simp [execOp, ho.ev hx, Op.unary]) h
theorem w_not {b : Bool} (h : WL P ro n w0 ops Q l ((d, .bool (!b)) :: r) ds m H) (hx : r.ev x = some (.bool b) := by exact rfl) (hd : Nat.blt d n = true := by exact rfl) : WL P ro n w0 ops Q (⟨some d, .unOp .not t x, ty, pos, after, none⟩ :: l) r ds m H := WL.not hx hd h
theorem run_convert_int {src dst : TypeId} {kd : IntKind} (hs : (P.underlying src).isSome = true) (hu : P.underlying dst = some (.int kd)) (w : World) : (convert src dst (.int k a)).run P w = .ok (.int kd (kd.wrap a)) w := by
  cases hq : P.underlying src with
  | none => simp [hq] at hs
  | some q => simp [convert, Sem.run_bind, run_underlying hq, run_underlying hu, Result.andThen_ok, Conv.intToInt]
theorem WL.conv {src dst : TypeId} {kd : IntKind} (hx : r.ev x = some (.int k a)) (hs : (P.underlying src).isSome = true) (hu : P.underlying dst = some (.int kd)) (hd : Nat.blt d n = true)
    (h : WL P ro n w0 ops Q l ((d, .int kd (kd.wrap a)) :: r) ds m H) : WL P ro n w0 ops Q (⟨some d, .convert src dst x, ty, pos, after, none⟩ :: l) r ds m H :=
  .val hd (fun _ h => by cases h) (fun tmps w ho _ => by simp only [execOp, ho.ev hx, Sem.run_bind, run_convert_int hs hu, Result.andThen_ok, Sem.run_pure]) h
theorem WL.conv64 {src dst : TypeId} (hx : r.ev x = some (.int k a)) (hs : (P.underlying src).isSome = true) (hu : P.underlying dst = some (.int .i64)) (hd : Nat.blt d n = true)
    (hb : -9223372036854775808 ≤ a ∧ a ≤ 9223372036854775807)
    (h : WL P ro n w0 ops Q l ((d, .int .i64 a) :: r) ds m H) : WL P ro n w0 ops Q (⟨some d, .convert src dst x, ty, pos, after, none⟩ :: l) r ds m H :=
  .conv hx hs hu hd (by rw [wrap64_id hb]; exact h)
theorem w_conv64 {src dst : TypeId} (h : WL P ro n w0 ops Q l ((d, .int .i64 a) :: r) ds m H) (hx : r.ev x = some (.int k a) := by exact rfl) (hs : (P.underlying src).isSome = true := by exact rfl) (hu : P.underlying dst = some (.int .i64) := by exact rfl) (hd : Nat.blt d n = true := by exact rfl) (hb : -9223372036854775808 ≤ a ∧ a ≤ 9223372036854775807 := by omega) : WL P ro n w0 ops Q (⟨some d, .convert src dst x, ty, pos, after, none⟩ :: l) r ds m H := WL.conv64 hx hs hu hd hb h
theorem WL.conv32 {src dst : TypeId} (hx : r.ev x = some (.int k a)) (hs : (P.underlying src).isSome = true) (hu : P.underlying dst = some (.int .i32)) (hd : Nat.blt d n = true)
    (hb : -2147483648 ≤ a ∧ a ≤ 2147483647)
    (h : WL P ro n w0 ops Q l ((d, .int .i32 a) :: r) ds m H) : WL P ro n w0 ops Q (⟨some d, .convert src dst x, ty, pos, after, none⟩ :: l) r ds m H :=
  .conv hx hs hu hd (by rw [wrap32_id hb]; exact h)
theorem w_conv32 {src dst : TypeId} (h : WL P ro n w0 ops Q l ((d, .int .i32 a) :: r) ds m H) (hx : r.ev x = some (.int k a) := by exact rfl) (hs : (P.underlying src).isSome = true := by exact rfl) (hu : P.underlying dst = some (.int .i32) := by exact rfl) (hd : Nat.blt d n = true := by exact rfl) (hb : -2147483648 ≤ a ∧ a ≤ 2147483647 := by omega) : WL P ro n w0 ops Q (⟨some d, .convert src dst x, ty, pos, after, none⟩ :: l) r ds m H := WL.conv32 hx hs hu hd hb h
theorem WL.conv8 {src dst : TypeId} (hx : r.ev x = some (.int k a)) (hs : (P.underlying src).isSome = true) (hu : P.underlying dst = some (.int .u8)) (hd : Nat.blt d n = true)
    (hb : 0 ≤ a ∧ a ≤ 255)
    (h : WL P ro n w0 ops Q l ((d, .int .u8 a) :: r) ds m H) : WL P ro n w0 ops Q (⟨some d, .convert src dst x, ty, pos, after, none⟩ :: l) r ds m H :=
  .conv hx hs hu hd (by rw [wrapu8_id hb]; exact h)
theorem w_conv8 {src dst : TypeId} (h : WL P ro n w0 ops Q l ((d, .int .u8 a) :: r) ds m H) (hx : r.ev x = some (.int k a) := by exact rfl) (hs : (P.underlying src).isSome = true := by exact rfl) (hu : P.underlying dst = some (.int .u8) := by exact rfl) (hd : Nat.blt d n = true := by exact rfl) (hb : 0 ≤ a ∧ a ≤ 255 := by omega) : WL P ro n w0 ops Q (⟨some d, .convert src dst x, ty, pos, after, none⟩ :: l) r ds m H := WL.conv8 hx hs hu hd hb h
theorem WL.conv8mod {src dst : TypeId} (hx : r.ev x = some (.int k a)) (hs : (P.underlying src).isSome = true) (hu : P.underlying dst = some (.int .u8)) (hd : Nat.blt d n = true)
    (h : WL P ro n w0 ops Q l ((d, .int .u8 (a % 256)) :: r) ds m H) : WL P ro n w0 ops Q (⟨some d, .convert src dst x, ty, pos, after, none⟩ :: l) r ds m H :=
  .conv hx hs hu hd (by
    have : IntKind.u8.wrap a = a % 256 := by simp [IntKind.wrap, IntKind.signed, IntKind.bits]
    rw [this]; exact h)
theorem w_conv8mod {src dst : TypeId} (h : WL P ro n w0 ops Q l ((d, .int .u8 (a % 256)) :: r) ds m H) (hx : r.ev x = some (.int k a) := by exact rfl) (hs : (P.underlying src).isSome = true := by exact rfl) (hu : P.underlying dst = some (.int .u8) := by exact rfl) (hd : Nat.blt d n = true := by exact rfl) : WL P ro n w0 ops Q (⟨some d, .convert src dst x, ty, pos, after, none⟩ :: l) r ds m H := WL.conv8mod hx hs hu hd h
theorem WL.convu64 {src dst : TypeId} (hx : r.ev x = some (.int k a)) (hs : (P.underlying src).isSome = true) (hu : P.underlying dst = some (.int .u64)) (hd : Nat.blt d n = true)
    (hb : 0 ≤ a ∧ a ≤ 18446744073709551615)
    (h : WL P ro n w0 ops Q l ((d, .int .u64 a) :: r) ds m H) : WL P ro n w0 ops Q (⟨some d, .convert src dst x, ty, pos, after, none⟩ :: l) r ds m H :=
  .conv hx hs hu hd (by rw [wrapu64_id hb]; exact h)
theorem w_convu64 {src dst : TypeId} (h : WL P ro n w0 ops Q l ((d, .int .u64 a) :: r) ds m H) (hx : r.ev x = some (.int k a) := by exact rfl) (hs : (P.underlying src).isSome = true := by exact rfl) (hu : P.underlying dst = some (.int .u64) := by exact rfl) (hd : Nat.blt d n = true := by exact rfl) (hb : 0 ≤ a ∧ a ≤ 18446744073709551615 := by omega) : WL P ro n w0 ops Q (⟨some d, .convert src dst x, ty, pos, after, none⟩ :: l) r ds m H := WL.convu64 hx hs hu hd hb h
theorem WL.min2 (hx : r.ev x = some (.int k a)) (hy : r.ev y = some (.int k b)) (hd : Nat.blt d n = true) (h : WL P ro n w0 ops Q l ((d, .int k (min a b)) :: r) ds m H) {ts : Array TypeId} :
    WL P ro n w0 ops Q (⟨some d, .call ⟨.builtin .min, #[x, y], ts⟩, ty, pos, after, none⟩ :: l) r ds m H :=
  .val hd (fun _ h => by cases h) (fun tmps w ho _ => by
    simp only [execOp, resolve, invoke, builtin, Sem.run_bind, Sem.run_pure, Result.andThen_ok, List.map_toArray, List.map_cons, List.map_nil, ho.ev hx, ho.ev hy, Builtin.min_, List.foldlM_cons, List.foldlM_nil, Builtin.min2]
    rw [Int.min_def]
    congr 2
    split <;> split <;> first | rfl | omega) h
theorem w_min2 {ts : Array TypeId} (h : WL P ro n w0 ops Q l ((d, .int k (min a b)) :: r) ds m H) (hx : r.ev x = some (.int k a) := by exact rfl) (hy : r.ev y = some (.int k b) := by exact rfl) (hd : Nat.blt d n = true := by exact rfl) : WL P ro n w0 ops Q (⟨some d, .call ⟨.builtin .min, #[x, y], ts⟩, ty, pos, after, none⟩ :: l) r ds m H := WL.min2 hx hy hd h
theorem WL.max2 (hx : r.ev x = some (.int k a)) (hy : r.ev y = some (.int k b)) (hd : Nat.blt d n = true) (h : WL P ro n w0 ops Q l ((d, .int k (max a b)) :: r) ds m H) {ts : Array TypeId} :
    WL P ro n w0 ops Q (⟨some d, .call ⟨.builtin .max, #[x, y], ts⟩, ty, pos, after, none⟩ :: l) r ds m H :=
  .val hd (fun _ h => by cases h) (fun tmps w ho _ => by
    simp only [execOp, resolve, invoke, builtin, Sem.run_bind, Sem.run_pure, Result.andThen_ok, List.map_toArray, List.map_cons, List.map_nil, ho.ev hx, ho.ev hy, Builtin.max_, List.foldlM_cons, List.foldlM_nil, Builtin.max2]
    have e : (if a < b then b else a) = max a b := by rw [Int.max_def]; split <;> split <;> omega
    rw [← e]) h
theorem w_max2 {ts : Array TypeId} (h : WL P ro n w0 ops Q l ((d, .int k (max a b)) :: r) ds m H) (hx : r.ev x = some (.int k a) := by exact rfl) (hy : r.ev y = some (.int k b) := by exact rfl) (hd : Nat.blt d n = true := by exact rfl) : WL P ro n w0 ops Q (⟨some d, .call ⟨.builtin .max, #[x, y], ts⟩, ty, pos, after, none⟩ :: l) r ds m H := WL.max2 hx hy hd h
end
end
end Go.Eng
