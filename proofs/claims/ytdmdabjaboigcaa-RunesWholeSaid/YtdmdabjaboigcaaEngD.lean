/-
  A walk's engine, fourth part: the operations on texts, and on memory that is known. No condition.
-/
import Derived.Test.YtdmdabjaboigcaaEngC
import Derived.Test.YtdmdabjaboigcaaU8
set_option linter.all false
namespace Go.Eng
open Go Go.RowKit

section
variable {P : Program} {ro : Option Nat} {n : Nat} {w0 : World} {Q : Exit → Act → World → Prop} {r : Env} {ds : List Nat} {m : Mem} {H : SHeap}
  {ops : Array Oper} {l : List Oper} {d : Nat} {ty : TypeId} {pos : String} {after : Array Edge}

/-! ### texts -/
section
variable {x y : Operand} {s u : List UInt8} {t t' : TypeId} {i j : Int}
theorem guard_str (op : BinOp) (tx : TypeId) (vx vy : Operand) : eqGuard op tx vx vy (str s) (str u) = pure () := by
  cases op <;> rfl
theorem WL.str2 {op : BinOp} {v : Value} (hrun : ∀ w, (Op.stringOp op ⟨s.toArray⟩ ⟨u.toArray⟩).run P w = .ok v w) (hno : op ≠ .shl ∧ op ≠ .shr)
    (hx : r.ev x = some (str s)) (hy : r.ev y = some (str u)) (hd : Nat.blt d n = true) (h : WL P ro n w0 ops Q l ((d, v) :: r) ds m H) :
    WL P ro n w0 ops Q (⟨some d, .binOp op t x y t', ty, pos, after, none⟩ :: l) r ds m H :=
  .val hd (fun _ h => by cases h) (fun tmps w ho _ => by
    have hb : (binOp op t (str s) (str u)).run P w = .ok v w := by
      rw [← hrun w]; cases op <;> first | rfl | exact absurd rfl hno.1 | exact absurd rfl hno.2
    simp only [execOp, ho.ev hx, ho.ev hy, guard_str, Sem.run_bind, Sem.run_pure, Result.andThen_ok, hb]) h
theorem WL.cat (hx : r.ev x = some (str s)) (hy : r.ev y = some (str u)) (hd : Nat.blt d n = true) (hb : s.length + u.length ≤ 9223372036854775807)
    (h : WL P ro n w0 ops Q l ((d, str (s ++ u)) :: r) ds m H) : WL P ro n w0 ops Q (⟨some d, .binOp .add t x y t', ty, pos, after, none⟩ :: l) r ds m H := by
  refine .str2 (fun w => ?_) ⟨by decide, by decide⟩ hx hy hd h
  have h1 : ¬ (((⟨s.toArray⟩ : ByteArray).size + (⟨u.toArray⟩ : ByteArray).size : Nat) : Int) > IntKind.i64.max := by
    rw [ofNat_toArray, ofNat_toArray]
    have : IntKind.i64.max = 9223372036854775807 := by decide
    rw [this]; omega
  have h2 : (⟨s.toArray⟩ : ByteArray) ++ ⟨u.toArray⟩ = ⟨(s ++ u).toArray⟩ := by
    apply ByteArray.ext
    simp [ByteArray.data_append]
  unfold Op.stringOp
  simp only [h1, if_false, h2]
  rfl
theorem WL.eqlS (hx : r.ev x = some (str s)) (hy : r.ev y = some (str u)) (hd : Nat.blt d n = true)
    (h : WL P ro n w0 ops Q l ((d, .bool (dcd (s = u))) :: r) ds m H) : WL P ro n w0 ops Q (⟨some d, .binOp .eql t x y t', ty, pos, after, none⟩ :: l) r ds m H :=
  .str2 (fun w => by simp only [Op.stringOp, bytes_toList]; rw [Bool.eq_iff_iff.2 (by simp [dcd_eq] : (s == u) = true ↔ dcd (s = u) = true)]; rfl) ⟨by decide, by decide⟩ hx hy hd h
theorem w_eqlS (h : WL P ro n w0 ops Q l ((d, .bool (dcd (s = u))) :: r) ds m H) (hx : r.ev x = some (str s) := by exact rfl) (hy : r.ev y = some (str u) := by exact rfl) (hd : Nat.blt d n = true := by exact rfl) : WL P ro n w0 ops Q (⟨some d, .binOp .eql t x y t', ty, pos, after, none⟩ :: l) r ds m H := WL.eqlS hx hy hd h
theorem WL.neqS (hx : r.ev x = some (str s)) (hy : r.ev y = some (str u)) (hd : Nat.blt d n = true)
    (h : WL P ro n w0 ops Q l ((d, .bool (!dcd (s = u))) :: r) ds m H) : WL P ro n w0 ops Q (⟨some d, .binOp .neq t x y t', ty, pos, after, none⟩ :: l) r ds m H :=
  .str2 (fun w => by simp only [Op.stringOp, bytes_toList]; rw [Bool.eq_iff_iff.2 (by simp [dcd_eq] : (s == u) = true ↔ dcd (s = u) = true)]; rfl) ⟨by decide, by decide⟩ hx hy hd h
theorem w_neqS (h : WL P ro n w0 ops Q l ((d, .bool (!dcd (s = u))) :: r) ds m H) (hx : r.ev x = some (str s) := by exact rfl) (hy : r.ev y = some (str u) := by exact rfl) (hd : Nat.blt d n = true := by exact rfl) : WL P ro n w0 ops Q (⟨some d, .binOp .neq t x y t', ty, pos, after, none⟩ :: l) r ds m H := WL.neqS hx hy hd h
theorem WL.lssS (hx : r.ev x = some (str s)) (hy : r.ev y = some (str u)) (hd : Nat.blt d n = true)
    (h : WL P ro n w0 ops Q l ((d, .bool (Op.bytesLess s u)) :: r) ds m H) : WL P ro n w0 ops Q (⟨some d, .binOp .lss t x y t', ty, pos, after, none⟩ :: l) r ds m H :=
  .str2 (fun w => by simp only [Op.stringOp, bytes_toList]; rfl) ⟨by decide, by decide⟩ hx hy hd h
theorem w_lssS (h : WL P ro n w0 ops Q l ((d, .bool (Op.bytesLess s u)) :: r) ds m H) (hx : r.ev x = some (str s) := by exact rfl) (hy : r.ev y = some (str u) := by exact rfl) (hd : Nat.blt d n = true := by exact rfl) : WL P ro n w0 ops Q (⟨some d, .binOp .lss t x y t', ty, pos, after, none⟩ :: l) r ds m H := WL.lssS hx hy hd h
theorem WL.lenS {t : TypeId} (hx : r.ev x = some (str s)) (hu : P.underlying t = some .string) (hd : Nat.blt d n = true)
    (h : WL P ro n w0 ops Q l ((d, .int .i64 (s.length : Int)) :: r) ds m H) : WL P ro n w0 ops Q (⟨some d, .call ⟨.builtin .len, #[x], #[t]⟩, ty, pos, after, none⟩ :: l) r ds m H :=
  .val hd (fun _ h => by cases h) (fun tmps w ho _ => by
    simp only [execOp, resolve, invoke, builtin, Builtin.len_, Sem.run_bind, Sem.run_pure, Result.andThen_ok, List.map_toArray, List.map_cons, List.map_nil, ho.ev hx]
    show (Sem.run P ((underlying t).bind _) w).andThen _ = _
    rw [Sem.run_bind', run_underlying hu, Result.andThen_ok]
    rw [← ofNat_toArray s]; rfl) h
theorem w_lenS {t : TypeId} (h : WL P ro n w0 ops Q l ((d, .int .i64 (s.length : Int)) :: r) ds m H) (hx : r.ev x = some (str s) := by exact rfl) (hu : P.underlying t = some .string := by exact rfl) (hd : Nat.blt d n = true := by exact rfl) : WL P ro n w0 ops Q (⟨some d, .call ⟨.builtin .len, #[x], #[t]⟩, ty, pos, after, none⟩ :: l) r ds m H := WL.lenS hx hu hd h
theorem WL.indexS {ki : IntKind} {t : TypeId} {z : Int} {k : Nat} (hx : r.ev x = some (str s)) (hy : r.ev y = some (.int ki z)) (hz : z = (k : Int)) (hu : P.underlying t = some .string) (hd : Nat.blt d n = true) (hi : k < s.length)
    (h : WL P ro n w0 ops Q l ((d, .int .u8 (gb s k : Int)) :: r) ds m H) : WL P ro n w0 ops Q (⟨some d, .index t x y, ty, pos, after, none⟩ :: l) r ds m H :=
  .val hd (fun _ h => by cases h) (fun tmps w ho _ => by
    subst hz
    have h2 : (⟨s.toArray⟩ : ByteArray)[k]? = some s[k] := by
      have hz : k < (⟨s.toArray⟩ : ByteArray).size := by rw [ofNat_toArray]; exact hi
      rw [getElem?_pos (⟨s.toArray⟩ : ByteArray) k hz]
      rfl
    have h3 : gb s k = (s[k]).toNat := by simp [gb, List.getD_eq_getElem?_getD, List.getElem?_eq_getElem hi]
    have h0 : (0 : Int) ≤ (k : Int) := by omega
    simp only [execOp, Instr.index, asIntOf, Sem.run_bind, Sem.run_pure, run_underlying hu, Result.andThen_ok, ho.ev hx, ho.ev hy, h0, if_true, Int.toNat_natCast, h2, h3]) h
theorem w_indexS {ki : IntKind} {t : TypeId} {z : Int} {k : Nat} (h : WL P ro n w0 ops Q l ((d, .int .u8 (gb s k : Int)) :: r) ds m H) (hx : r.ev x = some (str s) := by exact rfl) (hy : r.ev y = some (.int ki z) := by exact rfl) (hz : z = (k : Int) := by (first | with_reducible exact natz _ | with_reducible exact natz0 | with_reducible exact natz1 | with_reducible exact natz2 | with_reducible exact natz3 | with_reducible exact natz4 | with_reducible exact natz8 | (apply natz_add; (· first | with_reducible exact natz _ | with_reducible exact natz0 | with_reducible exact natz1 | with_reducible exact natz2 | with_reducible exact natz3 | with_reducible exact natz4 | with_reducible exact natz8); (· first | with_reducible exact natz _ | with_reducible exact natz0 | with_reducible exact natz1 | with_reducible exact natz2 | with_reducible exact natz3 | with_reducible exact natz4 | with_reducible exact natz8)) | (apply natz_sub; (· first | with_reducible exact natz _ | with_reducible exact natz0 | with_reducible exact natz1 | with_reducible exact natz2 | with_reducible exact natz3 | with_reducible exact natz4 | with_reducible exact natz8); (· first | with_reducible exact natz _ | with_reducible exact natz0 | with_reducible exact natz1 | with_reducible exact natz2 | with_reducible exact natz3 | with_reducible exact natz4 | with_reducible exact natz8); (· omega)) | exact (Int.toNat_of_nonneg (by omega)).symm)) (hu : P.underlying t = some .string := by exact rfl) (hd : Nat.blt d n = true := by exact rfl) (hi : k < s.length := by omega) : WL P ro n w0 ops Q (⟨some d, .index t x y, ty, pos, after, none⟩ :: l) r ds m H := WL.indexS hx hy hz hu hd hi h
theorem extract_bytes (s : List UInt8) (a b : Nat) : (⟨s.toArray⟩ : ByteArray).extract a b = ⟨((s.take b).drop a).toArray⟩ := by
  apply ByteArray.ext
  apply Array.ext'
  simp [ByteArray.data_extract, List.drop_take]
theorem bound_ok {k : IntKind} {y : Nat} (h0 : 0 ≤ i) (h1 : i ≤ y) (c : BoundsCode) (w : World) : (Instr.sliceBound (.int k i) y c).run P w = .ok i.toNat w := by
  simp [Instr.sliceBound, asIntOf, h0, h1]
theorem sliceAt_str {t : TypeId} (hu : P.underlying t = some .string) (lo hi : Option Value) (s : List UInt8) (w : World) :
    (Instr.sliceAt t (str s) lo hi none).run P w = ((Instr.sliceBounds false s.length s.length lo hi none).run P w).andThen fun p w' => .ok (str ((s.take p.2.1).drop p.1)) w' := by
  simp only [Instr.sliceAt, Instr.slice, Sem.run_bind, run_underlying hu, Result.andThen_ok]
  simp only [Option.isSome_none, Bool.false_eq_true, if_false, Sem.run_bind, ofNat_toArray, Sem.run_pure, extract_bytes]
theorem WL.sliceLH {kl kh : IntKind} {lo hi : Operand} (hx : r.ev x = some (str s)) (hl : r.ev lo = some (.int kl i)) (hh : r.ev hi = some (.int kh j)) {a b : Nat} (hia : i = (a : Int)) (hjb : j = (b : Int)) (hu : P.underlying t = some .string) (hd : Nat.blt d n = true)
    (hb : a ≤ b ∧ b ≤ s.length) (h : WL P ro n w0 ops Q l ((d, str ((s.take b).drop a)) :: r) ds m H) :
    WL P ro n w0 ops Q (⟨some d, .slice t x (some lo) (some hi) none, ty, pos, after, none⟩ :: l) r ds m H :=
  .val hd (fun _ h => by cases h) (fun tmps w ho _ => by
    subst hia; subst hjb
    have e1 := bound_ok (P := P) (i := (a : Int)) (k := kl) (y := b) (by omega) (by omega) .sliceB w
    have e2 := bound_ok (P := P) (i := (b : Int)) (k := kh) (y := s.length) (by omega) (by omega) .sliceAlen w
    simp only [execOp, Option.map_some, Option.map_none, Sem.run_bind, ho.ev hx, ho.ev hl, ho.ev hh, sliceAt_str hu, Instr.sliceBounds]
    simp [e1, e2, Result.andThen]) h
theorem w_sliceLH {kl kh : IntKind} {lo hi : Operand} {a b : Nat} (h : WL P ro n w0 ops Q l ((d, str ((s.take b).drop a)) :: r) ds m H) (hx : r.ev x = some (str s) := by exact rfl) (hl : r.ev lo = some (.int kl i) := by exact rfl) (hh : r.ev hi = some (.int kh j) := by exact rfl) (hia : i = (a : Int) := by (first | with_reducible exact natz _ | with_reducible exact natz0 | with_reducible exact natz1 | with_reducible exact natz2 | with_reducible exact natz3 | with_reducible exact natz4 | with_reducible exact natz8 | (apply natz_add; (· first | with_reducible exact natz _ | with_reducible exact natz0 | with_reducible exact natz1 | with_reducible exact natz2 | with_reducible exact natz3 | with_reducible exact natz4 | with_reducible exact natz8); (· first | with_reducible exact natz _ | with_reducible exact natz0 | with_reducible exact natz1 | with_reducible exact natz2 | with_reducible exact natz3 | with_reducible exact natz4 | with_reducible exact natz8)) | (apply natz_sub; (· first | with_reducible exact natz _ | with_reducible exact natz0 | with_reducible exact natz1 | with_reducible exact natz2 | with_reducible exact natz3 | with_reducible exact natz4 | with_reducible exact natz8); (· first | with_reducible exact natz _ | with_reducible exact natz0 | with_reducible exact natz1 | with_reducible exact natz2 | with_reducible exact natz3 | with_reducible exact natz4 | with_reducible exact natz8); (· omega)) | exact (Int.toNat_of_nonneg (by omega)).symm)) (hjb : j = (b : Int) := by (first | with_reducible exact natz _ | with_reducible exact natz0 | with_reducible exact natz1 | with_reducible exact natz2 | with_reducible exact natz3 | with_reducible exact natz4 | with_reducible exact natz8 | (apply natz_add; (· first | with_reducible exact natz _ | with_reducible exact natz0 | with_reducible exact natz1 | with_reducible exact natz2 | with_reducible exact natz3 | with_reducible exact natz4 | with_reducible exact natz8); (· first | with_reducible exact natz _ | with_reducible exact natz0 | with_reducible exact natz1 | with_reducible exact natz2 | with_reducible exact natz3 | with_reducible exact natz4 | with_reducible exact natz8)) | (apply natz_sub; (· first | with_reducible exact natz _ | with_reducible exact natz0 | with_reducible exact natz1 | with_reducible exact natz2 | with_reducible exact natz3 | with_reducible exact natz4 | with_reducible exact natz8); (· first | with_reducible exact natz _ | with_reducible exact natz0 | with_reducible exact natz1 | with_reducible exact natz2 | with_reducible exact natz3 | with_reducible exact natz4 | with_reducible exact natz8); (· omega)) | exact (Int.toNat_of_nonneg (by omega)).symm)) (hu : P.underlying t = some .string := by exact rfl) (hd : Nat.blt d n = true := by exact rfl) (hb : a ≤ b ∧ b ≤ s.length := by omega) : WL P ro n w0 ops Q (⟨some d, .slice t x (some lo) (some hi) none, ty, pos, after, none⟩ :: l) r ds m H := WL.sliceLH hx hl hh hia hjb hu hd hb h
theorem WL.sliceL {kl : IntKind} {lo : Operand} (hx : r.ev x = some (str s)) (hl : r.ev lo = some (.int kl i)) {a : Nat} (hia : i = (a : Int)) (hu : P.underlying t = some .string) (hd : Nat.blt d n = true)
    (hb : a ≤ s.length) (h : WL P ro n w0 ops Q l ((d, str (s.drop a)) :: r) ds m H) :
    WL P ro n w0 ops Q (⟨some d, .slice t x (some lo) none none, ty, pos, after, none⟩ :: l) r ds m H :=
  .val hd (fun _ h => by cases h) (fun tmps w ho _ => by
    subst hia
    have e1 := bound_ok (P := P) (i := (a : Int)) (k := kl) (y := s.length) (by omega) (by omega) .sliceB w
    simp only [execOp, Option.map_some, Option.map_none, Sem.run_bind, ho.ev hx, ho.ev hl, sliceAt_str hu, Instr.sliceBounds]
    simp [e1, Result.andThen]) h
theorem w_sliceL {kl : IntKind} {lo : Operand} {a : Nat} (h : WL P ro n w0 ops Q l ((d, str (s.drop a)) :: r) ds m H) (hx : r.ev x = some (str s) := by exact rfl) (hl : r.ev lo = some (.int kl i) := by exact rfl) (hia : i = (a : Int) := by (first | with_reducible exact natz _ | with_reducible exact natz0 | with_reducible exact natz1 | with_reducible exact natz2 | with_reducible exact natz3 | with_reducible exact natz4 | with_reducible exact natz8 | (apply natz_add; (· first | with_reducible exact natz _ | with_reducible exact natz0 | with_reducible exact natz1 | with_reducible exact natz2 | with_reducible exact natz3 | with_reducible exact natz4 | with_reducible exact natz8); (· first | with_reducible exact natz _ | with_reducible exact natz0 | with_reducible exact natz1 | with_reducible exact natz2 | with_reducible exact natz3 | with_reducible exact natz4 | with_reducible exact natz8)) | (apply natz_sub; (· first | with_reducible exact natz _ | with_reducible exact natz0 | with_reducible exact natz1 | with_reducible exact natz2 | with_reducible exact natz3 | with_reducible exact natz4 | with_reducible exact natz8); (· first | with_reducible exact natz _ | with_reducible exact natz0 | with_reducible exact natz1 | with_reducible exact natz2 | with_reducible exact natz3 | with_reducible exact natz4 | with_reducible exact natz8); (· omega)) | exact (Int.toNat_of_nonneg (by omega)).symm)) (hu : P.underlying t = some .string := by exact rfl) (hd : Nat.blt d n = true := by exact rfl) (hb : a ≤ s.length := by omega) : WL P ro n w0 ops Q (⟨some d, .slice t x (some lo) none none, ty, pos, after, none⟩ :: l) r ds m H := WL.sliceL hx hl hia hu hd hb h
theorem WL.sliceH {kh : IntKind} {hi : Operand} (hx : r.ev x = some (str s)) (hh : r.ev hi = some (.int kh j)) {b : Nat} (hjb : j = (b : Int)) (hu : P.underlying t = some .string) (hd : Nat.blt d n = true)
    (hb : b ≤ s.length) (h : WL P ro n w0 ops Q l ((d, str (s.take b)) :: r) ds m H) :
    WL P ro n w0 ops Q (⟨some d, .slice t x none (some hi) none, ty, pos, after, none⟩ :: l) r ds m H :=
  .val hd (fun _ h => by cases h) (fun tmps w ho _ => by
    subst hjb
    have e2 := bound_ok (P := P) (i := (b : Int)) (k := kh) (y := s.length) (by omega) (by omega) .sliceAlen w
    simp only [execOp, Option.map_some, Option.map_none, Sem.run_bind, ho.ev hx, ho.ev hh, sliceAt_str hu, Instr.sliceBounds]
    simp [e2, Result.andThen]) h
theorem w_sliceH {kh : IntKind} {hi : Operand} {b : Nat} (h : WL P ro n w0 ops Q l ((d, str (s.take b)) :: r) ds m H) (hx : r.ev x = some (str s) := by exact rfl) (hh : r.ev hi = some (.int kh j) := by exact rfl) (hjb : j = (b : Int) := by (first | with_reducible exact natz _ | with_reducible exact natz0 | with_reducible exact natz1 | with_reducible exact natz2 | with_reducible exact natz3 | with_reducible exact natz4 | with_reducible exact natz8 | (apply natz_add; (· first | with_reducible exact natz _ | with_reducible exact natz0 | with_reducible exact natz1 | with_reducible exact natz2 | with_reducible exact natz3 | with_reducible exact natz4 | with_reducible exact natz8); (· first | with_reducible exact natz _ | with_reducible exact natz0 | with_reducible exact natz1 | with_reducible exact natz2 | with_reducible exact natz3 | with_reducible exact natz4 | with_reducible exact natz8)) | (apply natz_sub; (· first | with_reducible exact natz _ | with_reducible exact natz0 | with_reducible exact natz1 | with_reducible exact natz2 | with_reducible exact natz3 | with_reducible exact natz4 | with_reducible exact natz8); (· first | with_reducible exact natz _ | with_reducible exact natz0 | with_reducible exact natz1 | with_reducible exact natz2 | with_reducible exact natz3 | with_reducible exact natz4 | with_reducible exact natz8); (· omega)) | exact (Int.toNat_of_nonneg (by omega)).symm)) (hu : P.underlying t = some .string := by exact rfl) (hd : Nat.blt d n = true := by exact rfl) (hb : b ≤ s.length := by omega) : WL P ro n w0 ops Q (⟨some d, .slice t x none (some hi) none, ty, pos, after, none⟩ :: l) r ds m H := WL.sliceH hx hh hjb hu hd hb h
/-- a rune's form, by Go's own conversion -/
theorem WL.convRS {src dst : TypeId} {k : IntKind} {a : Int} (hx : r.ev x = some (.int k a)) (hs : (P.underlying src).isSome = true) (hu : P.underlying dst = some .string) (hd : Nat.blt d n = true)
    (h : WL P ro n w0 ops Q l ((d, str (Utf8.encode a).data.toList) :: r) ds m H) : WL P ro n w0 ops Q (⟨some d, .convert src dst x, ty, pos, after, none⟩ :: l) r ds m H :=
  .val hd (fun _ h => by cases h) (fun tmps w ho _ => by
    cases hq : P.underlying src with
    | none => simp [hq] at hs
    | some q =>
      simp only [execOp, ho.ev hx, convert, Sem.run_bind, run_underlying hq, run_underlying hu, Result.andThen_ok]
      rfl) h
theorem w_convRS {src dst : TypeId} {k : IntKind} {a : Int} (h : WL P ro n w0 ops Q l ((d, str (Utf8.encode a).data.toList) :: r) ds m H) (hx : r.ev x = some (.int k a) := by exact rfl) (hs : (P.underlying src).isSome = true := by exact rfl) (hu : P.underlying dst = some .string := by exact rfl) (hd : Nat.blt d n = true := by exact rfl) : WL P ro n w0 ops Q (⟨some d, .convert src dst x, ty, pos, after, none⟩ :: l) r ds m H := WL.convRS hx hs hu hd h
end

/-! ### a range over a text -/
section
variable {x : Operand} {s : List UInt8} {t : TypeId}
theorem WL.rangeS (hx : r.ev x = some (str s)) (hu : P.underlying t = some .string) (hd : Nat.blt d n = true)
    (h : ∀ b, WL P ro n w0 ops Q l ((d, .pointer (some ⟨b, 0, none⟩)) :: r) ds m (.blk b (.stringIter ⟨s.toArray⟩ 0) :: H)) :
    WL P ro n w0 ops Q (⟨some d, .range t x, ty, pos, after, none⟩ :: l) r ds m H :=
  .gen (fun v m' H' => ∃ b, v = .pointer (some ⟨b, 0, none⟩) ∧ m' = m ∧ H' = .blk b (.stringIter ⟨s.toArray⟩ 0) :: H) hd (fun _ h => by cases h)
    (fun tmps w ho hs => ⟨_, m, _, w.alloc (.stringIter ⟨s.toArray⟩ 0), by
      simp only [execOp, Instr.range, Sem.run_bind, run_underlying hu, Result.andThen_ok, ho.ev hx, Sem.run_pure, run_newObj_alloc], hs.alloc _, w.heap.size, rfl, rfl, rfl⟩)
    (by rintro _ _ _ ⟨b, rfl, rfl, rfl⟩; exact h b)
theorem w_rangeS (h : ∀ b, WL P ro n w0 ops Q l ((d, .pointer (some ⟨b, 0, none⟩)) :: r) ds m (.blk b (.stringIter ⟨s.toArray⟩ 0) :: H)) (hx : r.ev x = some (str s) := by exact rfl) (hu : P.underlying t = some .string := by exact rfl) (hd : Nat.blt d n = true := by exact rfl) : WL P ro n w0 ops Q (⟨some d, .range t x, ty, pos, after, none⟩ :: l) r ds m H := WL.rangeS hx hu hd h
/-- one item in the place of another -/
inductive Repl (i j : Item) : SHeap → SHeap → Prop
  | here {H : SHeap} : Repl i j (i :: H) (j :: H)
  | there {k : Item} {H H' : SHeap} : Repl i j H H' → Repl i j (k :: H) (k :: H')
theorem Repl.perm {i j : Item} {H H' : SHeap} (h : Repl i j H H') : ∃ H1, List.Perm H (i :: H1) ∧ List.Perm H' (j :: H1) := by
  induction h with
  | here => exact ⟨_, List.Perm.refl _, List.Perm.refl _⟩
  | there _ ih =>
    obtain ⟨H1, h1, h2⟩ := ih
    exact ⟨_ :: H1, (List.Perm.cons _ h1).trans (List.Perm.swap _ _ _), (List.Perm.cons _ h2).trans (List.Perm.swap _ _ _)⟩
theorem Repl.mem {i j : Item} {H H' : SHeap} (h : Repl i j H H') : i ∈ H := by
  obtain ⟨H1, h1, _⟩ := h.perm
  exact h1.mem_iff.2 List.mem_cons_self
/-- one item taken out -/
inductive Out (i : Item) : SHeap → SHeap → Prop
  | here {H : SHeap} : Out i (i :: H) H
  | there {k : Item} {H H' : SHeap} : Out i H H' → Out i (k :: H) (k :: H')
theorem Out.perm {i : Item} {H H' : SHeap} (h : Out i H H') : List.Perm H (i :: H') := by
  induction h with
  | here => exact List.Perm.refl _
  | there _ ih => exact (List.Perm.cons _ ih).trans (List.Perm.swap _ _ _)
theorem Sat.repl {i j : Item} {H H' : SHeap} {w w' : World} (h : Sat w0 m H w) (hr : Repl i j H H') (ho : w'.os = w.os) (ht : w'.tape = w.tape) (hu : w'.output = w.output)
    (hz : w.heap.size ≤ w'.heap.size) (hs : ∀ b, b < w.heap.size → b ∉ i.foot → w'.heap[b]? = w.heap[b]?) (hj : j.holds w')
    (hf : ∀ b ∈ j.foot, b ∈ i.foot ∨ w.heap.size ≤ b) (hn : j.foot.Nodup) : Sat w0 m H' w' := by
  obtain ⟨H1, h1, h2⟩ := hr.perm
  exact ((h.perm h1).turn ho ht hu hz hs hj hf hn).perm h2.symm
theorem Sat.replObj {b : Nat} {o o' : Obj} {H H' : SHeap} {w : World} (h : Sat w0 m H w) (hr : Repl (.blk b o) (.blk b o') H H') : Sat w0 m H' (w.putObj b o') :=
  h.repl hr rfl rfl rfl (by simp) (fun k _ hk => World.putObj_heap_other (by simpa [Item.foot] using hk))
    (World.putObj_heap_same (Array.getElem?_eq_some_iff.1 (h.own _ hr.mem)).1) (fun _ hx => .inl hx) (by simp [Item.foot])
/-- the next rune, and the next place -/
theorem WL.nextS {b k : Nat} {H' : SHeap} (hx : r.ev x = some (.pointer (some ⟨b, 0, none⟩))) (hr : Repl (.blk b (.stringIter ⟨s.toArray⟩ k)) (.blk b (.stringIter ⟨s.toArray⟩ (k + (dl (s.drop k)).2))) H H')
    (hk : k < s.length) (hd : Nat.blt d n = true)
    (h : WL P ro n w0 ops Q l ((d, .tuple #[.bool true, .int .i64 (k : Int), .int .i32 ((dl (s.drop k)).1 : Int)]) :: r) ds m H') :
    WL P ro n w0 ops Q (⟨some d, .next x true, ty, pos, after, none⟩ :: l) r ds m H :=
  .gen (fun v m' H'' => v = .tuple #[.bool true, .int .i64 (k : Int), .int .i32 ((dl (s.drop k)).1 : Int)] ∧ m' = m ∧ H'' = H') hd (fun _ h => by cases h)
    (fun tmps w ho hs => ⟨_, m, H', w.putObj b (.stringIter ⟨s.toArray⟩ (k + (dl (s.drop k)).2)), by
      have hb : w.heap[b]? = some (.stringIter ⟨s.toArray⟩ k) := hs.own _ hr.mem
      have h1 : (getObj b).run P w = .ok (.stringIter ⟨s.toArray⟩ k) w := by simp [getObj, Sem.run, hb]
      have h2 : ∀ o, (setObj b o).run P w = .ok () (w.putObj b o) := fun o => by simp [setObj, Sem.run, hb, World.putObj]
      simp only [execOp, Instr.next, Sem.run_bind, ho.ev hx, h1, Result.andThen_ok, ofNat_toArray, hk, if_true, h2, Sem.run_pure, decode_eq]
      rfl, hs.replObj hr, rfl, rfl, rfl⟩)
    (by rintro _ _ _ ⟨rfl, rfl, rfl⟩; exact h)
theorem w_nextS {b k : Nat} {H' : SHeap} (h : WL P ro n w0 ops Q l ((d, .tuple #[.bool true, .int .i64 (k : Int), .int .i32 ((dl (s.drop k)).1 : Int)]) :: r) ds m H') (hx : r.ev x = some (.pointer (some ⟨b, 0, none⟩)) := by exact rfl) (hr : Repl (.blk b (.stringIter ⟨s.toArray⟩ k)) (.blk b (.stringIter ⟨s.toArray⟩ (k + (dl (s.drop k)).2))) H H' := by (repeat (first | exact Repl.here | apply Repl.there))) (hk : k < s.length := by first | omega | (simp; omega)) (hd : Nat.blt d n = true := by exact rfl) : WL P ro n w0 ops Q (⟨some d, .next x true, ty, pos, after, none⟩ :: l) r ds m H := WL.nextS hx hr hk hd h
theorem WL.nextEnd {b k : Nat} {H' : SHeap} (hx : r.ev x = some (.pointer (some ⟨b, 0, none⟩))) (hr : Out (.blk b (.stringIter ⟨s.toArray⟩ k)) H H')
    (hk : ¬ k < s.length) (hd : Nat.blt d n = true) (h : WL P ro n w0 ops Q l ((d, .tuple #[.bool false]) :: r) ds m H') :
    WL P ro n w0 ops Q (⟨some d, .next x true, ty, pos, after, none⟩ :: l) r ds m H :=
  .gen (fun v m' H'' => v = .tuple #[.bool false] ∧ m' = m ∧ H'' = H') hd (fun _ h => by cases h)
    (fun tmps w ho hs => ⟨_, m, H', w, by
      have hb : w.heap[b]? = some (.stringIter ⟨s.toArray⟩ k) := hs.own _ (hr.perm.mem_iff.2 List.mem_cons_self)
      have h1 : (getObj b).run P w = .ok (.stringIter ⟨s.toArray⟩ k) w := by simp [getObj, Sem.run, hb]
      simp only [execOp, Instr.next, Sem.run_bind, ho.ev hx, h1, Result.andThen_ok, ofNat_toArray, hk, if_false, Sem.run_pure], (hs.perm hr.perm).drop, rfl, rfl, rfl⟩)
    (by rintro _ _ _ ⟨rfl, rfl, rfl⟩; exact h)
theorem w_nextEnd {b k : Nat} {H' : SHeap} (h : WL P ro n w0 ops Q l ((d, .tuple #[.bool false]) :: r) ds m H') (hx : r.ev x = some (.pointer (some ⟨b, 0, none⟩)) := by exact rfl) (hr : Out (.blk b (.stringIter ⟨s.toArray⟩ k)) H H' := by (repeat (first | exact Out.here | apply Out.there))) (hk : ¬ k < s.length := by first | omega | (simp; omega)) (hd : Nat.blt d n = true := by exact rfl) : WL P ro n w0 ops Q (⟨some d, .next x true, ty, pos, after, none⟩ :: l) r ds m H := WL.nextEnd hx hr hk hd h
end

/-! ### calls -/
theorem WL.callF {f : FuncId} {fn : Func} {c : Code} {args : List Operand} {vs : List Value} {ts : Array TypeId} {Post : Value → Mem → SHeap → Prop}
    (hf : P.funcs[f]? = some fn) (hname : (fn.name == "runtime.NumGoroutine") = false) (hb : fn.body = some c)
    (hv : r.evs args = some vs) (hd : Nat.blt d n = true) (hs : Does P f vs.toArray w0 m H Post) (h : ∀ v m' H', Post v m' H' → WL P ro n w0 ops Q l ((d, v) :: r) ds m' H') :
    WL P ro n w0 ops Q (⟨some d, .call ⟨.value (.func f), args.toArray, ts⟩, ty, pos, after, none⟩ :: l) r ds m H := by
  refine .enter (fun d' e => by cases e; simpa [Nat.blt_eq] using hd) (fun _ h => by cases h) (fun tmps w ho _ => ?_) hs h
  have e1 := ho.evs (marks ds) hv
  have h1 : fn.name ≠ "runtime.NumGoroutine" := by simpa using hname
  have h2 : ∀ a : Array Value, (callFunc f a).run P w = .ok (.enter f a) w := fun a => by simp [callFunc, hf, h1, hb]
  simp only [execOp, resolve, Sem.run_bind, List.map_toArray, e1]
  simp [Act.eval, Deferred.ofValue, invoke, h2, Result.andThen]
theorem w_callF {f : FuncId} {fn : Func} {c : Code} {args : List Operand} {vs : List Value} {ts : Array TypeId} {Post : Value → Mem → SHeap → Prop} (hf : P.funcs[f]? = some fn) (h : ∀ v m' H', Post v m' H' → WL P ro n w0 ops Q l ((d, v) :: r) ds m' H') (hname : (fn.name == "runtime.NumGoroutine") = false := by exact rfl) (hb : fn.body = some c := by exact rfl) (hv : r.evs args = some vs := by exact rfl) (hd : Nat.blt d n = true := by exact rfl) (hs : Does P f vs.toArray w0 m H Post) : WL P ro n w0 ops Q (⟨some d, .call ⟨.value (.func f), args.toArray, ts⟩, ty, pos, after, none⟩ :: l) r ds m H := WL.callF hf hname hb hv hd hs h
end
end Go.Eng
