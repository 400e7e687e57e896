/-
  Parts of a walk, joined: EngR. No condition.
-/
import Derived.Scope
import Derived.Lib.ConvBytes
import Derived.Test.YtdmdabjaboigcaaP3
/-
  A walk's engine, seventeenth part: functions, pointers, slices held against nil; scopes and labels; a text's bytes. No condition.
-/
set_option linter.all false
namespace Go.Eng
open Go Go.RowKit
section
variable {P : Program} {ro : Option Nat} {n : Nat} {w0 : World} {Q : Exit → Act → World → Prop} {r : Env} {ds : List Nat} {m : Mem} {H : SHeap}
  {ops : Array Oper} {l : List Oper} {d : Nat} {ty : TypeId} {pos : String} {after : Array Edge} {t t' : TypeId} {x y : Operand}
theorem WL.eqlNilF {c : Fn} {a b : Array Value} {ps rs : Array TypeId} {va : Bool} (hx : r.ev x = some (.func c a b)) (hy : r.ev y = some .nilFunc) (hu : P.underlying t = some (.func ps rs va)) (hd : Nat.blt d n = true)
    (h : WL P ro n w0 ops Q l ((d, .bool false) :: r) ds m H) : WL P ro n w0 ops Q (⟨some d, .binOp .eql t x y t', ty, pos, after, none⟩ :: l) r ds m H :=
  .val hd (fun _ h => by cases h) (fun tmps w ho _ => by
    have h2 : (eqGuard .eql t x y (.func c a b) .nilFunc) = pure () := rfl
    have h3 : ∀ e, (Op.equalIn (e + 1) t (.func c a b) .nilFunc).run P w = .ok false w := fun e => by simp [Op.equalIn, run_underlying hu]
    have h4 := h3 9999
    simp [execOp, ho.ev hx, ho.ev hy, h2, binOp, Op.equal, show Op.maxDepth = 9999 + 1 from rfl, h4]) h

theorem w_eqlNilF {c : Fn} {a b : Array Value} {ps rs : Array TypeId} {va : Bool} (h : WL P ro n w0 ops Q l ((d, .bool false) :: r) ds m H) (hx : r.ev x = some (.func c a b) := by exact rfl) (hy : r.ev y = some .nilFunc := by exact rfl) (hu : P.underlying t = some (.func ps rs va) := by exact rfl) (hd : Nat.blt d n = true := by exact rfl) : WL P ro n w0 ops Q (⟨some d, .binOp .eql t x y t', ty, pos, after, none⟩ :: l) r ds m H := WL.eqlNilF hx hy hu hd h
/-- two values of which one is nil -/
theorem WL.eqNil {op : BinOp} {vx vy : Value} {b : Bool} (hop : op = .eql ∨ op = .neq) (hg : ∀ op, eqGuard op t x y vx vy = pure ()) (hx : r.ev x = some vx) (hy : r.ev y = some vy)
    (hk : ∀ (d : Nat) (w : World), (Op.equalIn (d + 1) t vx vy).run P w = .ok b w) (hb : ∀ op, op = .eql ∨ op = .neq → binOp op t vx vy = (do let c ← Op.equal t vx vy; pure (.bool (if op = .eql then c else !c)))) (hd : Nat.blt d n = true)
    (h : WL P ro n w0 ops Q l ((d, .bool (if op = .eql then b else !b)) :: r) ds m H) : WL P ro n w0 ops Q (⟨some d, .binOp op t x y t', ty, pos, after, none⟩ :: l) r ds m H :=
  .val hd (fun _ h => by cases h) (fun tmps w ho _ => by
    have h4 := hk 9999 w
    simp [execOp, ho.ev hx, ho.ev hy, hg, hb op hop, Op.equal, show Op.maxDepth = 9999 + 1 from rfl, h4]) h
theorem WL.eqlNilP {a : Option Addr} {e : TypeId} (hx : r.ev x = some (.pointer a)) (hy : r.ev y = some (.pointer none)) (hu : P.underlying t = some (.pointer e)) (hd : Nat.blt d n = true)
    (h : WL P ro n w0 ops Q l ((d, .bool a.isNone) :: r) ds m H) : WL P ro n w0 ops Q (⟨some d, .binOp .eql t x y t', ty, pos, after, none⟩ :: l) r ds m H :=
  .eqNil (op := .eql) (b := a.isNone) (.inl rfl) (fun _ => by unfold eqGuard; split <;> rfl) hx hy (fun d w => by cases a <;> simp [Op.equalIn, run_underlying hu]) (by rintro _ (rfl | rfl) <;> rfl) hd h
theorem w_eqlNilP {a : Option Addr} {e : TypeId} (h : WL P ro n w0 ops Q l ((d, .bool a.isNone) :: r) ds m H) (hx : r.ev x = some (.pointer a) := by exact rfl) (hy : r.ev y = some (.pointer none) := by exact rfl) (hu : P.underlying t = some (.pointer e) := by exact rfl) (hd : Nat.blt d n = true := by exact rfl) : WL P ro n w0 ops Q (⟨some d, .binOp .eql t x y t', ty, pos, after, none⟩ :: l) r ds m H := WL.eqlNilP hx hy hu hd h
theorem WL.neqNilP {a : Option Addr} {e : TypeId} (hx : r.ev x = some (.pointer a)) (hy : r.ev y = some (.pointer none)) (hu : P.underlying t = some (.pointer e)) (hd : Nat.blt d n = true)
    (h : WL P ro n w0 ops Q l ((d, .bool (!a.isNone)) :: r) ds m H) : WL P ro n w0 ops Q (⟨some d, .binOp .neq t x y t', ty, pos, after, none⟩ :: l) r ds m H :=
  .eqNil (op := .neq) (b := a.isNone) (.inr rfl) (fun _ => by unfold eqGuard; split <;> rfl) hx hy (fun d w => by cases a <;> simp [Op.equalIn, run_underlying hu]) (by rintro _ (rfl | rfl) <;> rfl) hd h
theorem w_neqNilP {a : Option Addr} {e : TypeId} (h : WL P ro n w0 ops Q l ((d, .bool (!a.isNone)) :: r) ds m H) (hx : r.ev x = some (.pointer a) := by exact rfl) (hy : r.ev y = some (.pointer none) := by exact rfl) (hu : P.underlying t = some (.pointer e) := by exact rfl) (hd : Nat.blt d n = true := by exact rfl) : WL P ro n w0 ops Q (⟨some d, .binOp .neq t x y t', ty, pos, after, none⟩ :: l) r ds m H := WL.neqNilP hx hy hu hd h
theorem WL.eqlNilSl {a : Option Addr} {len cap : Nat} {e : TypeId} (hx : r.ev x = some (.slice a len cap)) (hy : r.ev y = some (.slice none 0 0)) (hu : P.underlying t = some (.slice e)) (hd : Nat.blt d n = true)
    (h : WL P ro n w0 ops Q l ((d, .bool a.isNone) :: r) ds m H) : WL P ro n w0 ops Q (⟨some d, .binOp .eql t x y t', ty, pos, after, none⟩ :: l) r ds m H :=
  .eqNil (op := .eql) (b := a.isNone) (.inl rfl) (fun _ => by unfold eqGuard; split <;> rfl) hx hy (fun d w => by cases a <;> simp [Op.equalIn, run_underlying hu]) (by rintro _ (rfl | rfl) <;> rfl) hd h
theorem w_eqlNilSl {a : Option Addr} {len cap : Nat} {e : TypeId} (h : WL P ro n w0 ops Q l ((d, .bool a.isNone) :: r) ds m H) (hx : r.ev x = some (.slice a len cap) := by exact rfl) (hy : r.ev y = some (.slice none 0 0) := by exact rfl) (hu : P.underlying t = some (.slice e) := by exact rfl) (hd : Nat.blt d n = true := by exact rfl) : WL P ro n w0 ops Q (⟨some d, .binOp .eql t x y t', ty, pos, after, none⟩ :: l) r ds m H := WL.eqlNilSl hx hy hu hd h
theorem WL.neqNilSl {a : Option Addr} {len cap : Nat} {e : TypeId} (hx : r.ev x = some (.slice a len cap)) (hy : r.ev y = some (.slice none 0 0)) (hu : P.underlying t = some (.slice e)) (hd : Nat.blt d n = true)
    (h : WL P ro n w0 ops Q l ((d, .bool (!a.isNone)) :: r) ds m H) : WL P ro n w0 ops Q (⟨some d, .binOp .neq t x y t', ty, pos, after, none⟩ :: l) r ds m H :=
  .eqNil (op := .neq) (b := a.isNone) (.inr rfl) (fun _ => by unfold eqGuard; split <;> rfl) hx hy (fun d w => by cases a <;> simp [Op.equalIn, run_underlying hu]) (by rintro _ (rfl | rfl) <;> rfl) hd h
theorem w_neqNilSl {a : Option Addr} {len cap : Nat} {e : TypeId} (h : WL P ro n w0 ops Q l ((d, .bool (!a.isNone)) :: r) ds m H) (hx : r.ev x = some (.slice a len cap) := by exact rfl) (hy : r.ev y = some (.slice none 0 0) := by exact rfl) (hu : P.underlying t = some (.slice e) := by exact rfl) (hd : Nat.blt d n = true := by exact rfl) : WL P ro n w0 ops Q (⟨some d, .binOp .neq t x y t', ty, pos, after, none⟩ :: l) r ds m H := WL.neqNilSl hx hy hu hd h
/-- a text's bytes, in memory of their own -/
theorem WL.strBytes {src dst e : TypeId} {s : List UInt8} (hx : r.ev x = some (str s)) (hs1 : (P.underlying src).isSome = true) (hs2 : P.underlying dst = some (.slice e)) (hs3 : P.underlying e = some (.int .u8)) (hd : Nat.blt d n = true)
    (h : ∀ b cap, WL P ro n w0 ops Q l ((d, .slice (some ⟨b, 0, none⟩) s.length cap) :: r) ds m (.row (some ⟨b, 0, none⟩) cap e 1 (s.map fun b => [Value.int .u8 (b.toNat : Int)]) :: H)) :
    WL P ro n w0 ops Q (⟨some d, .convert src dst x, ty, pos, after, none⟩ :: l) r ds m H := by
  refine .gen (fun v m' H' => ∃ b cap, v = .slice (some ⟨b, 0, none⟩) s.length cap ∧ m' = m ∧ H' = .row (some ⟨b, 0, none⟩) cap e 1 (s.map fun b => [Value.int .u8 (b.toNat : Int)]) :: H) hd (fun _ h => by cases h) (fun tmps w ho hs => ?_)
    (by rintro _ _ _ ⟨b, cap, rfl, rfl, rfl⟩; exact h b cap)
  obtain ⟨us, hus⟩ := Option.isSome_iff_exists.1 hs1
  have hrun := Go.Lib.run_convert_string_bytes (P := P) w src dst e ⟨s.toArray⟩ hus hs2 hs3
  have hsz : (⟨s.toArray⟩ : ByteArray).size = s.length := ofNat_toArray s
  rw [hsz] at hrun
  have hge : s.length ≤ grownCap w s.length 0 e := grownCap_ge w s.length 0 e
  have hcs : (Go.Lib.bytesCells w e ⟨s.toArray⟩).size = grownCap w s.length 0 e := by
    simp only [Go.Lib.bytesCells, hsz, Array.size_append, Array.size_map, List.size_toArray, Array.size_replicate]; omega
  have hk : Sat w0 m H (Go.Lib.bytesWorld w e ⟨s.toArray⟩) := hs.keep rfl rfl rfl (by rw [Go.Lib.bytesWorld_size]; omega) (fun b hb => Go.Lib.bytesWorld_at_old w e _ b hb)
  refine ⟨.slice (some ⟨w.heap.size, 0, none⟩) s.length (grownCap w s.length 0 e), m, _, Go.Lib.bytesWorld w e ⟨s.toArray⟩, ?_, ?_, w.heap.size, grownCap w s.length 0 e, rfl, rfl, rfl⟩
  · show (execOp _ _).run P w = _
    simp only [execOp, ho.ev hx, Sem.run_bind]
    rw [show (str s) = Value.string ⟨s.toArray⟩ from rfl, hrun]
    rfl
  · refine ⟨hk.os, hk.tape, hk.output, hk.size, hk.pers, fun i hi => ?_, ?_, fun b hb => ?_⟩
    · cases hi with
      | head =>
        refine ⟨_, _, rfl, Go.Lib.bytesWorld_at_new w e _, by simpa using hcs, by simpa using hge, ?_, by simp, .inr (Nat.le_refl _)⟩
        have : (s.map fun b => [Value.int .u8 (b.toNat : Int)]).flatten = s.map fun b => Value.int .u8 (b.toNat : Int) := flatten_single _ s
        rw [this]
        simp [Go.Lib.bytesCells]
      | tail _ hi => exact hk.own i hi
    · simp only [SHeap.foot, List.flatMap_cons, Item.foot, List.singleton_append, List.nodup_cons]
      exact ⟨fun hb => absurd (hs.foot_lt _ hb) (Nat.lt_irrefl _), hs.sep⟩
    · simp only [SHeap.foot, List.flatMap_cons, Item.foot, List.singleton_append, List.mem_cons] at hb
      rcases hb with rfl | hb
      · cases hm : m w.heap.size with
        | none => rfl
        | some o' => exact absurd (Array.getElem?_eq_some_iff.1 (hs.pers _ _ hm)).1 (Nat.lt_irrefl _)
      · exact hs.free b hb
theorem w_strBytes {src dst e : TypeId} {s : List UInt8} (h : ∀ b cap, WL P ro n w0 ops Q l ((d, .slice (some ⟨b, 0, none⟩) s.length cap) :: r) ds m (.row (some ⟨b, 0, none⟩) cap e 1 (s.map fun b => [Value.int .u8 (b.toNat : Int)]) :: H)) (hx : r.ev x = some (str s) := by exact rfl) (hs1 : (P.underlying src).isSome = true := by exact rfl) (hs2 : P.underlying dst = some (.slice e) := by exact rfl) (hs3 : P.underlying e = some (.int .u8) := by exact rfl) (hd : Nat.blt d n = true := by exact rfl) : WL P ro n w0 ops Q (⟨some d, .convert src dst x, ty, pos, after, none⟩ :: l) r ds m H := WL.strBytes hx hs1 hs2 hs3 hd h
section scope
variable {b : Frame} {a : Act} {k : List Go.Item} {cs : List Frame} {w : World}
theorem stepR_scope {c : Code} : step P (lone (b.atR a (.code (.scope c) :: k)) cs w) = .next (lone (b.atR a (.code c :: .inScope c :: k)) cs w) :=
  step_lone_go (by simp [stepG, stepG.exec, Frame.atR])
theorem stepR_inScope {c : Code} : step P (lone (b.atR a (.inScope c :: k)) cs w) = .next (lone (b.atR a k) cs w) :=
  step_lone_go (by simp [stepG, stepG.exec, Frame.atR])
theorem wpIn_scope {F : Fence} {n : Nat} {c : Code} (h : c.wpIn F n P (Exit.noGoto Q) a w) : (Code.scope c).wpIn F n P Q a w := by
  intro b k cs hro hb hr
  have h0 : (lone (b.atR a (.code (.scope c) :: k)) cs w).fenced P F := fenced_calm hb hr rfl
  obtain ⟨e, a₁, w₁, hq, harr⟩ := h b (.inScope c :: k) cs hro hb hr
  cases e with
  | normal => exact ⟨.normal, a₁, w₁, hq, .head h0 stepR_scope (StepsIn.trans harr (.one (fenced_calm hb hr rfl) stepR_inScope))⟩
  | exit id =>
    have hx : exitTo id (.inScope c :: k) = exitTo id k := by simp [exitTo]
    exact ⟨.exit id, a₁, w₁, hq, fun k' hk => .head h0 stepR_scope (harr.1 k' (by rw [hx]; exact hk)),
      fun hr' hk => let ⟨k₁, h1, h2⟩ := harr.2 hr' (by rw [hx]; exact hk); ⟨k₁, h1, .head h0 stepR_scope h2⟩⟩
  | goto l => exact hq.elim
  | ret => exact ⟨_, a₁, w₁, hq, .of_steps (.one h0 stepR_scope) harr⟩
  | panic ch => exact ⟨_, a₁, w₁, hq, .of_steps (.one h0 stepR_scope) harr⟩
  | outgrown => exact ⟨_, a₁, w₁, hq, .of_steps (.one h0 stepR_scope) harr⟩
end scope
theorem WC.scope {c : Code} (h : WC P ro n w0 c (Exit.noGoto Q) r ds m H) : WC P ro n w0 (.scope c) Q r ds m H := fun tmps w ho hs => wpIn_scope (h tmps w ho hs)
theorem c_scope {c : Code} (h : WC P ro n w0 c (Exit.noGoto Q) r ds m H) : WC P ro n w0 (.scope c) Q r ds m H := WC.scope h
theorem WC.label {id : Nat} (h : WQ n w0 Q .normal r ds m H) : WC P ro n w0 (.label id) Q r ds m H := fun tmps w ho hs => wpIn_label (h tmps w ho hs)
theorem c_label {id : Nat} (h : WQ n w0 Q .normal r ds m H) : WC P ro n w0 (.label id) Q r ds m H := WC.label h
theorem WQ.scopeNorm (h : WQ n w0 Q .normal r ds m H) : WQ n w0 (Exit.noGoto Q) .normal r ds m H := h
theorem q_scopeNorm (h : WQ n w0 Q .normal r ds m H) : WQ n w0 (Exit.noGoto Q) .normal r ds m H := WQ.scopeNorm h
theorem WQ.scopeRet (h : WQ n w0 Q .ret r ds m H) : WQ n w0 (Exit.noGoto Q) .ret r ds m H := h
theorem q_scopeRet (h : WQ n w0 Q .ret r ds m H) : WQ n w0 (Exit.noGoto Q) .ret r ds m H := WQ.scopeRet h
theorem WQ.scopeExit {id : Nat} (h : WQ n w0 Q (.exit id) r ds m H) : WQ n w0 (Exit.noGoto Q) (.exit id) r ds m H := h
theorem q_scopeExit {id : Nat} (h : WQ n w0 Q (.exit id) r ds m H) : WQ n w0 (Exit.noGoto Q) (.exit id) r ds m H := WQ.scopeExit h
end
end Go.Eng

