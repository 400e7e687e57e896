/-
  A walk's engine, second part: what is said of code in a state of slots and heap, and the rules for control. No condition.
-/
import Derived.Test.YtdmdabjaboigcaaEngA
set_option linter.all false
namespace Go.Eng
open Go Go.RowKit

/-- everything may be called, at whatever depth; in a round of loop l where ro = some l -/
def FW (ro : Option Nat) : Fence := { Fence.wide with round := ro }
theorem FW_fn (ro : Option Nat) (f : FuncId) : (FW ro).fn f := trivial
theorem FW_depth (ro : Option Nat) : (FW ro).depth.isSome = true → 1 ≤ 0 := fun h => by simp [FW, Fence.wide] at h
/-- a test, kept closed -/
@[irreducible] def dcd (p : Prop) [Decidable p] : Bool := decide p
theorem dcd_eq (p : Prop) [Decidable p] : dcd p = decide p := by unfold dcd; rfl
theorem dcd_true {p : Prop} [Decidable p] (h : p) : dcd p = true := by rw [dcd_eq]; exact decide_eq_true h
theorem dcd_false {p : Prop} [Decidable p] (h : ¬ p) : dcd p = false := by rw [dcd_eq]; exact decide_eq_false h
theorem dcd_iff {p : Prop} [Decidable p] : dcd p = true ↔ p := by rw [dcd_eq]; exact decide_eq_true_iff
def marks (ds : List Nat) : List Deferred := ds.map fun D => { target := .collected D, args := #[] }

section
variable (P : Program) (ro : Option Nat) (n : Nat) (w0 : World)
def WC (c : Code) (Q : Exit → Act → World → Prop) (r : Env) (ds : List Nat) (m : Mem) (H : SHeap) : Prop :=
  ∀ tmps w, r.ok n tmps → Sat w0 m H w → c.wpIn (FW ro) 0 P Q ⟨tmps, marks ds⟩ w
def WL (ops : Array Oper) (Q : Exit → Act → World → Prop) (l : List Oper) (r : Env) (ds : List Nat) (m : Mem) (H : SHeap) : Prop :=
  ∀ tmps w, r.ok n tmps → Sat w0 m H w → wpListIn (FW ro) 0 P ops Q l ⟨tmps, marks ds⟩ w
def WQ (Q : Exit → Act → World → Prop) (e : Exit) (r : Env) (ds : List Nat) (m : Mem) (H : SHeap) : Prop :=
  ∀ tmps w, r.ok n tmps → Sat w0 m H w → Q e ⟨tmps, marks ds⟩ w
/-- a call in such a state: it returns; what it hands back and leaves is said by Post -/
def Does (f : FuncId) (args : Array Value) (w0 : World) (m : Mem) (H : SHeap) (Post : Value → Mem → SHeap → Prop) : Prop :=
  ∀ w, Sat w0 m H w → CallsIn (FW none) 0 P f args w fun e w' => ∃ v m' H', e = .returned v ∧ Post v m' H' ∧ Sat w0 m' H' w'
end

section
variable {P : Program} {ro : Option Nat} {n : Nat} {w0 : World} {Q : Exit → Act → World → Prop} {r : Env} {ds : List Nat} {m : Mem} {H : SHeap}

theorem WC.seq {x y : Code} (h : WC P ro n w0 x (Exit.then (fun a w => y.wpIn (FW ro) 0 P Q a w) Q) r ds m H) : WC P ro n w0 (.seq x y) Q r ds m H :=
  fun tmps w ho hs => wpIn_seq (h tmps w ho hs)
theorem c_seq {x y : Code} (h : WC P ro n w0 x (Exit.then (fun a w => y.wpIn (FW ro) 0 P Q a w) Q) r ds m H) : WC P ro n w0 (.seq x y) Q r ds m H := WC.seq h
theorem WC.block {id : Nat} {c : Code} (h : WC P ro n w0 c (Exit.inBlock id Q) r ds m H) : WC P ro n w0 (.block id c) Q r ds m H :=
  fun tmps w ho hs => wpIn_block (h tmps w ho hs)
theorem c_block {id : Nat} {c : Code} (h : WC P ro n w0 c (Exit.inBlock id Q) r ds m H) : WC P ro n w0 (.block id c) Q r ds m H := WC.block h
theorem WC.ret (h : WQ n w0 Q .ret r ds m H) : WC P ro n w0 .ret Q r ds m H := fun tmps w ho hs => wpIn_ret (h tmps w ho hs)
theorem c_ret (h : WQ n w0 Q .ret r ds m H) : WC P ro n w0 .ret Q r ds m H := WC.ret h
theorem WC.skip (h : WQ n w0 Q .normal r ds m H) : WC P ro n w0 .skip Q r ds m H := fun tmps w ho hs => wpIn_skip (h tmps w ho hs)
theorem c_skip (h : WQ n w0 Q .normal r ds m H) : WC P ro n w0 .skip Q r ds m H := WC.skip h
theorem WC.exit {id : Nat} (h : WQ n w0 Q (.exit id) r ds m H) : WC P ro n w0 (.exit id) Q r ds m H := fun tmps w ho hs => wpIn_exit (h tmps w ho hs)
theorem c_exit {id : Nat} (h : WQ n w0 Q (.exit id) r ds m H) : WC P ro n w0 (.exit id) Q r ds m H := WC.exit h
theorem WC.cond_t {c : Operand} {x y : Code} (hc : r.ev c = some (.bool true)) (h : WC P ro n w0 x Q r ds m H) : WC P ro n w0 (.cond c x y) Q r ds m H :=
  fun tmps w ho hs => wpIn_cond_true (ho.ev hc _) (h tmps w ho hs)
theorem c_cond_t {c : Operand} {x y : Code} (h : WC P ro n w0 x Q r ds m H) (hc : r.ev c = some (.bool true) := by exact rfl) : WC P ro n w0 (.cond c x y) Q r ds m H := WC.cond_t hc h
theorem WC.cond_f {c : Operand} {x y : Code} (hc : r.ev c = some (.bool false)) (h : WC P ro n w0 y Q r ds m H) : WC P ro n w0 (.cond c x y) Q r ds m H :=
  fun tmps w ho hs => wpIn_cond_false (ho.ev hc _) (h tmps w ho hs)
theorem c_cond_f {c : Operand} {x y : Code} (h : WC P ro n w0 y Q r ds m H) (hc : r.ev c = some (.bool false) := by exact rfl) : WC P ro n w0 (.cond c x y) Q r ds m H := WC.cond_f hc h
theorem WC.cond {c : Operand} {x y : Code} {b : Bool} (hc : r.ev c = some (.bool b)) (ht : b = true → WC P ro n w0 x Q r ds m H) (hf : b = false → WC P ro n w0 y Q r ds m H) :
    WC P ro n w0 (.cond c x y) Q r ds m H :=
  fun tmps w ho hs => wpIn_cond_split (ho.ev hc _) (fun e => ht e tmps w ho hs) (fun e => hf e tmps w ho hs)
theorem WC.region {id : Nat} {l : List Oper} (h : WL P ro n w0 l.toArray Q l r ds m H) : WC P ro n w0 (.region id l.toArray false) Q r ds m H :=
  fun tmps w ho hs => wpIn_region_lit (h tmps w ho hs)
theorem c_region {id : Nat} {l : List Oper} (h : WL P ro n w0 l.toArray Q l r ds m H) : WC P ro n w0 (.region id l.toArray false) Q r ds m H := WC.region h
theorem WC.weak {c : Code} {r' : Env} {H' : SHeap} (hr : Env.Sub r' r) (hh : ∀ w, Sat w0 m H w → Sat w0 m H' w) (h : WC P ro n w0 c Q r' ds m H') : WC P ro n w0 c Q r ds m H :=
  fun tmps w ho hs => h tmps w (hr.ok ho) (hh w hs)
theorem WL.weak {ops : Array Oper} {l : List Oper} {r' : Env} {H' : SHeap} (hr : Env.Sub r' r) (hh : ∀ w, Sat w0 m H w → Sat w0 m H' w) (h : WL P ro n w0 ops Q l r' ds m H') : WL P ro n w0 ops Q l r ds m H :=
  fun tmps w ho hs => h tmps w (hr.ok ho) (hh w hs)
theorem WC.pull {c : Code} {i : Item} {H1 : SHeap} (hp : List.Perm H (i :: H1)) (h : WC P ro n w0 c Q r ds m (i :: H1)) : WC P ro n w0 c Q r ds m H :=
  fun tmps w ho hs => h tmps w ho (hs.perm hp)
theorem WC.of_post {c : Code} {Q' : Exit → Act → World → Prop} (h : WC P ro n w0 c Q r ds m H) (hq : ∀ e a w, Q e a w → Q' e a w) : WC P ro n w0 c Q' r ds m H :=
  fun tmps w ho hs => wpIn_mono (h tmps w ho hs) hq

theorem WL.nil {ops : Array Oper} (h : WQ n w0 Q .normal r ds m H) : WL P ro n w0 ops Q [] r ds m H := fun tmps w ho hs => h tmps w ho hs

theorem w_nil {ops : Array Oper} (h : WQ n w0 Q .normal r ds m H) : WL P ro n w0 ops Q [] r ds m H := WL.nil h
theorem WQ.norm {y : Code} (h : WC P ro n w0 y Q r ds m H) : WQ n w0 (Exit.then (fun a w => y.wpIn (FW ro) 0 P Q a w) Q) .normal r ds m H := h
theorem q_norm {y : Code} (h : WC P ro n w0 y Q r ds m H) : WQ n w0 (Exit.then (fun a w => y.wpIn (FW ro) 0 P Q a w) Q) .normal r ds m H := WQ.norm h
theorem WQ.thenRet {K : Act → World → Prop} (h : WQ n w0 Q .ret r ds m H) : WQ n w0 (Exit.then K Q) .ret r ds m H := h
theorem q_thenRet {K : Act → World → Prop} (h : WQ n w0 Q .ret r ds m H) : WQ n w0 (Exit.then K Q) .ret r ds m H := WQ.thenRet h
theorem WQ.thenExit {K : Act → World → Prop} {id : Nat} (h : WQ n w0 Q (.exit id) r ds m H) : WQ n w0 (Exit.then K Q) (.exit id) r ds m H := h
theorem q_thenExit {K : Act → World → Prop} {id : Nat} (h : WQ n w0 Q (.exit id) r ds m H) : WQ n w0 (Exit.then K Q) (.exit id) r ds m H := WQ.thenExit h
theorem WQ.blockNorm {id : Nat} (h : WQ n w0 Q .normal r ds m H) : WQ n w0 (Exit.inBlock id Q) .normal r ds m H := h
theorem q_blockNorm {id : Nat} (h : WQ n w0 Q .normal r ds m H) : WQ n w0 (Exit.inBlock id Q) .normal r ds m H := WQ.blockNorm h
theorem WQ.blockRet {id : Nat} (h : WQ n w0 Q .ret r ds m H) : WQ n w0 (Exit.inBlock id Q) .ret r ds m H := h
theorem q_blockRet {id : Nat} (h : WQ n w0 Q .ret r ds m H) : WQ n w0 (Exit.inBlock id Q) .ret r ds m H := WQ.blockRet h
theorem WQ.blockSame {id : Nat} (h : WQ n w0 Q .normal r ds m H) : WQ n w0 (Exit.inBlock id Q) (.exit id) r ds m H := by
  intro tmps w ho hs
  simp only [Exit.inBlock, if_true]
  exact h tmps w ho hs
theorem q_blockSame {id : Nat} (h : WQ n w0 Q .normal r ds m H) : WQ n w0 (Exit.inBlock id Q) (.exit id) r ds m H := WQ.blockSame h
theorem WQ.blockOther {id id' : Nat} (hne : Nat.beq id' id = false) (h : WQ n w0 Q (.exit id') r ds m H) : WQ n w0 (Exit.inBlock id Q) (.exit id') r ds m H := by
  intro tmps w ho hs
  simp only [Exit.inBlock, if_neg (Nat.ne_of_beq_eq_false hne)]
  exact h tmps w ho hs
theorem q_blockOther {id id' : Nat} (h : WQ n w0 Q (.exit id') r ds m H) (hne : Nat.beq id' id = false := by exact rfl) : WQ n w0 (Exit.inBlock id Q) (.exit id') r ds m H := WQ.blockOther hne h
theorem WQ.weak {e : Exit} {r' : Env} {H' : SHeap} (hr : Env.Sub r' r) (hh : ∀ w, Sat w0 m H w → Sat w0 m H' w) (h : WQ n w0 Q e r' ds m H') : WQ n w0 Q e r ds m H :=
  fun tmps w ho hs => h tmps w (hr.ok ho) (hh w hs)

/-! ### a test that is settled, or split -/
theorem Env.ok.setb {n : Nat} {r : Env} {tmps : Array Value} (h : r.ok n tmps) {d : Nat} {b c : Bool} (hd : r.get d = some (.bool b)) (hb : b = c) : Env.ok n ((d, .bool c) :: r) tmps := by
  refine ⟨h.size, fun t v ht => ?_⟩
  simp only [Env.get] at ht
  cases hq : Nat.beq d t with
  | true =>
    have e := Nat.eq_of_beq_eq_true hq
    subst e; subst hb
    simp at ht
    subst ht
    exact h.at_ _ _ hd
  | false =>
    simp [hq] at ht
    exact h.at_ t v ht
theorem WC.known {c : Code} (d : Nat) {b : Bool} (k : Bool) (hd : r.get d = some (.bool b)) (hb : b = k) (h : WC P ro n w0 c Q ((d, .bool k) :: r) ds m H) : WC P ro n w0 c Q r ds m H :=
  fun tmps w ho hs => h tmps w (ho.setb hd hb) hs
theorem WL.known {ops : Array Oper} {l : List Oper} (d : Nat) {b : Bool} (k : Bool) (hd : r.get d = some (.bool b)) (hb : b = k) (h : WL P ro n w0 ops Q l ((d, .bool k) :: r) ds m H) : WL P ro n w0 ops Q l r ds m H :=
  fun tmps w ho hs => h tmps w (ho.setb hd hb) hs
theorem WL.split {ops : Array Oper} {l : List Oper} (d : Nat) {b : Bool} (hd : r.get d = some (.bool b)) (ht : b = true → WL P ro n w0 ops Q l ((d, .bool true) :: r) ds m H)
    (hf : b = false → WL P ro n w0 ops Q l ((d, .bool false) :: r) ds m H) : WL P ro n w0 ops Q l r ds m H := by
  cases hb : b with
  | true => exact .known d true hd hb (ht hb)
  | false => exact .known d false hd hb (hf hb)
/-- a slot's value under another name -/
theorem WL.rename {ops : Array Oper} {l : List Oper} (d : Nat) {v u : Value} (hd : r.get d = some v) (hv : v = u) (h : WL P ro n w0 ops Q l ((d, u) :: r) ds m H) : WL P ro n w0 ops Q l r ds m H := by
  intro tmps w ho hs
  refine h tmps w ⟨ho.size, fun t x ht => ?_⟩ hs
  simp only [Env.get] at ht
  cases hq : Nat.beq d t with
  | true =>
    have e := Nat.eq_of_beq_eq_true hq
    subst e; subst hv
    simp at ht
    subst ht
    exact ho.at_ _ _ hd
  | false =>
    simp [hq] at ht
    exact ho.at_ t x ht
theorem WC.rename {c : Code} (d : Nat) {v u : Value} (hd : r.get d = some v) (hv : v = u) (h : WC P ro n w0 c Q ((d, u) :: r) ds m H) : WC P ro n w0 c Q r ds m H := by
  subst hv
  intro tmps w ho hs
  refine h tmps w ⟨ho.size, fun t x ht => ?_⟩ hs
  simp only [Env.get] at ht
  cases hq : Nat.beq d t with
  | true =>
    have e := Nat.eq_of_beq_eq_true hq
    subst e
    simp at ht
    subst ht
    exact ho.at_ _ _ hd
  | false =>
    simp [hq] at ht
    exact ho.at_ t x ht

/-! ### guards -/
theorem yielded_of {ops : Array Oper} {j dj : Nat} {tmps : Array Value} (hj : (ops[j]?).bind (·.dst) = some dj) {b : Bool} (hv : tmps[dj]? = some (.bool b)) : yielded ops tmps j = some b := by
  simp [yielded, hj, hv]
theorem WL.on {ops : Array Oper} {l : List Oper} {dst : Option Tmp} {op : Op} {ty : TypeId} {pos : String} {after : Array Edge} {j dj : Nat} {want : Bool}
    (hj : (ops[j]?).bind (·.dst) = some dj) (hv : r.get dj = some (.bool want)) (h : WL P ro n w0 ops Q (⟨dst, op, ty, pos, after, none⟩ :: l) r ds m H) :
    WL P ro n w0 ops Q (⟨dst, op, ty, pos, after, some (j, want)⟩ :: l) r ds m H := by
  intro tmps w ho hs
  have hk := h tmps w ho hs
  unfold wpListIn at hk ⊢
  simp only [Region.wanted, if_true] at hk
  simp only [Region.wanted, yielded_of hj (ho.at_ _ _ hv), BEq.rfl, if_true]
  exact hk
theorem w_on {ops : Array Oper} {l : List Oper} {dst : Option Tmp} {op : Op} {ty : TypeId} {pos : String} {after : Array Edge} {j dj : Nat} {want : Bool} (h : WL P ro n w0 ops Q (⟨dst, op, ty, pos, after, none⟩ :: l) r ds m H) (hj : (ops[j]?).bind (·.dst) = some dj := by exact rfl) (hv : r.get dj = some (.bool want) := by exact rfl) : WL P ro n w0 ops Q (⟨dst, op, ty, pos, after, some (j, want)⟩ :: l) r ds m H := WL.on hj hv h
theorem WL.off {ops : Array Oper} {l : List Oper} {dst : Nat} {op : Op} {ty : TypeId} {pos : String} {after : Array Edge} {j dj : Nat} {want b : Bool}
    (hj : (ops[j]?).bind (·.dst) = some dj) (hv : r.get dj = some (.bool b)) (hb : b = !want) (hd : Nat.blt dst n = true) (h : WL P ro n w0 ops Q l ((dst, undef) :: r) ds m H) :
    WL P ro n w0 ops Q (⟨some dst, op, ty, pos, after, some (j, want)⟩ :: l) r ds m H := by
  subst hb
  intro tmps w ho hs
  unfold wpListIn
  have hw : (some (!want) == some want) = false := by cases want <;> rfl
  simp only [Region.wanted, yielded_of hj (ho.at_ _ _ hv), hw]
  exact ⟨fun f _ => FW_fn ro f, h _ w (ho.put (by simpa [Nat.blt_eq] using hd) undef) hs⟩
theorem w_off {ops : Array Oper} {l : List Oper} {dst : Nat} {op : Op} {ty : TypeId} {pos : String} {after : Array Edge} {j dj : Nat} {want b : Bool} (h : WL P ro n w0 ops Q l ((dst, undef) :: r) ds m H) (hj : (ops[j]?).bind (·.dst) = some dj := by exact rfl) (hv : r.get dj = some (.bool b) := by exact rfl) (hb : b = !want := by exact rfl) (hd : Nat.blt dst n = true := by exact rfl) : WL P ro n w0 ops Q (⟨some dst, op, ty, pos, after, some (j, want)⟩ :: l) r ds m H := WL.off hj hv hb hd h
theorem WL.off' {ops : Array Oper} {l : List Oper} {op : Op} {ty : TypeId} {pos : String} {after : Array Edge} {j dj : Nat} {want b : Bool}
    (hj : (ops[j]?).bind (·.dst) = some dj) (hv : r.get dj = some (.bool b)) (hb : b = !want) (h : WL P ro n w0 ops Q l r ds m H) :
    WL P ro n w0 ops Q (⟨none, op, ty, pos, after, some (j, want)⟩ :: l) r ds m H := by
  subst hb
  intro tmps w ho hs
  unfold wpListIn
  have hw : (some (!want) == some want) = false := by cases want <;> rfl
  simp only [Region.wanted, yielded_of hj (ho.at_ _ _ hv), hw]
  exact ⟨fun f _ => FW_fn ro f, h _ w ho hs⟩
theorem w_off2 {ops : Array Oper} {l : List Oper} {op : Op} {ty : TypeId} {pos : String} {after : Array Edge} {j dj : Nat} {want b : Bool} (h : WL P ro n w0 ops Q l r ds m H) (hj : (ops[j]?).bind (·.dst) = some dj := by exact rfl) (hv : r.get dj = some (.bool b) := by exact rfl) (hb : b = !want := by exact rfl) : WL P ro n w0 ops Q (⟨none, op, ty, pos, after, some (j, want)⟩ :: l) r ds m H := WL.off' hj hv hb h
/-- guarded by an operation that was itself passed over -/
theorem WL.offU {ops : Array Oper} {l : List Oper} {dst : Nat} {op : Op} {ty : TypeId} {pos : String} {after : Array Edge} {j dj : Nat} {want : Bool}
    (hj : (ops[j]?).bind (·.dst) = some dj) (hv : r.get dj = some undef) (hd : Nat.blt dst n = true) (h : WL P ro n w0 ops Q l ((dst, undef) :: r) ds m H) :
    WL P ro n w0 ops Q (⟨some dst, op, ty, pos, after, some (j, want)⟩ :: l) r ds m H := by
  intro tmps w ho hs
  unfold wpListIn
  have hy : yielded ops tmps j = none := by simp [yielded, hj, ho.at_ _ _ hv, undef]
  have hw : ((none : Option Bool) == some want) = false := rfl
  simp only [Region.wanted, hy, hw]
  exact ⟨fun f _ => FW_fn ro f, h _ w (ho.put (by simpa [Nat.blt_eq] using hd) undef) hs⟩

theorem w_offU {ops : Array Oper} {l : List Oper} {dst : Nat} {op : Op} {ty : TypeId} {pos : String} {after : Array Edge} {j dj : Nat} {want : Bool} (h : WL P ro n w0 ops Q l ((dst, undef) :: r) ds m H) (hj : (ops[j]?).bind (·.dst) = some dj := by exact rfl) (hv : r.get dj = some undef := by exact rfl) (hd : Nat.blt dst n = true := by exact rfl) : WL P ro n w0 ops Q (⟨some dst, op, ty, pos, after, some (j, want)⟩ :: l) r ds m H := WL.offU hj hv hd h
/-! ### one operation -/
theorem semAt_exec (ro : Option Nat) (ρ : Operand → Value) (o : Oper) (h : ∀ c, o.op ≠ .defer c) : Oper.semAt ro ρ o = execOp ρ o := by
  cases ro with
  | none => exact Oper.semAt_none ρ o
  | some l => exact Oper.semAt_some l ρ o h
/-- an operation that yields a value -/
theorem WL.gen {ops : Array Oper} {l : List Oper} {d : Nat} {op : Op} {ty : TypeId} {pos : String} {after : Array Edge} (K : Value → Mem → SHeap → Prop)
    (hd : Nat.blt d n = true) (hnd : ∀ c, op ≠ .defer c)
    (hrun : ∀ tmps w, r.ok n tmps → Sat w0 m H w → ∃ v m' H' w', (execOp (Act.mk tmps (marks ds)).eval ⟨some d, op, ty, pos, after, none⟩).run P w = .ok (.value v) w' ∧ Sat w0 m' H' w' ∧ K v m' H')
    (h : ∀ v m' H', K v m' H' → WL P ro n w0 ops Q l ((d, v) :: r) ds m' H') : WL P ro n w0 ops Q (⟨some d, op, ty, pos, after, none⟩ :: l) r ds m H := by
  intro tmps w ho hs
  obtain ⟨v, m', H', w', hr, hs', hK⟩ := hrun tmps w ho hs
  unfold wpListIn
  simp only [Region.wanted, if_true]
  refine ⟨fun f _ => FW_fn ro f, ?_⟩
  rw [semAt_exec (FW ro).round _ _ hnd, hr]
  exact h v m' H' hK _ w' (ho.put (by simpa [Nat.blt_eq] using hd) v) hs'
/-- an operation whose value is known, over a heap that it leaves alone -/
theorem WL.val {ops : Array Oper} {l : List Oper} {d : Nat} {op : Op} {ty : TypeId} {pos : String} {after : Array Edge} {v : Value}
    (hd : Nat.blt d n = true) (hnd : ∀ c, op ≠ .defer c)
    (hrun : ∀ tmps w, r.ok n tmps → Sat w0 m H w → (execOp (Act.mk tmps (marks ds)).eval ⟨some d, op, ty, pos, after, none⟩).run P w = .ok (.value v) w)
    (h : WL P ro n w0 ops Q l ((d, v) :: r) ds m H) : WL P ro n w0 ops Q (⟨some d, op, ty, pos, after, none⟩ :: l) r ds m H :=
  .gen (fun v' m' H' => v' = v ∧ m' = m ∧ H' = H) hd hnd (fun tmps w ho hs => ⟨v, m, H, w, hrun tmps w ho hs, hs, rfl, rfl, rfl⟩) (by rintro _ _ _ ⟨rfl, rfl, rfl⟩; exact h)
/-- an operation that is done for what it does -/
theorem WL.act {ops : Array Oper} {l : List Oper} {dst : Option Nat} {op : Op} {ty : TypeId} {pos : String} {after : Array Edge} (K : Mem → SHeap → Prop)
    (hdst : dst = none) (hnd : ∀ c, op ≠ .defer c)
    (hrun : ∀ tmps w, r.ok n tmps → Sat w0 m H w → ∃ m' H' w', (execOp (Act.mk tmps (marks ds)).eval ⟨dst, op, ty, pos, after, none⟩).run P w = .ok .skip w' ∧ Sat w0 m' H' w' ∧ K m' H')
    (h : ∀ m' H', K m' H' → WL P ro n w0 ops Q l r ds m' H') : WL P ro n w0 ops Q (⟨dst, op, ty, pos, after, none⟩ :: l) r ds m H := by
  subst hdst
  intro tmps w ho hs
  obtain ⟨m', H', w', hr, hs', hK⟩ := hrun tmps w ho hs
  unfold wpListIn
  simp only [Region.wanted, if_true]
  refine ⟨fun f _ => FW_fn ro f, ?_⟩
  rw [semAt_exec (FW ro).round _ _ hnd, hr]
  exact h m' H' hK _ w' ho hs'
/-- a call -/
theorem WL.enter {ops : Array Oper} {l : List Oper} {dst : Option Nat} {op : Op} {ty : TypeId} {pos : String} {after : Array Edge} {f : FuncId} {args : Array Value} {Post : Value → Mem → SHeap → Prop}
    (hd : ∀ d, dst = some d → d < n) (hnd : ∀ c, op ≠ .defer c)
    (hrun : ∀ tmps w, r.ok n tmps → Sat w0 m H w → (execOp (Act.mk tmps (marks ds)).eval ⟨dst, op, ty, pos, after, none⟩).run P w = .ok (.enter f args) w)
    (hs : Does P f args w0 m H Post)
    (h : ∀ v m' H', Post v m' H' → WL P ro n w0 ops Q l ((dst.map fun d => (d, v)).toList ++ r) ds m' H') : WL P ro n w0 ops Q (⟨dst, op, ty, pos, after, none⟩ :: l) r ds m H := by
  intro tmps w ho hsat
  unfold wpListIn
  simp only [Region.wanted, if_true]
  refine ⟨fun f _ => FW_fn ro f, ?_⟩
  rw [semAt_exec (FW ro).round _ _ hnd, hrun tmps w ho hsat]
  refine ⟨FW_depth ro, ?_⟩
  have hc : CallsIn (FW ro) (0 - 1) P f args w _ := hs w hsat
  refine hc.mono ?_
  rintro e w' ⟨v, m', H', rfl, hP, hs'⟩
  cases dst with
  | none => exact h v m' H' hP tmps w' ho hs'
  | some d => exact h v m' H' hP _ w' (ho.put (hd d rfl) v) hs'

/-! ### a loop -/
theorem exists_least (p : Nat → Prop) (h : ∃ k, p k) : ∃ k, p k ∧ ∀ j, p j → k ≤ j := by
  obtain ⟨k, hk⟩ := h
  induction k using Nat.strongRecOn with
  | _ k ih =>
    by_cases hx : ∃ j, j < k ∧ p j
    · obtain ⟨j, hj, hp⟩ := hx
      exact ih j hj hp
    · refine ⟨k, hk, fun j hj => ?_⟩
      rcases Nat.lt_or_ge j k with hlt | hge
      · exact absurd ⟨j, hlt, hj⟩ hx
      · exact hge
open Classical in
noncomputable def least (p : Nat → Prop) : Nat := if h : ∃ k, p k then Classical.choose (exists_least p h) else 0
theorem least_of {p : Nat → Prop} {k : Nat} (h : p k) : p (least p) ∧ least p ≤ k := by
  have hx : ∃ k, p k := ⟨k, h⟩
  simp only [least, dif_pos hx]
  have := Classical.choose_spec (exists_least p hx)
  exact ⟨this.1, this.2 k h⟩
/-- what the end of a round owes -/
def QLoop (n : Nat) (w0 : World) (I : Nat → Env → List Nat → Mem → SHeap → Prop) (j : Nat) (Q : Exit → Act → World → Prop) : Exit → Act → World → Prop :=
  Exit.then (fun a w => ∃ j', j' < j ∧ ∃ r ds m H, I j' r ds m H ∧ r.ok n a.tmps ∧ a.defers = marks ds ∧ Sat w0 m H w) Q
theorem WC.loop {c : Code} (I : Nat → Env → List Nat → Mem → SHeap → Prop) (j : Nat) (h0 : I j r ds m H)
    (round : ∀ j r ds m H, I j r ds m H → WC P ro n w0 c (QLoop n w0 I j Q) r ds m H) : WC P ro n w0 (.loop c) Q r ds m H := by
  intro tmps w ho hs
  let J : Nat → Act → World → Prop := fun j a w => ∃ r ds m H, I j r ds m H ∧ r.ok n a.tmps ∧ a.defers = marks ds ∧ Sat w0 m H w
  refine wpIn_loop (fun a w => ∃ j, J j a w) (fun a w => least fun j => J j a w) ⟨j, r, ds, m, H, h0, ho, rfl, hs⟩ ?_
  rintro a w ⟨j1, hj1⟩
  obtain ⟨hl, _⟩ := least_of (p := fun j => J j a w) hj1
  obtain ⟨r', ds', m', H', hI, hok, hd, hsat⟩ := hl
  have := round _ r' ds' m' H' hI a.tmps w hok hsat
  obtain ⟨tm, df⟩ := a
  simp only at hd
  subst hd
  refine wpIn_mono this ?_
  intro e a2 w2 hq
  cases e with
  | normal =>
    obtain ⟨j2, hlt, hJ⟩ := hq
    exact ⟨⟨j2, hJ⟩, Nat.lt_of_le_of_lt (least_of (p := fun j => J j a2 w2) hJ).2 hlt⟩
  | _ => exact hq
theorem WQ.next {I : Nat → Env → List Nat → Mem → SHeap → Prop} {j : Nat} {r' : Env} {H' : SHeap} (j' : Nat) (hI : I j' r' ds m H') (hlt : j' < j) (hr : Env.Sub r' r) (hh : ∀ w, Sat w0 m H w → Sat w0 m H' w) :
    WQ n w0 (QLoop n w0 I j Q) .normal r ds m H :=
  fun _ w ho hs => ⟨j', hlt, r', ds, m, H', hI, hr.ok ho, rfl, hh w hs⟩
theorem WQ.loopExit {I : Nat → Env → List Nat → Mem → SHeap → Prop} {j id : Nat} (h : WQ n w0 Q (.exit id) r ds m H) : WQ n w0 (QLoop n w0 I j Q) (.exit id) r ds m H := h
theorem q_loopExit {I : Nat → Env → List Nat → Mem → SHeap → Prop} {j id : Nat} (h : WQ n w0 Q (.exit id) r ds m H) : WQ n w0 (QLoop n w0 I j Q) (.exit id) r ds m H := WQ.loopExit h
theorem WQ.loopRet {I : Nat → Env → List Nat → Mem → SHeap → Prop} {j : Nat} (h : WQ n w0 Q .ret r ds m H) : WQ n w0 (QLoop n w0 I j Q) .ret r ds m H := h

theorem q_loopRet {I : Nat → Env → List Nat → Mem → SHeap → Prop} {j : Nat} (h : WQ n w0 Q .ret r ds m H) : WQ n w0 (QLoop n w0 I j Q) .ret r ds m H := WQ.loopRet h
/-! ### a function -/
/-- what a function's end owes -/
def QFun (P : Program) (fn : Func) (w0 : World) (Post : Value → Mem → SHeap → Prop) : Exit → Act → World → Prop :=
  bodyPostM (FW none) 0 P fn fun e w' => ∃ v m' H', e = .returned v ∧ Post v m' H' ∧ Sat w0 m' H' w'
def Env.args : Nat → List Value → Env
  | _, [] => []
  | k, v :: l => (k, v) :: Env.args (k + 1) l
theorem Env.args_get : ∀ (l : List Value) (k t : Nat) (v : Value), (Env.args k l).get t = some v → k ≤ t ∧ l[t - k]? = some v
  | [], k, t, v, h => by simp [Env.args, Env.get] at h
  | u :: l, k, t, v, h => by
    simp only [Env.args, Env.get] at h
    cases hb : Nat.beq k t with
    | true =>
      have e := Nat.eq_of_beq_eq_true hb
      subst e
      simp at h
      simp [h]
    | false =>
      have e := Nat.ne_of_beq_eq_false hb
      simp [hb] at h
      obtain ⟨h1, h2⟩ := Env.args_get l (k + 1) t v h
      refine ⟨by omega, ?_⟩
      rw [show t - k = (t - (k + 1)) + 1 by omega]
      simpa using h2
theorem Does.of_body {f : FuncId} {fn : Func} {c : Code} {args : List Value} {Post : Value → Mem → SHeap → Prop} (hf : P.funcs[f]? = some fn) (hb : fn.body = some c)
    (hn : fn.ntmps = n) (ha : Nat.ble args.length n = true) (h : WC P none n w0 c (QFun P fn w0 Post) (Env.args 0 args) [] m H) : Does P f args.toArray w0 m H Post := by
  intro w hs
  refine callsIn_of_wp_marks hf hb (FW_fn none f) ?_
  refine h _ w ⟨?_, ?_⟩ hs
  · have : args.length ≤ n := by simpa using ha
    simp [hn]; omega
  · intro t v ht
    obtain ⟨_, h2⟩ := Env.args_get args 0 t v ht
    simp only [Nat.sub_zero] at h2
    rw [Array.getElem?_append_left (by simpa using (List.getElem?_eq_some_iff.1 h2).1)]
    simpa using h2
theorem Does.mono {f : FuncId} {args : Array Value} {Post Post' : Value → Mem → SHeap → Prop} (h : Does P f args w0 m H Post) (hp : ∀ v m' H', Post v m' H' → Post' v m' H') : Does P f args w0 m H Post' :=
  fun w hs => (h w hs).mono fun _ _ ⟨v, m', H', he, hP, hs'⟩ => ⟨v, m', H', he, hp _ _ _ hP, hs'⟩
/-- the end of a function's body: no marks are left -/
theorem WQ.fin {fn : Func} {Post : Value → Mem → SHeap → Prop} (v : Value) (hres : ∀ tmps w, r.ok n tmps → Sat w0 m H w → (results fn tmps).run P w = .ok v w) (hp : Post v m H) :
    WQ n w0 (QFun P fn w0 Post) .ret r [] m H :=
  fun tmps w ho hs => ⟨v, hres tmps w ho hs, v, m, H, rfl, hp, hs⟩
theorem q_fin {fn : Func} {Post : Value → Mem → SHeap → Prop} {v : Value} (hp : Post v m H) (hres : ∀ tmps w, r.ok n tmps → Sat w0 m H w → (results fn tmps).run P w = .ok v w := by (first | (apply res_tmp; (· exact rfl); (· exact rfl)) | (apply res_cell; (· exact rfl); (· exact rfl); (· (first | (apply Loads.one; (· exact rfl); (· first | (apply Cell.blk; (· (repeat (first | exact List.Mem.head _ | apply List.Mem.tail))); (· exact rfl)) | (apply Cell.mem; (· assumption); (· exact rfl)))) | (apply Loads.whole; (· exact rfl); (· exact rfl); (· (repeat (first | exact List.Mem.head _ | apply List.Mem.tail))); (· exact rfl)) | (apply Loads.blk; (· exact rfl); (· exact rfl); (· (repeat (first | exact List.Mem.head _ | apply List.Mem.tail))); (· (repeat (first | exact Seg.nil | (apply Seg.cons; (· exact rfl)))))) | (apply Loads.row; (· (repeat (first | exact List.Mem.head _ | apply List.Mem.tail))); (· assumption); (· exact rfl); (· exact rfl); (· exact rfl); (· exact rfl)) | (apply Loads.row1; (· (repeat (first | exact List.Mem.head _ | apply List.Mem.tail))); (· assumption); (· exact rfl); (· exact rfl)) | (apply Loads.rowF; (· (repeat (first | exact List.Mem.head _ | apply List.Mem.tail))); (· assumption); (· exact rfl); (· exact rfl); (· exact rfl)) | (apply Loads.prow; (· assumption); (· assumption); (· exact rfl); (· exact rfl); (· exact rfl); (· exact rfl)) | (apply Loads.prow1; (· assumption); (· assumption); (· exact rfl); (· exact rfl)) | (apply Loads.prowF; (· assumption); (· assumption); (· exact rfl); (· exact rfl); (· exact rfl)) | (apply Loads.rrow; (· assumption); (· assumption); (· exact rfl); (· exact rfl); (· exact rfl); (· exact rfl)) | (apply Loads.rrow1; (· assumption); (· assumption); (· exact rfl); (· exact rfl)) | (apply Loads.rrowF; (· assumption); (· assumption); (· exact rfl); (· exact rfl); (· exact rfl)) | (apply Loads.rowS; (· (repeat (first | exact List.Mem.head _ | apply List.Mem.tail))); (· assumption); (· exact rfl); (· exact rfl); (· exact rfl); (· (repeat (first | exact Seg.nil | (apply Seg.cons; (· exact rfl))))))))) | (apply res_none; exact rfl) | (apply res_many; (· exact rfl); (· repeat (first | exact ResAll.nil | (apply ResAll.tmp; (· exact rfl)) | (apply ResAll.cell; (· exact rfl); (· (first | (apply Loads.one; (· exact rfl); (· first | (apply Cell.blk; (· (repeat (first | exact List.Mem.head _ | apply List.Mem.tail))); (· exact rfl)) | (apply Cell.mem; (· assumption); (· exact rfl)))) | (apply Loads.whole; (· exact rfl); (· exact rfl); (· (repeat (first | exact List.Mem.head _ | apply List.Mem.tail))); (· exact rfl)) | (apply Loads.blk; (· exact rfl); (· exact rfl); (· (repeat (first | exact List.Mem.head _ | apply List.Mem.tail))); (· (repeat (first | exact Seg.nil | (apply Seg.cons; (· exact rfl)))))) | (apply Loads.row; (· (repeat (first | exact List.Mem.head _ | apply List.Mem.tail))); (· assumption); (· exact rfl); (· exact rfl); (· exact rfl); (· exact rfl)) | (apply Loads.row1; (· (repeat (first | exact List.Mem.head _ | apply List.Mem.tail))); (· assumption); (· exact rfl); (· exact rfl)) | (apply Loads.rowF; (· (repeat (first | exact List.Mem.head _ | apply List.Mem.tail))); (· assumption); (· exact rfl); (· exact rfl); (· exact rfl)) | (apply Loads.prow; (· assumption); (· assumption); (· exact rfl); (· exact rfl); (· exact rfl); (· exact rfl)) | (apply Loads.prow1; (· assumption); (· assumption); (· exact rfl); (· exact rfl)) | (apply Loads.prowF; (· assumption); (· assumption); (· exact rfl); (· exact rfl); (· exact rfl)) | (apply Loads.rrow; (· assumption); (· assumption); (· exact rfl); (· exact rfl); (· exact rfl); (· exact rfl)) | (apply Loads.rrow1; (· assumption); (· assumption); (· exact rfl); (· exact rfl)) | (apply Loads.rrowF; (· assumption); (· assumption); (· exact rfl); (· exact rfl); (· exact rfl)) | (apply Loads.rowS; (· (repeat (first | exact List.Mem.head _ | apply List.Mem.tail))); (· assumption); (· exact rfl); (· exact rfl); (· exact rfl); (· (repeat (first | exact Seg.nil | (apply Seg.cons; (· exact rfl))))))))))); (· exact rfl)))) : WQ n w0 (QFun P fn w0 Post) .ret r [] m H := WQ.fin v hres hp
theorem WQ.finNorm {fn : Func} {Post : Value → Mem → SHeap → Prop} (v : Value) (hres : ∀ tmps w, r.ok n tmps → Sat w0 m H w → (results fn tmps).run P w = .ok v w) (hp : Post v m H) :
    WQ n w0 (QFun P fn w0 Post) .normal r [] m H :=
  fun tmps w ho hs => ⟨v, hres tmps w ho hs, v, m, H, rfl, hp, hs⟩
theorem q_finNorm {fn : Func} {Post : Value → Mem → SHeap → Prop} {v : Value} (hp : Post v m H) (hres : ∀ tmps w, r.ok n tmps → Sat w0 m H w → (results fn tmps).run P w = .ok v w := by (first | (apply res_tmp; (· exact rfl); (· exact rfl)) | (apply res_cell; (· exact rfl); (· exact rfl); (· (first | (apply Loads.one; (· exact rfl); (· first | (apply Cell.blk; (· (repeat (first | exact List.Mem.head _ | apply List.Mem.tail))); (· exact rfl)) | (apply Cell.mem; (· assumption); (· exact rfl)))) | (apply Loads.whole; (· exact rfl); (· exact rfl); (· (repeat (first | exact List.Mem.head _ | apply List.Mem.tail))); (· exact rfl)) | (apply Loads.blk; (· exact rfl); (· exact rfl); (· (repeat (first | exact List.Mem.head _ | apply List.Mem.tail))); (· (repeat (first | exact Seg.nil | (apply Seg.cons; (· exact rfl)))))) | (apply Loads.row; (· (repeat (first | exact List.Mem.head _ | apply List.Mem.tail))); (· assumption); (· exact rfl); (· exact rfl); (· exact rfl); (· exact rfl)) | (apply Loads.row1; (· (repeat (first | exact List.Mem.head _ | apply List.Mem.tail))); (· assumption); (· exact rfl); (· exact rfl)) | (apply Loads.rowF; (· (repeat (first | exact List.Mem.head _ | apply List.Mem.tail))); (· assumption); (· exact rfl); (· exact rfl); (· exact rfl)) | (apply Loads.prow; (· assumption); (· assumption); (· exact rfl); (· exact rfl); (· exact rfl); (· exact rfl)) | (apply Loads.prow1; (· assumption); (· assumption); (· exact rfl); (· exact rfl)) | (apply Loads.prowF; (· assumption); (· assumption); (· exact rfl); (· exact rfl); (· exact rfl)) | (apply Loads.rrow; (· assumption); (· assumption); (· exact rfl); (· exact rfl); (· exact rfl); (· exact rfl)) | (apply Loads.rrow1; (· assumption); (· assumption); (· exact rfl); (· exact rfl)) | (apply Loads.rrowF; (· assumption); (· assumption); (· exact rfl); (· exact rfl); (· exact rfl)) | (apply Loads.rowS; (· (repeat (first | exact List.Mem.head _ | apply List.Mem.tail))); (· assumption); (· exact rfl); (· exact rfl); (· exact rfl); (· (repeat (first | exact Seg.nil | (apply Seg.cons; (· exact rfl))))))))) | (apply res_none; exact rfl) | (apply res_many; (· exact rfl); (· repeat (first | exact ResAll.nil | (apply ResAll.tmp; (· exact rfl)) | (apply ResAll.cell; (· exact rfl); (· (first | (apply Loads.one; (· exact rfl); (· first | (apply Cell.blk; (· (repeat (first | exact List.Mem.head _ | apply List.Mem.tail))); (· exact rfl)) | (apply Cell.mem; (· assumption); (· exact rfl)))) | (apply Loads.whole; (· exact rfl); (· exact rfl); (· (repeat (first | exact List.Mem.head _ | apply List.Mem.tail))); (· exact rfl)) | (apply Loads.blk; (· exact rfl); (· exact rfl); (· (repeat (first | exact List.Mem.head _ | apply List.Mem.tail))); (· (repeat (first | exact Seg.nil | (apply Seg.cons; (· exact rfl)))))) | (apply Loads.row; (· (repeat (first | exact List.Mem.head _ | apply List.Mem.tail))); (· assumption); (· exact rfl); (· exact rfl); (· exact rfl); (· exact rfl)) | (apply Loads.row1; (· (repeat (first | exact List.Mem.head _ | apply List.Mem.tail))); (· assumption); (· exact rfl); (· exact rfl)) | (apply Loads.rowF; (· (repeat (first | exact List.Mem.head _ | apply List.Mem.tail))); (· assumption); (· exact rfl); (· exact rfl); (· exact rfl)) | (apply Loads.prow; (· assumption); (· assumption); (· exact rfl); (· exact rfl); (· exact rfl); (· exact rfl)) | (apply Loads.prow1; (· assumption); (· assumption); (· exact rfl); (· exact rfl)) | (apply Loads.prowF; (· assumption); (· assumption); (· exact rfl); (· exact rfl); (· exact rfl)) | (apply Loads.rrow; (· assumption); (· assumption); (· exact rfl); (· exact rfl); (· exact rfl); (· exact rfl)) | (apply Loads.rrow1; (· assumption); (· assumption); (· exact rfl); (· exact rfl)) | (apply Loads.rrowF; (· assumption); (· assumption); (· exact rfl); (· exact rfl); (· exact rfl)) | (apply Loads.rowS; (· (repeat (first | exact List.Mem.head _ | apply List.Mem.tail))); (· assumption); (· exact rfl); (· exact rfl); (· exact rfl); (· (repeat (first | exact Seg.nil | (apply Seg.cons; (· exact rfl))))))))))); (· exact rfl)))) : WQ n w0 (QFun P fn w0 Post) .normal r [] m H := WQ.finNorm v hres hp
theorem Sat.putObj {b : Nat} {o o' : Obj} {w : World} (h : Sat w0 m (.blk b o :: H) w) : Sat w0 m (.blk b o' :: H) (w.putObj b o') := by
  have hb : w.heap[b]? = some o := h.own _ List.mem_cons_self
  refine h.turn (j := .blk b o') rfl rfl rfl (by simp) (fun k _ hk => World.putObj_heap_other (by simpa [Item.foot] using hk)) (World.putObj_heap_same (Array.getElem?_eq_some_iff.1 hb).1) (fun x hx => .inl hx) (by simp [Item.foot])
theorem WQ.mark {fn : Func} {Post : Value → Mem → SHeap → Prop} {D : Nat} {H1 : SHeap} (hp : List.Perm H (.blk D (.deferred (some [])) :: H1)) (h : WQ n w0 (QFun P fn w0 Post) .ret r ds m H1) :
    WQ n w0 (QFun P fn w0 Post) .ret r (D :: ds) m H := by
  intro tmps w ho hs
  have hs1 := hs.perm hp
  have hD : w.heap[D]? = some (.deferred (some [])) := hs1.own _ List.mem_cons_self
  refine ⟨by simp, .inl ⟨D, w.putObj D (.deferred none), rfl, run_takeDeferred hD, ?_⟩⟩
  exact h tmps _ ho hs1.putObj.drop
theorem WQ.markNorm {fn : Func} {Post : Value → Mem → SHeap → Prop} {D : Nat} {H1 : SHeap} (hp : List.Perm H (.blk D (.deferred (some [])) :: H1)) (h : WQ n w0 (QFun P fn w0 Post) .normal r ds m H1) :
    WQ n w0 (QFun P fn w0 Post) .normal r (D :: ds) m H := by
  intro tmps w ho hs
  have hs1 := hs.perm hp
  have hD : w.heap[D]? = some (.deferred (some [])) := hs1.own _ List.mem_cons_self
  refine ⟨by simp, .inl ⟨D, w.putObj D (.deferred none), rfl, run_takeDeferred hD, ?_⟩⟩
  exact h tmps _ ho hs1.putObj.drop
end
end Go.Eng
