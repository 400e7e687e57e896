/-
  Parts of a walk, joined: EngE EngF EngG EngH. No condition.
-/
import Derived.Test.YtelgegefmjlimaaP1
import Derived.Laws.Cells
import Derived.Laws.CopyRow
import Derived.Deep.AppendSrc
import Derived.Laws.BytesString
import Derived.Laws.Tables
/-
  A walk's engine, fifth part: memory: variables, structs, rows. No condition.
-/
set_option linter.all false
namespace Go.Eng
open Go Go.RowKit

/-! ### what a cell holds -/
def Cell (w0 : World) (m : Mem) (H : SHeap) (a : Addr) (v : Value) : Prop := ∀ w, Sat w0 m H w → w.cell? a = some v
def Cells (w0 : World) (m : Mem) (H : SHeap) (a : Addr) (vs : List Value) : Prop := ∀ w, Sat w0 m H w → ∀ j v, vs[j]? = some v → w.cell? (a.add j) = some v
def Loads (P : Program) (w0 : World) (m : Mem) (H : SHeap) (t : TypeId) (a : Addr) (v : Value) : Prop := ∀ w, Sat w0 m H w → (loadVar t a).run P w = .ok v w
/-- a stretch of a list -/
inductive Seg : List Value → Nat → Nat → List Value → Prop
  | nil {L : List Value} {o : Nat} : Seg L o 0 []
  | cons {L : List Value} {o k : Nat} {v : Value} {vs : List Value} : L[o]? = some v → Seg L (o + 1) k vs → Seg L o (k + 1) (v :: vs)
theorem Seg.at_ {L vs : List Value} {o k : Nat} (h : Seg L o k vs) : vs.length = k ∧ ∀ j v, vs[j]? = some v → L[o + j]? = some v := by
  induction h with
  | nil => exact ⟨rfl, fun j v h => by simp at h⟩
  | cons h1 _ ih =>
    refine ⟨by simp [ih.1], fun j v hj => ?_⟩
    cases j with
    | zero => simp at hj; subst hj; exact h1
    | succ j =>
      have := ih.2 j v (by simpa using hj)
      rw [← this]; congr 1; omega
/-- a list, written out -/
inductive NF : List Value → List Value → Prop
  | nil {L : List Value} : L = [] → NF L []
  | cons {L L' : List Value} {v : Value} {vs : List Value} : L = v :: L' → NF L' vs → NF L (v :: vs)
theorem NF.eq {L vs : List Value} (h : NF L vs) : L = vs := by
  induction h with
  | nil h => exact h
  | cons h _ ih => rw [h, ih]
theorem add_none (b o j : Nat) : (⟨b, o, none⟩ : Addr).add j = ⟨b, o + j, none⟩ := by
  unfold Addr.add
  split
  · rename_i h; subst h; rfl
  · rfl
theorem add_eq {a : Addr} (h : a.spot = none) (j : Nat) : a.add j = ⟨a.block, a.off + j, none⟩ := by
  obtain ⟨b, o, s⟩ := a
  simp only at h; subst h
  exact add_none b o j

section
variable {P : Program} {ro : Option Nat} {n : Nat} {w0 : World} {Q : Exit → Act → World → Prop} {r : Env} {ds : List Nat} {m : Mem} {H : SHeap}
  {ops : Array Oper} {l : List Oper} {d : Nat} {ty : TypeId} {pos : String} {after : Array Edge}

theorem Cell.blk {b o : Nat} {L : List Value} {T : TypeId} {fz : Nat × Nat} {v : Value} (hm : Item.blk b (.cells L.toArray T fz) ∈ H) (hv : L[o]? = some v) : Cell w0 m H ⟨b, o, none⟩ v := by
  intro w hs
  have : w.heap[b]? = _ := hs.own _ hm
  simp [World.cell?, this, hv]
theorem Cells.blk {b o k : Nat} {L vs : List Value} {T : TypeId} {fz : Nat × Nat} (hm : Item.blk b (.cells L.toArray T fz) ∈ H) (hv : Seg L o k vs) : Cells w0 m H ⟨b, o, none⟩ vs := by
  intro w hs j v hj
  rw [add_none]
  exact Cell.blk hm (hv.at_.2 j v hj) w hs
theorem flatten_at : ∀ {es : List (List Value)} {sz i : Nat} {e : List Value}, (∀ x ∈ es, x.length = sz) → es[i]? = some e → ∀ j v, e[j]? = some v → es.flatten[i * sz + j]? = some v
  | x :: es, sz, 0, e, hl, hi, j, v, hj => by
    simp at hi; subst hi
    rw [List.flatten_cons, Nat.zero_mul, Nat.zero_add, List.getElem?_append_left (List.getElem?_eq_some_iff.1 hj).1]
    exact hj
  | x :: es, sz, i + 1, e, hl, hi, j, v, hj => by
    have hx := hl x List.mem_cons_self
    rw [List.flatten_cons, List.getElem?_append_right (by rw [hx, Nat.succ_mul]; omega)]
    rw [show (i + 1) * sz + j - x.length = i * sz + j by rw [hx, Nat.succ_mul]; omega]
    exact flatten_at (fun y hy => hl y (List.mem_cons_of_mem _ hy)) (by simpa using hi) j v hj
theorem row_at {w : World} {a : Addr} {cap : Nat} {T : TypeId} {sz : Nat} {es : List (List Value)} {i : Nat} {e : List Value} (h : Item.holds w (.row (some a) cap T sz es)) (hi : es[i]? = some e) :
    a.spot = none ∧ ∀ j v, e[j]? = some v → w.cell? (a.add (i * sz + j)) = some v := by
  obtain ⟨arr, fz, h1, h2, h3, h4, h5, h6, _⟩ := h
  have hsp : a.spot = none := by rw [h1]
  have hoff : a.off = 0 := by rw [h1]
  refine ⟨hsp, fun j v hj => ?_⟩
  have h7 := flatten_at h6 hi j v hj
  rw [← h5, List.getElem?_take] at h7
  split at h7
  · rw [add_eq hsp, hoff]
    simp only [World.cell?, h2]
    simpa using h7
  · cases h7
theorem Cells.row {a : Addr} {cap : Nat} {T : TypeId} {sz k i : Nat} {es : List (List Value)} {e : List Value} (hm : Item.row (some a) cap T sz es ∈ H) (hi : es[i]? = some e) (hk : k = i * sz) :
    Cells w0 m H (a.add k) e := by
  subst hk
  intro w hs j v hj
  have hr := row_at (hs.own _ hm) hi
  have := hr.2 j v hj
  rw [add_eq hr.1] at this ⊢
  rw [add_none, Nat.add_assoc]
  exact this
/-- a part of what is known -/
theorem Cells.part {a : Addr} {vs ws : List Value} {o k : Nat} (h : Cells w0 m H a vs) (hsp : a.spot = none) (hv : Seg vs o k ws) : Cells w0 m H (a.add o) ws := by
  intro w hs j v hj
  have := h w hs _ v (hv.at_.2 j v hj)
  rw [add_eq hsp] at this ⊢
  rw [add_none, Nat.add_assoc]
  exact this
theorem add_spot {a : Addr} (h : a.spot = none) (k : Nat) : (a.add k).spot = none := by rw [add_eq h]
theorem Cells.cell {a : Addr} {v : Value} (h : Cells w0 m H a [v]) : Cell w0 m H a v := fun w hs => by
  have := h w hs 0 v rfl
  simpa [Addr.add] using this
/-- a row that stays as it is, wherever it begins -/
def PRow (m : Mem) (T : TypeId) (sz : Nat) : Value → List (List Value) → Prop
  | .slice none len _, es => es = [] ∧ len = 0
  | .slice (some a) len _, es => a.spot = none ∧ len = es.length ∧ (∀ e ∈ es, e.length = sz) ∧ ∃ arr fz, m a.block = some (.cells arr T fz) ∧ ∀ j v, es.flatten[j]? = some v → arr[a.off + j]? = some v
  | _, _ => False
theorem PRow.le {m m' : Mem} {T : TypeId} {sz : Nat} {v : Value} {es : List (List Value)} (h : PRow m T sz v es) (hm : m.le m') : PRow m' T sz v es := by
  match v, h with
  | .slice none _ _, h => exact h
  | .slice (some a) _ _, ⟨h1, h2, h3, arr, fz, h4, h5⟩ => exact ⟨h1, h2, h3, arr, fz, hm _ _ h4, h5⟩
theorem PRow.len {m : Mem} {T : TypeId} {sz : Nat} {v : Value} {es : List (List Value)} (h : PRow m T sz v es) : ∃ a cap, v = .slice a es.length cap := by
  match v, h with
  | .slice none len cap, ⟨h1, h2⟩ => subst h1; subst h2; exact ⟨none, cap, rfl⟩
  | .slice (some a) len cap, ⟨_, h2, _⟩ => subst h2; exact ⟨some a, cap, rfl⟩
theorem Cells.prow {a : Addr} {len cap : Nat} {T : TypeId} {sz k i : Nat} {es : List (List Value)} {e : List Value} (hp : PRow m T sz (.slice (some a) len cap) es) (hi : es[i]? = some e) (hk : k = i * sz) :
    Cells w0 m H (a.add k) e := by
  subst hk
  obtain ⟨h1, _, h3, arr, fz, h4, h5⟩ := hp
  intro w hs j v hj
  have h6 := h5 _ v (flatten_at h3 hi j v hj)
  rw [add_eq h1, add_none]
  simp [World.cell?, hs.pers _ _ h4, Nat.add_assoc, h6]

theorem Loads.one {t : TypeId} {a : Addr} {v : Value} (hu : aggB P t = some false) (hc : Cell w0 m H a v) : Loads P w0 m H t a v := by
  intro w hs
  simp only [loadVar, Sem.run_bind, run_agg hu, Result.andThen_ok, Bool.false_eq_true, if_false]
  rw [run_load, hc w hs]
theorem Loads.agg {t : TypeId} {a : Addr} {vs : List Value} {k : Nat} (hu : aggB P t = some true) (hz : sizeB P t = some k) (hk : vs.length = k) (hc : Cells w0 m H a vs) : Loads P w0 m H t a (.agg vs.toArray) := by
  intro w hs
  have := run_loadCells_list (P := P) (w := w) a vs (fun j v hj => hc w hs j v hj)
  rw [hk] at this
  simp only [loadVar, Sem.run_bind, run_agg hu, Result.andThen_ok, if_true, run_size hz, this, Sem.run_pure]
theorem Loads.blk {t : TypeId} {b o k : Nat} {L vs : List Value} {T : TypeId} {fz : Nat × Nat} (hu : aggB P t = some true) (hz : sizeB P t = some k) (hm : Item.blk b (.cells L.toArray T fz) ∈ H) (hv : Seg L o k vs) : Loads P w0 m H t ⟨b, o, none⟩ (.agg vs.toArray) :=
  .agg hu hz hv.at_.1 (Cells.blk hm hv)
theorem Loads.whole {t : TypeId} {b k : Nat} {L : List Value} {T : TypeId} {fz : Nat × Nat} (hu : aggB P t = some true) (hz : sizeB P t = some k) (hm : Item.blk b (.cells L.toArray T fz) ∈ H) (hk : L.length = k) : Loads P w0 m H t ⟨b, 0, none⟩ (.agg L.toArray) :=
  .agg hu hz hk (fun w hs j v hj => by rw [add_none]; exact Cell.blk hm (by simpa using hj) w hs)
theorem Loads.row {t : TypeId} {a : Addr} {cap : Nat} {T : TypeId} {sz i kk k : Nat} {es : List (List Value)} {e : List Value} (hm : Item.row (some a) cap T sz es ∈ H) (hi : es[i]? = some e) (hkk : kk = i * sz) (hu : aggB P t = some true) (hz : sizeB P t = some k) (hl : e.length = k) :
    Loads P w0 m H t (a.add kk) (.agg e.toArray) := .agg hu hz hl (Cells.row hm hi hkk)
theorem Loads.row1 {t : TypeId} {a : Addr} {cap : Nat} {T : TypeId} {sz i kk : Nat} {es : List (List Value)} {v : Value} (hm : Item.row (some a) cap T sz es ∈ H) (hi : es[i]? = some [v]) (hkk : kk = i * sz) (hu : aggB P t = some false) :
    Loads P w0 m H t (a.add kk) v := .one hu (Cells.cell (Cells.row hm hi hkk))
theorem WL.load {t : TypeId} {x : Operand} {a : Addr} {v : Value} (hx : r.ev x = some (.pointer (some a))) (hl : Loads P w0 m H t a v) (hd : Nat.blt d n = true)
    (h : WL P ro n w0 ops Q l ((d, v) :: r) ds m H) : WL P ro n w0 ops Q (⟨some d, .load t x, ty, pos, after, none⟩ :: l) r ds m H :=
  .val hd (fun _ h => by cases h) (fun tmps w ho hs => by
    simp only [execOp, Instr.loadAt, Instr.sureAddr, ho.ev hx, Sem.run_bind, Sem.run_pure, Result.andThen_ok, hl w hs]) h

theorem w_load {t : TypeId} {x : Operand} {a : Addr} {v : Value} (h : WL P ro n w0 ops Q l ((d, v) :: r) ds m H) (hx : r.ev x = some (.pointer (some a)) := by exact rfl) (hl : Loads P w0 m H t a v := by (first | (apply Loads.one; (· exact rfl); (· first | (apply Cell.blk; (· (repeat (first | exact List.Mem.head _ | apply List.Mem.tail))); (· exact rfl)) | (apply Cell.mem; (· assumption); (· exact rfl)))) | (apply Loads.whole; (· exact rfl); (· exact rfl); (· (repeat (first | exact List.Mem.head _ | apply List.Mem.tail))); (· exact rfl)) | (apply Loads.blk; (· exact rfl); (· exact rfl); (· (repeat (first | exact List.Mem.head _ | apply List.Mem.tail))); (· (repeat (first | exact Seg.nil | (apply Seg.cons; (· exact rfl)))))) | (apply Loads.row; (· (repeat (first | exact List.Mem.head _ | apply List.Mem.tail))); (first | (rotate_left; (· exact rfl); rotate_right; (· assumption)) | ((· assumption); (· exact rfl))); (· exact rfl); (· exact rfl); (· exact rfl)) | (apply Loads.row1; (· (repeat (first | exact List.Mem.head _ | apply List.Mem.tail))); (first | (rotate_left; (· exact rfl); rotate_right; (· assumption)) | ((· assumption); (· exact rfl))); (· exact rfl)) | (apply Loads.rowF; (· (repeat (first | exact List.Mem.head _ | apply List.Mem.tail))); (first | (rotate_left; (· exact rfl); rotate_right; (· assumption)) | ((· assumption); (· exact rfl))); (· exact rfl); (· exact rfl)) | (apply Loads.prow; (· assumption); (first | (rotate_left; (· exact rfl); rotate_right; (· assumption)) | ((· assumption); (· exact rfl))); (· exact rfl); (· exact rfl); (· exact rfl)) | (apply Loads.prow1; (· assumption); (first | (rotate_left; (· exact rfl); rotate_right; (· assumption)) | ((· assumption); (· exact rfl))); (· exact rfl)) | (apply Loads.prowF; (· assumption); (first | (rotate_left; (· exact rfl); rotate_right; (· assumption)) | ((· assumption); (· exact rfl))); (· exact rfl); (· exact rfl)) | (apply Loads.rrow; (· assumption); (first | (rotate_left; (· exact rfl); rotate_right; (· assumption)) | ((· assumption); (· exact rfl))); (· exact rfl); (· exact rfl); (· exact rfl)) | (apply Loads.rrow1; (· assumption); (first | (rotate_left; (· exact rfl); rotate_right; (· assumption)) | ((· assumption); (· exact rfl))); (· exact rfl)) | (apply Loads.rrowF; (· assumption); (first | (rotate_left; (· exact rfl); rotate_right; (· assumption)) | ((· assumption); (· exact rfl))); (· exact rfl); (· exact rfl)) | (apply Loads.rowS; (· (repeat (first | exact List.Mem.head _ | apply List.Mem.tail))); (first | (rotate_left; (· exact rfl); rotate_right; (· assumption)) | ((· assumption); (· exact rfl))); (· exact rfl); (· exact rfl); (· (repeat (first | exact Seg.nil | (apply Seg.cons; (· exact rfl)))))))) (hd : Nat.blt d n = true := by exact rfl) : WL P ro n w0 ops Q (⟨some d, .load t x, ty, pos, after, none⟩ :: l) r ds m H := WL.load hx hl hd h
/-! ### new variables -/
theorem WL.alloc {t : TypeId} {z : Value} {cs : List Value} (hz : zeroB P t = some z) (hc : z.cells = cs.toArray) (hd : Nat.blt d n = true)
    (h : ∀ b, WL P ro n w0 ops Q l ((d, .pointer (some ⟨b, 0, none⟩)) :: r) ds m (.blk b (.cells cs.toArray t (0, 0)) :: H)) :
    WL P ro n w0 ops Q (⟨some d, .alloc t, ty, pos, after, none⟩ :: l) r ds m H :=
  .gen (fun v m' H' => ∃ b, v = .pointer (some ⟨b, 0, none⟩) ∧ m' = m ∧ H' = .blk b (.cells cs.toArray t (0, 0)) :: H) hd (fun _ h => by cases h)
    (fun tmps w ho hs => ⟨_, m, _, w.alloc (.cells cs.toArray t (0, 0)), by
      simp only [execOp, Instr.alloc, Sem.run_bind, run_zero hz, Result.andThen_ok, newVar, newRow, hc, run_newObj_alloc, Sem.run_pure], hs.alloc _, w.heap.size, rfl, rfl, rfl⟩)
    (by rintro _ _ _ ⟨b, rfl, rfl, rfl⟩; exact h b)
theorem w_alloc {t : TypeId} {z : Value} {cs : List Value} (h : ∀ b, WL P ro n w0 ops Q l ((d, .pointer (some ⟨b, 0, none⟩)) :: r) ds m (.blk b (.cells cs.toArray t (0, 0)) :: H)) (hz : zeroB P t = some z := by exact rfl) (hc : z.cells = cs.toArray := by exact rfl) (hd : Nat.blt d n = true := by exact rfl) : WL P ro n w0 ops Q (⟨some d, .alloc t, ty, pos, after, none⟩ :: l) r ds m H := WL.alloc hz hc hd h
theorem WL.box {t : TypeId} {x : Operand} {v : Value} {cs : List Value} (hx : r.ev x = some v) (hc : v.cells = cs.toArray) (hd : Nat.blt d n = true)
    (h : ∀ b, WL P ro n w0 ops Q l ((d, .pointer (some ⟨b, 0, none⟩)) :: r) ds m (.blk b (.cells cs.toArray t (0, 0)) :: H)) :
    WL P ro n w0 ops Q (⟨some d, .box t x, ty, pos, after, none⟩ :: l) r ds m H :=
  .gen (fun v m' H' => ∃ b, v = .pointer (some ⟨b, 0, none⟩) ∧ m' = m ∧ H' = .blk b (.cells cs.toArray t (0, 0)) :: H) hd (fun _ h => by cases h)
    (fun tmps w ho hs => ⟨_, m, _, w.alloc (.cells cs.toArray t (0, 0)), by
      simp only [execOp, Instr.box, Sem.run_bind, Result.andThen_ok, newVar, newRow, hc, ho.ev hx, run_newObj_alloc, Sem.run_pure], hs.alloc _, w.heap.size, rfl, rfl, rfl⟩)
    (by rintro _ _ _ ⟨b, rfl, rfl, rfl⟩; exact h b)

theorem w_box {t : TypeId} {x : Operand} {v : Value} {cs : List Value} (h : ∀ b, WL P ro n w0 ops Q l ((d, .pointer (some ⟨b, 0, none⟩)) :: r) ds m (.blk b (.cells cs.toArray t (0, 0)) :: H)) (hx : r.ev x = some v := by exact rfl) (hc : v.cells = cs.toArray := by exact rfl) (hd : Nat.blt d n = true := by exact rfl) : WL P ro n w0 ops Q (⟨some d, .box t x, ty, pos, after, none⟩ :: l) r ds m H := WL.box hx hc hd h
/-! ### stores into a block that is known whole -/
/-- the list with vs laid from place o on -/
def laid : List Value → Nat → List Value → List Value
  | L, _, [] => L
  | L, o, v :: vs => laid (L.set o v) (o + 1) vs
theorem laid_length : ∀ (vs : List Value) (L : List Value) (o : Nat), (laid L o vs).length = L.length
  | [], _, _ => rfl
  | v :: vs, L, o => by simp [laid, laid_length vs]
def okCell (v : Value) : Bool := v.oneCell'
theorem run_laid {b : Nat} {T : TypeId} {fz : Nat × Nat} {w0 : World} {m : Mem} : ∀ (vs : List Value) (i o : Nat) (L : List Value) (H : SHeap) (w : World), o + i + vs.length ≤ L.length → (fz.1 = fz.2 ∨ fz.2 ≤ o + i ∨ L.length ≤ fz.1) → vs.all okCell = true →
    Sat w0 m (.blk b (.cells L.toArray T fz) :: H) w → ∃ w', (storeCells ⟨b, o, none⟩ vs i).run P w = .ok () w' ∧ Sat w0 m (.blk b (.cells (laid L (o + i) vs).toArray T fz) :: H) w'
  | [], i, o, L, H, w, _, _, _, hs => ⟨w, rfl, hs⟩
  | v :: vs, i, o, L, H, w, hl, hf, ha, hs => by
    simp only [List.all_cons, Bool.and_eq_true] at ha
    have hb : w.heap[b]? = some (.cells L.toArray T fz) := hs.own _ List.mem_cons_self
    have hlen : o + i < L.length := by simp at hl; omega
    have hst : (store ⟨b, o + i, none⟩ v).run P w = .ok () (w.setCell ⟨b, o + i, none⟩ v) := by
      have hc : w.cell? ⟨b, o + i, none⟩ = some L[o + i] := by simp [World.cell?, hb, List.getElem?_eq_getElem hlen]
      have hfz : w.frozen? ⟨b, o + i, none⟩ = false := by
        simp only [World.frozen?, hb]
        rcases hf with h | h | h
        · simp; omega
        · simp; omega
        · simp; omega
      have ho : v.oneCell' = true := ha.1
      cases v <;> first | (simp [Value.oneCell'] at ho; done) | (simp [store, Sem.run, hc, hfz])
    have hs' : Sat w0 m (.blk b (.cells (L.set (o + i) v).toArray T fz) :: H) (w.setCell ⟨b, o + i, none⟩ v) := by
      refine hs.turn (j := .blk b (.cells (L.set (o + i) v).toArray T fz)) rfl rfl rfl (by simp) (fun k _ hk => Below.heap_setCell _ _ _ _ (by simpa [Item.foot] using hk)) ?_ (fun _ hx => .inl hx) (by simp [Item.foot])
      show (w.heap.modify b _)[b]? = _
      rw [Array.getElem?_modify, if_pos rfl, hb]
      simp
    obtain ⟨w', h1, h2⟩ := run_laid vs (i + 1) o (L.set (o + i) v) H _ (by simp at hl ⊢; omega) (by rcases hf with h | h | h; exact .inl h; exact .inr (.inl (by omega)); exact .inr (.inr (by simpa using h))) ha.2 hs'
    refine ⟨w', ?_, h2⟩
    simp only [storeCells, add_none, Sem.run_bind, hst, Result.andThen_ok]
    exact h1
theorem Sat.at_ {i : Item} {w : World} (h : Sat w0 m H w) (hi : i ∈ H) : ∃ H1, List.Perm H (i :: H1) := by
  obtain ⟨s, t, e⟩ := List.append_of_mem hi
  subst e
  exact ⟨s ++ t, List.perm_middle⟩
/-- a store of whole cells into a block known whole -/
theorem WL.store {t : TypeId} {x y : Operand} {b o k : Nat} {T : TypeId} {fz : Nat × Nat} {L vs L' : List Value} {v : Value} {H' : SHeap} (hx : r.ev x = some (.pointer (some ⟨b, o, none⟩))) (hy : r.ev y = some v)
    (hv : v.cells = vs.toArray) (hz : sizeB P t = some k) (hk : vs.length = k) (hr : Repl (.blk b (.cells L.toArray T fz)) (.blk b (.cells L'.toArray T fz)) H H') (hnf : NF (laid L o vs) L')
    (hl : Nat.ble (o + k) L.length = true) (hf : fz.1 = fz.2 ∨ fz.2 ≤ o) (ha : vs.all okCell = true) (h : WL P ro n w0 ops Q l r ds m H') :
    WL P ro n w0 ops Q (⟨none, .store t x y, ty, pos, after, none⟩ :: l) r ds m H :=
  .act (fun m' H'' => m' = m ∧ H'' = H') rfl (fun _ h => by cases h)
    (fun tmps w ho hs => by
      have hnf' := hnf.eq
      subst hnf'
      obtain ⟨H1, p1, p2⟩ := hr.perm
      obtain ⟨w', h1, h2⟩ := run_laid (P := P) vs 0 o L H1 w (by simp at hl; omega) (by rcases hf with h | h; exact .inl h; exact .inr (.inl (by simpa using h))) ha (hs.perm p1)
      refine ⟨m, H', w', ?_, h2.perm p2.symm, rfl, rfl⟩
      simp only [execOp, Instr.storeAt, Instr.sureAddr, storeVar, ho.ev hx, ho.ev hy, hv, Sem.run_bind, Sem.run_pure, Result.andThen_ok, run_size hz]
      simp only [List.size_toArray, hk, ne_eq, not_true_eq_false, if_false, h1, Result.andThen_ok])
    (by rintro _ _ ⟨rfl, rfl⟩; exact h)

theorem w_store {t : TypeId} {x y : Operand} {b o k : Nat} {T : TypeId} {fz : Nat × Nat} {L vs L' : List Value} {v : Value} {H' : SHeap} (h : WL P ro n w0 ops Q l r ds m H') (hx : r.ev x = some (.pointer (some ⟨b, o, none⟩)) := by exact rfl) (hy : r.ev y = some v := by exact rfl) (hv : v.cells = vs.toArray := by exact rfl) (hz : sizeB P t = some k := by exact rfl) (hk : vs.length = k := by exact rfl) (hr : Repl (.blk b (.cells L.toArray T fz)) (.blk b (.cells L'.toArray T fz)) H H' := by (repeat (first | exact Repl.here | apply Repl.there))) (hnf : NF (laid L o vs) L' := by (repeat (first | (apply NF.cons; (· exact rfl)) | exact NF.nil rfl))) (hl : Nat.ble (o + k) L.length = true := by exact rfl) (hf : fz.1 = fz.2 ∨ fz.2 ≤ o := by exact .inl rfl) (ha : vs.all okCell = true := by exact rfl) : WL P ro n w0 ops Q (⟨none, .store t x y, ty, pos, after, none⟩ :: l) r ds m H := WL.store hx hy hv hz hk hr hnf hl hf ha h
/-! ### structs -/
def fieldB (P : Program) (t : TypeId) (i : Nat) : Option (Nat × TypeId) := match P.underlying t with
  | some (.struct fs) => (fs[i]?).bind fun f => match lit f.offset with
    | some o => some (o, f.type)
    | none => none
  | _ => none
theorem field_of {t : TypeId} {i o : Nat} {u : TypeId} (h : fieldB P t i = some (o, u)) : ∃ fs f, P.underlying t = some (.struct fs) ∧ fs[i]? = some f ∧ f.offset = o ∧ f.type = u := by
  unfold fieldB at h
  split at h
  · rename_i fs hu
    cases hf : fs[i]? with
    | none => simp [hf] at h
    | some f => simp [hf, lit_eq] at h; exact ⟨fs, f, hu, hf, h.1, h.2⟩
  · cases h
theorem WL.fieldAddr {t u : TypeId} {x : Operand} {a : Addr} {i o k : Nat} (hx : r.ev x = some (.pointer (some a))) (hf : fieldB P t i = some (o, u)) (hz : sizeB P u = some (k + 1)) (hd : Nat.blt d n = true)
    (h : WL P ro n w0 ops Q l ((d, .pointer (some (a.add o))) :: r) ds m H) : WL P ro n w0 ops Q (⟨some d, .fieldAddr t x i, ty, pos, after, none⟩ :: l) r ds m H := by
  obtain ⟨fs, f, hu, hfi, ho', ht⟩ := field_of hf
  subst ho'; subst ht
  refine .val hd (fun _ h => by cases h) (fun tmps w ho _ => ?_) h
  simp only [execOp, Instr.fieldAt, Sem.run_bind, run_underlying hu, Result.andThen_ok, hfi, ho.ev hx, Instr.sureAddr, Sem.run_pure, fieldPlace, run_size hz]
  simp
theorem w_fieldAddr {t u : TypeId} {x : Operand} {a : Addr} {i o k : Nat} (h : WL P ro n w0 ops Q l ((d, .pointer (some (a.add o))) :: r) ds m H) (hx : r.ev x = some (.pointer (some a)) := by exact rfl) (hf : fieldB P t i = some (o, u) := by exact rfl) (hz : sizeB P u = some (k + 1) := by exact rfl) (hd : Nat.blt d n = true := by exact rfl) : WL P ro n w0 ops Q (⟨some d, .fieldAddr t x i, ty, pos, after, none⟩ :: l) r ds m H := WL.fieldAddr hx hf hz hd h
/-- the same at an address that is written out -/
theorem WL.fieldAddr0 {t u : TypeId} {x : Operand} {b p i o k : Nat} (hx : r.ev x = some (.pointer (some ⟨b, p, none⟩))) (hf : fieldB P t i = some (o, u)) (hz : sizeB P u = some (k + 1)) (hd : Nat.blt d n = true) {q : Nat} (hq : lit (p + o) = some q)
    (h : WL P ro n w0 ops Q l ((d, .pointer (some ⟨b, q, none⟩)) :: r) ds m H) : WL P ro n w0 ops Q (⟨some d, .fieldAddr t x i, ty, pos, after, none⟩ :: l) r ds m H :=
  .fieldAddr hx hf hz hd (by rw [lit_eq] at hq; rw [add_none, Option.some.inj hq]; exact h)
theorem w_fieldAddr0 {t u : TypeId} {x : Operand} {b p i o k : Nat} {q : Nat} (h : WL P ro n w0 ops Q l ((d, .pointer (some ⟨b, q, none⟩)) :: r) ds m H) (hx : r.ev x = some (.pointer (some ⟨b, p, none⟩)) := by exact rfl) (hf : fieldB P t i = some (o, u) := by exact rfl) (hz : sizeB P u = some (k + 1) := by exact rfl) (hd : Nat.blt d n = true := by exact rfl) (hq : lit (p + o) = some q := by exact rfl) : WL P ro n w0 ops Q (⟨some d, .fieldAddr t x i, ty, pos, after, none⟩ :: l) r ds m H := WL.fieldAddr0 hx hf hz hd hq h
theorem seg_extract {vs ws : List Value} {o k : Nat} (hv : Seg vs o k ws) : vs.toArray.extract o (o + k) = ws.toArray := by
  apply Array.ext'
  simp only [List.extract_toArray, List.extract_eq_take_drop]
  apply List.ext_getElem?
  intro j
  have h1 := hv.at_
  by_cases hj : j < k
  · have := h1.2 j ws[j] (List.getElem?_eq_getElem (by omega))
    simp [hj, this, List.getElem?_eq_getElem (show j < ws.length by omega)]
  · simp [List.getElem?_take, hj, List.getElem?_eq_none (show ws.length ≤ j by omega)]
theorem WL.field1 {t u : TypeId} {x : Operand} {vs : List Value} {i o : Nat} {v : Value} (hx : r.ev x = some (.agg vs.toArray)) (hf : fieldB P t i = some (o, u)) (hu : aggB P u = some false) (hv : vs[o]? = some v) (hd : Nat.blt d n = true)
    (h : WL P ro n w0 ops Q l ((d, v) :: r) ds m H) : WL P ro n w0 ops Q (⟨some d, .field t x i, ty, pos, after, none⟩ :: l) r ds m H := by
  obtain ⟨fs, f, hu', hfi, ho', ht⟩ := field_of hf
  subst ho'; subst ht
  refine .val hd (fun _ h => by cases h) (fun tmps w ho _ => ?_) h
  simp only [execOp, Instr.field, Sem.run_bind, run_underlying hu', Result.andThen_ok, hfi, ho.ev hx, asAgg, Sem.run_pure, part, run_agg hu, Bool.false_eq_true, if_false]
  simp [hv]
theorem w_field1 {t u : TypeId} {x : Operand} {vs : List Value} {i o : Nat} {v : Value} (h : WL P ro n w0 ops Q l ((d, v) :: r) ds m H) (hx : r.ev x = some (.agg vs.toArray) := by exact rfl) (hf : fieldB P t i = some (o, u) := by exact rfl) (hu : aggB P u = some false := by exact rfl) (hv : vs[o]? = some v := by exact rfl) (hd : Nat.blt d n = true := by exact rfl) : WL P ro n w0 ops Q (⟨some d, .field t x i, ty, pos, after, none⟩ :: l) r ds m H := WL.field1 hx hf hu hv hd h
theorem WL.fieldN {t u : TypeId} {x : Operand} {vs ws : List Value} {i o k : Nat} (hx : r.ev x = some (.agg vs.toArray)) (hf : fieldB P t i = some (o, u)) (hu : aggB P u = some true) (hz : sizeB P u = some k) (hv : Seg vs o k ws) (hd : Nat.blt d n = true)
    (h : WL P ro n w0 ops Q l ((d, .agg ws.toArray) :: r) ds m H) : WL P ro n w0 ops Q (⟨some d, .field t x i, ty, pos, after, none⟩ :: l) r ds m H := by
  obtain ⟨fs, f, hu', hfi, ho', ht⟩ := field_of hf
  subst ho'; subst ht
  refine .val hd (fun _ h => by cases h) (fun tmps w ho _ => ?_) h
  simp only [execOp, Instr.field, Sem.run_bind, run_underlying hu', Result.andThen_ok, hfi, ho.ev hx, asAgg, Sem.run_pure, part, run_agg hu, if_true, run_size hz, seg_extract hv]

/-! ### building -/
/-- the parts, laid one behind the other over what stood there -/
def overlay : List Value → List (Nat × Value) → List Value
  | L, [] => L
  | L, (o, v) :: rest => overlay (laid L o v.cells.toList) rest
theorem foldl_laid (o : Nat) : ∀ (vs : List Value) (k : Nat) (cs : Array Value),
    ((vs.zipIdx k).foldl (fun cs (p : Value × Nat) => cs.setIfInBounds (o + p.2) p.1) cs).toList = laid cs.toList (o + k) vs
  | [], k, cs => rfl
  | v :: vs, k, cs => by
    simp only [List.zipIdx_cons, List.foldl_cons, laid]
    rw [foldl_laid o vs (k + 1)]
    simp [Nat.add_assoc]
theorem fill_ok (place : Nat → Option (Nat × Nat)) : ∀ (parts : List (Nat × Value)) (placed : List (Nat × Value)) (cs : Array Value),
    parts.map (fun p => ((place p.1).map (·.1)).getD 0) = placed.map (·.1) → parts.map (·.2) = placed.map (·.2) →
    (parts.all fun p => match place p.1 with | some (o, s) => Nat.beq p.2.cells.size s && Nat.ble (o + s) cs.size | none => false) = true →
    Instr.fill place cs parts = some (overlay cs.toList placed).toArray
  | [], placed, cs, h1, h2, _ => by
    cases placed with
    | nil => simp [Instr.fill, overlay]
    | cons _ _ => simp at h1
  | (i, v) :: parts, placed, cs, h1, h2, h3 => by
    cases placed with
    | nil => simp at h1
    | cons q placed =>
      obtain ⟨o, u⟩ := q
      simp only [List.map_cons, List.cons.injEq] at h1 h2
      simp only [List.all_cons, Bool.and_eq_true] at h3
      obtain ⟨h2a, h2b⟩ := h2
      subst h2a
      cases hp : place i with
      | none => simp [hp] at h3
      | some os =>
        obtain ⟨o', s⟩ := os
        simp [hp] at h1 h3
        obtain ⟨h1a, h1b⟩ := h1
        subst h1a
        obtain ⟨⟨h3a, h3b⟩, h3c⟩ := h3
        have hf := foldl_laid o' v.cells.toList 0 cs
        simp only [Instr.fill, hp]
        rw [if_neg (by simp [h3a]; omega)]
        have e : v.cells.zipIdx.foldl (fun cs (c, j) => cs.setIfInBounds (o' + j) c) cs = (v.cells.toList.zipIdx 0).foldl (fun cs (p : Value × Nat) => cs.setIfInBounds (o' + p.2) p.1) cs := by
          rw [← Array.foldl_toList]; simp
        rw [e]
        have hsz : ((v.cells.toList.zipIdx 0).foldl (fun cs (p : Value × Nat) => cs.setIfInBounds (o' + p.2) p.1) cs).size = cs.size := by
          rw [← Array.length_toList, hf, laid_length, Array.length_toList]
        have := fill_ok place parts placed ((v.cells.toList.zipIdx 0).foldl (fun cs (p : Value × Nat) => cs.setIfInBounds (o' + p.2) p.1) cs) h1b h2b (by
          rw [hsz]
          simpa using h3c)
        rw [this, hf]
        rfl
end
end Go.Eng

/-
  A walk's engine, sixth part: building values, rows that grow, a function's results. No condition.
-/
set_option linter.all false
namespace Go.Eng
open Go Go.RowKit

/-! ### building a struct, a row -/
def placesB (P : Program) (t : TypeId) : Option (List (Nat × Nat)) := match P.underlying t with
  | some (.struct fs) => fs.toList.mapM fun f => (P.info? f.type).map fun i => (f.offset, i.size)
  | _ => none
/-- the parts, each at its place -/
def placedB (ps : List (Nat × Nat)) : List (Nat × Value) → List (Nat × Value)
  | [] => []
  | (i, v) :: rest => (((ps[i]?).map (·.1)).getD 0, v) :: placedB ps rest
theorem placedB_eq (ps : List (Nat × Nat)) : ∀ parts : List (Nat × Value), placedB ps parts = parts.map fun p => (((ps[p.1]?).map (·.1)).getD 0, p.2)
  | [] => rfl
  | (i, v) :: rest => by simp [placedB, placedB_eq ps rest]
def placedA (sz : Nat) : List (Nat × Value) → List (Nat × Value)
  | [] => []
  | (i, v) :: rest => (i * sz, v) :: placedA sz rest
theorem placedA_eq (sz : Nat) : ∀ parts : List (Nat × Value), placedA sz parts = parts.map fun p => (p.1 * sz, p.2)
  | [] => rfl
  | (i, v) :: rest => by simp [placedA, placedA_eq sz rest]
def fitsB (ps : List (Nat × Nat)) (k : Nat) (parts : List (Nat × Value)) : Bool :=
  parts.all fun p => match ps[p.1]? with | some (o, s) => Nat.beq p.2.cells.size s && Nat.ble (o + s) k | none => false
def Env.evp (r : Env) : List (Nat × Operand) → Option (List (Nat × Value))
  | [] => some []
  | (i, o) :: l => match r.ev o, r.evp l with
    | some v, some vs => some ((i, v) :: vs)
    | _, _ => none
theorem Env.ok.evp {n : Nat} {r : Env} {tmps : Array Value} (h : r.ok n tmps) (ds : List Deferred) : ∀ {l : List (Nat × Operand)} {vs : List (Nat × Value)}, r.evp l = some vs → l.map (fun p => (p.1, (Act.mk tmps ds).eval p.2)) = vs
  | [], vs, he => by simpa [Env.evp] using he
  | (i, o) :: l, vs, he => by
    simp only [Env.evp] at he
    cases h1 : r.ev o with
    | none => simp [h1] at he
    | some v =>
      cases h2 : Env.evp r l with
      | none => simp [h1, h2] at he
      | some ws =>
        simp [h1, h2] at he
        subst he
        simp [h.ev h1, h.evp ds h2]

section
variable {P : Program} {ro : Option Nat} {n : Nat} {w0 : World} {Q : Exit → Act → World → Prop} {r : Env} {ds : List Nat} {m : Mem} {H : SHeap}
  {ops : Array Oper} {l : List Oper} {d : Nat} {ty : TypeId} {pos : String} {after : Array Edge}

theorem run_places_of {t : TypeId} {ps : List (Nat × Nat)} (hps : placesB P t = some ps) : ∃ fs, P.underlying t = some (.struct fs) ∧ ∀ w, (fs.mapM fun f => (do pure (f.offset, ← sizeOf f.type) : Sem (Nat × Nat))).run P w = .ok ps.toArray w := by
  unfold placesB at hps
  cases hu : P.underlying t with
  | none => simp [hu] at hps
  | some q =>
    cases q with
    | struct fs =>
      simp only [hu] at hps
      refine ⟨fs, rfl, fun w => ?_⟩
      have hpl := run_places (P := P) w fs.toList ps hps
      rw [Array.mapM_eq_mapM_toList]
      have : (fs.toList.mapM fun f => (do pure (f.offset, ← sizeOf f.type) : Sem (Nat × Nat))) = fs.toList.mapM fun f => Prod.mk f.offset <$> sizeOf f.type := rfl
      rw [this]
      simp [hpl]
    | _ => simp [hu] at hps
theorem WL.build {t : TypeId} {parts : List (Nat × Operand)} {pv : List (Nat × Value)} {ps : List (Nat × Nat)} {z : Value} {k : Nat} {cs : List Value}
    (hp : r.evp parts = some pv) (hps : placesB P t = some ps) (hz : zeroB P t = some z) (hk : z.cells.size = k) (hfit : fitsB ps k pv = true) (hc : NF (overlay z.cells.toList (placedB ps pv)) cs)
    (hd : Nat.blt d n = true) (h : WL P ro n w0 ops Q l ((d, .agg cs.toArray) :: r) ds m H) : WL P ro n w0 ops Q (⟨some d, .build t parts.toArray, ty, pos, after, none⟩ :: l) r ds m H := by
  refine .val hd (fun _ h => by cases h) (fun tmps w ho _ => ?_) h
  have e1 := ho.evp (marks ds) hp
  obtain ⟨fs, hu, hpl⟩ := run_places_of hps
  have hc' := hc.eq
  try rw [placedA_eq] at hc'
  subst hc'
  have g1 := fill_ok (fun i => ps[i]?) pv (placedB ps pv) z.cells (by simp [placedB_eq]) (by simp [placedB_eq]) (by
    unfold fitsB at hfit
    rw [← hk] at hfit
    exact hfit)
  simp only [execOp, Instr.build, Sem.run_bind, run_zero hz, Result.andThen_ok, run_underlying hu, List.map_toArray, e1, hpl]
  have g1' : Instr.fill (fun x => ps.toArray[x]?) z.cells pv = some (overlay z.cells.toList (placedB ps pv)).toArray := by simpa using g1
  simp only [g1', Sem.run_pure, Result.andThen_ok]
theorem w_build {t : TypeId} {parts : List (Nat × Operand)} {pv : List (Nat × Value)} {ps : List (Nat × Nat)} {z : Value} {k : Nat} {cs : List Value} (h : WL P ro n w0 ops Q l ((d, .agg cs.toArray) :: r) ds m H) (hp : r.evp parts = some pv := by exact rfl) (hps : placesB P t = some ps := by exact rfl) (hz : zeroB P t = some z := by exact rfl) (hk : z.cells.size = k := by exact rfl) (hfit : fitsB ps k pv = true := by exact rfl) (hc : NF (overlay z.cells.toList (placedB ps pv)) cs := by (repeat (first | (apply NF.cons; (· exact rfl)) | exact NF.nil rfl))) (hd : Nat.blt d n = true := by exact rfl) : WL P ro n w0 ops Q (⟨some d, .build t parts.toArray, ty, pos, after, none⟩ :: l) r ds m H := WL.build hp hps hz hk hfit hc hd h
def arrB (P : Program) (t : TypeId) : Option TypeId := match P.underlying t with
  | some (.array _ e) => some e
  | _ => none
theorem WL.buildArr {t e : TypeId} {parts : List (Nat × Operand)} {pv : List (Nat × Value)} {z : Value} {sz k : Nat} {cs : List Value}
    (hp : r.evp parts = some pv) (hu : arrB P t = some e) (hsz : sizeB P e = some sz) (hz : zeroB P t = some z) (hk : z.cells.size = k) (hfit : (pv.all fun p => Nat.beq p.2.cells.size sz && Nat.ble (p.1 * sz + sz) k) = true)
    (hc : NF (overlay z.cells.toList (placedA sz pv)) cs)
    (hd : Nat.blt d n = true) (h : WL P ro n w0 ops Q l ((d, .agg cs.toArray) :: r) ds m H) : WL P ro n w0 ops Q (⟨some d, .build t parts.toArray, ty, pos, after, none⟩ :: l) r ds m H := by
  refine .val hd (fun _ h => by cases h) (fun tmps w ho _ => ?_) h
  have e1 := ho.evp (marks ds) hp
  have hc' := hc.eq
  try rw [placedA_eq] at hc'
  subst hc'
  have g1 := fill_ok (fun i => some (i * sz, sz)) pv (pv.map fun p => (p.1 * sz, p.2)) z.cells (by simp) (by simp) (by
    rw [hk]; exact hfit)
  unfold arrB at hu
  cases hq : P.underlying t with
  | none => simp [hq] at hu
  | some q =>
    cases q with
    | array ln e' =>
      simp [hq] at hu
      subst hu
      simp only [execOp, Instr.build, Sem.run_bind, run_zero hz, Result.andThen_ok, run_underlying hq, List.map_toArray, e1, run_size hsz]
      rw [g1]
      simp only [Sem.run_pure, Result.andThen_ok]
    | _ => simp [hq] at hu
theorem w_buildArr {t e : TypeId} {parts : List (Nat × Operand)} {pv : List (Nat × Value)} {z : Value} {sz k : Nat} {cs : List Value} (h : WL P ro n w0 ops Q l ((d, .agg cs.toArray) :: r) ds m H) (hp : r.evp parts = some pv := by exact rfl) (hu : arrB P t = some e := by exact rfl) (hsz : sizeB P e = some sz := by exact rfl) (hz : zeroB P t = some z := by exact rfl) (hk : z.cells.size = k := by exact rfl) (hfit : (pv.all fun p => Nat.beq p.2.cells.size sz && Nat.ble (p.1 * sz + sz) k) = true := by exact rfl) (hc : NF (overlay z.cells.toList (placedA sz pv)) cs := by (repeat (first | (apply NF.cons; (· exact rfl)) | exact NF.nil rfl))) (hd : Nat.blt d n = true := by exact rfl) : WL P ro n w0 ops Q (⟨some d, .build t parts.toArray, ty, pos, after, none⟩ :: l) r ds m H := WL.buildArr hp hu hsz hz hk hfit hc hd h
/-- a new row of elements that are written out -/
theorem WL.buildSlice {t e : TypeId} {k sz : Nat} {parts : List (Nat × Operand)} {pv : List (Nat × Value)} {z : Value} {cs : List Value}
    (hp : r.evp parts = some pv) (hu : P.underlying t = some (.slice e)) (hz : zeroB P e = some z) (hsz : sizeB P e = some sz) (hzs : z.cells.size = sz) (hpos : Nat.blt 0 (k * sz) = true) (hsmall : Nat.ble (k * sz) 16777216 = true)
    (hfit : (pv.all fun p => Nat.beq p.2.cells.size sz && Nat.ble (p.1 * sz + sz) (k * sz)) = true)
    (hc : NF (overlay (List.replicate k z.cells.toList).flatten (placedA sz pv)) cs)
    (hd : Nat.blt d n = true) (h : ∀ b, WL P ro n w0 ops Q l ((d, .slice (some ⟨b, 0, none⟩) k k) :: r) ds m (.blk b (.cells cs.toArray e (0, 0)) :: H)) :
    WL P ro n w0 ops Q (⟨some d, .buildSlice t k parts.toArray, ty, pos, after, none⟩ :: l) r ds m H := by
  have hpos' : 0 < k * sz := by simpa [Nat.blt_eq] using hpos
  have hsz0 : 0 < sz := Nat.pos_of_mul_pos_left hpos'
  have hsm : ¬ (k * sz > 2 ^ 24) := by have : k * sz ≤ 16777216 := by simpa using hsmall
                                       omega
  refine .gen (fun v m' H' => ∃ b, v = .slice (some ⟨b, 0, none⟩) k k ∧ m' = m ∧ H' = .blk b (.cells cs.toArray e (0, 0)) :: H) hd (fun _ h => by cases h) (fun tmps w ho hs => ?_)
    (by rintro _ _ _ ⟨b, rfl, rfl, rfl⟩; exact h b)
  have e1 := ho.evp (marks ds) hp
  let base : Array Value := (Array.range (k * sz)).map fun j => z.cells[j % z.cells.size]!
  have hbs : base.size = k * sz := by simp [base]
  have hbl : base.toList = (List.replicate k z.cells.toList).flatten := by
    apply List.ext_getElem?
    intro j
    have hlen : (List.replicate k z.cells.toList).flatten.length = k * sz := by
      rw [List.length_flatten]; simp [hzs]
    by_cases hj : j < k * sz
    · have h1 : j % sz < z.cells.size := by rw [hzs]; exact Nat.mod_lt _ hsz0
      have hq : j / sz < k := Nat.div_lt_of_lt_mul (by rw [Nat.mul_comm]; exact hj)
      have h2 := flatten_at (es := List.replicate k z.cells.toList) (sz := sz) (i := j / sz) (e := z.cells.toList) (fun x hx => by rw [(List.mem_replicate.1 hx).2]; simp [hzs]) (by simp [List.getElem?_replicate, hq]) (j % sz) z.cells[j % sz] (by simp [h1])
      rw [show j / sz * sz + j % sz = j by rw [Nat.mul_comm]; exact Nat.div_add_mod j sz] at h2
      rw [h2]
      simp [base, hj, hzs, getElem!_pos, hzs ▸ h1]
    · rw [List.getElem?_eq_none (by simp [hbs]; omega), List.getElem?_eq_none (by omega)]
  have g1 := fill_ok (fun i => some (i * sz, sz)) pv (pv.map fun p => (p.1 * sz, p.2)) base (by simp) (by simp) (by
    rw [hbs]; simpa using hfit)
  have hc' := hc.eq
  try rw [placedA_eq] at hc'
  subst hc'
  rw [hbl] at g1
  refine ⟨_, m, _, w.alloc (.cells (overlay (List.replicate k z.cells.toList).flatten (pv.map fun p => (p.1 * sz, p.2))).toArray e (0, 0)), ?_, hs.alloc _, w.heap.size, rfl, rfl, rfl⟩
  simp only [execOp, Instr.buildSlice, Sem.run_bind, run_underlying hu, Result.andThen_ok, run_size hsz, hsm, if_false, Sem.run_pure, if_neg (Nat.ne_of_gt hpos'), run_zero hz, List.map_toArray, e1]
  rw [show Instr.fill (fun i => some (i * sz, sz)) (Array.map (fun x => z.cells[x % z.cells.size]!) (Array.range (k * sz))) pv = _ from g1]
  simp only [newRow, Sem.run_bind, run_newObj_alloc, Result.andThen_ok, Sem.run_pure]

theorem w_buildSlice {t e : TypeId} {k sz : Nat} {parts : List (Nat × Operand)} {pv : List (Nat × Value)} {z : Value} {cs : List Value} (h : ∀ b, WL P ro n w0 ops Q l ((d, .slice (some ⟨b, 0, none⟩) k k) :: r) ds m (.blk b (.cells cs.toArray e (0, 0)) :: H)) (hp : r.evp parts = some pv := by exact rfl) (hu : P.underlying t = some (.slice e) := by exact rfl) (hz : zeroB P e = some z := by exact rfl) (hsz : sizeB P e = some sz := by exact rfl) (hzs : z.cells.size = sz := by exact rfl) (hpos : Nat.blt 0 (k * sz) = true := by exact rfl) (hsmall : Nat.ble (k * sz) 16777216 = true := by exact rfl) (hfit : (pv.all fun p => Nat.beq p.2.cells.size sz && Nat.ble (p.1 * sz + sz) (k * sz)) = true := by exact rfl) (hc : NF (overlay (List.replicate k z.cells.toList).flatten (placedA sz pv)) cs := by (repeat (first | (apply NF.cons; (· exact rfl)) | exact NF.nil rfl))) (hd : Nat.blt d n = true := by exact rfl) : WL P ro n w0 ops Q (⟨some d, .buildSlice t k parts.toArray, ty, pos, after, none⟩ :: l) r ds m H := WL.buildSlice hp hu hz hsz hzs hpos hsmall hfit hc hd h
/-! ### rows -/
theorem WL.lenSl {t e : TypeId} {x : Operand} {a : Option Addr} {k cap : Nat} (hx : r.ev x = some (.slice a k cap)) (hu : P.underlying t = some (.slice e)) (hd : Nat.blt d n = true)
    (h : WL P ro n w0 ops Q l ((d, .int .i64 (k : Int)) :: r) ds m H) : WL P ro n w0 ops Q (⟨some d, .call ⟨.builtin .len, #[x], #[t]⟩, ty, pos, after, none⟩ :: l) r ds m H :=
  .val hd (fun _ h => by cases h) (fun tmps w ho _ => by
    simp only [execOp, resolve, invoke, builtin, Builtin.len_, Sem.run_bind, Sem.run_pure, Result.andThen_ok, List.map_toArray, List.map_cons, List.map_nil, ho.ev hx]
    show (Sem.run P ((underlying t).bind _) w).andThen _ = _
    rw [Sem.run_bind', run_underlying hu, Result.andThen_ok]
    rfl) h
theorem w_lenSl {t e : TypeId} {x : Operand} {a : Option Addr} {k cap : Nat} (h : WL P ro n w0 ops Q l ((d, .int .i64 (k : Int)) :: r) ds m H) (hx : r.ev x = some (.slice a k cap) := by exact rfl) (hu : P.underlying t = some (.slice e) := by exact rfl) (hd : Nat.blt d n = true := by exact rfl) : WL P ro n w0 ops Q (⟨some d, .call ⟨.builtin .len, #[x], #[t]⟩, ty, pos, after, none⟩ :: l) r ds m H := WL.lenSl hx hu hd h
theorem WL.capSl {t e : TypeId} {x : Operand} {a : Option Addr} {k cap : Nat} (hx : r.ev x = some (.slice a k cap)) (hu : P.underlying t = some (.slice e)) (hd : Nat.blt d n = true)
    (h : WL P ro n w0 ops Q l ((d, .int .i64 (cap : Int)) :: r) ds m H) : WL P ro n w0 ops Q (⟨some d, .call ⟨.builtin .cap, #[x], #[t]⟩, ty, pos, after, none⟩ :: l) r ds m H :=
  .val hd (fun _ h => by cases h) (fun tmps w ho _ => by
    simp only [execOp, resolve, invoke, builtin, Builtin.cap_, Sem.run_bind, Sem.run_pure, Result.andThen_ok, List.map_toArray, List.map_cons, List.map_nil, ho.ev hx]
    show (Sem.run P ((underlying t).bind _) w).andThen _ = _
    rw [Sem.run_bind', run_underlying hu, Result.andThen_ok]
    rfl) h
theorem WL.indexAddr {t e : TypeId} {x y : Operand} {a : Addr} {k cap sz i : Nat} {ki : IntKind} {z : Int} (hx : r.ev x = some (.slice (some a) k cap)) (hy : r.ev y = some (.int ki z)) (hz : z = (i : Int)) (hu : P.underlying t = some (.slice e)) (hsz : sizeB P e = some sz)
    (hi : i < k) (hd : Nat.blt d n = true) (h : WL P ro n w0 ops Q l ((d, .pointer (some (a.add (i * sz)))) :: r) ds m H) :
    WL P ro n w0 ops Q (⟨some d, .indexAddr t x y, ty, pos, after, none⟩ :: l) r ds m H :=
  .val hd (fun _ h => by cases h) (fun tmps w ho _ => by
    subst hz
    have h1 : (0 : Int) ≤ (i : Int) ∧ (i : Int) < (k : Int) := by omega
    simp only [execOp, Instr.indexAt, asIntOf, ho.ev hx, ho.ev hy, Sem.run_bind, Sem.run_pure, Result.andThen_ok, run_underlying hu]
    simp [h1, run_size hsz]) h
theorem w_indexAddr {t e : TypeId} {x y : Operand} {a : Addr} {k cap sz i : Nat} {ki : IntKind} {z : Int} (h : WL P ro n w0 ops Q l ((d, .pointer (some (a.add (i * sz)))) :: r) ds m H) (hx : r.ev x = some (.slice (some a) k cap) := by exact rfl) (hy : r.ev y = some (.int ki z) := by exact rfl) (hz : z = (i : Int) := by (first | with_reducible exact natz _ | with_reducible exact natz0 | with_reducible exact natz1 | with_reducible exact natz2 | with_reducible exact natz3 | with_reducible exact natz4 | with_reducible exact natz8 | (apply natz_add; (· first | with_reducible exact natz _ | with_reducible exact natz0 | with_reducible exact natz1 | with_reducible exact natz2 | with_reducible exact natz3 | with_reducible exact natz4 | with_reducible exact natz8); (· first | with_reducible exact natz _ | with_reducible exact natz0 | with_reducible exact natz1 | with_reducible exact natz2 | with_reducible exact natz3 | with_reducible exact natz4 | with_reducible exact natz8)) | (apply natz_sub; (· first | with_reducible exact natz _ | with_reducible exact natz0 | with_reducible exact natz1 | with_reducible exact natz2 | with_reducible exact natz3 | with_reducible exact natz4 | with_reducible exact natz8); (· first | with_reducible exact natz _ | with_reducible exact natz0 | with_reducible exact natz1 | with_reducible exact natz2 | with_reducible exact natz3 | with_reducible exact natz4 | with_reducible exact natz8); (· omega)) | exact (Int.toNat_of_nonneg (by omega)).symm)) (hu : P.underlying t = some (.slice e) := by exact rfl) (hsz : sizeB P e = some sz := by exact rfl) (hi : i < k := by omega) (hd : Nat.blt d n = true := by exact rfl) : WL P ro n w0 ops Q (⟨some d, .indexAddr t x y, ty, pos, after, none⟩ :: l) r ds m H := WL.indexAddr hx hy hz hu hsz hi hd h
theorem row_some {w : World} {a : Option Addr} {cap : Nat} {T : TypeId} {sz : Nat} {es : List (List Value)} (hs : Sat w0 m H w) (hm : Item.row a cap T sz es ∈ H) (hne : 0 < es.length) : ∃ a0, a = some a0 := by
  cases a with
  | some a0 => exact ⟨a0, rfl⟩
  | none =>
    have := hs.own _ hm
    have h1 : es = [] := this.1
    subst h1; simp at hne
/-- an own row that is not empty has an address -/
theorem WL.rowSome {a : Option Addr} {cap : Nat} {T : TypeId} {sz : Nat} {es : List (List Value)} (hm : Item.row a cap T sz es ∈ H) (hne : 0 < es.length) (h : ∀ a0, a = some a0 → WL P ro n w0 ops Q l r ds m H) : WL P ro n w0 ops Q l r ds m H := by
  intro tmps w ho hs
  obtain ⟨a0, e⟩ := row_some hs hm hne
  exact h a0 e tmps w ho hs
theorem WC.rowSome {c : Code} {a : Option Addr} {cap : Nat} {T : TypeId} {sz : Nat} {es : List (List Value)} (hm : Item.row a cap T sz es ∈ H) (hne : 0 < es.length) (h : ∀ a0, a = some a0 → WC P ro n w0 c Q r ds m H) : WC P ro n w0 c Q r ds m H := by
  intro tmps w ho hs
  obtain ⟨a0, e⟩ := row_some hs hm hne
  exact h a0 e tmps w ho hs

/-! ### append -/
theorem flatten_length : ∀ {es : List (List Value)} {sz : Nat}, (∀ e ∈ es, e.length = sz) → es.flatten.length = es.length * sz
  | [], sz, _ => by simp
  | e :: es, sz, h => by
    rw [List.flatten_cons, List.length_append, h e List.mem_cons_self, flatten_length (fun q hq => h q (List.mem_cons_of_mem _ hq)), List.length_cons, Nat.succ_mul]
    omega
/-- what is appended, in whatever world of such a state -/
def Source (P : Program) (w0 : World) (m : Mem) (H : SHeap) (sz : Nat) (tx : TypeId) (x : Value) (k : Nat) (news : List Value) : Prop := ∀ w, Sat w0 m H w → Src P sz tx x k news w
theorem Source.str {tx : TypeId} (hk : P.underlying tx = some .string) (s : List UInt8) : Source P w0 m H 1 tx (str s) s.length (s.map fun b => Value.int .u8 (b.toNat : Int)) := fun w _ => by
  have := Src.ofString (P := P) w hk ⟨s.toArray⟩
  simpa [byteCells, ByteArray.size] using this
theorem Source.nil {sz : Nat} {tx e' : TypeId} (hk : P.underlying tx = some (.slice e')) (c : Nat) : Source P w0 m H sz tx (.slice none 0 c) 0 [] := fun w _ => Src.ofNil w hk c
theorem Source.cells {sz k c : Nat} {tx e' : TypeId} {a : Addr} {news : List Value} (hk : P.underlying tx = some (.slice e')) (hc : Cells w0 m H a news) (hl : news.length = k * sz) (h1 : news.all okCell = true) : Source P w0 m H sz tx (.slice (some a) k c) k news :=
  fun w hs => Src.ofSlice w hk a k c news hl (fun j u hu => hc w hs j u hu) (fun u hu => List.all_eq_true.1 h1 u hu)
theorem Source.prow {sz : Nat} {tx e' : TypeId} {T : TypeId} {v : Value} {es : List (List Value)} (hk : P.underlying tx = some (.slice e')) (hp : PRow m T sz v es) (h1 : ∀ e ∈ es, e.all okCell = true) : Source P w0 m H sz tx v es.length es.flatten := by
  have hlen : (∀ e ∈ es, e.length = sz) → es.flatten.length = es.length * sz := fun h => flatten_length h
  match v, hp with
  | .slice none len cap, ⟨h2, h3⟩ => subst h2; subst h3; exact .nil hk cap
  | .slice (some a) len cap, ⟨hsp, h2, h3, arr, fz, h4, h5⟩ =>
    subst h2
    refine fun w hs => Src.ofSlice w hk a _ cap _ (hlen h3) (fun j u hu => ?_) (fun u hu => ?_)
    · rw [add_eq hsp]
      simp [World.cell?, hs.pers _ _ h4, h5 j u hu]
    · obtain ⟨e, he, hu'⟩ := List.mem_flatten.1 hu
      exact List.all_eq_true.1 (h1 e he) u hu'
theorem take_laid : ∀ (vs : List Value) (L : List Value) (o : Nat), o + vs.length ≤ L.length → (laid L o vs).take (o + vs.length) = L.take o ++ vs
  | [], L, o, _ => by simp [laid]
  | v :: vs, L, o, h => by
    simp only [laid, List.length_cons] at h ⊢
    rw [show o + (vs.length + 1) = (o + 1) + vs.length by omega, take_laid vs (L.set o v) (o + 1) (by simp; omega)]
    rw [List.take_succ_eq_append_getElem (by simp; omega)]
    simp [List.take_set_of_le]
theorem cut_le {need old t : Nat} {e : TypeId} (h : need ≤ 9223372036854775807) : (Question.appendCap need old e).cut t ≤ 9223372036854775807 := by
  have h1 : t % (2 ^ 63 - need) < 2 ^ 63 - need := Nat.mod_lt _ (by omega)
  simp only [Question.cut]
  omega
theorem grownCap_le {need : Nat} (w : World) (h : need ≤ 9223372036854775807) (old : Nat) (e : TypeId) : grownCap w need old e ≤ 9223372036854775807 := cut_le h
theorem run_append_row {t tx e : TypeId} {sz by' : Nat} {z : Value} {a : Option Addr} {cap : Nat} {es es' : List (List Value)} {x : Value} {w : World} (hu : P.underlying t = some (.slice e)) (hz : zeroB P e = some z) (hsz : sizeB P e = some sz) (hby : bytesB P e = some by')
    (hzs : z.cells.size = sz) (hs : Sat w0 m (.row a cap e sz es :: H) w) (hx : Src P sz tx x es'.length es'.flatten w) (hes : ∀ q ∈ es', q.length = sz) (h63 : es.length + es'.length ≤ 9223372036854775807) (hb : (es.length + es'.length) * by' ≤ 140737488355328) :
    ∃ a' cap' w', (Builtin.append_ #[t, tx] ty #[.slice a es.length cap, x]).run P w = .ok (.slice a' (es ++ es').length cap') w' ∧ Sat w0 m (.row a' cap' e sz (es ++ es') :: H) w' := by
  obtain ⟨i, hi, hib, _⟩ := run_info hby w
  have his : i.size = sz := by
    unfold sizeB at hsz; rw [hi] at hsz; simpa [lit_eq] using hsz
  have hiz : i.zero = some z := by
    unfold zeroB at hz; rw [hi] at hz; simpa using hz
  have hold : Item.holds w (.row a cap e sz es) := hs.own _ List.mem_cons_self
  by_cases hroom : es.length + es'.length ≤ cap
  · -- there is room
    cases a with
    | none =>
      have h1 : es = [] ∧ cap = 0 := hold
      obtain ⟨h1, h2⟩ := h1
      subst h1; subst h2
      have h3 : es' = [] := List.eq_nil_of_length_eq_zero (by simpa using hroom)
      subst h3
      refine ⟨none, 0, w, ?_, by simpa using hs⟩
      rcases hx.kind with ⟨e', hk⟩ | hk <;> simp [Builtin.append_, run_underlying hu, run_underlying hk, sizeOf, typeInfo, hi, hx.len, his]
      all_goals
        have := hx.cells
        simp at this
        simp [this]
    | some a =>
      obtain ⟨arr, fz, g1, g2, g3, g4, g5, g6, g7⟩ := hold
      have hal : a = ⟨a.block, 0, none⟩ := g1
      generalize hbk : a.block = b at *
      subst g1
      have hlen1 := flatten_length g6
      have hlen2 := flatten_length hes
      have hfitA : es.length * sz + es'.flatten.length ≤ arr.toList.length := by
        have hL : arr.toList.length = cap * sz := by simp [g3]
        rw [hlen2, ← Nat.add_mul, hL]; exact Nat.mul_le_mul_right _ hroom
      have hb1 : Sat w0 m (.blk b (.cells arr.toList.toArray e fz) :: H) w := by
        refine hs.turn (j := .blk b (.cells arr.toList.toArray e fz)) rfl rfl rfl (Nat.le_refl _) (fun _ _ _ => rfl) (by simpa [Item.holds] using g2) (fun y hy => .inl (by simpa [Item.foot] using hy)) (by simp [Item.foot])
      obtain ⟨w', k1, k2⟩ := run_laid (P := P) es'.flatten 0 (es.length * sz) arr.toList H w (by simpa using hfitA) (by rcases g7.1 with h | h; exact .inl h; exact .inr (.inr (by simpa using h))) (List.all_eq_true.2 fun u hu => hx.one u hu) hb1
      refine ⟨some ⟨b, 0, none⟩, cap, w', ?_, ?_⟩
      · rcases hx.kind with ⟨e', hk⟩ | hk <;>
          simp [Builtin.append_, run_underlying hu, run_underlying hk, sizeOf, typeInfo, hi, hx.len, his, hroom, hx.cells, Addr.add_lit, k1]
      · have hw' : w'.heap[b]? = some (.cells (laid arr.toList (es.length * sz + 0) es'.flatten).toArray e fz) := k2.own _ List.mem_cons_self
        refine k2.turn (j := .row (some ⟨b, 0, none⟩) cap e sz (es ++ es')) rfl rfl rfl (Nat.le_refl _) (fun _ _ _ => rfl) ?_ (fun y hy => .inl (by simpa [Item.foot] using hy)) (by simp [Item.foot])
        refine ⟨_, fz, rfl, hw', ?_, by simpa using hroom, ?_, ?_, ?_⟩
        · simp [laid_length, g3]
        · simp only [Nat.add_zero, List.length_append, List.flatten_append]
          rw [Nat.add_mul, ← hlen2, take_laid _ _ _ hfitA, g5]
        · intro q hq
          rcases List.mem_append.1 hq with h | h
          · exact g6 q h
          · exact hes q h
        · exact ⟨by simpa [laid_length] using g7.1, fun hq => g7.2 (by simp only [List.length_append] at hq; omega)⟩
  · -- a new row
    have hfit := growslice_fits (bytes := i.bytes) (show cap < es.length + es'.length by omega) (by rw [hib]; exact hb)
    have holds : (∀ q ∈ es, q.length = sz) ∧ ∀ w1 : World, w1.heap = w.heap → (Builtin.firstCells i.size es.length (.slice a es.length cap)).run P w1 = .ok es.flatten.toArray w1 := by
      cases a with
      | none =>
        have h1 : es = [] ∧ cap = 0 := hold
        obtain ⟨h1, h2⟩ := h1
        subst h1
        exact ⟨(fun q hq => by cases hq), (fun w1 _ => by simp [Builtin.firstCells])⟩
      | some a =>
        have hold' := hold
        obtain ⟨arr, fz, g1, g2, g3, g4, g5, g6, _⟩ := hold
        refine ⟨g6, fun w1 hw1 => ?_⟩
        refine run_firstCells_some w1 i.size es.length a es.length cap es.flatten (by rw [his]; exact flatten_length g6) (fun j u hu => ?_)
        have hsp : a.spot = none := by rw [g1]
        have hoff : a.off = 0 := by rw [g1]
        rw [← g5, List.getElem?_take] at hu
        split at hu
        · rw [add_eq hsp, hoff]
          simp only [World.cell?, hw1, g2]
          simpa using hu
        · cases hu
    have hr := run_append_grow_src (P := P) w t tx ty e i z hu hi hiz a es.length cap es.flatten (holds.2 _ rfl) x es'.length es'.flatten (by rw [his]; exact hx) (by omega) (by omega) hfit
    refine ⟨_, _, _, by rw [List.length_append]; exact hr, ?_⟩
    have hge := grownCap_ge w (es.length + es'.length) cap e
    have hs2 : Sat w0 m H w.drew := hs.drop.drew
    have hs3 := hs2.alloc (.cells ((es.flatten ++ es'.flatten).toArray ++ Builtin.zeroCells z.cells (grownCap w (es.length + es'.length) cap e - (es.length + es'.length))) e (0, 0))
    refine hs3.turn (j := .row (some ⟨w.heap.size, 0, none⟩) (grownCap w (es.length + es'.length) cap e) e sz (es ++ es')) rfl rfl rfl (Nat.le_refl _) (fun _ _ _ => rfl) ?_ (fun y hy => .inl (by simpa [Item.foot] using hy)) (by simp [Item.foot])
    have hl1 := flatten_length holds.1
    have hl2 := flatten_length hes
    refine ⟨_, (0, 0), rfl, World.alloc_heap_new _ _, ?_, by simpa using hge, ?_, ?_, .inl rfl, fun _ => grownCap_le w h63 cap e⟩
    · simp only [Array.size_append, List.size_toArray, List.length_append, size_zeroCells, hzs, hl1, hl2, ← Nat.add_mul]
      congr 1; omega
    · simp only [Array.toList_append, List.flatten_append, List.length_append]
      rw [show (es.length + es'.length) * sz = (es.flatten ++ es'.flatten).length by rw [List.length_append, hl1, hl2, Nat.add_mul]]
      exact List.take_left
    · intro q hq
      rcases List.mem_append.1 hq with h | h
      · exact holds.1 q h
      · exact hes q h
theorem WL.append {t tx e : TypeId} {x y : Operand} {sz by' k : Nat} {z v : Value} {a : Option Addr} {cap len : Nat} {es es' : List (List Value)} {news : List Value} {H1 : SHeap} (hx : r.ev x = some (.slice a len cap)) (hy : r.ev y = some v) (hlen : len = es.length)
    (ho : Out (.row a cap e sz es) H H1) (hu : P.underlying t = some (.slice e)) (hz : zeroB P e = some z) (hsz : sizeB P e = some sz) (hby : bytesB P e = some by') (hzs : z.cells.size = sz)
    (hsrc : Source P w0 m H sz tx v k news) (hk : k = es'.length) (hn : news = es'.flatten) (hes : ∀ q ∈ es', q.length = sz) (h63 : es.length + es'.length ≤ 9223372036854775807) (hb : (es.length + es'.length) * by' ≤ 140737488355328) (hd : Nat.blt d n = true)
    (h : ∀ a' cap', WL P ro n w0 ops Q l ((d, .slice a' (es ++ es').length cap') :: r) ds m (.row a' cap' e sz (es ++ es') :: H1)) :
    WL P ro n w0 ops Q (⟨some d, .call ⟨.builtin .append, #[x, y], #[t, tx]⟩, ty, pos, after, none⟩ :: l) r ds m H := by
  subst hk; subst hn; subst hlen
  refine .gen (fun v m' H' => ∃ a' cap', v = .slice a' (es ++ es').length cap' ∧ m' = m ∧ H' = .row a' cap' e sz (es ++ es') :: H1) hd (fun _ h => by cases h) (fun tmps w hok hs => ?_)
    (by rintro _ _ _ ⟨a', cap', rfl, rfl, rfl⟩; exact h a' cap')
  obtain ⟨a', cap', w', h1, h2⟩ := run_append_row (ty := ty) hu hz hsz hby hzs (hs.perm ho.perm) (hsrc w hs) hes h63 hb
  refine ⟨_, m, _, w', ?_, h2, a', cap', rfl, rfl, rfl⟩
  simp only [execOp, resolve, invoke, builtin, Sem.run_bind, Sem.run_pure, Result.andThen_ok, List.map_toArray, List.map_cons, List.map_nil, hok.ev hx, hok.ev hy, h1]
/-- a nil slice becomes a row of one's own -/
theorem WL.newRow {T : TypeId} {sz : Nat} (h : WL P ro n w0 ops Q l r ds m (.row none 0 T sz [] :: H)) : WL P ro n w0 ops Q l r ds m H :=
  fun tmps w ho hs => h tmps w ho ⟨hs.os, hs.tape, hs.output, hs.size, hs.pers, fun i hi => by
    cases hi with
    | head => exact ⟨rfl, rfl⟩
    | tail _ hi => exact hs.own i hi, by simpa [SHeap.foot, Item.foot] using hs.sep, by simpa [SHeap.foot, Item.foot] using hs.free⟩
theorem WC.newRow {c : Code} {T : TypeId} {sz : Nat} (h : WC P ro n w0 c Q r ds m (.row none 0 T sz [] :: H)) : WC P ro n w0 c Q r ds m H :=
  fun tmps w ho hs => h tmps w ho ⟨hs.os, hs.tape, hs.output, hs.size, hs.pers, fun i hi => by
    cases hi with
    | head => exact ⟨rfl, rfl⟩
    | tail _ hi => exact hs.own i hi, by simpa [SHeap.foot, Item.foot] using hs.sep, by simpa [SHeap.foot, Item.foot] using hs.free⟩

/-! ### bytes to a text -/
theorem push_all : ∀ (s acc : List UInt8), (s.map fun b => (b.toNat : Int)).foldl (fun (q : ByteArray) (n : Int) => q.push (UInt8.ofNat n.toNat)) ⟨acc.toArray⟩ = ⟨(acc ++ s).toArray⟩
  | [], acc => by simp
  | b :: s, acc => by
    simp only [List.map_cons, List.foldl_cons]
    have : (⟨acc.toArray⟩ : ByteArray).push (UInt8.ofNat (Int.toNat (b.toNat : Int))) = ⟨(acc ++ [b]).toArray⟩ := by
      apply ByteArray.ext
      simp [ByteArray.push]
    rw [this, push_all s (acc ++ [b])]
    simp
theorem WL.bytesStr {src dst e : TypeId} {x : Operand} {v : Value} {s : List UInt8} (hx : r.ev x = some v) (hs1 : P.underlying src = some (.slice e)) (hs2 : P.underlying dst = some .string) (hs3 : P.underlying e = some (.int .u8)) (hsz : sizeB P e = some 1)
    (hsrc : (v = .slice none 0 0 ∧ s = []) ∨ ∃ a cap, v = .slice (some a) s.length cap ∧ Cells w0 m H a (s.map fun b => Value.int .u8 (b.toNat : Int))) (hd : Nat.blt d n = true)
    (h : WL P ro n w0 ops Q l ((d, str s) :: r) ds m H) : WL P ro n w0 ops Q (⟨some d, .convert src dst x, ty, pos, after, none⟩ :: l) r ds m H :=
  .val hd (fun _ h => by cases h) (fun tmps w ho hs => by
    have e1 := hsz
    rcases hsrc with ⟨rfl, rfl⟩ | ⟨a, cap, rfl, hc⟩
    · simp [execOp, ho.ev hx, convert, run_underlying hs1, run_underlying hs2, run_underlying hs3, Conv.bytesToString]
      rfl
    · have hl := run_loadCells_list (P := P) (w := w) a (s.map fun b => Value.int .u8 (b.toNat : Int)) (fun j v hj => hc w hs j v hj)
      have hl' : (loadCells a s.length).run P w = .ok ((s.map fun b => (b.toNat : Int)).map (Value.int .u8)).toArray w := by
        simpa [List.map_map, Function.comp_def] using hl
      have hb := run_bytesToString (P := P) w a s.length cap _ hl'
      have hp := push_all s []
      simp only [List.nil_append] at hp
      rw [show (ByteArray.empty : ByteArray) = ⟨([] : List UInt8).toArray⟩ from rfl, hp] at hb
      simp only [execOp, ho.ev hx, convert, Sem.run_bind, run_underlying hs1, run_underlying hs2, run_underlying hs3, Result.andThen_ok, hb, Sem.run_pure]) h
theorem row_cells {a : Addr} {cap : Nat} {T : TypeId} {s : List UInt8} (hm : Item.row (some a) cap T 1 (s.map fun b => [Value.int .u8 (b.toNat : Int)]) ∈ H) : Cells w0 m H a (s.map fun b => Value.int .u8 (b.toNat : Int)) := by
  intro w hs j v hj
  have hj' : (s.map fun b => [Value.int .u8 (b.toNat : Int)])[j]? = some [v] := by
    simp only [List.getElem?_map, Option.map_eq_some_iff] at hj ⊢
    obtain ⟨b, hb, rfl⟩ := hj
    exact ⟨b, hb, rfl⟩
  have := (row_at (hs.own _ hm) hj').2 0 v rfl
  simpa using this
/-- an own row of bytes -/
theorem WL.rowStr {src dst e : TypeId} {x : Operand} {a : Option Addr} {len cap : Nat} {s : List UInt8} (hx : r.ev x = some (.slice a len cap)) (hlen : len = s.length) (hm : Item.row a cap e 1 (s.map fun b => [Value.int .u8 (b.toNat : Int)]) ∈ H)
    (hs1 : P.underlying src = some (.slice e)) (hs2 : P.underlying dst = some .string) (hs3 : P.underlying e = some (.int .u8)) (hsz : sizeB P e = some 1) (hd : Nat.blt d n = true)
    (h : WL P ro n w0 ops Q l ((d, str s) :: r) ds m H) : WL P ro n w0 ops Q (⟨some d, .convert src dst x, ty, pos, after, none⟩ :: l) r ds m H := by
  subst hlen
  intro tmps w ho hs
  cases a with
  | none =>
    have h1 : (s.map fun b => [Value.int .u8 (b.toNat : Int)]) = [] ∧ cap = 0 := hs.own _ hm
    obtain ⟨h1, h2⟩ := h1
    have h3 : s = [] := by simpa using h1
    subst h3; subst h2
    exact WL.bytesStr hx hs1 hs2 hs3 hsz (.inl ⟨rfl, rfl⟩) hd h tmps w ho hs
  | some a => exact WL.bytesStr hx hs1 hs2 hs3 hsz (.inr ⟨a, cap, rfl, row_cells hm⟩) hd h tmps w ho hs

/-! ### results -/
theorem res_tmp {fn : Func} {t : Tmp} {v : Value} (hf : fn.results = #[.tmp t]) (hv : r.get t = some v) : ∀ tmps w, r.ok n tmps → Sat w0 m H w → (results fn tmps).run P w = .ok v w := by
  intro tmps w ho _
  rw [results_tmp hf, Array.getD_eq_getD_getElem?, ho.at_ _ _ hv]; rfl
theorem res_none {fn : Func} (hf : fn.results = #[]) : ∀ tmps w, r.ok n tmps → Sat w0 m H w → (results fn tmps).run P w = .ok (.tuple #[]) w := by
  intro tmps w _ _
  rw [results_none hf]
/-- one result after the other -/
inductive ResAll (P : Program) (w0 : World) (m : Mem) (H : SHeap) (r : Env) : List ResultVar → List Value → Prop
  | nil : ResAll P w0 m H r [] []
  | tmp {t : Tmp} {v : Value} {rs : List ResultVar} {vs : List Value} : r.get t = some v → ResAll P w0 m H r rs vs → ResAll P w0 m H r (.tmp t :: rs) (v :: vs)
  | cell {t : Tmp} {u : TypeId} {a : Addr} {v : Value} {rs : List ResultVar} {vs : List Value} : r.get t = some (.pointer (some a)) → Loads P w0 m H u a v → ResAll P w0 m H r rs vs → ResAll P w0 m H r (.cell t u :: rs) (v :: vs)
def resOne (tmps : Array Value) : ResultVar → Sem Value
  | .tmp t => pure (tmps.getD t undef)
  | .cell a t => do loadVar t (← asAddr (tmps.getD a undef))
theorem results_eq (fn : Func) (tmps : Array Value) : results fn tmps = (do let vs ← fn.results.mapM (resOne tmps); pure (if h : vs.size = 1 then vs[0] else .tuple vs)) := rfl
theorem ResAll.run {rs : List ResultVar} {vs : List Value} (h : ResAll P w0 m H r rs vs) : ∀ tmps w, r.ok n tmps → Sat w0 m H w → (rs.mapM (resOne tmps)).run P w = .ok vs w := by
  induction h with
  | nil => intro tmps w _ _; simp
  | tmp h1 _ ih =>
    intro tmps w ho hs
    simp only [List.mapM_cons, Sem.run_bind, resOne, Sem.run_pure, Result.andThen_ok, ih tmps w ho hs]
    rw [Array.getD_eq_getD_getElem?, ho.at_ _ _ h1]; rfl
  | cell h1 h2 _ ih =>
    intro tmps w ho hs
    have e : ∀ a t, tmps.getD t undef = .pointer (some a) → (asAddr (tmps.getD t undef)).run P w = .ok a w := fun a t h => by rw [h]; simp [asAddr]
    have e2 := e _ _ (by rw [Array.getD_eq_getD_getElem?, ho.at_ _ _ h1]; rfl)
    simp only [List.mapM_cons, Sem.run_bind, resOne, Sem.run_pure, Result.andThen_ok, e2, h2 w hs, ih tmps w ho hs]
theorem ResAll.all {fn : Func} {rs : List ResultVar} {vs : List Value} (hf : fn.results = rs.toArray) (h : ResAll P w0 m H r rs vs) : ∀ tmps w, r.ok n tmps → Sat w0 m H w →
    (results fn tmps).run P w = .ok (if h : vs.toArray.size = 1 then vs.toArray[0] else .tuple vs.toArray) w := by
  intro tmps w ho hs
  have h1 := h.run tmps w ho hs
  rw [results_eq, hf, Array.mapM_eq_mapM_toList]
  generalize resOne tmps = f at *
  simp [h1]
theorem res_many {fn : Func} {rs : List ResultVar} {vs : List Value} (hf : fn.results = rs.toArray) (h : ResAll P w0 m H r rs vs) (hne : Nat.beq vs.length 1 = false) : ∀ tmps w, r.ok n tmps → Sat w0 m H w → (results fn tmps).run P w = .ok (.tuple vs.toArray) w := by
  intro tmps w ho hs
  have h2 : ¬ vs.toArray.size = 1 := fun e => by rw [show vs.length = 1 from by simpa using e] at hne; cases hne
  rw [h.all hf tmps w ho hs, dif_neg h2]
theorem res_cell {fn : Func} {t : Tmp} {u : TypeId} {a : Addr} {v : Value} (hf : fn.results = #[.cell t u]) (h1 : r.get t = some (.pointer (some a))) (h2 : Loads P w0 m H u a v) : ∀ tmps w, r.ok n tmps → Sat w0 m H w → (results fn tmps).run P w = .ok v w := by
  intro tmps w ho hs
  rw [(ResAll.cell h1 h2 .nil).all (fn := fn) hf tmps w ho hs]
  rfl
end
end Go.Eng

/-
  A walk's engine, seventh part: tests that are settled by a fact. No condition.
-/
set_option linter.all false
namespace Go.Eng
open Go Go.RowKit
section
variable {P : Program} {ro : Option Nat} {n : Nat} {w0 : World} {Q : Exit → Act → World → Prop} {r : Env} {ds : List Nat} {m : Mem} {H : SHeap}
  {ops : Array Oper} {l : List Oper} {c : Operand} {x y : Code} {p : Prop} {dp : Decidable p} {b : Bool}
theorem WC.yes (hc : r.ev c = some (.bool (dcd p))) (hp : p) (h : WC P ro n w0 x Q r ds m H) : WC P ro n w0 (.cond c x y) Q r ds m H := .cond_t (by rw [hc, dcd_true hp]) h
theorem c_yes (h : WC P ro n w0 x Q r ds m H) (hc : r.ev c = some (.bool (dcd p)) := by exact rfl) (hp : p := by first | omega | assumption | with_reducible rfl | with_reducible exact ⟨rfl, rfl⟩ | with_reducible exact ⟨rfl, rfl, rfl⟩ | exact ⟨rfl, rfl, rfl, rfl⟩) : WC P ro n w0 (.cond c x y) Q r ds m H := WC.yes hc hp h
theorem WC.no (hc : r.ev c = some (.bool (dcd p))) (hp : ¬ p) (h : WC P ro n w0 y Q r ds m H) : WC P ro n w0 (.cond c x y) Q r ds m H := .cond_f (by rw [hc, dcd_false hp]) h
theorem c_no (h : WC P ro n w0 y Q r ds m H) (hc : r.ev c = some (.bool (dcd p)) := by exact rfl) (hp : ¬ p := by first | omega | assumption | with_reducible rfl | with_reducible exact ⟨rfl, rfl⟩ | with_reducible exact ⟨rfl, rfl, rfl⟩ | exact ⟨rfl, rfl, rfl, rfl⟩) : WC P ro n w0 (.cond c x y) Q r ds m H := WC.no hc hp h
theorem WC.nyes (hc : r.ev c = some (.bool (!dcd p))) (hp : ¬ p) (h : WC P ro n w0 x Q r ds m H) : WC P ro n w0 (.cond c x y) Q r ds m H := .cond_t (by rw [hc, dcd_false hp]; rfl) h
theorem c_nyes (h : WC P ro n w0 x Q r ds m H) (hc : r.ev c = some (.bool (!dcd p)) := by exact rfl) (hp : ¬ p := by first | omega | assumption | with_reducible rfl | with_reducible exact ⟨rfl, rfl⟩ | with_reducible exact ⟨rfl, rfl, rfl⟩ | exact ⟨rfl, rfl, rfl, rfl⟩) : WC P ro n w0 (.cond c x y) Q r ds m H := WC.nyes hc hp h
theorem WC.nno (hc : r.ev c = some (.bool (!dcd p))) (hp : p) (h : WC P ro n w0 y Q r ds m H) : WC P ro n w0 (.cond c x y) Q r ds m H := .cond_f (by rw [hc, dcd_true hp]; rfl) h
theorem c_nno (h : WC P ro n w0 y Q r ds m H) (hc : r.ev c = some (.bool (!dcd p)) := by exact rfl) (hp : p := by first | omega | assumption | with_reducible rfl | with_reducible exact ⟨rfl, rfl⟩ | with_reducible exact ⟨rfl, rfl, rfl⟩ | exact ⟨rfl, rfl, rfl, rfl⟩) : WC P ro n w0 (.cond c x y) Q r ds m H := WC.nno hc hp h
theorem WC.is_t (hc : r.ev c = some (.bool b)) (hb : b = true) (h : WC P ro n w0 x Q r ds m H) : WC P ro n w0 (.cond c x y) Q r ds m H := .cond_t (by rw [hc, hb]) h
theorem c_is_t (h : WC P ro n w0 x Q r ds m H) (hc : r.ev c = some (.bool b) := by exact rfl) (hb : b = true := by assumption) : WC P ro n w0 (.cond c x y) Q r ds m H := WC.is_t hc hb h
theorem WC.is_f (hc : r.ev c = some (.bool b)) (hb : b = false) (h : WC P ro n w0 y Q r ds m H) : WC P ro n w0 (.cond c x y) Q r ds m H := .cond_f (by rw [hc, hb]) h
theorem c_is_f (h : WC P ro n w0 y Q r ds m H) (hc : r.ev c = some (.bool b) := by exact rfl) (hb : b = false := by assumption) : WC P ro n w0 (.cond c x y) Q r ds m H := WC.is_f hc hb h
/-- both ways, the test as a proposition -/
theorem WC.ways (hc : r.ev c = some (.bool (dcd p))) (ht : p → WC P ro n w0 x Q r ds m H) (hf : ¬ p → WC P ro n w0 y Q r ds m H) : WC P ro n w0 (.cond c x y) Q r ds m H := by
  by_cases hp : p
  · exact .yes hc hp (ht hp)
  · exact .no hc hp (hf hp)
theorem c_ways (ht : p → WC P ro n w0 x Q r ds m H) (hf : ¬ p → WC P ro n w0 y Q r ds m H) (hc : r.ev c = some (.bool (dcd p)) := by exact rfl) : WC P ro n w0 (.cond c x y) Q r ds m H := WC.ways hc ht hf
theorem WC.nways (hc : r.ev c = some (.bool (!dcd p))) (ht : ¬ p → WC P ro n w0 x Q r ds m H) (hf : p → WC P ro n w0 y Q r ds m H) : WC P ro n w0 (.cond c x y) Q r ds m H := by
  by_cases hp : p
  · exact .nno hc hp (hf hp)
  · exact .nyes hc hp (ht hp)
theorem c_nways (ht : ¬ p → WC P ro n w0 x Q r ds m H) (hf : p → WC P ro n w0 y Q r ds m H) (hc : r.ev c = some (.bool (!dcd p)) := by exact rfl) : WC P ro n w0 (.cond c x y) Q r ds m H := WC.nways hc ht hf
/-- a guard, both ways -/
theorem WL.gways {dst : Option Tmp} {op : Op} {ty : TypeId} {pos : String} {after : Array Edge} {j dj : Nat} {want : Bool} (hj : (ops[j]?).bind (·.dst) = some dj) (hd : r.get dj = some (.bool (dcd p)))
    (ht : p → WL P ro n w0 ops Q (⟨dst, op, ty, pos, after, some (j, want)⟩ :: l) ((dj, .bool true) :: r) ds m H)
    (hf : ¬ p → WL P ro n w0 ops Q (⟨dst, op, ty, pos, after, some (j, want)⟩ :: l) ((dj, .bool false) :: r) ds m H) : WL P ro n w0 ops Q (⟨dst, op, ty, pos, after, some (j, want)⟩ :: l) r ds m H := by
  have _ := hj
  by_cases hp : p
  · exact .known dj true hd (dcd_true hp) (ht hp)
  · exact .known dj false hd (dcd_false hp) (hf hp)
theorem w_gways {dst : Option Tmp} {op : Op} {ty : TypeId} {pos : String} {after : Array Edge} {j dj : Nat} {want : Bool} (ht : p → WL P ro n w0 ops Q (⟨dst, op, ty, pos, after, some (j, want)⟩ :: l) ((dj, .bool true) :: r) ds m H) (hf : ¬ p → WL P ro n w0 ops Q (⟨dst, op, ty, pos, after, some (j, want)⟩ :: l) ((dj, .bool false) :: r) ds m H) (hj : (ops[j]?).bind (·.dst) = some dj := by exact rfl) (hd : r.get dj = some (.bool (dcd p)) := by exact rfl) : WL P ro n w0 ops Q (⟨dst, op, ty, pos, after, some (j, want)⟩ :: l) r ds m H := WL.gways hj hd ht hf
theorem WL.gnways {dst : Option Tmp} {op : Op} {ty : TypeId} {pos : String} {after : Array Edge} {j dj : Nat} {want : Bool} (hj : (ops[j]?).bind (·.dst) = some dj) (hd : r.get dj = some (.bool (!dcd p)))
    (ht : ¬ p → WL P ro n w0 ops Q (⟨dst, op, ty, pos, after, some (j, want)⟩ :: l) ((dj, .bool true) :: r) ds m H)
    (hf : p → WL P ro n w0 ops Q (⟨dst, op, ty, pos, after, some (j, want)⟩ :: l) ((dj, .bool false) :: r) ds m H) : WL P ro n w0 ops Q (⟨dst, op, ty, pos, after, some (j, want)⟩ :: l) r ds m H := by
  have _ := hj
  by_cases hp : p
  · exact .known dj false hd (by simp [dcd_eq, hp]) (hf hp)
  · exact .known dj true hd (by simp [dcd_eq, hp]) (ht hp)
theorem w_gnways {dst : Option Tmp} {op : Op} {ty : TypeId} {pos : String} {after : Array Edge} {j dj : Nat} {want : Bool} (ht : ¬ p → WL P ro n w0 ops Q (⟨dst, op, ty, pos, after, some (j, want)⟩ :: l) ((dj, .bool true) :: r) ds m H) (hf : p → WL P ro n w0 ops Q (⟨dst, op, ty, pos, after, some (j, want)⟩ :: l) ((dj, .bool false) :: r) ds m H) (hj : (ops[j]?).bind (·.dst) = some dj := by exact rfl) (hd : r.get dj = some (.bool (!dcd p)) := by exact rfl) : WL P ro n w0 ops Q (⟨dst, op, ty, pos, after, some (j, want)⟩ :: l) r ds m H := WL.gnways hj hd ht hf
theorem WL.gyes {dst : Option Tmp} {op : Op} {ty : TypeId} {pos : String} {after : Array Edge} {j dj : Nat} {want : Bool} (hj : (ops[j]?).bind (·.dst) = some dj) (hd : r.get dj = some (.bool (dcd p))) (hp : p)
    (h : WL P ro n w0 ops Q (⟨dst, op, ty, pos, after, some (j, want)⟩ :: l) ((dj, .bool true) :: r) ds m H) : WL P ro n w0 ops Q (⟨dst, op, ty, pos, after, some (j, want)⟩ :: l) r ds m H := by
  have _ := hj
  exact .known dj true hd (dcd_true hp) h
theorem w_gyes {dst : Option Tmp} {op : Op} {ty : TypeId} {pos : String} {after : Array Edge} {j dj : Nat} {want : Bool} (h : WL P ro n w0 ops Q (⟨dst, op, ty, pos, after, some (j, want)⟩ :: l) ((dj, .bool true) :: r) ds m H) (hj : (ops[j]?).bind (·.dst) = some dj := by exact rfl) (hd : r.get dj = some (.bool (dcd p)) := by exact rfl) (hp : p := by first | omega | assumption | with_reducible rfl | with_reducible exact ⟨rfl, rfl⟩ | with_reducible exact ⟨rfl, rfl, rfl⟩ | exact ⟨rfl, rfl, rfl, rfl⟩) : WL P ro n w0 ops Q (⟨dst, op, ty, pos, after, some (j, want)⟩ :: l) r ds m H := WL.gyes hj hd hp h
theorem WL.gno {dst : Option Tmp} {op : Op} {ty : TypeId} {pos : String} {after : Array Edge} {j dj : Nat} {want : Bool} (hj : (ops[j]?).bind (·.dst) = some dj) (hd : r.get dj = some (.bool (dcd p))) (hp : ¬ p)
    (h : WL P ro n w0 ops Q (⟨dst, op, ty, pos, after, some (j, want)⟩ :: l) ((dj, .bool false) :: r) ds m H) : WL P ro n w0 ops Q (⟨dst, op, ty, pos, after, some (j, want)⟩ :: l) r ds m H := by
  have _ := hj
  exact .known dj false hd (dcd_false hp) h
theorem w_gno {dst : Option Tmp} {op : Op} {ty : TypeId} {pos : String} {after : Array Edge} {j dj : Nat} {want : Bool} (h : WL P ro n w0 ops Q (⟨dst, op, ty, pos, after, some (j, want)⟩ :: l) ((dj, .bool false) :: r) ds m H) (hj : (ops[j]?).bind (·.dst) = some dj := by exact rfl) (hd : r.get dj = some (.bool (dcd p)) := by exact rfl) (hp : ¬ p := by first | omega | assumption | with_reducible rfl | with_reducible exact ⟨rfl, rfl⟩ | with_reducible exact ⟨rfl, rfl, rfl⟩ | exact ⟨rfl, rfl, rfl, rfl⟩) : WL P ro n w0 ops Q (⟨dst, op, ty, pos, after, some (j, want)⟩ :: l) r ds m H := WL.gno hj hd hp h
theorem WL.gnyes {dst : Option Tmp} {op : Op} {ty : TypeId} {pos : String} {after : Array Edge} {j dj : Nat} {want : Bool} (hj : (ops[j]?).bind (·.dst) = some dj) (hd : r.get dj = some (.bool (!dcd p))) (hp : ¬ p)
    (h : WL P ro n w0 ops Q (⟨dst, op, ty, pos, after, some (j, want)⟩ :: l) ((dj, .bool true) :: r) ds m H) : WL P ro n w0 ops Q (⟨dst, op, ty, pos, after, some (j, want)⟩ :: l) r ds m H := by
  have _ := hj
  exact .known dj true hd (by simp [dcd_eq, hp]) h
theorem w_gnyes {dst : Option Tmp} {op : Op} {ty : TypeId} {pos : String} {after : Array Edge} {j dj : Nat} {want : Bool} (h : WL P ro n w0 ops Q (⟨dst, op, ty, pos, after, some (j, want)⟩ :: l) ((dj, .bool true) :: r) ds m H) (hj : (ops[j]?).bind (·.dst) = some dj := by exact rfl) (hd : r.get dj = some (.bool (!dcd p)) := by exact rfl) (hp : ¬ p := by first | omega | assumption | with_reducible rfl | with_reducible exact ⟨rfl, rfl⟩ | with_reducible exact ⟨rfl, rfl, rfl⟩ | exact ⟨rfl, rfl, rfl, rfl⟩) : WL P ro n w0 ops Q (⟨dst, op, ty, pos, after, some (j, want)⟩ :: l) r ds m H := WL.gnyes hj hd hp h
theorem WL.gnno {dst : Option Tmp} {op : Op} {ty : TypeId} {pos : String} {after : Array Edge} {j dj : Nat} {want : Bool} (hj : (ops[j]?).bind (·.dst) = some dj) (hd : r.get dj = some (.bool (!dcd p))) (hp : p)
    (h : WL P ro n w0 ops Q (⟨dst, op, ty, pos, after, some (j, want)⟩ :: l) ((dj, .bool false) :: r) ds m H) : WL P ro n w0 ops Q (⟨dst, op, ty, pos, after, some (j, want)⟩ :: l) r ds m H := by
  have _ := hj
  exact .known dj false hd (by simp [dcd_eq, hp]) h
theorem w_gnno {dst : Option Tmp} {op : Op} {ty : TypeId} {pos : String} {after : Array Edge} {j dj : Nat} {want : Bool} (h : WL P ro n w0 ops Q (⟨dst, op, ty, pos, after, some (j, want)⟩ :: l) ((dj, .bool false) :: r) ds m H) (hj : (ops[j]?).bind (·.dst) = some dj := by exact rfl) (hd : r.get dj = some (.bool (!dcd p)) := by exact rfl) (hp : p := by first | omega | assumption | with_reducible rfl | with_reducible exact ⟨rfl, rfl⟩ | with_reducible exact ⟨rfl, rfl, rfl⟩ | exact ⟨rfl, rfl, rfl, rfl⟩) : WL P ro n w0 ops Q (⟨dst, op, ty, pos, after, some (j, want)⟩ :: l) r ds m H := WL.gnno hj hd hp h
theorem WL.gis {dst : Option Tmp} {op : Op} {ty : TypeId} {pos : String} {after : Array Edge} {j dj : Nat} {want : Bool} (k : Bool) (hj : (ops[j]?).bind (·.dst) = some dj) (hd : r.get dj = some (.bool b)) (hb : b = k)
    (h : WL P ro n w0 ops Q (⟨dst, op, ty, pos, after, some (j, want)⟩ :: l) ((dj, .bool k) :: r) ds m H) : WL P ro n w0 ops Q (⟨dst, op, ty, pos, after, some (j, want)⟩ :: l) r ds m H := by
  have _ := hj
  exact .known dj k hd hb h
theorem w_gis {dst : Option Tmp} {op : Op} {ty : TypeId} {pos : String} {after : Array Edge} {j dj : Nat} {want : Bool} {k : Bool} (h : WL P ro n w0 ops Q (⟨dst, op, ty, pos, after, some (j, want)⟩ :: l) ((dj, .bool k) :: r) ds m H) (hj : (ops[j]?).bind (·.dst) = some dj := by exact rfl) (hd : r.get dj = some (.bool b) := by exact rfl) (hb : b = k := by assumption) : WL P ro n w0 ops Q (⟨dst, op, ty, pos, after, some (j, want)⟩ :: l) r ds m H := WL.gis k hj hd hb h
theorem Env.Sub.refl_cons {r : Env} {t : Nat} {v : Value} {r' : Env} (h : r.get t = some v) (h' : Env.Sub r' r) : Env.Sub ((t, v) :: r') r := .cons h h'
end
end Go.Eng
namespace Go.Eng
open Go Go.RowKit
section
variable {P : Program} {ro : Option Nat} {n : Nat} {w0 : World} {Q : Exit → Act → World → Prop} {r : Env} {ds : List Nat} {m : Mem} {H : SHeap}
/-- a loop that is left in its first round -/
theorem WC.loop1 {c : Code} (h : WC P ro n w0 c (Exit.then (fun _ _ => False) Q) r ds m H) : WC P ro n w0 (.loop c) Q r ds m H :=
  fun tmps w ho hs => wpIn_loop_once (h tmps w ho hs)
/-- what a function without a trace in memory owes -/
def Gives (v : Value) (m : Mem) (H : SHeap) : Value → Mem → SHeap → Prop := fun v' m' H' => v' = v ∧ m' = m ∧ H' = H
theorem Gives.mk {v v' : Value} (h : v' = v) : Gives v m H v' m H := ⟨h, rfl, rfl⟩
/-- at a function's end: what was laid on the way is let go -/
theorem WQ.drop {e : Exit} {i : Item} (h : WQ n w0 Q e r ds m H) : WQ n w0 Q e r ds m (i :: H) := fun tmps w ho hs => h tmps w ho hs.drop
/-- a function's end where nothing of its own is kept -/
theorem WQ.fin0 {fn : Func} {Post : Value → Mem → SHeap → Prop} {H0 : SHeap} (v : Value) (hres : ∀ tmps w, r.ok n tmps → Sat w0 m H w → (results fn tmps).run P w = .ok v w) (hd : ∀ w, Sat w0 m H w → Sat w0 m H0 w) (hp : Post v m H0) :
    WQ n w0 (QFun P fn w0 Post) .ret r [] m H :=
  fun tmps w ho hs => ⟨v, hres tmps w ho hs, v, m, H0, rfl, hp, hd w hs⟩
theorem q_fin0 {fn : Func} {Post : Value → Mem → SHeap → Prop} {H0 : SHeap} {v : Value} (hp : Post v m H0) (hres : ∀ tmps w, r.ok n tmps → Sat w0 m H w → (results fn tmps).run P w = .ok v w := by (first | (apply res_tmp; (· exact rfl); (· exact rfl)) | (apply res_cell; (· exact rfl); (· exact rfl); (· (first | (apply Loads.one; (· exact rfl); (· first | (apply Cell.blk; (· (repeat (first | exact List.Mem.head _ | apply List.Mem.tail))); (· exact rfl)) | (apply Cell.mem; (· assumption); (· exact rfl)))) | (apply Loads.whole; (· exact rfl); (· exact rfl); (· (repeat (first | exact List.Mem.head _ | apply List.Mem.tail))); (· exact rfl)) | (apply Loads.blk; (· exact rfl); (· exact rfl); (· (repeat (first | exact List.Mem.head _ | apply List.Mem.tail))); (· (repeat (first | exact Seg.nil | (apply Seg.cons; (· exact rfl)))))) | (apply Loads.row; (· (repeat (first | exact List.Mem.head _ | apply List.Mem.tail))); (first | (rotate_left; (· exact rfl); rotate_right; (· assumption)) | ((· assumption); (· exact rfl))); (· exact rfl); (· exact rfl); (· exact rfl)) | (apply Loads.row1; (· (repeat (first | exact List.Mem.head _ | apply List.Mem.tail))); (first | (rotate_left; (· exact rfl); rotate_right; (· assumption)) | ((· assumption); (· exact rfl))); (· exact rfl)) | (apply Loads.rowF; (· (repeat (first | exact List.Mem.head _ | apply List.Mem.tail))); (first | (rotate_left; (· exact rfl); rotate_right; (· assumption)) | ((· assumption); (· exact rfl))); (· exact rfl); (· exact rfl)) | (apply Loads.prow; (· assumption); (first | (rotate_left; (· exact rfl); rotate_right; (· assumption)) | ((· assumption); (· exact rfl))); (· exact rfl); (· exact rfl); (· exact rfl)) | (apply Loads.prow1; (· assumption); (first | (rotate_left; (· exact rfl); rotate_right; (· assumption)) | ((· assumption); (· exact rfl))); (· exact rfl)) | (apply Loads.prowF; (· assumption); (first | (rotate_left; (· exact rfl); rotate_right; (· assumption)) | ((· assumption); (· exact rfl))); (· exact rfl); (· exact rfl)) | (apply Loads.rrow; (· assumption); (first | (rotate_left; (· exact rfl); rotate_right; (· assumption)) | ((· assumption); (· exact rfl))); (· exact rfl); (· exact rfl); (· exact rfl)) | (apply Loads.rrow1; (· assumption); (first | (rotate_left; (· exact rfl); rotate_right; (· assumption)) | ((· assumption); (· exact rfl))); (· exact rfl)) | (apply Loads.rrowF; (· assumption); (first | (rotate_left; (· exact rfl); rotate_right; (· assumption)) | ((· assumption); (· exact rfl))); (· exact rfl); (· exact rfl)) | (apply Loads.rowS; (· (repeat (first | exact List.Mem.head _ | apply List.Mem.tail))); (first | (rotate_left; (· exact rfl); rotate_right; (· assumption)) | ((· assumption); (· exact rfl))); (· exact rfl); (· exact rfl); (· (repeat (first | exact Seg.nil | (apply Seg.cons; (· exact rfl))))))))) | (apply res_none; exact rfl) | (apply res_many; (· exact rfl); (· repeat (first | exact ResAll.nil | (apply ResAll.tmp; (· exact rfl)) | (apply ResAll.cell; (· exact rfl); (· (first | (apply Loads.one; (· exact rfl); (· first | (apply Cell.blk; (· (repeat (first | exact List.Mem.head _ | apply List.Mem.tail))); (· exact rfl)) | (apply Cell.mem; (· assumption); (· exact rfl)))) | (apply Loads.whole; (· exact rfl); (· exact rfl); (· (repeat (first | exact List.Mem.head _ | apply List.Mem.tail))); (· exact rfl)) | (apply Loads.blk; (· exact rfl); (· exact rfl); (· (repeat (first | exact List.Mem.head _ | apply List.Mem.tail))); (· (repeat (first | exact Seg.nil | (apply Seg.cons; (· exact rfl)))))) | (apply Loads.row; (· (repeat (first | exact List.Mem.head _ | apply List.Mem.tail))); (first | (rotate_left; (· exact rfl); rotate_right; (· assumption)) | ((· assumption); (· exact rfl))); (· exact rfl); (· exact rfl); (· exact rfl)) | (apply Loads.row1; (· (repeat (first | exact List.Mem.head _ | apply List.Mem.tail))); (first | (rotate_left; (· exact rfl); rotate_right; (· assumption)) | ((· assumption); (· exact rfl))); (· exact rfl)) | (apply Loads.rowF; (· (repeat (first | exact List.Mem.head _ | apply List.Mem.tail))); (first | (rotate_left; (· exact rfl); rotate_right; (· assumption)) | ((· assumption); (· exact rfl))); (· exact rfl); (· exact rfl)) | (apply Loads.prow; (· assumption); (first | (rotate_left; (· exact rfl); rotate_right; (· assumption)) | ((· assumption); (· exact rfl))); (· exact rfl); (· exact rfl); (· exact rfl)) | (apply Loads.prow1; (· assumption); (first | (rotate_left; (· exact rfl); rotate_right; (· assumption)) | ((· assumption); (· exact rfl))); (· exact rfl)) | (apply Loads.prowF; (· assumption); (first | (rotate_left; (· exact rfl); rotate_right; (· assumption)) | ((· assumption); (· exact rfl))); (· exact rfl); (· exact rfl)) | (apply Loads.rrow; (· assumption); (first | (rotate_left; (· exact rfl); rotate_right; (· assumption)) | ((· assumption); (· exact rfl))); (· exact rfl); (· exact rfl); (· exact rfl)) | (apply Loads.rrow1; (· assumption); (first | (rotate_left; (· exact rfl); rotate_right; (· assumption)) | ((· assumption); (· exact rfl))); (· exact rfl)) | (apply Loads.rrowF; (· assumption); (first | (rotate_left; (· exact rfl); rotate_right; (· assumption)) | ((· assumption); (· exact rfl))); (· exact rfl); (· exact rfl)) | (apply Loads.rowS; (· (repeat (first | exact List.Mem.head _ | apply List.Mem.tail))); (first | (rotate_left; (· exact rfl); rotate_right; (· assumption)) | ((· assumption); (· exact rfl))); (· exact rfl); (· exact rfl); (· (repeat (first | exact Seg.nil | (apply Seg.cons; (· exact rfl))))))))))); (· exact rfl)))) (hd : ∀ w, Sat w0 m H w → Sat w0 m H0 w := by ((repeat apply drops_cons); exact (fun w h => h))) : WQ n w0 (QFun P fn w0 Post) .ret r [] m H := WQ.fin0 v hres hd hp
theorem WQ.finNorm0 {fn : Func} {Post : Value → Mem → SHeap → Prop} {H0 : SHeap} (v : Value) (hres : ∀ tmps w, r.ok n tmps → Sat w0 m H w → (results fn tmps).run P w = .ok v w) (hd : ∀ w, Sat w0 m H w → Sat w0 m H0 w) (hp : Post v m H0) :
    WQ n w0 (QFun P fn w0 Post) .normal r [] m H :=
  fun tmps w ho hs => ⟨v, hres tmps w ho hs, v, m, H0, rfl, hp, hd w hs⟩
theorem q_finNorm0 {fn : Func} {Post : Value → Mem → SHeap → Prop} {H0 : SHeap} {v : Value} (hp : Post v m H0) (hres : ∀ tmps w, r.ok n tmps → Sat w0 m H w → (results fn tmps).run P w = .ok v w := by (first | (apply res_tmp; (· exact rfl); (· exact rfl)) | (apply res_cell; (· exact rfl); (· exact rfl); (· (first | (apply Loads.one; (· exact rfl); (· first | (apply Cell.blk; (· (repeat (first | exact List.Mem.head _ | apply List.Mem.tail))); (· exact rfl)) | (apply Cell.mem; (· assumption); (· exact rfl)))) | (apply Loads.whole; (· exact rfl); (· exact rfl); (· (repeat (first | exact List.Mem.head _ | apply List.Mem.tail))); (· exact rfl)) | (apply Loads.blk; (· exact rfl); (· exact rfl); (· (repeat (first | exact List.Mem.head _ | apply List.Mem.tail))); (· (repeat (first | exact Seg.nil | (apply Seg.cons; (· exact rfl)))))) | (apply Loads.row; (· (repeat (first | exact List.Mem.head _ | apply List.Mem.tail))); (first | (rotate_left; (· exact rfl); rotate_right; (· assumption)) | ((· assumption); (· exact rfl))); (· exact rfl); (· exact rfl); (· exact rfl)) | (apply Loads.row1; (· (repeat (first | exact List.Mem.head _ | apply List.Mem.tail))); (first | (rotate_left; (· exact rfl); rotate_right; (· assumption)) | ((· assumption); (· exact rfl))); (· exact rfl)) | (apply Loads.rowF; (· (repeat (first | exact List.Mem.head _ | apply List.Mem.tail))); (first | (rotate_left; (· exact rfl); rotate_right; (· assumption)) | ((· assumption); (· exact rfl))); (· exact rfl); (· exact rfl)) | (apply Loads.prow; (· assumption); (first | (rotate_left; (· exact rfl); rotate_right; (· assumption)) | ((· assumption); (· exact rfl))); (· exact rfl); (· exact rfl); (· exact rfl)) | (apply Loads.prow1; (· assumption); (first | (rotate_left; (· exact rfl); rotate_right; (· assumption)) | ((· assumption); (· exact rfl))); (· exact rfl)) | (apply Loads.prowF; (· assumption); (first | (rotate_left; (· exact rfl); rotate_right; (· assumption)) | ((· assumption); (· exact rfl))); (· exact rfl); (· exact rfl)) | (apply Loads.rrow; (· assumption); (first | (rotate_left; (· exact rfl); rotate_right; (· assumption)) | ((· assumption); (· exact rfl))); (· exact rfl); (· exact rfl); (· exact rfl)) | (apply Loads.rrow1; (· assumption); (first | (rotate_left; (· exact rfl); rotate_right; (· assumption)) | ((· assumption); (· exact rfl))); (· exact rfl)) | (apply Loads.rrowF; (· assumption); (first | (rotate_left; (· exact rfl); rotate_right; (· assumption)) | ((· assumption); (· exact rfl))); (· exact rfl); (· exact rfl)) | (apply Loads.rowS; (· (repeat (first | exact List.Mem.head _ | apply List.Mem.tail))); (first | (rotate_left; (· exact rfl); rotate_right; (· assumption)) | ((· assumption); (· exact rfl))); (· exact rfl); (· exact rfl); (· (repeat (first | exact Seg.nil | (apply Seg.cons; (· exact rfl))))))))) | (apply res_none; exact rfl) | (apply res_many; (· exact rfl); (· repeat (first | exact ResAll.nil | (apply ResAll.tmp; (· exact rfl)) | (apply ResAll.cell; (· exact rfl); (· (first | (apply Loads.one; (· exact rfl); (· first | (apply Cell.blk; (· (repeat (first | exact List.Mem.head _ | apply List.Mem.tail))); (· exact rfl)) | (apply Cell.mem; (· assumption); (· exact rfl)))) | (apply Loads.whole; (· exact rfl); (· exact rfl); (· (repeat (first | exact List.Mem.head _ | apply List.Mem.tail))); (· exact rfl)) | (apply Loads.blk; (· exact rfl); (· exact rfl); (· (repeat (first | exact List.Mem.head _ | apply List.Mem.tail))); (· (repeat (first | exact Seg.nil | (apply Seg.cons; (· exact rfl)))))) | (apply Loads.row; (· (repeat (first | exact List.Mem.head _ | apply List.Mem.tail))); (first | (rotate_left; (· exact rfl); rotate_right; (· assumption)) | ((· assumption); (· exact rfl))); (· exact rfl); (· exact rfl); (· exact rfl)) | (apply Loads.row1; (· (repeat (first | exact List.Mem.head _ | apply List.Mem.tail))); (first | (rotate_left; (· exact rfl); rotate_right; (· assumption)) | ((· assumption); (· exact rfl))); (· exact rfl)) | (apply Loads.rowF; (· (repeat (first | exact List.Mem.head _ | apply List.Mem.tail))); (first | (rotate_left; (· exact rfl); rotate_right; (· assumption)) | ((· assumption); (· exact rfl))); (· exact rfl); (· exact rfl)) | (apply Loads.prow; (· assumption); (first | (rotate_left; (· exact rfl); rotate_right; (· assumption)) | ((· assumption); (· exact rfl))); (· exact rfl); (· exact rfl); (· exact rfl)) | (apply Loads.prow1; (· assumption); (first | (rotate_left; (· exact rfl); rotate_right; (· assumption)) | ((· assumption); (· exact rfl))); (· exact rfl)) | (apply Loads.prowF; (· assumption); (first | (rotate_left; (· exact rfl); rotate_right; (· assumption)) | ((· assumption); (· exact rfl))); (· exact rfl); (· exact rfl)) | (apply Loads.rrow; (· assumption); (first | (rotate_left; (· exact rfl); rotate_right; (· assumption)) | ((· assumption); (· exact rfl))); (· exact rfl); (· exact rfl); (· exact rfl)) | (apply Loads.rrow1; (· assumption); (first | (rotate_left; (· exact rfl); rotate_right; (· assumption)) | ((· assumption); (· exact rfl))); (· exact rfl)) | (apply Loads.rrowF; (· assumption); (first | (rotate_left; (· exact rfl); rotate_right; (· assumption)) | ((· assumption); (· exact rfl))); (· exact rfl); (· exact rfl)) | (apply Loads.rowS; (· (repeat (first | exact List.Mem.head _ | apply List.Mem.tail))); (first | (rotate_left; (· exact rfl); rotate_right; (· assumption)) | ((· assumption); (· exact rfl))); (· exact rfl); (· exact rfl); (· (repeat (first | exact Seg.nil | (apply Seg.cons; (· exact rfl))))))))))); (· exact rfl)))) (hd : ∀ w, Sat w0 m H w → Sat w0 m H0 w := by ((repeat apply drops_cons); exact (fun w h => h))) : WQ n w0 (QFun P fn w0 Post) .normal r [] m H := WQ.finNorm0 v hres hd hp
theorem drops_refl {w : World} (h : Sat w0 m H w) : Sat w0 m H w := h
theorem drops_cons {i : Item} {H0 : SHeap} (h : ∀ w, Sat w0 m H w → Sat w0 m H0 w) : ∀ w, Sat w0 m (i :: H) w → Sat w0 m H0 w := fun w hs => h w hs.drop
theorem Sat.forget {m' : Mem} {w : World} (h : Sat w0 m' H w) (hm : m.le m') : Sat w0 m H w :=
  ⟨h.os, h.tape, h.output, h.size, fun b o hb => h.pers b o (hm b o hb), h.own, h.sep, fun b hb => by
    cases hq : m b with
    | none => rfl
    | some o => have := hm b o hq; rw [h.free b hb] at this; cases this⟩
/-- what is owned is let stand: from here on it is known by what lies there -/
theorem WL.persist {ops : Array Oper} {l : List Oper} {b : Nat} {o : Obj} {H1 : SHeap} (ho : Out (.blk b o) H H1) (h : ∀ m', m.le m' → m' b = some o → WL P ro n w0 ops Q l r ds m' H1) : WL P ro n w0 ops Q l r ds m H :=
  fun tmps w hok hs => by
    obtain ⟨h1, h2⟩ := (hs.perm ho.perm).persist
    exact h _ h2 (by simp [Mem.ins]) tmps w hok h1
theorem WC.persist {c : Code} {b : Nat} {o : Obj} {H1 : SHeap} (ho : Out (.blk b o) H H1) (h : ∀ m', m.le m' → m' b = some o → WC P ro n w0 c Q r ds m' H1) : WC P ro n w0 c Q r ds m H :=
  fun tmps w hok hs => by
    obtain ⟨h1, h2⟩ := (hs.perm ho.perm).persist
    exact h _ h2 (by simp [Mem.ins]) tmps w hok h1
theorem Cell.mem {b o : Nat} {L : List Value} {T : TypeId} {fz : Nat × Nat} {v : Value} (hm : m b = some (.cells L.toArray T fz)) (hv : L[o]? = some v) : Cell w0 m H ⟨b, o, none⟩ v := by
  intro w hs
  simp [World.cell?, hs.pers _ _ hm, hv]
/-- a function's end: what was laid is let go, what was let stand is forgotten -/
theorem WQ.fin1 {fn : Func} {Post : Value → Mem → SHeap → Prop} {m0 : Mem} {H0 : SHeap} (v : Value) (hres : ∀ tmps w, r.ok n tmps → Sat w0 m H w → (results fn tmps).run P w = .ok v w) (hd : ∀ w, Sat w0 m H w → Sat w0 m H0 w) (hm : m0.le m) (hp : Post v m0 H0) :
    WQ n w0 (QFun P fn w0 Post) .ret r [] m H :=
  fun tmps w ho hs => ⟨v, hres tmps w ho hs, v, m0, H0, rfl, hp, (hd w hs).forget hm⟩
theorem q_fin1 {fn : Func} {Post : Value → Mem → SHeap → Prop} {m0 : Mem} {H0 : SHeap} {v : Value} (hm : m0.le m) (hp : Post v m0 H0) (hres : ∀ tmps w, r.ok n tmps → Sat w0 m H w → (results fn tmps).run P w = .ok v w := by (first | (apply res_tmp; (· exact rfl); (· exact rfl)) | (apply res_cell; (· exact rfl); (· exact rfl); (· (first | (apply Loads.one; (· exact rfl); (· first | (apply Cell.blk; (· (repeat (first | exact List.Mem.head _ | apply List.Mem.tail))); (· exact rfl)) | (apply Cell.mem; (· assumption); (· exact rfl)))) | (apply Loads.whole; (· exact rfl); (· exact rfl); (· (repeat (first | exact List.Mem.head _ | apply List.Mem.tail))); (· exact rfl)) | (apply Loads.blk; (· exact rfl); (· exact rfl); (· (repeat (first | exact List.Mem.head _ | apply List.Mem.tail))); (· (repeat (first | exact Seg.nil | (apply Seg.cons; (· exact rfl)))))) | (apply Loads.row; (· (repeat (first | exact List.Mem.head _ | apply List.Mem.tail))); (first | (rotate_left; (· exact rfl); rotate_right; (· assumption)) | ((· assumption); (· exact rfl))); (· exact rfl); (· exact rfl); (· exact rfl)) | (apply Loads.row1; (· (repeat (first | exact List.Mem.head _ | apply List.Mem.tail))); (first | (rotate_left; (· exact rfl); rotate_right; (· assumption)) | ((· assumption); (· exact rfl))); (· exact rfl)) | (apply Loads.rowF; (· (repeat (first | exact List.Mem.head _ | apply List.Mem.tail))); (first | (rotate_left; (· exact rfl); rotate_right; (· assumption)) | ((· assumption); (· exact rfl))); (· exact rfl); (· exact rfl)) | (apply Loads.prow; (· assumption); (first | (rotate_left; (· exact rfl); rotate_right; (· assumption)) | ((· assumption); (· exact rfl))); (· exact rfl); (· exact rfl); (· exact rfl)) | (apply Loads.prow1; (· assumption); (first | (rotate_left; (· exact rfl); rotate_right; (· assumption)) | ((· assumption); (· exact rfl))); (· exact rfl)) | (apply Loads.prowF; (· assumption); (first | (rotate_left; (· exact rfl); rotate_right; (· assumption)) | ((· assumption); (· exact rfl))); (· exact rfl); (· exact rfl)) | (apply Loads.rrow; (· assumption); (first | (rotate_left; (· exact rfl); rotate_right; (· assumption)) | ((· assumption); (· exact rfl))); (· exact rfl); (· exact rfl); (· exact rfl)) | (apply Loads.rrow1; (· assumption); (first | (rotate_left; (· exact rfl); rotate_right; (· assumption)) | ((· assumption); (· exact rfl))); (· exact rfl)) | (apply Loads.rrowF; (· assumption); (first | (rotate_left; (· exact rfl); rotate_right; (· assumption)) | ((· assumption); (· exact rfl))); (· exact rfl); (· exact rfl)) | (apply Loads.rowS; (· (repeat (first | exact List.Mem.head _ | apply List.Mem.tail))); (first | (rotate_left; (· exact rfl); rotate_right; (· assumption)) | ((· assumption); (· exact rfl))); (· exact rfl); (· exact rfl); (· (repeat (first | exact Seg.nil | (apply Seg.cons; (· exact rfl))))))))) | (apply res_none; exact rfl) | (apply res_many; (· exact rfl); (· repeat (first | exact ResAll.nil | (apply ResAll.tmp; (· exact rfl)) | (apply ResAll.cell; (· exact rfl); (· (first | (apply Loads.one; (· exact rfl); (· first | (apply Cell.blk; (· (repeat (first | exact List.Mem.head _ | apply List.Mem.tail))); (· exact rfl)) | (apply Cell.mem; (· assumption); (· exact rfl)))) | (apply Loads.whole; (· exact rfl); (· exact rfl); (· (repeat (first | exact List.Mem.head _ | apply List.Mem.tail))); (· exact rfl)) | (apply Loads.blk; (· exact rfl); (· exact rfl); (· (repeat (first | exact List.Mem.head _ | apply List.Mem.tail))); (· (repeat (first | exact Seg.nil | (apply Seg.cons; (· exact rfl)))))) | (apply Loads.row; (· (repeat (first | exact List.Mem.head _ | apply List.Mem.tail))); (first | (rotate_left; (· exact rfl); rotate_right; (· assumption)) | ((· assumption); (· exact rfl))); (· exact rfl); (· exact rfl); (· exact rfl)) | (apply Loads.row1; (· (repeat (first | exact List.Mem.head _ | apply List.Mem.tail))); (first | (rotate_left; (· exact rfl); rotate_right; (· assumption)) | ((· assumption); (· exact rfl))); (· exact rfl)) | (apply Loads.rowF; (· (repeat (first | exact List.Mem.head _ | apply List.Mem.tail))); (first | (rotate_left; (· exact rfl); rotate_right; (· assumption)) | ((· assumption); (· exact rfl))); (· exact rfl); (· exact rfl)) | (apply Loads.prow; (· assumption); (first | (rotate_left; (· exact rfl); rotate_right; (· assumption)) | ((· assumption); (· exact rfl))); (· exact rfl); (· exact rfl); (· exact rfl)) | (apply Loads.prow1; (· assumption); (first | (rotate_left; (· exact rfl); rotate_right; (· assumption)) | ((· assumption); (· exact rfl))); (· exact rfl)) | (apply Loads.prowF; (· assumption); (first | (rotate_left; (· exact rfl); rotate_right; (· assumption)) | ((· assumption); (· exact rfl))); (· exact rfl); (· exact rfl)) | (apply Loads.rrow; (· assumption); (first | (rotate_left; (· exact rfl); rotate_right; (· assumption)) | ((· assumption); (· exact rfl))); (· exact rfl); (· exact rfl); (· exact rfl)) | (apply Loads.rrow1; (· assumption); (first | (rotate_left; (· exact rfl); rotate_right; (· assumption)) | ((· assumption); (· exact rfl))); (· exact rfl)) | (apply Loads.rrowF; (· assumption); (first | (rotate_left; (· exact rfl); rotate_right; (· assumption)) | ((· assumption); (· exact rfl))); (· exact rfl); (· exact rfl)) | (apply Loads.rowS; (· (repeat (first | exact List.Mem.head _ | apply List.Mem.tail))); (first | (rotate_left; (· exact rfl); rotate_right; (· assumption)) | ((· assumption); (· exact rfl))); (· exact rfl); (· exact rfl); (· (repeat (first | exact Seg.nil | (apply Seg.cons; (· exact rfl))))))))))); (· exact rfl)))) (hd : ∀ w, Sat w0 m H w → Sat w0 m H0 w := by ((repeat apply drops_cons); exact (fun w h => h))) : WQ n w0 (QFun P fn w0 Post) .ret r [] m H := WQ.fin1 v hres hd hm hp
theorem WQ.finNorm1 {fn : Func} {Post : Value → Mem → SHeap → Prop} {m0 : Mem} {H0 : SHeap} (v : Value) (hres : ∀ tmps w, r.ok n tmps → Sat w0 m H w → (results fn tmps).run P w = .ok v w) (hd : ∀ w, Sat w0 m H w → Sat w0 m H0 w) (hm : m0.le m) (hp : Post v m0 H0) :
    WQ n w0 (QFun P fn w0 Post) .normal r [] m H :=
  fun tmps w ho hs => ⟨v, hres tmps w ho hs, v, m0, H0, rfl, hp, (hd w hs).forget hm⟩
theorem q_finNorm1 {fn : Func} {Post : Value → Mem → SHeap → Prop} {m0 : Mem} {H0 : SHeap} {v : Value} (hm : m0.le m) (hp : Post v m0 H0) (hres : ∀ tmps w, r.ok n tmps → Sat w0 m H w → (results fn tmps).run P w = .ok v w := by (first | (apply res_tmp; (· exact rfl); (· exact rfl)) | (apply res_cell; (· exact rfl); (· exact rfl); (· (first | (apply Loads.one; (· exact rfl); (· first | (apply Cell.blk; (· (repeat (first | exact List.Mem.head _ | apply List.Mem.tail))); (· exact rfl)) | (apply Cell.mem; (· assumption); (· exact rfl)))) | (apply Loads.whole; (· exact rfl); (· exact rfl); (· (repeat (first | exact List.Mem.head _ | apply List.Mem.tail))); (· exact rfl)) | (apply Loads.blk; (· exact rfl); (· exact rfl); (· (repeat (first | exact List.Mem.head _ | apply List.Mem.tail))); (· (repeat (first | exact Seg.nil | (apply Seg.cons; (· exact rfl)))))) | (apply Loads.row; (· (repeat (first | exact List.Mem.head _ | apply List.Mem.tail))); (first | (rotate_left; (· exact rfl); rotate_right; (· assumption)) | ((· assumption); (· exact rfl))); (· exact rfl); (· exact rfl); (· exact rfl)) | (apply Loads.row1; (· (repeat (first | exact List.Mem.head _ | apply List.Mem.tail))); (first | (rotate_left; (· exact rfl); rotate_right; (· assumption)) | ((· assumption); (· exact rfl))); (· exact rfl)) | (apply Loads.rowF; (· (repeat (first | exact List.Mem.head _ | apply List.Mem.tail))); (first | (rotate_left; (· exact rfl); rotate_right; (· assumption)) | ((· assumption); (· exact rfl))); (· exact rfl); (· exact rfl)) | (apply Loads.prow; (· assumption); (first | (rotate_left; (· exact rfl); rotate_right; (· assumption)) | ((· assumption); (· exact rfl))); (· exact rfl); (· exact rfl); (· exact rfl)) | (apply Loads.prow1; (· assumption); (first | (rotate_left; (· exact rfl); rotate_right; (· assumption)) | ((· assumption); (· exact rfl))); (· exact rfl)) | (apply Loads.prowF; (· assumption); (first | (rotate_left; (· exact rfl); rotate_right; (· assumption)) | ((· assumption); (· exact rfl))); (· exact rfl); (· exact rfl)) | (apply Loads.rrow; (· assumption); (first | (rotate_left; (· exact rfl); rotate_right; (· assumption)) | ((· assumption); (· exact rfl))); (· exact rfl); (· exact rfl); (· exact rfl)) | (apply Loads.rrow1; (· assumption); (first | (rotate_left; (· exact rfl); rotate_right; (· assumption)) | ((· assumption); (· exact rfl))); (· exact rfl)) | (apply Loads.rrowF; (· assumption); (first | (rotate_left; (· exact rfl); rotate_right; (· assumption)) | ((· assumption); (· exact rfl))); (· exact rfl); (· exact rfl)) | (apply Loads.rowS; (· (repeat (first | exact List.Mem.head _ | apply List.Mem.tail))); (first | (rotate_left; (· exact rfl); rotate_right; (· assumption)) | ((· assumption); (· exact rfl))); (· exact rfl); (· exact rfl); (· (repeat (first | exact Seg.nil | (apply Seg.cons; (· exact rfl))))))))) | (apply res_none; exact rfl) | (apply res_many; (· exact rfl); (· repeat (first | exact ResAll.nil | (apply ResAll.tmp; (· exact rfl)) | (apply ResAll.cell; (· exact rfl); (· (first | (apply Loads.one; (· exact rfl); (· first | (apply Cell.blk; (· (repeat (first | exact List.Mem.head _ | apply List.Mem.tail))); (· exact rfl)) | (apply Cell.mem; (· assumption); (· exact rfl)))) | (apply Loads.whole; (· exact rfl); (· exact rfl); (· (repeat (first | exact List.Mem.head _ | apply List.Mem.tail))); (· exact rfl)) | (apply Loads.blk; (· exact rfl); (· exact rfl); (· (repeat (first | exact List.Mem.head _ | apply List.Mem.tail))); (· (repeat (first | exact Seg.nil | (apply Seg.cons; (· exact rfl)))))) | (apply Loads.row; (· (repeat (first | exact List.Mem.head _ | apply List.Mem.tail))); (first | (rotate_left; (· exact rfl); rotate_right; (· assumption)) | ((· assumption); (· exact rfl))); (· exact rfl); (· exact rfl); (· exact rfl)) | (apply Loads.row1; (· (repeat (first | exact List.Mem.head _ | apply List.Mem.tail))); (first | (rotate_left; (· exact rfl); rotate_right; (· assumption)) | ((· assumption); (· exact rfl))); (· exact rfl)) | (apply Loads.rowF; (· (repeat (first | exact List.Mem.head _ | apply List.Mem.tail))); (first | (rotate_left; (· exact rfl); rotate_right; (· assumption)) | ((· assumption); (· exact rfl))); (· exact rfl); (· exact rfl)) | (apply Loads.prow; (· assumption); (first | (rotate_left; (· exact rfl); rotate_right; (· assumption)) | ((· assumption); (· exact rfl))); (· exact rfl); (· exact rfl); (· exact rfl)) | (apply Loads.prow1; (· assumption); (first | (rotate_left; (· exact rfl); rotate_right; (· assumption)) | ((· assumption); (· exact rfl))); (· exact rfl)) | (apply Loads.prowF; (· assumption); (first | (rotate_left; (· exact rfl); rotate_right; (· assumption)) | ((· assumption); (· exact rfl))); (· exact rfl); (· exact rfl)) | (apply Loads.rrow; (· assumption); (first | (rotate_left; (· exact rfl); rotate_right; (· assumption)) | ((· assumption); (· exact rfl))); (· exact rfl); (· exact rfl); (· exact rfl)) | (apply Loads.rrow1; (· assumption); (first | (rotate_left; (· exact rfl); rotate_right; (· assumption)) | ((· assumption); (· exact rfl))); (· exact rfl)) | (apply Loads.rrowF; (· assumption); (first | (rotate_left; (· exact rfl); rotate_right; (· assumption)) | ((· assumption); (· exact rfl))); (· exact rfl); (· exact rfl)) | (apply Loads.rowS; (· (repeat (first | exact List.Mem.head _ | apply List.Mem.tail))); (first | (rotate_left; (· exact rfl); rotate_right; (· assumption)) | ((· assumption); (· exact rfl))); (· exact rfl); (· exact rfl); (· (repeat (first | exact Seg.nil | (apply Seg.cons; (· exact rfl))))))))))); (· exact rfl)))) (hd : ∀ w, Sat w0 m H w → Sat w0 m H0 w := by ((repeat apply drops_cons); exact (fun w h => h))) : WQ n w0 (QFun P fn w0 Post) .normal r [] m H := WQ.finNorm1 v hres hd hm hp
/-- a loop, from a part of what is known -/
theorem WC.loopW {c : Code} (r0 : Env) (hr : Env.Sub r0 r) (I : Nat → Env → List Nat → Mem → SHeap → Prop) (j : Nat) (h0 : I j r0 ds m H)
    (round : ∀ j r ds m H, I j r ds m H → WC P ro n w0 c (QLoop n w0 I j Q) r ds m H) : WC P ro n w0 (.loop c) Q r ds m H :=
  .weak hr (fun _ h => h) (.loop I j h0 round)
end
end Go.Eng

/-
  A walk's engine, eighth part: a range over a function: what an iterator promises, what a loop over it owes. No condition.
-/
set_option linter.all false
namespace Go.Eng
open Go Go.RowKit

/-- a call of yield in such a state: it hands back true, or false -/
def YieldOK (P : Program) (w0 : World) (l : Nat) (args : Array Value) (m : Mem) (H : SHeap) (Jt Jf : Mem → SHeap → Prop) : Prop :=
  ∀ w, Sat w0 m H w → YieldAt (FW none) 0 P l args w fun e w' =>
    (e = .returned (.bool true) ∧ ∃ m' H', Jt m' H' ∧ Sat w0 m' H' w') ∨ (e = .returned (.bool false) ∧ ∃ m' H', Jf m' H' ∧ Sat w0 m' H' w')
/-- an iterator: it hands over xs, one after the other, as long as it is told to go on; Cap: what it leans on -/
def SeqC {α : Type} (P : Program) (gf : FuncId) (lb : List Value) (encs : α → List Value) (xs : List α) (Cap : Mem → Prop) : Prop :=
  ∀ (w0 : World) (l : Nat) (J Jx : List α → Mem → SHeap → Prop) (m : Mem) (H : SHeap), Cap m → J [] m H →
    (∀ pre x post, xs = pre ++ x :: post → ∀ m1 H1 Hit, J pre m1 H1 → m.le m1 →
      YieldOK P w0 l (encs x).toArray m1 (Hit ++ H1) (fun m' H' => ∃ H2, H' = Hit ++ H2 ∧ J (pre ++ [x]) m' H2 ∧ m1.le m') (fun m' H' => ∃ H2, H' = Hit ++ H2 ∧ Jx (pre ++ [x]) m' H2 ∧ m1.le m')) →
    Does P gf (.func (.yield l) #[] #[] :: lb).toArray w0 m H (fun _ m' H' => m.le m' ∧ (J xs m' H' ∨ ∃ pre, pre <+: xs ∧ Jx pre m' H'))
/-- a list that ends in a frame -/
inductive Tail (Hfr : SHeap) : SHeap → SHeap → Prop
  | nil : Tail Hfr Hfr []
  | cons {i : Item} {H Hl : SHeap} : Tail Hfr H Hl → Tail Hfr (i :: H) (i :: Hl)
theorem Tail.eq {Hfr H Hl : SHeap} (h : Tail Hfr H Hl) : H = Hl ++ Hfr := by
  induction h with
  | nil => rfl
  | cons _ ih => rw [ih]; rfl

section
variable {P : Program} {ro : Option Nat} {n : Nat} {w0 : World} {Q : Exit → Act → World → Prop} {r : Env} {ds : List Nat} {m : Mem} {H : SHeap}
  {ops : Array Oper} {l : List Oper} {d : Nat} {ty : TypeId} {pos : String} {after : Array Edge}

/-- a call of yield -/
theorem WL.yield {f : Operand} {args : List Operand} {vs : List Value} {ts : Array TypeId} {lp : Nat} {Jt Jf : Mem → SHeap → Prop} (hf : r.ev f = some (.func (.yield lp) #[] #[])) (hv : r.evs args = some vs)
    (hd : Nat.blt d n = true) (hy : YieldOK P w0 lp vs.toArray m H Jt Jf)
    (ht : ∀ m' H', Jt m' H' → WL P ro n w0 ops Q l ((d, .bool true) :: r) ds m' H') (hn : ∀ m' H', Jf m' H' → WL P ro n w0 ops Q l ((d, .bool false) :: r) ds m' H') :
    WL P ro n w0 ops Q (⟨some d, .call ⟨.value f, args.toArray, ts⟩, ty, pos, after, none⟩ :: l) r ds m H := by
  intro tmps w ho hs
  obtain ⟨fn, tm, assign, body, hrun, hround⟩ := hy w hs
  unfold wpListIn
  simp only [Region.wanted, if_true]
  refine ⟨fun f _ => FW_fn ro f, ?_⟩
  rw [semAt_exec (FW ro).round _ _ (fun _ h => by cases h)]
  have e1 := ho.evs (marks ds) hv
  have hex : (execOp (Act.mk tmps (marks ds)).eval ⟨some d, .call ⟨.value f, args.toArray, ts⟩, ty, pos, after, none⟩).run P w = .ok (.round lp fn tm assign body) w := by
    simp only [execOp, resolve, Sem.run_bind, List.map_toArray, e1, ho.ev hf]
    simp [Deferred.ofValue, invoke, hrun, Result.andThen]
  rw [hex]
  refine ⟨FW_depth ro, ?_⟩
  have hr : RoundIn (FW ro) (0 - 1) P lp fn tm assign body w _ := hround
  refine hr.mono ?_
  have hd' : d < n := by simpa [Nat.blt_eq] using hd
  rintro e w' (⟨rfl, m', H', hJ, hs'⟩ | ⟨rfl, m', H', hJ, hs'⟩)
  · exact ht m' H' hJ _ w' (ho.put hd' _) hs'
  · exact hn m' H' hJ _ w' (ho.put hd' _) hs'

/-- what a round's end owes -/
def QRound {α : Type} (w0 : World) (J : List α → Mem → SHeap → Prop) (Jx : Code → List α → Mem → SHeap → Prop) (pre : List α) (m1 : Mem) (Hfr : SHeap) : Exit → Act → World → Prop
  | .normal, _, w => ∃ m' Hl, J pre m' Hl ∧ m1.le m' ∧ Sat w0 m' (Hl ++ Hfr) w
  | .ret, _, w => ∃ m' Hl, Jx .ret pre m' Hl ∧ m1.le m' ∧ Sat w0 m' (Hl ++ Hfr) w
  | .exit id, _, w => ∃ m' Hl, Jx (.exit id) pre m' Hl ∧ m1.le m' ∧ Sat w0 m' (Hl ++ Hfr) w
  | .goto t, _, w => ∃ m' Hl, Jx (.goto t) pre m' Hl ∧ m1.le m' ∧ Sat w0 m' (Hl ++ Hfr) w
  | _, _, _ => False
/-- what the end of the assignment to the loop's variables owes: the body, over whatever frame -/
def QAssign {α : Type} (P : Program) (n : Nat) (w0 : World) (lp : Nat) (body : Code) (J : List α → Mem → SHeap → Prop) (Jx : Code → List α → Mem → SHeap → Prop) (pre : List α) (m1 : Mem) (Hfr : SHeap) : Exit → Act → World → Prop :=
  Exit.then (fun a w => ∃ r m' Hl, r.ok n a.tmps ∧ a.defers = marks [] ∧ Sat w0 m' (Hl ++ Hfr) w ∧ m1.le m' ∧ ∀ Hfr2, (∃ rec, Item.blk lp (.loop rec) ∈ Hfr2) → WC P (some lp) n w0 body (QRound w0 J Jx pre m1 Hfr2) r [] m' (Hl ++ Hfr2)) (fun _ _ _ => False)
theorem WQ.assigned {α : Type} {lp : Nat} {body : Code} {J : List α → Mem → SHeap → Prop} {Jx : Code → List α → Mem → SHeap → Prop} {pre : List α} {m1 : Mem} {Hfr Hl : SHeap} (ht : Tail Hfr H Hl) (hm : m1.le m)
    (h : ∀ Hfr2, WC P (some lp) n w0 body (QRound w0 J Jx pre m1 Hfr2) r [] m (Hl ++ Hfr2)) : WQ n w0 (QAssign P n w0 lp body J Jx pre m1 Hfr) .normal r [] m H :=
  fun _ _ ho hs => ⟨r, m, Hl, ho, rfl, by rw [← ht.eq]; exact hs, hm, fun Hfr2 _ => h Hfr2⟩
/-- the same, where the body needs to know the loop that it is a round of -/
theorem WQ.assignedIn {α : Type} {lp : Nat} {body : Code} {J : List α → Mem → SHeap → Prop} {Jx : Code → List α → Mem → SHeap → Prop} {pre : List α} {m1 : Mem} {Hfr Hl : SHeap} (ht : Tail Hfr H Hl) (hm : m1.le m)
    (h : ∀ Hfr2, (∃ rec, Item.blk lp (.loop rec) ∈ Hfr2) → WC P (some lp) n w0 body (QRound w0 J Jx pre m1 Hfr2) r [] m (Hl ++ Hfr2)) : WQ n w0 (QAssign P n w0 lp body J Jx pre m1 Hfr) .normal r [] m H :=
  fun _ _ ho hs => ⟨r, m, Hl, ho, rfl, by rw [← ht.eq]; exact hs, hm, h⟩
theorem WQ.roundOn {α : Type} {J : List α → Mem → SHeap → Prop} {Jx : Code → List α → Mem → SHeap → Prop} {pre : List α} {m1 : Mem} {Hfr Hl : SHeap} (ht : ∀ w, Sat w0 m H w → Sat w0 m (Hl ++ Hfr) w) (hm : m1.le m) (h : J pre m Hl) :
    WQ n w0 (QRound w0 J Jx pre m1 Hfr) .normal r ds m H := fun _ _ _ hs => ⟨m, Hl, h, hm, ht _ hs⟩
theorem WQ.roundRet {α : Type} {J : List α → Mem → SHeap → Prop} {Jx : Code → List α → Mem → SHeap → Prop} {pre : List α} {m1 : Mem} {Hfr Hl : SHeap} (ht : ∀ w, Sat w0 m H w → Sat w0 m (Hl ++ Hfr) w) (hm : m1.le m) (h : Jx .ret pre m Hl) :
    WQ n w0 (QRound w0 J Jx pre m1 Hfr) .ret r ds m H := fun _ _ _ hs => ⟨m, Hl, h, hm, ht _ hs⟩
theorem WQ.roundExit {α : Type} {J : List α → Mem → SHeap → Prop} {Jx : Code → List α → Mem → SHeap → Prop} {pre : List α} {m1 : Mem} {Hfr Hl : SHeap} {id : Nat} (ht : ∀ w, Sat w0 m H w → Sat w0 m (Hl ++ Hfr) w) (hm : m1.le m) (h : Jx (.exit id) pre m Hl) :
    WQ n w0 (QRound w0 J Jx pre m1 Hfr) (.exit id) r ds m H := fun _ _ _ hs => ⟨m, Hl, h, hm, ht _ hs⟩

theorem perm_round (Hit : SHeap) (i : Item) (Hl Hb : SHeap) : List.Perm (Hit ++ (i :: (Hl ++ Hb))) (Hl ++ (i :: (Hb ++ Hit))) := by
  have h1 : List.Perm (Hit ++ (i :: (Hl ++ Hb))) ((i :: (Hl ++ Hb)) ++ Hit) := List.perm_append_comm
  refine h1.trans ?_
  rw [List.cons_append, List.append_assoc]
  exact List.perm_middle.symm
/-- the environment of a round: the loop's own, its parameters given -/
def Env.given : List Nat → List Value → Env → Env
  | p :: ps, v :: vs, r => Env.given ps vs ((p, v) :: r)
  | _, _, r => r
theorem Env.ok.given {n : Nat} : ∀ (ps : List Nat) (vs : List Value) {r : Env} {tmps : Array Value}, r.ok n tmps → (∀ p ∈ ps, p < n) → (Env.given ps vs r).ok n ((ps.zip vs).foldl (fun t (p : Nat × Value) => t.setIfInBounds p.1 p.2) tmps)
  | [], vs, r, tmps, h, _ => by simpa [Env.given] using h
  | p :: ps, [], r, tmps, h, _ => by simpa [Env.given] using h
  | p :: ps, v :: vs, r, tmps, h, hp => by
    simp only [Env.given, List.zip_cons_cons, List.foldl_cons]
    exact Env.ok.given ps vs (h.put (hp p List.mem_cons_self) v) (fun q hq => hp q (List.mem_cons_of_mem _ hq))

theorem range_core {α : Type} {gf : FuncId} {lb : List Value} {encs : α → List Value} {xs : List α} {Cap : Mem → Prop} {ps : List Nat} {assign body : Code} {fnd : FuncId} {tmps : Array Value} {L D : Nat} {Hb : SHeap}
    (hseq : SeqC P gf lb encs xs Cap) (hcap : Cap m) (hps : ∀ x, (encs x).length = ps.length) (hpn : ∀ p ∈ ps, p < n) (hok : r.ok n tmps)
    (J : List α → Mem → SHeap → Prop) (Jx : Code → List α → Mem → SHeap → Prop) {Hl0 : SHeap} (h0 : J [] m Hl0)
    (hround : ∀ lp pre x post, xs = pre ++ x :: post → ∀ m1 Hl, J pre m1 Hl → m.le m1 → ∀ Hfr, (∃ rec, Item.blk lp (.loop rec) ∈ Hfr ∧ rec.defers = D) → WC P (some lp) n w0 assign (QAssign P n w0 lp body J Jx (pre ++ [x]) m1 Hfr) (Env.given ps (encs x) r) [] m1 (Hl ++ Hfr))
    {w : World} (hs : Sat w0 m (.blk L (.loop { state := .ready, pending := none, fn := fnd, tmps := tmps, params := ps.toArray, assign := assign, body := body, defers := D }) :: (Hl0 ++ Hb)) w) :
    CallsIn (FW none) 0 P gf (.func (.yield L) #[] #[] :: lb).toArray w fun e w' => ∃ v m', e = .returned v ∧ m.le m' ∧
      ((∃ Hl, J xs m' Hl ∧ Sat w0 m' (.blk L (.loop { state := .ready, pending := none, fn := fnd, tmps := tmps, params := ps.toArray, assign := assign, body := body, defers := D }) :: (Hl ++ Hb)) w') ∨
       (∃ c pre Hl, pre <+: xs ∧ Jx c pre m' Hl ∧ Sat w0 m' (.blk L (.loop { state := .done, pending := some c, fn := fnd, tmps := tmps, params := ps.toArray, assign := assign, body := body, defers := D }) :: (Hl ++ Hb)) w')) := by
  obtain ⟨rec, hrec⟩ : ∃ rec : LoopState → Option Code → Loop, rec = fun st pe => { state := st, pending := pe, fn := fnd, tmps := tmps, params := ps.toArray, assign := assign, body := body, defers := D } := ⟨_, rfl⟩
  have hs1 : Sat w0 m (.blk L (.loop (rec .ready none)) :: (Hl0 ++ Hb)) w := by rw [hrec]; exact hs
  have := hseq w0 L (fun pre m H => ∃ Hl, H = .blk L (.loop (rec .ready none)) :: (Hl ++ Hb) ∧ J pre m Hl)
    (fun pre m H => ∃ c Hl, H = .blk L (.loop (rec .done (some c))) :: (Hl ++ Hb) ∧ Jx c pre m Hl) m _ hcap ⟨Hl0, rfl, h0⟩ ?_ w hs1
  · refine this.mono ?_
    rintro e w' ⟨v, m', H', rfl, ⟨hle, hP⟩, hs'⟩
    refine ⟨v, m', rfl, hle, ?_⟩
    rcases hP with ⟨Hl, rfl, hJ⟩ | ⟨pre, hpre, c, Hl, rfl, hJ⟩
    · exact .inl ⟨Hl, hJ, by rw [hrec] at hs'; exact hs'⟩
    · exact .inr ⟨c, pre, Hl, hpre, hJ, by rw [hrec] at hs'; exact hs'⟩
  · rintro pre x post hx m1 H1 Hit ⟨Hl, rfl, hJ⟩ hle W hW
    have hL : W.heap[L]? = some (.loop (rec .ready none)) := hW.own (.blk L _) (by simp)
    have hy := run_yield (P := P) (args := (encs x).toArray) hL (by rw [hrec]; simp [hps x])
    refine ⟨fnd, (ps.zip (encs x)).foldl (fun t (p : Nat × Value) => t.setIfInBounds p.1 p.2) tmps, assign, body, ?_, roundIn_of_wpIn (FW_fn none fnd) ?_⟩
    · rw [hy, hrec]
      congr 2
      simp
    · have hsat1 := hW.perm (perm_round Hit (.blk L (.loop (rec .ready none))) Hl Hb)
      have hr := hround L pre x post hx m1 Hl hJ hle (.blk L (.loop (rec .ready none)) :: (Hb ++ Hit)) ⟨_, List.mem_cons_self, by rw [hrec]⟩ _ W (hok.given ps (encs x) hpn) hsat1
      refine wpIn_mono hr ?_
      intro e a1 W1 hq
      cases e with
      | normal =>
        obtain ⟨r1, m2, Hl1, hok1, hdf, hs2, hle2, hbody⟩ := hq
        have hs2' := hs2.perm (List.perm_middle (a := Item.blk L (.loop (rec .ready none))) (l₁ := Hl1) (l₂ := Hb ++ Hit))
        have hL1 : W1.heap[L]? = some (.loop (rec .ready none)) := hs2'.own _ List.mem_cons_self
        refine ⟨_, run_beginRound hL1 (by rw [hrec]), ?_⟩
        have hs3 := (hs2'.putObj (o' := .loop { rec .ready none with state := .busy })).perm (List.perm_middle (a := Item.blk L (.loop { rec .ready none with state := .busy })) (l₁ := Hl1) (l₂ := Hb ++ Hit)).symm
        obtain ⟨tm1, df1⟩ := a1
        simp only at hdf
        subst hdf
        refine wpIn_mono (hbody (.blk L (.loop { rec .ready none with state := .busy }) :: (Hb ++ Hit)) ⟨_, List.mem_cons_self⟩ tm1 _ hok1 hs3) ?_
        have fin : ∀ (jump : Option Code) (m3 : Mem) (Hl3 : SHeap) (W3 : World), Sat w0 m3 (Hl3 ++ (.blk L (.loop { rec .ready none with state := .busy }) :: (Hb ++ Hit))) W3 →
            ∃ w4, (Instr.endRound L jump).run P W3 = .ok (.bool jump.isNone) w4 ∧ Sat w0 m3 (Hit ++ (.blk L (.loop (rec (if jump.isNone then .ready else .done) jump)) :: (Hl3 ++ Hb))) w4 := by
          intro jump m3 Hl3 W3 hs4
          have hs5 := hs4.perm (List.perm_middle (a := Item.blk L (.loop { rec .ready none with state := .busy })) (l₁ := Hl3) (l₂ := Hb ++ Hit))
          have hL3 : W3.heap[L]? = some (.loop { rec .ready none with state := .busy }) := hs5.own _ List.mem_cons_self
          refine ⟨_, run_endRound jump hL3, ?_⟩
          have hs6 := hs5.putObj (o' := .loop { { rec .ready none with state := .busy } with state := if jump.isNone then .ready else .done, pending := jump })
          have e1 : ({ { rec .ready none with state := .busy } with state := if jump.isNone then .ready else .done, pending := jump } : Loop) = rec (if jump.isNone then .ready else .done) jump := by rw [hrec]
          rw [e1] at hs6
          rw [e1]
          exact hs6.perm ((List.perm_middle (a := Item.blk L (.loop (rec (if jump.isNone then .ready else .done) jump))) (l₁ := Hl3) (l₂ := Hb ++ Hit)).symm.trans (perm_round Hit _ Hl3 Hb).symm)
        intro e3 a3 W3 hq3
        cases e3 with
        | normal =>
          obtain ⟨m3, Hl3, hJ3, hle3, hs4⟩ := hq3
          obtain ⟨w4, h4, hs5⟩ := fin none m3 Hl3 W3 hs4
          exact ⟨_, w4, h4, .inl ⟨rfl, m3, _, ⟨_, rfl, ⟨Hl3, rfl, hJ3⟩, hle3⟩, hs5⟩⟩
        | ret =>
          obtain ⟨m3, Hl3, hJ3, hle3, hs4⟩ := hq3
          obtain ⟨w4, h4, hs5⟩ := fin (some .ret) m3 Hl3 W3 hs4
          exact ⟨_, w4, h4, .inr ⟨rfl, m3, _, ⟨_, rfl, ⟨.ret, Hl3, rfl, hJ3⟩, hle3⟩, hs5⟩⟩
        | exit id =>
          obtain ⟨m3, Hl3, hJ3, hle3, hs4⟩ := hq3
          obtain ⟨w4, h4, hs5⟩ := fin (some (.exit id)) m3 Hl3 W3 hs4
          exact ⟨_, w4, h4, .inr ⟨rfl, m3, _, ⟨_, rfl, ⟨.exit id, Hl3, rfl, hJ3⟩, hle3⟩, hs5⟩⟩
        | goto t =>
          obtain ⟨m3, Hl3, hJ3, hle3, hs4⟩ := hq3
          obtain ⟨w4, h4, hs5⟩ := fin (some (.goto t)) m3 Hl3 W3 hs4
          exact ⟨_, w4, h4, .inr ⟨rfl, m3, _, ⟨_, rfl, ⟨.goto t, Hl3, rfl, hJ3⟩, hle3⟩, hs5⟩⟩
        | panic ch => exact hq3.elim
        | outgrown => exact hq3.elim
      | _ => exact hq.elim
theorem end_loop {L : Nat} {rec : Loop} {Hx : SHeap} {w : World} (hs : Sat w0 m (.blk L (.loop rec) :: Hx) w) (hb : rec.state ≠ .busy) :
    ∃ w', (Instr.endLoop L).run P w = .ok rec.pending w' ∧ Sat w0 m Hx w' :=
  ⟨_, run_endLoop (hs.own _ List.mem_cons_self) hb, hs.putObj.drop⟩
/-- a loop over a function, outside every other such loop -/
theorem WC.rangeFunc {α : Type} {g : Operand} {gf : FuncId} {fn : Func} {cb : Code} {lb : List Value} {encs : α → List Value} {xs : List α} {Cap : Mem → Prop} {ps : List Nat} {assign body : Code} {Hl0 Hc : SHeap}
    (hg : r.ev g = some (.func (.func gf) #[] lb.toArray)) (hf : P.funcs[gf]? = some fn) (hname : (fn.name == "runtime.NumGoroutine") = false) (hb : fn.body = some cb)
    (hseq : SeqC P gf lb encs xs Cap) (hcap : Cap m) (hps : ∀ x, (encs x).length = ps.length) (hpn : ps.all (fun p => Nat.blt p n) = true)
    (J : List α → Mem → SHeap → Prop) (Jx : Code → List α → Mem → SHeap → Prop) (ht : Tail Hc H Hl0) (h0 : J [] m Hl0)
    (hround : ∀ lp pre x post, xs = pre ++ x :: post → ∀ m1 Hl, J pre m1 Hl → m.le m1 → ∀ Hfr, (∃ rec, Item.blk lp (.loop rec) ∈ Hfr) → WC P (some lp) n w0 assign (QAssign P n w0 lp body J Jx (pre ++ [x]) m1 Hfr) (Env.given ps (encs x) r) [] m1 (Hl ++ Hfr))
    (hdone : ∀ D m' Hl, J xs m' Hl → m.le m' → WQ n w0 Q .normal r (D :: ds) m' (Hl ++ (.blk D (.deferred (some [])) :: Hc)))
    (hstop : ∀ D c pre m' Hl, pre <+: xs → Jx c pre m' Hl → m.le m' → WC P none n w0 c Q r (D :: ds) m' (Hl ++ (.blk D (.deferred (some [])) :: Hc))) :
    WC P none n w0 (.rangeFunc g ps.toArray assign body) Q r ds m H := by
  intro tmps w ho hs
  rw [ht.eq] at hs
  have hpn' : ∀ p ∈ ps, p < n := fun p hp => by have := List.all_eq_true.1 hpn p hp; simpa [Nat.blt_eq] using this
  have h1 : fn.name ≠ "runtime.NumGoroutine" := by simpa using hname
  have h2 : ∀ (a : Array Value) (w : World), (callFunc gf a).run P w = .ok (.enter gf a) w := fun a w => by simp [callFunc, hf, h1, hb]
  refine wpIn_rangeFunc (fun fnd _ => ?_)
  have hs1 := (hs.alloc (.deferred (some []))).alloc (.loop { state := .ready, pending := none, fn := fnd, tmps := tmps, params := ps.toArray, assign := assign, body := body, defers := w.heap.size })
  rw [World.size_alloc] at hs1
  have hs2 := hs1.perm (List.Perm.cons _ (List.perm_middle (a := Item.blk w.heap.size (.deferred (some []))) (l₁ := Hl0) (l₂ := Hc)).symm)
  have hcall := range_core (P := P) hseq hcap hps hpn' ho J Jx h0 (fun lp pre x post hx m1 Hl hJ hle Hfr ⟨rec, hr, _⟩ => hround lp pre x post hx m1 Hl hJ hle Hfr ⟨rec, hr⟩) hs2
  have henter := run_enterLoop_outer (P := P) (w := w) fnd tmps ps.toArray assign body
  generalize (w.alloc (.deferred (some []))).alloc (.loop { state := .ready, pending := none, fn := fnd, tmps := tmps, params := ps.toArray, assign := assign, body := body, defers := w.heap.size }) = W1 at henter hcall
  refine ⟨w.heap.size + 1, [{ target := .collected w.heap.size, args := #[] }], W1, { target := .fn (.func gf) lb.toArray, args := #[.func (.yield (w.heap.size + 1)) #[] #[]] }, W1, gf, (.func (.yield (w.heap.size + 1)) #[] #[] :: lb).toArray, W1,
    henter, ?_, fun f _ => FW_fn none f, ?_, FW_depth none, ?_⟩
  · have e0 : ∀ v, (Act.mk tmps (marks ds)).eval (.const v) = v := fun _ => rfl
    simp [resolve, ho.ev hg, e0, Deferred.ofValue]
  · simp [invoke, h2]
  · have hc : CallsIn (FW none) (0 - 1) P gf (.func (.yield (w.heap.size + 1)) #[] #[] :: lb).toArray _ _ := hcall
    refine hc.mono ?_
    rintro e w' ⟨v, m', rfl, hle, (⟨Hl, hJ, hs3⟩ | ⟨c, pre, Hl, hpre, hJ, hs3⟩)⟩
    · obtain ⟨w4, h4, hs4⟩ := end_loop (P := P) hs3 (by simp)
      exact ⟨none, w4, h4, hdone _ m' Hl hJ hle tmps w4 ho hs4⟩
    · obtain ⟨w4, h4, hs4⟩ := end_loop (P := P) hs3 (by simp)
      exact ⟨some c, w4, h4, hstop _ c pre m' Hl hpre hJ hle tmps w4 ho hs4⟩
/-- a loop over a function, in a round of another one -/
theorem WC.rangeFuncIn {α : Type} {lo : Nat} {g : Operand} {gf : FuncId} {fn : Func} {cb : Code} {lb : List Value} {encs : α → List Value} {xs : List α} {Cap : Mem → Prop} {ps : List Nat} {assign body : Code} {Hl0 Hc : SHeap}
    (hin : ∃ rec, Item.blk lo (.loop rec) ∈ Hc)
    (hg : r.ev g = some (.func (.func gf) #[] lb.toArray)) (hf : P.funcs[gf]? = some fn) (hname : (fn.name == "runtime.NumGoroutine") = false) (hb : fn.body = some cb)
    (hseq : SeqC P gf lb encs xs Cap) (hcap : Cap m) (hps : ∀ x, (encs x).length = ps.length) (hpn : ps.all (fun p => Nat.blt p n) = true)
    (J : List α → Mem → SHeap → Prop) (Jx : Code → List α → Mem → SHeap → Prop) (ht : Tail Hc H Hl0) (h0 : J [] m Hl0)
    (hround : ∀ lp pre x post, xs = pre ++ x :: post → ∀ m1 Hl, J pre m1 Hl → m.le m1 → ∀ Hfr, (∃ rec, Item.blk lp (.loop rec) ∈ Hfr) → WC P (some lp) n w0 assign (QAssign P n w0 lp body J Jx (pre ++ [x]) m1 Hfr) (Env.given ps (encs x) r) [] m1 (Hl ++ Hfr))
    (hdone : ∀ m' Hl, J xs m' Hl → m.le m' → WQ n w0 Q .normal r ds m' (Hl ++ Hc))
    (hstop : ∀ c pre m' Hl, pre <+: xs → Jx c pre m' Hl → m.le m' → WC P (some lo) n w0 c Q r ds m' (Hl ++ Hc)) :
    WC P (some lo) n w0 (.rangeFunc g ps.toArray assign body) Q r ds m H := by
  intro tmps w ho hs
  rw [ht.eq] at hs
  obtain ⟨rec0, hrec0⟩ := hin
  have hlo : w.heap[lo]? = some (.loop rec0) := hs.own (.blk lo (.loop rec0)) (List.mem_append.2 (.inr hrec0))
  have hpn' : ∀ p ∈ ps, p < n := fun p hp => by have := List.all_eq_true.1 hpn p hp; simpa [Nat.blt_eq] using this
  have h1 : fn.name ≠ "runtime.NumGoroutine" := by simpa using hname
  have h2 : ∀ (a : Array Value) (w : World), (callFunc gf a).run P w = .ok (.enter gf a) w := fun a w => by simp [callFunc, hf, h1, hb]
  refine wpIn_rangeFunc (fun fnd _ => ?_)
  have hs1 := hs.alloc (.loop { state := .ready, pending := none, fn := fnd, tmps := tmps, params := ps.toArray, assign := assign, body := body, defers := rec0.defers })
  have hcall := range_core (P := P) hseq hcap hps hpn' ho J Jx h0 (fun lp pre x post hx m1 Hl hJ hle Hfr ⟨rec, hr, _⟩ => hround lp pre x post hx m1 Hl hJ hle Hfr ⟨rec, hr⟩) hs1
  have henter := run_enterLoop_inner (P := P) (w := w) hlo fnd tmps ps.toArray assign body
  generalize w.alloc (.loop { state := .ready, pending := none, fn := fnd, tmps := tmps, params := ps.toArray, assign := assign, body := body, defers := rec0.defers }) = W1 at henter hcall
  refine ⟨w.heap.size, [], W1, { target := .fn (.func gf) lb.toArray, args := #[.func (.yield w.heap.size) #[] #[]] }, W1, gf, (.func (.yield w.heap.size) #[] #[] :: lb).toArray, W1,
    henter, ?_, fun f _ => FW_fn _ f, ?_, FW_depth _, ?_⟩
  · have e0 : ∀ v, (Act.mk tmps (marks ds)).eval (.const v) = v := fun _ => rfl
    simp [resolve, ho.ev hg, e0, Deferred.ofValue]
  · simp [invoke, h2]
  · have hc : CallsIn (FW (some lo)) (0 - 1) P gf (.func (.yield w.heap.size) #[] #[] :: lb).toArray _ _ := hcall
    refine hc.mono ?_
    rintro e w' ⟨v, m', rfl, hle, (⟨Hl, hJ, hs3⟩ | ⟨c, pre, Hl, hpre, hJ, hs3⟩)⟩
    · obtain ⟨w4, h4, hs4⟩ := end_loop (P := P) hs3 (by simp)
      exact ⟨none, w4, h4, hdone m' Hl hJ hle tmps w4 ho hs4⟩
    · obtain ⟨w4, h4, hs4⟩ := end_loop (P := P) hs3 (by simp)
      exact ⟨some c, w4, h4, hstop c pre m' Hl hpre hJ hle tmps w4 ho hs4⟩
end
end Go.Eng

