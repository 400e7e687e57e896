/-
  A walk's engine, fifth part: memory: variables, structs, rows. No condition.
-/
import Derived.Test.YtdmdabjaboigcaaEngD
import Derived.Laws.Cells
import Derived.Laws.CopyRow
set_option linter.all false
namespace Go.Eng
open Go Go.RowKit

/-! ### what a cell holds -/
def Cell (w0 : World) (m : Mem) (H : SHeap) (a : Addr) (v : Value) : Prop := ∀ w, Sat w0 m H w → w.cell? a = some v
def Cells (w0 : World) (m : Mem) (H : SHeap) (a : Addr) (vs : List Value) : Prop := ∀ w, Sat w0 m H w → ∀ j v, vs[j]? = some v → w.cell? (a.add j) = some v
def Loads (P : Program) (w0 : World) (m : Mem) (H : SHeap) (t : TypeId) (a : Addr) (v : Value) : Prop := ∀ w, Sat w0 m H w → (loadVar t a).run P w = .ok v w
/-- a stretch of a list -/
inductive Seg : List Value → Nat → Nat → List Value → Prop
  | nil {L : List Value} {o : Nat} : Seg L o 0 []
  | cons {L : List Value} {o k : Nat} {v : Value} {vs : List Value} : L[o]? = some v → Seg L (o + 1) k vs → Seg L o (k + 1) (v :: vs)
theorem Seg.at_ {L vs : List Value} {o k : Nat} (h : Seg L o k vs) : vs.length = k ∧ ∀ j v, vs[j]? = some v → L[o + j]? = some v := by
  induction h with
  | nil => exact ⟨rfl, fun j v h => by simp at h⟩
  | cons h1 _ ih =>
    refine ⟨by simp [ih.1], fun j v hj => ?_⟩
    cases j with
    | zero => simp at hj; subst hj; exact h1
    | succ j =>
      have := ih.2 j v (by simpa using hj)
      rw [← this]; congr 1; omega
/-- a list, written out -/
inductive NF : List Value → List Value → Prop
  | nil {L : List Value} : L = [] → NF L []
  | cons {L L' : List Value} {v : Value} {vs : List Value} : L = v :: L' → NF L' vs → NF L (v :: vs)
theorem NF.eq {L vs : List Value} (h : NF L vs) : L = vs := by
  induction h with
  | nil h => exact h
  | cons h _ ih => rw [h, ih]
theorem add_none (b o j : Nat) : (⟨b, o, none⟩ : Addr).add j = ⟨b, o + j, none⟩ := by
  unfold Addr.add
  split
  · rename_i h; subst h; rfl
  · rfl
theorem add_eq {a : Addr} (h : a.spot = none) (j : Nat) : a.add j = ⟨a.block, a.off + j, none⟩ := by
  obtain ⟨b, o, s⟩ := a
  simp only at h; subst h
  exact add_none b o j

section
variable {P : Program} {ro : Option Nat} {n : Nat} {w0 : World} {Q : Exit → Act → World → Prop} {r : Env} {ds : List Nat} {m : Mem} {H : SHeap}
  {ops : Array Oper} {l : List Oper} {d : Nat} {ty : TypeId} {pos : String} {after : Array Edge}

theorem Cell.blk {b o : Nat} {L : List Value} {T : TypeId} {fz : Nat × Nat} {v : Value} (hm : Item.blk b (.cells L.toArray T fz) ∈ H) (hv : L[o]? = some v) : Cell w0 m H ⟨b, o, none⟩ v := by
  intro w hs
  have : w.heap[b]? = _ := hs.own _ hm
  simp [World.cell?, this, hv]
theorem Cells.blk {b o k : Nat} {L vs : List Value} {T : TypeId} {fz : Nat × Nat} (hm : Item.blk b (.cells L.toArray T fz) ∈ H) (hv : Seg L o k vs) : Cells w0 m H ⟨b, o, none⟩ vs := by
  intro w hs j v hj
  rw [add_none]
  exact Cell.blk hm (hv.at_.2 j v hj) w hs
theorem flatten_at : ∀ {es : List (List Value)} {sz i : Nat} {e : List Value}, (∀ x ∈ es, x.length = sz) → es[i]? = some e → ∀ j v, e[j]? = some v → es.flatten[i * sz + j]? = some v
  | x :: es, sz, 0, e, hl, hi, j, v, hj => by
    simp at hi; subst hi
    rw [List.flatten_cons, Nat.zero_mul, Nat.zero_add, List.getElem?_append_left (List.getElem?_eq_some_iff.1 hj).1]
    exact hj
  | x :: es, sz, i + 1, e, hl, hi, j, v, hj => by
    have hx := hl x List.mem_cons_self
    rw [List.flatten_cons, List.getElem?_append_right (by rw [hx, Nat.succ_mul]; omega)]
    rw [show (i + 1) * sz + j - x.length = i * sz + j by rw [hx, Nat.succ_mul]; omega]
    exact flatten_at (fun y hy => hl y (List.mem_cons_of_mem _ hy)) (by simpa using hi) j v hj
theorem row_at {w : World} {a : Addr} {cap : Nat} {T : TypeId} {sz : Nat} {es : List (List Value)} {i : Nat} {e : List Value} (h : Item.holds w (.row (some a) cap T sz es)) (hi : es[i]? = some e) :
    a.spot = none ∧ ∀ j v, e[j]? = some v → w.cell? (a.add (i * sz + j)) = some v := by
  obtain ⟨arr, fz, h1, h2, h3, h4, h5, h6, _⟩ := h
  have hsp : a.spot = none := by rw [h1]
  have hoff : a.off = 0 := by rw [h1]
  refine ⟨hsp, fun j v hj => ?_⟩
  have h7 := flatten_at h6 hi j v hj
  rw [← h5, List.getElem?_take] at h7
  split at h7
  · rw [add_eq hsp, hoff]
    simp only [World.cell?, h2]
    simpa using h7
  · cases h7
theorem Cells.row {a : Addr} {cap : Nat} {T : TypeId} {sz k i : Nat} {es : List (List Value)} {e : List Value} (hm : Item.row (some a) cap T sz es ∈ H) (hi : es[i]? = some e) (hk : k = i * sz) :
    Cells w0 m H (a.add k) e := by
  subst hk
  intro w hs j v hj
  have hr := row_at (hs.own _ hm) hi
  have := hr.2 j v hj
  rw [add_eq hr.1] at this ⊢
  rw [add_none, Nat.add_assoc]
  exact this
/-- a part of what is known -/
theorem Cells.part {a : Addr} {vs ws : List Value} {o k : Nat} (h : Cells w0 m H a vs) (hsp : a.spot = none) (hv : Seg vs o k ws) : Cells w0 m H (a.add o) ws := by
  intro w hs j v hj
  have := h w hs _ v (hv.at_.2 j v hj)
  rw [add_eq hsp] at this ⊢
  rw [add_none, Nat.add_assoc]
  exact this
theorem add_spot {a : Addr} (h : a.spot = none) (k : Nat) : (a.add k).spot = none := by rw [add_eq h]
theorem Cells.cell {a : Addr} {v : Value} (h : Cells w0 m H a [v]) : Cell w0 m H a v := fun w hs => by
  have := h w hs 0 v rfl
  simpa [Addr.add] using this
/-- a row that stays as it is, wherever it begins -/
def PRow (m : Mem) (T : TypeId) (sz : Nat) : Value → List (List Value) → Prop
  | .slice none len _, es => es = [] ∧ len = 0
  | .slice (some a) len _, es => a.spot = none ∧ len = es.length ∧ (∀ e ∈ es, e.length = sz) ∧ ∃ arr fz, m a.block = some (.cells arr T fz) ∧ ∀ j v, es.flatten[j]? = some v → arr[a.off + j]? = some v
  | _, _ => False
theorem PRow.le {m m' : Mem} {T : TypeId} {sz : Nat} {v : Value} {es : List (List Value)} (h : PRow m T sz v es) (hm : m.le m') : PRow m' T sz v es := by
  match v, h with
  | .slice none _ _, h => exact h
  | .slice (some a) _ _, ⟨h1, h2, h3, arr, fz, h4, h5⟩ => exact ⟨h1, h2, h3, arr, fz, hm _ _ h4, h5⟩
theorem PRow.len {m : Mem} {T : TypeId} {sz : Nat} {v : Value} {es : List (List Value)} (h : PRow m T sz v es) : ∃ a cap, v = .slice a es.length cap := by
  match v, h with
  | .slice none len cap, ⟨h1, h2⟩ => subst h1; subst h2; exact ⟨none, cap, rfl⟩
  | .slice (some a) len cap, ⟨_, h2, _⟩ => subst h2; exact ⟨some a, cap, rfl⟩
theorem Cells.prow {a : Addr} {len cap : Nat} {T : TypeId} {sz k i : Nat} {es : List (List Value)} {e : List Value} (hp : PRow m T sz (.slice (some a) len cap) es) (hi : es[i]? = some e) (hk : k = i * sz) :
    Cells w0 m H (a.add k) e := by
  subst hk
  obtain ⟨h1, _, h3, arr, fz, h4, h5⟩ := hp
  intro w hs j v hj
  have h6 := h5 _ v (flatten_at h3 hi j v hj)
  rw [add_eq h1, add_none]
  simp [World.cell?, hs.pers _ _ h4, Nat.add_assoc, h6]

theorem Loads.one {t : TypeId} {a : Addr} {v : Value} (hu : aggB P t = some false) (hc : Cell w0 m H a v) : Loads P w0 m H t a v := by
  intro w hs
  simp only [loadVar, Sem.run_bind, run_agg hu, Result.andThen_ok, Bool.false_eq_true, if_false]
  rw [run_load, hc w hs]
theorem Loads.agg {t : TypeId} {a : Addr} {vs : List Value} {k : Nat} (hu : aggB P t = some true) (hz : sizeB P t = some k) (hk : vs.length = k) (hc : Cells w0 m H a vs) : Loads P w0 m H t a (.agg vs.toArray) := by
  intro w hs
  have := run_loadCells_list (P := P) (w := w) a vs (fun j v hj => hc w hs j v hj)
  rw [hk] at this
  simp only [loadVar, Sem.run_bind, run_agg hu, Result.andThen_ok, if_true, run_size hz, this, Sem.run_pure]
theorem Loads.blk {t : TypeId} {b o k : Nat} {L vs : List Value} {T : TypeId} {fz : Nat × Nat} (hu : aggB P t = some true) (hz : sizeB P t = some k) (hm : Item.blk b (.cells L.toArray T fz) ∈ H) (hv : Seg L o k vs) : Loads P w0 m H t ⟨b, o, none⟩ (.agg vs.toArray) :=
  .agg hu hz hv.at_.1 (Cells.blk hm hv)
theorem Loads.whole {t : TypeId} {b k : Nat} {L : List Value} {T : TypeId} {fz : Nat × Nat} (hu : aggB P t = some true) (hz : sizeB P t = some k) (hm : Item.blk b (.cells L.toArray T fz) ∈ H) (hk : L.length = k) : Loads P w0 m H t ⟨b, 0, none⟩ (.agg L.toArray) :=
  .agg hu hz hk (fun w hs j v hj => by rw [add_none]; exact Cell.blk hm (by simpa using hj) w hs)
theorem Loads.row {t : TypeId} {a : Addr} {cap : Nat} {T : TypeId} {sz i kk k : Nat} {es : List (List Value)} {e : List Value} (hm : Item.row (some a) cap T sz es ∈ H) (hi : es[i]? = some e) (hkk : kk = i * sz) (hu : aggB P t = some true) (hz : sizeB P t = some k) (hl : e.length = k) :
    Loads P w0 m H t (a.add kk) (.agg e.toArray) := .agg hu hz hl (Cells.row hm hi hkk)
theorem Loads.row1 {t : TypeId} {a : Addr} {cap : Nat} {T : TypeId} {sz i kk : Nat} {es : List (List Value)} {v : Value} (hm : Item.row (some a) cap T sz es ∈ H) (hi : es[i]? = some [v]) (hkk : kk = i * sz) (hu : aggB P t = some false) :
    Loads P w0 m H t (a.add kk) v := .one hu (Cells.cell (Cells.row hm hi hkk))
theorem WL.load {t : TypeId} {x : Operand} {a : Addr} {v : Value} (hx : r.ev x = some (.pointer (some a))) (hl : Loads P w0 m H t a v) (hd : Nat.blt d n = true)
    (h : WL P ro n w0 ops Q l ((d, v) :: r) ds m H) : WL P ro n w0 ops Q (⟨some d, .load t x, ty, pos, after, none⟩ :: l) r ds m H :=
  .val hd (fun _ h => by cases h) (fun tmps w ho hs => by
    simp only [execOp, Instr.loadAt, Instr.sureAddr, ho.ev hx, Sem.run_bind, Sem.run_pure, Result.andThen_ok, hl w hs]) h

theorem w_load {t : TypeId} {x : Operand} {a : Addr} {v : Value} (h : WL P ro n w0 ops Q l ((d, v) :: r) ds m H) (hx : r.ev x = some (.pointer (some a)) := by exact rfl) (hl : Loads P w0 m H t a v := by (first | (apply Loads.one; (· exact rfl); (· first | (apply Cell.blk; (· (repeat (first | exact List.Mem.head _ | apply List.Mem.tail))); (· exact rfl)) | (apply Cell.mem; (· assumption); (· exact rfl)))) | (apply Loads.whole; (· exact rfl); (· exact rfl); (· (repeat (first | exact List.Mem.head _ | apply List.Mem.tail))); (· exact rfl)) | (apply Loads.blk; (· exact rfl); (· exact rfl); (· (repeat (first | exact List.Mem.head _ | apply List.Mem.tail))); (· (repeat (first | exact Seg.nil | (apply Seg.cons; (· exact rfl)))))) | (apply Loads.row; (· (repeat (first | exact List.Mem.head _ | apply List.Mem.tail))); (· assumption); (· exact rfl); (· exact rfl); (· exact rfl); (· exact rfl)) | (apply Loads.row1; (· (repeat (first | exact List.Mem.head _ | apply List.Mem.tail))); (· assumption); (· exact rfl); (· exact rfl)) | (apply Loads.rowF; (· (repeat (first | exact List.Mem.head _ | apply List.Mem.tail))); (· assumption); (· exact rfl); (· exact rfl); (· exact rfl)) | (apply Loads.prow; (· assumption); (· assumption); (· exact rfl); (· exact rfl); (· exact rfl); (· exact rfl)) | (apply Loads.prow1; (· assumption); (· assumption); (· exact rfl); (· exact rfl)) | (apply Loads.prowF; (· assumption); (· assumption); (· exact rfl); (· exact rfl); (· exact rfl)) | (apply Loads.rrow; (· assumption); (· assumption); (· exact rfl); (· exact rfl); (· exact rfl); (· exact rfl)) | (apply Loads.rrow1; (· assumption); (· assumption); (· exact rfl); (· exact rfl)) | (apply Loads.rrowF; (· assumption); (· assumption); (· exact rfl); (· exact rfl); (· exact rfl)) | (apply Loads.rowS; (· (repeat (first | exact List.Mem.head _ | apply List.Mem.tail))); (· assumption); (· exact rfl); (· exact rfl); (· exact rfl); (· (repeat (first | exact Seg.nil | (apply Seg.cons; (· exact rfl)))))))) (hd : Nat.blt d n = true := by exact rfl) : WL P ro n w0 ops Q (⟨some d, .load t x, ty, pos, after, none⟩ :: l) r ds m H := WL.load hx hl hd h
/-! ### new variables -/
theorem WL.alloc {t : TypeId} {z : Value} {cs : List Value} (hz : zeroB P t = some z) (hc : z.cells = cs.toArray) (hd : Nat.blt d n = true)
    (h : ∀ b, WL P ro n w0 ops Q l ((d, .pointer (some ⟨b, 0, none⟩)) :: r) ds m (.blk b (.cells cs.toArray t (0, 0)) :: H)) :
    WL P ro n w0 ops Q (⟨some d, .alloc t, ty, pos, after, none⟩ :: l) r ds m H :=
  .gen (fun v m' H' => ∃ b, v = .pointer (some ⟨b, 0, none⟩) ∧ m' = m ∧ H' = .blk b (.cells cs.toArray t (0, 0)) :: H) hd (fun _ h => by cases h)
    (fun tmps w ho hs => ⟨_, m, _, w.alloc (.cells cs.toArray t (0, 0)), by
      simp only [execOp, Instr.alloc, Sem.run_bind, run_zero hz, Result.andThen_ok, newVar, newRow, hc, run_newObj_alloc, Sem.run_pure], hs.alloc _, w.heap.size, rfl, rfl, rfl⟩)
    (by rintro _ _ _ ⟨b, rfl, rfl, rfl⟩; exact h b)
theorem w_alloc {t : TypeId} {z : Value} {cs : List Value} (h : ∀ b, WL P ro n w0 ops Q l ((d, .pointer (some ⟨b, 0, none⟩)) :: r) ds m (.blk b (.cells cs.toArray t (0, 0)) :: H)) (hz : zeroB P t = some z := by exact rfl) (hc : z.cells = cs.toArray := by exact rfl) (hd : Nat.blt d n = true := by exact rfl) : WL P ro n w0 ops Q (⟨some d, .alloc t, ty, pos, after, none⟩ :: l) r ds m H := WL.alloc hz hc hd h
theorem WL.box {t : TypeId} {x : Operand} {v : Value} {cs : List Value} (hx : r.ev x = some v) (hc : v.cells = cs.toArray) (hd : Nat.blt d n = true)
    (h : ∀ b, WL P ro n w0 ops Q l ((d, .pointer (some ⟨b, 0, none⟩)) :: r) ds m (.blk b (.cells cs.toArray t (0, 0)) :: H)) :
    WL P ro n w0 ops Q (⟨some d, .box t x, ty, pos, after, none⟩ :: l) r ds m H :=
  .gen (fun v m' H' => ∃ b, v = .pointer (some ⟨b, 0, none⟩) ∧ m' = m ∧ H' = .blk b (.cells cs.toArray t (0, 0)) :: H) hd (fun _ h => by cases h)
    (fun tmps w ho hs => ⟨_, m, _, w.alloc (.cells cs.toArray t (0, 0)), by
      simp only [execOp, Instr.box, Sem.run_bind, Result.andThen_ok, newVar, newRow, hc, ho.ev hx, run_newObj_alloc, Sem.run_pure], hs.alloc _, w.heap.size, rfl, rfl, rfl⟩)
    (by rintro _ _ _ ⟨b, rfl, rfl, rfl⟩; exact h b)

theorem w_box {t : TypeId} {x : Operand} {v : Value} {cs : List Value} (h : ∀ b, WL P ro n w0 ops Q l ((d, .pointer (some ⟨b, 0, none⟩)) :: r) ds m (.blk b (.cells cs.toArray t (0, 0)) :: H)) (hx : r.ev x = some v := by exact rfl) (hc : v.cells = cs.toArray := by exact rfl) (hd : Nat.blt d n = true := by exact rfl) : WL P ro n w0 ops Q (⟨some d, .box t x, ty, pos, after, none⟩ :: l) r ds m H := WL.box hx hc hd h
/-! ### stores into a block that is known whole -/
/-- the list with vs laid from place o on -/
def laid : List Value → Nat → List Value → List Value
  | L, _, [] => L
  | L, o, v :: vs => laid (L.set o v) (o + 1) vs
theorem laid_length : ∀ (vs : List Value) (L : List Value) (o : Nat), (laid L o vs).length = L.length
  | [], _, _ => rfl
  | v :: vs, L, o => by simp [laid, laid_length vs]
def okCell (v : Value) : Bool := v.oneCell'
theorem run_laid {b : Nat} {T : TypeId} {fz : Nat × Nat} {w0 : World} {m : Mem} : ∀ (vs : List Value) (i o : Nat) (L : List Value) (H : SHeap) (w : World), o + i + vs.length ≤ L.length → (fz.1 = fz.2 ∨ fz.2 ≤ o + i ∨ L.length ≤ fz.1) → vs.all okCell = true →
    Sat w0 m (.blk b (.cells L.toArray T fz) :: H) w → ∃ w', (storeCells ⟨b, o, none⟩ vs i).run P w = .ok () w' ∧ Sat w0 m (.blk b (.cells (laid L (o + i) vs).toArray T fz) :: H) w'
  | [], i, o, L, H, w, _, _, _, hs => ⟨w, rfl, hs⟩
  | v :: vs, i, o, L, H, w, hl, hf, ha, hs => by
    simp only [List.all_cons, Bool.and_eq_true] at ha
    have hb : w.heap[b]? = some (.cells L.toArray T fz) := hs.own _ List.mem_cons_self
    have hlen : o + i < L.length := by simp at hl; omega
    have hst : (store ⟨b, o + i, none⟩ v).run P w = .ok () (w.setCell ⟨b, o + i, none⟩ v) := by
      have hc : w.cell? ⟨b, o + i, none⟩ = some L[o + i] := by simp [World.cell?, hb, List.getElem?_eq_getElem hlen]
      have hfz : w.frozen? ⟨b, o + i, none⟩ = false := by
        simp only [World.frozen?, hb]
        rcases hf with h | h | h
        · simp; omega
        · simp; omega
        · simp; omega
      have ho : v.oneCell' = true := ha.1
      cases v <;> first | (simp [Value.oneCell'] at ho; done) | (simp [store, Sem.run, hc, hfz])
    have hs' : Sat w0 m (.blk b (.cells (L.set (o + i) v).toArray T fz) :: H) (w.setCell ⟨b, o + i, none⟩ v) := by
      refine hs.turn (j := .blk b (.cells (L.set (o + i) v).toArray T fz)) rfl rfl rfl (by simp) (fun k _ hk => Below.heap_setCell _ _ _ _ (by simpa [Item.foot] using hk)) ?_ (fun _ hx => .inl hx) (by simp [Item.foot])
      show (w.heap.modify b _)[b]? = _
      rw [Array.getElem?_modify, if_pos rfl, hb]
      simp
    obtain ⟨w', h1, h2⟩ := run_laid vs (i + 1) o (L.set (o + i) v) H _ (by simp at hl ⊢; omega) (by rcases hf with h | h | h; exact .inl h; exact .inr (.inl (by omega)); exact .inr (.inr (by simpa using h))) ha.2 hs'
    refine ⟨w', ?_, h2⟩
    simp only [storeCells, add_none, Sem.run_bind, hst, Result.andThen_ok]
    exact h1
theorem Sat.at_ {i : Item} {w : World} (h : Sat w0 m H w) (hi : i ∈ H) : ∃ H1, List.Perm H (i :: H1) := by
  obtain ⟨s, t, e⟩ := List.append_of_mem hi
  subst e
  exact ⟨s ++ t, List.perm_middle⟩
/-- a store of whole cells into a block known whole -/
theorem WL.store {t : TypeId} {x y : Operand} {b o k : Nat} {T : TypeId} {fz : Nat × Nat} {L vs L' : List Value} {v : Value} {H' : SHeap} (hx : r.ev x = some (.pointer (some ⟨b, o, none⟩))) (hy : r.ev y = some v)
    (hv : v.cells = vs.toArray) (hz : sizeB P t = some k) (hk : vs.length = k) (hr : Repl (.blk b (.cells L.toArray T fz)) (.blk b (.cells L'.toArray T fz)) H H') (hnf : NF (laid L o vs) L')
    (hl : Nat.ble (o + k) L.length = true) (hf : fz.1 = fz.2 ∨ fz.2 ≤ o) (ha : vs.all okCell = true) (h : WL P ro n w0 ops Q l r ds m H') :
    WL P ro n w0 ops Q (⟨none, .store t x y, ty, pos, after, none⟩ :: l) r ds m H :=
  .act (fun m' H'' => m' = m ∧ H'' = H') rfl (fun _ h => by cases h)
    (fun tmps w ho hs => by
      have hnf' := hnf.eq
      subst hnf'
      obtain ⟨H1, p1, p2⟩ := hr.perm
      obtain ⟨w', h1, h2⟩ := run_laid (P := P) vs 0 o L H1 w (by simp at hl; omega) (by rcases hf with h | h; exact .inl h; exact .inr (.inl (by simpa using h))) ha (hs.perm p1)
      refine ⟨m, H', w', ?_, h2.perm p2.symm, rfl, rfl⟩
      simp only [execOp, Instr.storeAt, Instr.sureAddr, storeVar, ho.ev hx, ho.ev hy, hv, Sem.run_bind, Sem.run_pure, Result.andThen_ok, run_size hz]
      simp only [List.size_toArray, hk, ne_eq, not_true_eq_false, if_false, h1, Result.andThen_ok])
    (by rintro _ _ ⟨rfl, rfl⟩; exact h)

theorem w_store {t : TypeId} {x y : Operand} {b o k : Nat} {T : TypeId} {fz : Nat × Nat} {L vs L' : List Value} {v : Value} {H' : SHeap} (h : WL P ro n w0 ops Q l r ds m H') (hx : r.ev x = some (.pointer (some ⟨b, o, none⟩)) := by exact rfl) (hy : r.ev y = some v := by exact rfl) (hv : v.cells = vs.toArray := by exact rfl) (hz : sizeB P t = some k := by exact rfl) (hk : vs.length = k := by exact rfl) (hr : Repl (.blk b (.cells L.toArray T fz)) (.blk b (.cells L'.toArray T fz)) H H' := by (repeat (first | exact Repl.here | apply Repl.there))) (hnf : NF (laid L o vs) L' := by (repeat (first | (apply NF.cons; (· exact rfl)) | exact NF.nil rfl))) (hl : Nat.ble (o + k) L.length = true := by exact rfl) (hf : fz.1 = fz.2 ∨ fz.2 ≤ o := by exact .inl rfl) (ha : vs.all okCell = true := by exact rfl) : WL P ro n w0 ops Q (⟨none, .store t x y, ty, pos, after, none⟩ :: l) r ds m H := WL.store hx hy hv hz hk hr hnf hl hf ha h
/-! ### structs -/
def fieldB (P : Program) (t : TypeId) (i : Nat) : Option (Nat × TypeId) := match P.underlying t with
  | some (.struct fs) => (fs[i]?).bind fun f => match lit f.offset with
    | some o => some (o, f.type)
    | none => none
  | _ => none
theorem field_of {t : TypeId} {i o : Nat} {u : TypeId} (h : fieldB P t i = some (o, u)) : ∃ fs f, P.underlying t = some (.struct fs) ∧ fs[i]? = some f ∧ f.offset = o ∧ f.type = u := by
  unfold fieldB at h
  split at h
  · rename_i fs hu
    cases hf : fs[i]? with
    | none => simp [hf] at h
    | some f => simp [hf, lit_eq] at h; exact ⟨fs, f, hu, hf, h.1, h.2⟩
  · cases h
theorem WL.fieldAddr {t u : TypeId} {x : Operand} {a : Addr} {i o k : Nat} (hx : r.ev x = some (.pointer (some a))) (hf : fieldB P t i = some (o, u)) (hz : sizeB P u = some (k + 1)) (hd : Nat.blt d n = true)
    (h : WL P ro n w0 ops Q l ((d, .pointer (some (a.add o))) :: r) ds m H) : WL P ro n w0 ops Q (⟨some d, .fieldAddr t x i, ty, pos, after, none⟩ :: l) r ds m H := by
  obtain ⟨fs, f, hu, hfi, ho', ht⟩ := field_of hf
  subst ho'; subst ht
  refine .val hd (fun _ h => by cases h) (fun tmps w ho _ => ?_) h
  simp only [execOp, Instr.fieldAt, Sem.run_bind, run_underlying hu, Result.andThen_ok, hfi, ho.ev hx, Instr.sureAddr, Sem.run_pure, fieldPlace, run_size hz]
  simp
theorem w_fieldAddr {t u : TypeId} {x : Operand} {a : Addr} {i o k : Nat} (h : WL P ro n w0 ops Q l ((d, .pointer (some (a.add o))) :: r) ds m H) (hx : r.ev x = some (.pointer (some a)) := by exact rfl) (hf : fieldB P t i = some (o, u) := by exact rfl) (hz : sizeB P u = some (k + 1) := by exact rfl) (hd : Nat.blt d n = true := by exact rfl) : WL P ro n w0 ops Q (⟨some d, .fieldAddr t x i, ty, pos, after, none⟩ :: l) r ds m H := WL.fieldAddr hx hf hz hd h
/-- the same at an address that is written out -/
theorem WL.fieldAddr0 {t u : TypeId} {x : Operand} {b p i o k : Nat} (hx : r.ev x = some (.pointer (some ⟨b, p, none⟩))) (hf : fieldB P t i = some (o, u)) (hz : sizeB P u = some (k + 1)) (hd : Nat.blt d n = true) {q : Nat} (hq : lit (p + o) = some q)
    (h : WL P ro n w0 ops Q l ((d, .pointer (some ⟨b, q, none⟩)) :: r) ds m H) : WL P ro n w0 ops Q (⟨some d, .fieldAddr t x i, ty, pos, after, none⟩ :: l) r ds m H :=
  .fieldAddr hx hf hz hd (by rw [lit_eq] at hq; rw [add_none, Option.some.inj hq]; exact h)
theorem w_fieldAddr0 {t u : TypeId} {x : Operand} {b p i o k : Nat} {q : Nat} (h : WL P ro n w0 ops Q l ((d, .pointer (some ⟨b, q, none⟩)) :: r) ds m H) (hx : r.ev x = some (.pointer (some ⟨b, p, none⟩)) := by exact rfl) (hf : fieldB P t i = some (o, u) := by exact rfl) (hz : sizeB P u = some (k + 1) := by exact rfl) (hd : Nat.blt d n = true := by exact rfl) (hq : lit (p + o) = some q := by exact rfl) : WL P ro n w0 ops Q (⟨some d, .fieldAddr t x i, ty, pos, after, none⟩ :: l) r ds m H := WL.fieldAddr0 hx hf hz hd hq h
theorem seg_extract {vs ws : List Value} {o k : Nat} (hv : Seg vs o k ws) : vs.toArray.extract o (o + k) = ws.toArray := by
  apply Array.ext'
  simp only [List.extract_toArray, List.extract_eq_take_drop]
  apply List.ext_getElem?
  intro j
  have h1 := hv.at_
  by_cases hj : j < k
  · have := h1.2 j ws[j] (List.getElem?_eq_getElem (by omega))
    simp [hj, this, List.getElem?_eq_getElem (show j < ws.length by omega)]
  · simp [List.getElem?_take, hj, List.getElem?_eq_none (show ws.length ≤ j by omega)]
theorem WL.field1 {t u : TypeId} {x : Operand} {vs : List Value} {i o : Nat} {v : Value} (hx : r.ev x = some (.agg vs.toArray)) (hf : fieldB P t i = some (o, u)) (hu : aggB P u = some false) (hv : vs[o]? = some v) (hd : Nat.blt d n = true)
    (h : WL P ro n w0 ops Q l ((d, v) :: r) ds m H) : WL P ro n w0 ops Q (⟨some d, .field t x i, ty, pos, after, none⟩ :: l) r ds m H := by
  obtain ⟨fs, f, hu', hfi, ho', ht⟩ := field_of hf
  subst ho'; subst ht
  refine .val hd (fun _ h => by cases h) (fun tmps w ho _ => ?_) h
  simp only [execOp, Instr.field, Sem.run_bind, run_underlying hu', Result.andThen_ok, hfi, ho.ev hx, asAgg, Sem.run_pure, part, run_agg hu, Bool.false_eq_true, if_false]
  simp [hv]
theorem w_field1 {t u : TypeId} {x : Operand} {vs : List Value} {i o : Nat} {v : Value} (h : WL P ro n w0 ops Q l ((d, v) :: r) ds m H) (hx : r.ev x = some (.agg vs.toArray) := by exact rfl) (hf : fieldB P t i = some (o, u) := by exact rfl) (hu : aggB P u = some false := by exact rfl) (hv : vs[o]? = some v := by exact rfl) (hd : Nat.blt d n = true := by exact rfl) : WL P ro n w0 ops Q (⟨some d, .field t x i, ty, pos, after, none⟩ :: l) r ds m H := WL.field1 hx hf hu hv hd h
theorem WL.fieldN {t u : TypeId} {x : Operand} {vs ws : List Value} {i o k : Nat} (hx : r.ev x = some (.agg vs.toArray)) (hf : fieldB P t i = some (o, u)) (hu : aggB P u = some true) (hz : sizeB P u = some k) (hv : Seg vs o k ws) (hd : Nat.blt d n = true)
    (h : WL P ro n w0 ops Q l ((d, .agg ws.toArray) :: r) ds m H) : WL P ro n w0 ops Q (⟨some d, .field t x i, ty, pos, after, none⟩ :: l) r ds m H := by
  obtain ⟨fs, f, hu', hfi, ho', ht⟩ := field_of hf
  subst ho'; subst ht
  refine .val hd (fun _ h => by cases h) (fun tmps w ho _ => ?_) h
  simp only [execOp, Instr.field, Sem.run_bind, run_underlying hu', Result.andThen_ok, hfi, ho.ev hx, asAgg, Sem.run_pure, part, run_agg hu, if_true, run_size hz, seg_extract hv]

/-! ### building -/
/-- the parts, laid one behind the other over what stood there -/
def overlay : List Value → List (Nat × Value) → List Value
  | L, [] => L
  | L, (o, v) :: rest => overlay (laid L o v.cells.toList) rest
theorem foldl_laid (o : Nat) : ∀ (vs : List Value) (k : Nat) (cs : Array Value),
    ((vs.zipIdx k).foldl (fun cs (p : Value × Nat) => cs.setIfInBounds (o + p.2) p.1) cs).toList = laid cs.toList (o + k) vs
  | [], k, cs => rfl
  | v :: vs, k, cs => by
    simp only [List.zipIdx_cons, List.foldl_cons, laid]
    rw [foldl_laid o vs (k + 1)]
    simp [Nat.add_assoc]
theorem fill_ok (place : Nat → Option (Nat × Nat)) : ∀ (parts : List (Nat × Value)) (placed : List (Nat × Value)) (cs : Array Value),
    parts.map (fun p => ((place p.1).map (·.1)).getD 0) = placed.map (·.1) → parts.map (·.2) = placed.map (·.2) →
    (parts.all fun p => match place p.1 with | some (o, s) => Nat.beq p.2.cells.size s && Nat.ble (o + s) cs.size | none => false) = true →
    Instr.fill place cs parts = some (overlay cs.toList placed).toArray
  | [], placed, cs, h1, h2, _ => by
    cases placed with
    | nil => simp [Instr.fill, overlay]
    | cons _ _ => simp at h1
  | (i, v) :: parts, placed, cs, h1, h2, h3 => by
    cases placed with
    | nil => simp at h1
    | cons q placed =>
      obtain ⟨o, u⟩ := q
      simp only [List.map_cons, List.cons.injEq] at h1 h2
      simp only [List.all_cons, Bool.and_eq_true] at h3
      obtain ⟨h2a, h2b⟩ := h2
      subst h2a
      cases hp : place i with
      | none => simp [hp] at h3
      | some os =>
        obtain ⟨o', s⟩ := os
        simp [hp] at h1 h3
        obtain ⟨h1a, h1b⟩ := h1
        subst h1a
        obtain ⟨⟨h3a, h3b⟩, h3c⟩ := h3
        have hf := foldl_laid o' v.cells.toList 0 cs
        simp only [Instr.fill, hp]
        rw [if_neg (by simp [h3a]; omega)]
        have e : v.cells.zipIdx.foldl (fun cs (c, j) => cs.setIfInBounds (o' + j) c) cs = (v.cells.toList.zipIdx 0).foldl (fun cs (p : Value × Nat) => cs.setIfInBounds (o' + p.2) p.1) cs := by
          rw [← Array.foldl_toList]; simp
        rw [e]
        have hsz : ((v.cells.toList.zipIdx 0).foldl (fun cs (p : Value × Nat) => cs.setIfInBounds (o' + p.2) p.1) cs).size = cs.size := by
          rw [← Array.length_toList, hf, laid_length, Array.length_toList]
        have := fill_ok place parts placed ((v.cells.toList.zipIdx 0).foldl (fun cs (p : Value × Nat) => cs.setIfInBounds (o' + p.2) p.1) cs) h1b h2b (by
          rw [hsz]
          simpa using h3c)
        rw [this, hf]
        rfl
end
end Go.Eng
