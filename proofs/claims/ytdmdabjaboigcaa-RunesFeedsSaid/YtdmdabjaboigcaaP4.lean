/-
  Parts of a walk, joined: EngN EngO EngP EngR. No condition.
-/
import Derived.Test.YtdmdabjaboigcaaP3
import Derived.Laws.Cover4
import Derived.Test.YtdmdabjaboigcaaP1
import Derived.Scope
import Derived.Lib.ConvBytes
/-
  A walk's engine, twelfth part: fields of a row's elements, rows that stay, slices of slices. No condition.
-/
set_option linter.all false
namespace Go.Eng
open Go Go.RowKit
section
variable {P : Program} {ro : Option Nat} {n : Nat} {w0 : World} {Q : Exit → Act → World → Prop} {r : Env} {ds : List Nat} {m : Mem} {H : SHeap}
  {ops : Array Oper} {l : List Oper} {d : Nat} {t : TypeId} {ty : TypeId} {pos : String} {after : Array Edge}

/-! ### a part of an element -/
theorem Cells.at_ {a : Addr} {vs : List Value} {o : Nat} {v : Value} (h : Cells w0 m H a vs) (hv : vs[o]? = some v) : Cell w0 m H (a.add o) v := fun w hs => h w hs o v hv
theorem addadd (a : Addr) (j k : Nat) : (a.add j).add k = a.add (j + k) := by
  obtain ⟨b, o, s⟩ := a
  unfold Addr.add
  by_cases h1 : j = 0 <;> by_cases h2 : k = 0 <;> simp [h1, h2, Nat.add_assoc]
theorem Cells.sub {a : Addr} {vs ws : List Value} {o k : Nat} (h : Cells w0 m H a vs) (hv : Seg vs o k ws) : Cells w0 m H (a.add o) ws := by
  intro w hs j v hj
  rw [addadd]
  exact h w hs _ v (hv.at_.2 j v hj)
theorem Loads.rowF {t : TypeId} {a : Addr} {cap : Nat} {T : TypeId} {sz i kk o : Nat} {es : List (List Value)} {e : List Value} {v : Value} (hm : Item.row (some a) cap T sz es ∈ H) (hi : es[i]? = some e) (hkk : kk = i * sz) (hu : aggB P t = some false) (hv : e[o]? = some v) :
    Loads P w0 m H t ((a.add kk).add o) v := .one hu (Cells.at_ (Cells.row hm hi hkk) hv)
theorem Loads.rowS {t : TypeId} {a : Addr} {cap : Nat} {T : TypeId} {sz i kk o k : Nat} {es : List (List Value)} {e ws : List Value} (hm : Item.row (some a) cap T sz es ∈ H) (hi : es[i]? = some e) (hkk : kk = i * sz) (hu : aggB P t = some true) (hz : sizeB P t = some k) (hv : Seg e o k ws) :
    Loads P w0 m H t ((a.add kk).add o) (.agg ws.toArray) := .agg hu hz hv.at_.1 (Cells.sub (Cells.row hm hi hkk) hv)
theorem Loads.prow {t : TypeId} {a : Addr} {len cap : Nat} {T : TypeId} {sz i kk k : Nat} {es : List (List Value)} {e : List Value} (hp : PRow m T sz (.slice (some a) len cap) es) (hi : es[i]? = some e) (hkk : kk = i * sz) (hu : aggB P t = some true) (hz : sizeB P t = some k) (hl : e.length = k) :
    Loads P w0 m H t (a.add kk) (.agg e.toArray) := .agg hu hz hl (Cells.prow hp hi hkk)
theorem Loads.prow1 {t : TypeId} {a : Addr} {len cap : Nat} {T : TypeId} {sz i kk : Nat} {es : List (List Value)} {v : Value} (hp : PRow m T sz (.slice (some a) len cap) es) (hi : es[i]? = some [v]) (hkk : kk = i * sz) (hu : aggB P t = some false) :
    Loads P w0 m H t (a.add kk) v := .one hu (Cells.cell (Cells.prow hp hi hkk))
theorem Loads.prowF {t : TypeId} {a : Addr} {len cap : Nat} {T : TypeId} {sz i kk o : Nat} {es : List (List Value)} {e : List Value} {v : Value} (hp : PRow m T sz (.slice (some a) len cap) es) (hi : es[i]? = some e) (hkk : kk = i * sz) (hu : aggB P t = some false) (hv : e[o]? = some v) :
    Loads P w0 m H t ((a.add kk).add o) v := .one hu (Cells.at_ (Cells.prow hp hi hkk) hv)
/-- a part of a part of an element -/
theorem WL.fieldAddrR {t u : TypeId} {x : Operand} {a : Addr} {kk o1 i o k q : Nat} (hx : r.ev x = some (.pointer (some ((a.add kk).add o1)))) (hf : fieldB P t i = some (o, u)) (hz : sizeB P u = some (k + 1)) (hd : Nat.blt d n = true) (hq : lit (o1 + o) = some q)
    (h : WL P ro n w0 ops Q l ((d, .pointer (some ((a.add kk).add q))) :: r) ds m H) : WL P ro n w0 ops Q (⟨some d, .fieldAddr t x i, ty, pos, after, none⟩ :: l) r ds m H :=
  .fieldAddr hx hf hz hd (by rw [lit_eq] at hq; rw [addadd (a.add kk), Option.some.inj hq]; exact h)
theorem w_fieldAddrR {t u : TypeId} {x : Operand} {a : Addr} {kk o1 i o k q : Nat} (h : WL P ro n w0 ops Q l ((d, .pointer (some ((a.add kk).add q))) :: r) ds m H) (hx : r.ev x = some (.pointer (some ((a.add kk).add o1))) := by exact rfl) (hf : fieldB P t i = some (o, u) := by exact rfl) (hz : sizeB P u = some (k + 1) := by exact rfl) (hd : Nat.blt d n = true := by exact rfl) (hq : lit (o1 + o) = some q := by exact rfl) : WL P ro n w0 ops Q (⟨some d, .fieldAddr t x i, ty, pos, after, none⟩ :: l) r ds m H := WL.fieldAddrR hx hf hz hd hq h
theorem laid_in : ∀ (vs A B C : List Value) (o : Nat), o + vs.length ≤ B.length → laid (A ++ B ++ C) (A.length + o) vs = A ++ laid B o vs ++ C
  | [], A, B, C, o, h => rfl
  | v :: vs, A, B, C, o, h => by
    simp only [List.length_cons] at h
    have e : (A ++ B ++ C).set (A.length + o) v = A ++ B.set o v ++ C := by
      rw [List.append_assoc, List.set_append_right _ _ (by omega), Nat.add_sub_cancel_left, List.set_append_left _ _ (by omega), List.append_assoc]
    rw [laid, e]
    have := laid_in vs A (B.set o v) C (o + 1) (by simp; omega)
    rw [show A.length + o + 1 = A.length + (o + 1) by omega, this]
    rfl
/-- a store into a part of an element of a row of one's own -/
theorem WL.storeRowF {u : TypeId} {x y : Operand} {a : Addr} {k o i cap sz kz : Nat} {T : TypeId} {es es' : List (List Value)} {v : Value} {vs e e' : List Value} {H' : SHeap} (hx : r.ev x = some (.pointer (some ((a.add k).add o)))) (hk : k = i * sz) (hy : r.ev y = some v)
    (hv : v.cells = vs.toArray) (hz : sizeB P u = some kz) (hvs : vs.length = kz) (ha : vs.all okCell = true) (hr : Repl (.row (some a) cap T sz es) (.row (some a) cap T sz es') H H') (hi : es[i]? = some e) (hnf : NF (laid e o vs) e') (hb : Nat.ble (o + kz) sz = true) (he : es' = es.set i e')
    (h : WL P ro n w0 ops Q l r ds m H') : WL P ro n w0 ops Q (⟨none, .store u x y, ty, pos, after, none⟩ :: l) r ds m H :=
  .act (fun m' H'' => m' = m ∧ H'' = H') rfl (fun _ h => by cases h)
    (fun tmps w ho hs => by
      subst hk; subst he
      have hnf := hnf.eq
      subst hnf
      have hb : o + kz ≤ sz := by simpa using hb
      obtain ⟨H1, p1, p2⟩ := hr.perm
      have hs1 := hs.perm p1
      obtain ⟨arr, fz, h1, h2, h3, h4, h5, h6, h9⟩ := hs1.own _ List.mem_cons_self
      have hil : i < es.length := (List.getElem?_eq_some_iff.1 hi).1
      obtain ⟨s, t, rfl, hsl⟩ : ∃ s t, es = s ++ e :: t ∧ s.length = i := ⟨es.take i, es.drop (i + 1), by
        have := List.getElem?_eq_some_iff.1 hi
        rw [← this.2, ← List.drop_eq_getElem_cons hil, List.take_append_drop], by rw [List.length_take]; omega⟩
      have hset : (s ++ e :: t).set i (laid e o vs) = s ++ laid e o vs :: t := by subst hsl; simp
      have hsf : s.flatten.length = i * sz := by rw [← hsl]; exact flat_len (fun q hq => h6 q (by simp [hq]))
      have he0 : e.length = sz := h6 e (by simp)
      have hll : (laid e o vs).length = sz := by rw [laid_length, he0]
      have harr : arr.toList = s.flatten ++ e ++ (t.flatten ++ arr.toList.drop ((s ++ e :: t).length * sz)) := by
        have := List.take_append_drop ((s ++ e :: t).length * sz) arr.toList
        rw [h5] at this
        rw [← List.append_assoc]
        simpa using this.symm
      have hlen : i * sz + sz ≤ arr.toList.length := by rw [harr]; simp only [List.length_append, hsf, he0]; omega
      have hs2 : Sat w0 m (.blk a.block (.cells arr.toList.toArray T fz) :: H1) w := ⟨hs1.os, hs1.tape, hs1.output, hs1.size, hs1.pers, fun q hq => by
        cases hq with
        | head => show w.heap[a.block]? = _; rw [h2]
        | tail _ hq => exact hs1.own q (List.mem_cons_of_mem _ hq), by simpa [SHeap.foot, Item.foot] using hs1.sep, by simpa [SHeap.foot, Item.foot] using hs1.free⟩
      obtain ⟨w', g1, g2⟩ := run_laid (P := P) vs 0 (i * sz + o) arr.toList H1 w (by omega) (by rcases h9 with h | h; exact .inl h; exact .inr (.inr (by simpa using h))) ha hs2
      rw [Nat.add_zero, ← hsf, harr, laid_in vs s.flatten e _ o (by omega)] at g2
      have hb2 : w'.heap[a.block]? = _ := g2.own _ List.mem_cons_self
      have g3 : Sat w0 m (.row (some a) cap T sz (s ++ laid e o vs :: t) :: H1) w' := ⟨g2.os, g2.tape, g2.output, g2.size, g2.pers, fun q hq => by
        cases hq with
        | head =>
          refine ⟨_, fz, h1, hb2, ?_, by simpa using h4, ?_, ?_, ?_⟩
          rotate_left 3
          · have h7 := congrArg List.length harr
            simp only [List.length_append, Array.length_toList] at h7
            rcases h9 with h | h
            · exact .inl h
            · right; simp only [List.size_toArray, List.length_append]; omega
          · have h7 : arr.toList.length = arr.size := Array.length_toList
            rw [← h3, List.size_toArray]
            have := congrArg List.length harr
            simp only [List.length_append] at this ⊢
            omega
          · have e1 : (s ++ laid e o vs :: t).length * sz = (s.flatten ++ laid e o vs ++ t.flatten).length := by
              have e2 := flat_len h6
              simp only [List.flatten_append, List.flatten_cons, List.length_append, List.length_cons] at e2 ⊢
              omega
            rw [e1]
            simp [← List.append_assoc]
          · intro q hq
            rcases List.mem_append.1 hq with hq | hq
            · exact h6 q (by simp [hq])
            · rcases List.mem_cons.1 hq with rfl | hq
              · exact hll
              · exact h6 q (by simp [hq])
        | tail _ hq => exact g2.own q (List.mem_cons_of_mem _ hq), by simpa [SHeap.foot, Item.foot] using g2.sep, by simpa [SHeap.foot, Item.foot] using g2.free⟩
      rw [hset] at p2
      refine ⟨m, H', w', ?_, g3.perm p2.symm, rfl, rfl⟩
      have hadd : (a.add (i * sz)).add o = ⟨a.block, i * sz + o, none⟩ := by rw [addadd, h1, add_none]; simp
      simp only [execOp, Instr.storeAt, Instr.sureAddr, storeVar, ho.ev hx, ho.ev hy, hv, Sem.run_bind, Sem.run_pure, Result.andThen_ok, run_size hz, hadd]
      simp only [List.size_toArray, hvs, ne_eq, not_true_eq_false, if_false, g1, Result.andThen_ok])
    (by rintro _ _ ⟨rfl, rfl⟩; exact h)

theorem w_storeRowF {u : TypeId} {x y : Operand} {a : Addr} {k o i cap sz kz : Nat} {T : TypeId} {es es' : List (List Value)} {v : Value} {vs e e' : List Value} {H' : SHeap} (h : WL P ro n w0 ops Q l r ds m H') (hx : r.ev x = some (.pointer (some ((a.add k).add o))) := by exact rfl) (hk : k = i * sz := by exact rfl) (hy : r.ev y = some v := by exact rfl) (hv : v.cells = vs.toArray := by exact rfl) (hz : sizeB P u = some kz := by exact rfl) (hvs : vs.length = kz := by exact rfl) (ha : vs.all okCell = true := by exact rfl) (hr : Repl (.row (some a) cap T sz es) (.row (some a) cap T sz es') H H' := by (repeat (first | exact Repl.here | apply Repl.there))) (hi : es[i]? = some e := by assumption) (hnf : NF (laid e o vs) e' := by (repeat (first | (apply NF.cons; (· exact rfl)) | exact NF.nil rfl))) (hb : Nat.ble (o + kz) sz = true := by exact rfl) (he : es' = es.set i e' := by exact rfl) : WL P ro n w0 ops Q (⟨none, .store u x y, ty, pos, after, none⟩ :: l) r ds m H := WL.storeRowF hx hk hy hv hz hvs ha hr hi hnf hb he h
/-! ### slices of slices -/
theorem flat_drop (sz : Nat) : ∀ (es : List (List Value)) (k : Nat), (∀ e ∈ es, e.length = sz) → (es.drop k).flatten = es.flatten.drop (k * sz)
  | es, 0, _ => by simp
  | [], k + 1, _ => by simp
  | e :: es, k + 1, h => by
    have he := h e List.mem_cons_self
    rw [List.drop_succ_cons, List.flatten_cons, flat_drop sz es k (fun x hx => h x (List.mem_cons_of_mem _ hx)), Nat.succ_mul, List.drop_append, (List.drop_eq_nil_of_le (by omega) : e.drop (k * sz + sz) = []), List.nil_append, he, Nat.add_sub_cancel]
theorem flat_take (sz : Nat) : ∀ (es : List (List Value)) (k : Nat), (∀ e ∈ es, e.length = sz) → (es.take k).flatten = es.flatten.take (k * sz)
  | es, 0, _ => by simp
  | [], k + 1, _ => by simp
  | e :: es, k + 1, h => by
    have he := h e List.mem_cons_self
    rw [List.take_succ_cons, List.flatten_cons, List.flatten_cons, flat_take sz es k (fun x hx => h x (List.mem_cons_of_mem _ hx)), Nat.succ_mul, List.take_append, List.take_of_length_le (l := e) (by omega), he, Nat.add_sub_cancel]
def subSl (a : Option Addr) (cap lo hi sz : Nat) : Value := .slice (if cap = lo then a else a.map (·.add (lo * sz))) (hi - lo) (cap - lo)
theorem sliceAt_sl {t e : TypeId} {sz : Nat} (hu : P.underlying t = some (.slice e)) (hz : sizeB P e = some sz) (lo hi : Option Value) (a : Option Addr) (len cap : Nat) (w : World) :
    (Instr.sliceAt t (.slice a len cap) lo hi none).run P w = ((Instr.sliceBounds true len cap lo hi none).run P w).andThen fun p w' => .ok (.slice (if p.2.2 = p.1 then a else a.map (·.add (p.1 * sz))) (p.2.1 - p.1) (p.2.2 - p.1)) w' := by
  simp only [Instr.sliceAt, Instr.slice, Sem.run_bind, run_underlying hu, Result.andThen_ok, run_size hz, Sem.run_pure]
theorem WL.slLH {t e : TypeId} {sz : Nat} {kl kh : IntKind} {x lo hi : Operand} {a : Option Addr} {len cap : Nat} {i j : Int} (hx : r.ev x = some (.slice a len cap)) (hl : r.ev lo = some (.int kl i)) (hh : r.ev hi = some (.int kh j)) {p q : Nat} (hia : i = (p : Int)) (hjb : j = (q : Int))
    (hu : P.underlying t = some (.slice e)) (hz : sizeB P e = some sz) (hd : Nat.blt d n = true) (hb : p ≤ q ∧ q ≤ cap) (h : WL P ro n w0 ops Q l ((d, subSl a cap p q sz) :: r) ds m H) :
    WL P ro n w0 ops Q (⟨some d, .slice t x (some lo) (some hi) none, ty, pos, after, none⟩ :: l) r ds m H :=
  .val hd (fun _ h => by cases h) (fun tmps w ho _ => by
    subst hia; subst hjb
    have e1 := bound_ok (P := P) (i := (p : Int)) (k := kl) (y := q) (by omega) (by omega) .sliceB w
    have e2 := bound_ok (P := P) (i := (q : Int)) (k := kh) (y := cap) (by omega) (by omega) .sliceAcap w
    simp only [execOp, Option.map_some, Option.map_none, Sem.run_bind, ho.ev hx, ho.ev hl, ho.ev hh, sliceAt_sl hu hz, Instr.sliceBounds]
    simp [e1, e2, Result.andThen, subSl]) h
theorem w_slLH {t e : TypeId} {sz : Nat} {kl kh : IntKind} {x lo hi : Operand} {a : Option Addr} {len cap : Nat} {i j : Int} {p q : Nat} (h : WL P ro n w0 ops Q l ((d, subSl a cap p q sz) :: r) ds m H) (hx : r.ev x = some (.slice a len cap) := by exact rfl) (hl : r.ev lo = some (.int kl i) := by exact rfl) (hh : r.ev hi = some (.int kh j) := by exact rfl) (hia : i = (p : Int) := by (first | with_reducible exact natz _ | with_reducible exact natz0 | with_reducible exact natz1 | with_reducible exact natz2 | with_reducible exact natz3 | with_reducible exact natz4 | with_reducible exact natz8 | (apply natz_add; (· first | with_reducible exact natz _ | with_reducible exact natz0 | with_reducible exact natz1 | with_reducible exact natz2 | with_reducible exact natz3 | with_reducible exact natz4 | with_reducible exact natz8); (· first | with_reducible exact natz _ | with_reducible exact natz0 | with_reducible exact natz1 | with_reducible exact natz2 | with_reducible exact natz3 | with_reducible exact natz4 | with_reducible exact natz8)) | (apply natz_sub; (· first | with_reducible exact natz _ | with_reducible exact natz0 | with_reducible exact natz1 | with_reducible exact natz2 | with_reducible exact natz3 | with_reducible exact natz4 | with_reducible exact natz8); (· first | with_reducible exact natz _ | with_reducible exact natz0 | with_reducible exact natz1 | with_reducible exact natz2 | with_reducible exact natz3 | with_reducible exact natz4 | with_reducible exact natz8); (· omega)) | exact (Int.toNat_of_nonneg (by omega)).symm)) (hjb : j = (q : Int) := by (first | with_reducible exact natz _ | with_reducible exact natz0 | with_reducible exact natz1 | with_reducible exact natz2 | with_reducible exact natz3 | with_reducible exact natz4 | with_reducible exact natz8 | (apply natz_add; (· first | with_reducible exact natz _ | with_reducible exact natz0 | with_reducible exact natz1 | with_reducible exact natz2 | with_reducible exact natz3 | with_reducible exact natz4 | with_reducible exact natz8); (· first | with_reducible exact natz _ | with_reducible exact natz0 | with_reducible exact natz1 | with_reducible exact natz2 | with_reducible exact natz3 | with_reducible exact natz4 | with_reducible exact natz8)) | (apply natz_sub; (· first | with_reducible exact natz _ | with_reducible exact natz0 | with_reducible exact natz1 | with_reducible exact natz2 | with_reducible exact natz3 | with_reducible exact natz4 | with_reducible exact natz8); (· first | with_reducible exact natz _ | with_reducible exact natz0 | with_reducible exact natz1 | with_reducible exact natz2 | with_reducible exact natz3 | with_reducible exact natz4 | with_reducible exact natz8); (· omega)) | exact (Int.toNat_of_nonneg (by omega)).symm)) (hu : P.underlying t = some (.slice e) := by exact rfl) (hz : sizeB P e = some sz := by exact rfl) (hd : Nat.blt d n = true := by exact rfl) (hb : p ≤ q ∧ q ≤ cap := by omega) : WL P ro n w0 ops Q (⟨some d, .slice t x (some lo) (some hi) none, ty, pos, after, none⟩ :: l) r ds m H := WL.slLH hx hl hh hia hjb hu hz hd hb h
theorem WL.slH {t e : TypeId} {sz : Nat} {kh : IntKind} {x hi : Operand} {a : Option Addr} {len cap : Nat} {j : Int} (hx : r.ev x = some (.slice a len cap)) (hh : r.ev hi = some (.int kh j)) {q : Nat} (hjb : j = (q : Int))
    (hu : P.underlying t = some (.slice e)) (hz : sizeB P e = some sz) (hd : Nat.blt d n = true) (hb : q ≤ cap) (h : WL P ro n w0 ops Q l ((d, subSl a cap 0 q sz) :: r) ds m H) :
    WL P ro n w0 ops Q (⟨some d, .slice t x none (some hi) none, ty, pos, after, none⟩ :: l) r ds m H :=
  .val hd (fun _ h => by cases h) (fun tmps w ho _ => by
    subst hjb
    have e2 := bound_ok (P := P) (i := (q : Int)) (k := kh) (y := cap) (by omega) (by omega) .sliceAcap w
    simp only [execOp, Option.map_some, Option.map_none, Sem.run_bind, ho.ev hx, ho.ev hh, sliceAt_sl hu hz, Instr.sliceBounds]
    simp [e2, Result.andThen, subSl]) h
theorem w_slH {t e : TypeId} {sz : Nat} {kh : IntKind} {x hi : Operand} {a : Option Addr} {len cap : Nat} {j : Int} {q : Nat} (h : WL P ro n w0 ops Q l ((d, subSl a cap 0 q sz) :: r) ds m H) (hx : r.ev x = some (.slice a len cap) := by exact rfl) (hh : r.ev hi = some (.int kh j) := by exact rfl) (hjb : j = (q : Int) := by (first | with_reducible exact natz _ | with_reducible exact natz0 | with_reducible exact natz1 | with_reducible exact natz2 | with_reducible exact natz3 | with_reducible exact natz4 | with_reducible exact natz8 | (apply natz_add; (· first | with_reducible exact natz _ | with_reducible exact natz0 | with_reducible exact natz1 | with_reducible exact natz2 | with_reducible exact natz3 | with_reducible exact natz4 | with_reducible exact natz8); (· first | with_reducible exact natz _ | with_reducible exact natz0 | with_reducible exact natz1 | with_reducible exact natz2 | with_reducible exact natz3 | with_reducible exact natz4 | with_reducible exact natz8)) | (apply natz_sub; (· first | with_reducible exact natz _ | with_reducible exact natz0 | with_reducible exact natz1 | with_reducible exact natz2 | with_reducible exact natz3 | with_reducible exact natz4 | with_reducible exact natz8); (· first | with_reducible exact natz _ | with_reducible exact natz0 | with_reducible exact natz1 | with_reducible exact natz2 | with_reducible exact natz3 | with_reducible exact natz4 | with_reducible exact natz8); (· omega)) | exact (Int.toNat_of_nonneg (by omega)).symm)) (hu : P.underlying t = some (.slice e) := by exact rfl) (hz : sizeB P e = some sz := by exact rfl) (hd : Nat.blt d n = true := by exact rfl) (hb : q ≤ cap := by omega) : WL P ro n w0 ops Q (⟨some d, .slice t x none (some hi) none, ty, pos, after, none⟩ :: l) r ds m H := WL.slH hx hh hjb hu hz hd hb h
theorem WL.slL {t e : TypeId} {sz : Nat} {kl : IntKind} {x lo : Operand} {a : Option Addr} {len cap : Nat} {i : Int} (hx : r.ev x = some (.slice a len cap)) (hl : r.ev lo = some (.int kl i)) {p : Nat} (hia : i = (p : Int))
    (hu : P.underlying t = some (.slice e)) (hz : sizeB P e = some sz) (hd : Nat.blt d n = true) (hb : p ≤ len) (h : WL P ro n w0 ops Q l ((d, subSl a cap p len sz) :: r) ds m H) :
    WL P ro n w0 ops Q (⟨some d, .slice t x (some lo) none none, ty, pos, after, none⟩ :: l) r ds m H :=
  .val hd (fun _ h => by cases h) (fun tmps w ho _ => by
    subst hia
    have e1 := bound_ok (P := P) (i := (p : Int)) (k := kl) (y := len) (by omega) (by omega) .sliceB w
    simp only [execOp, Option.map_some, Option.map_none, Sem.run_bind, ho.ev hx, ho.ev hl, sliceAt_sl hu hz, Instr.sliceBounds]
    simp [e1, Result.andThen, subSl]) h
theorem w_slL {t e : TypeId} {sz : Nat} {kl : IntKind} {x lo : Operand} {a : Option Addr} {len cap : Nat} {i : Int} {p : Nat} (h : WL P ro n w0 ops Q l ((d, subSl a cap p len sz) :: r) ds m H) (hx : r.ev x = some (.slice a len cap) := by exact rfl) (hl : r.ev lo = some (.int kl i) := by exact rfl) (hia : i = (p : Int) := by (first | with_reducible exact natz _ | with_reducible exact natz0 | with_reducible exact natz1 | with_reducible exact natz2 | with_reducible exact natz3 | with_reducible exact natz4 | with_reducible exact natz8 | (apply natz_add; (· first | with_reducible exact natz _ | with_reducible exact natz0 | with_reducible exact natz1 | with_reducible exact natz2 | with_reducible exact natz3 | with_reducible exact natz4 | with_reducible exact natz8); (· first | with_reducible exact natz _ | with_reducible exact natz0 | with_reducible exact natz1 | with_reducible exact natz2 | with_reducible exact natz3 | with_reducible exact natz4 | with_reducible exact natz8)) | (apply natz_sub; (· first | with_reducible exact natz _ | with_reducible exact natz0 | with_reducible exact natz1 | with_reducible exact natz2 | with_reducible exact natz3 | with_reducible exact natz4 | with_reducible exact natz8); (· first | with_reducible exact natz _ | with_reducible exact natz0 | with_reducible exact natz1 | with_reducible exact natz2 | with_reducible exact natz3 | with_reducible exact natz4 | with_reducible exact natz8); (· omega)) | exact (Int.toNat_of_nonneg (by omega)).symm)) (hu : P.underlying t = some (.slice e) := by exact rfl) (hz : sizeB P e = some sz := by exact rfl) (hd : Nat.blt d n = true := by exact rfl) (hb : p ≤ len := by omega) : WL P ro n w0 ops Q (⟨some d, .slice t x (some lo) none none, ty, pos, after, none⟩ :: l) r ds m H := WL.slL hx hl hia hu hz hd hb h
/-- a slice of a row that stays is a row that stays -/
theorem PRow.sub {T : TypeId} {sz len cap lo hi : Nat} {a : Option Addr} {es : List (List Value)} (h : PRow m T sz (.slice a len cap) es) (hb : lo ≤ hi ∧ hi ≤ es.length) (hcap : len ≤ cap) : PRow m T sz (subSl a cap lo hi sz) ((es.take hi).drop lo) := by
  cases a with
  | none =>
    obtain ⟨rfl, rfl⟩ := h
    simp only [subSl, Option.map_none, ite_self]
    exact ⟨by simp, by simp at hb; omega⟩
  | some a =>
    obtain ⟨h1, h2, h3, arr, fz, h4, h5⟩ := h
    subst h2
    have hne : ∀ e ∈ (es.take hi).drop lo, e.length = sz := fun e he => h3 e (List.mem_of_mem_take (List.mem_of_mem_drop he))
    have hl : hi - lo = ((es.take hi).drop lo).length := by simp; omega
    by_cases hc : cap = lo
    · have : (es.take hi).drop lo = [] := List.drop_eq_nil_of_le (by simp; omega)
      rw [this] at hl ⊢
      simp only [subSl, if_pos hc]
      exact ⟨h1, hl, by simp, arr, fz, h4, by simp⟩
    · simp only [subSl, if_neg hc, Option.map_some]
      refine ⟨add_spot h1 _, hl, hne, arr, fz, by rw [add_eq h1]; exact h4, fun j v hj => ?_⟩
      rw [add_eq h1]
      rw [flat_drop sz _ _ (fun e he => h3 e (List.mem_of_mem_take he)), flat_take sz _ _ h3, List.getElem?_drop] at hj
      rw [List.getElem?_take] at hj
      split at hj
      · have := h5 _ v hj
        rw [Nat.add_assoc]
        exact this
      · cases hj
end
end Go.Eng

/-
  A walk's engine, fourteenth part: texts laid together, runes and texts, rows that may be read, what is appended. No condition.
-/
set_option linter.all false
namespace Go.Eng
open Go Go.RowKit
section
variable {P : Program} {ro : Option Nat} {n : Nat} {w0 : World} {Q : Exit → Act → World → Prop} {r : Env} {ds : List Nat} {m : Mem} {H : SHeap}
  {ops : Array Oper} {l : List Oper} {d : Nat} {t : TypeId} {ty : TypeId} {pos : String} {after : Array Edge}

/-! ### a text and another one -/
theorem WL.addS {t' : TypeId} {x y : Operand} {a b : List UInt8} (hx : r.ev x = some (str a)) (hy : r.ev y = some (str b)) (hd : Nat.blt d n = true) (hb : a.length + b.length ≤ 9223372036854775807)
    (h : WL P ro n w0 ops Q l ((d, str (a ++ b)) :: r) ds m H) : WL P ro n w0 ops Q (⟨some d, .binOp .add t x y t', ty, pos, after, none⟩ :: l) r ds m H :=
  .val hd (fun _ h => by cases h) (fun tmps w ho hs => by
    have e1 : ¬ ((((⟨a.toArray⟩ : ByteArray).size + (⟨b.toArray⟩ : ByteArray).size : Nat) : Int) > IntKind.i64.max) := by
      have : IntKind.i64.max = 9223372036854775807 := by decide
      rw [this, ofNat_toArray, ofNat_toArray]; omega
    have e2 : (⟨a.toArray⟩ : ByteArray) ++ ⟨b.toArray⟩ = ⟨(a ++ b).toArray⟩ := by apply ByteArray.ext; simp
    simp only [execOp, ho.ev hx, ho.ev hy, str, eqGuard, binOp, Op.stringOp, Sem.run_bind, Sem.run_pure, if_neg e1, e2]
    simp) h

theorem w_addS {t' : TypeId} {x y : Operand} {a b : List UInt8} (h : WL P ro n w0 ops Q l ((d, str (a ++ b)) :: r) ds m H) (hx : r.ev x = some (str a) := by exact rfl) (hy : r.ev y = some (str b) := by exact rfl) (hd : Nat.blt d n = true := by exact rfl) (hb : a.length + b.length ≤ 9223372036854775807 := by omega) : WL P ro n w0 ops Q (⟨some d, .binOp .add t x y t', ty, pos, after, none⟩ :: l) r ds m H := WL.addS hx hy hd hb h
/-! ### runes of a text, and back -/
def rV (k : Nat) : List Value := [.int .i32 (k : Int)]
theorem runesFrom_eq (s : List UInt8) : ∀ (f i : Nat) (acc : Array Value), (Conv.runesFrom ⟨s.toArray⟩ f i acc).toList = acc.toList ++ ((pcs f s i).map fun p => Value.int .i32 (p.r : Int))
  | 0, i, acc => by simp [Conv.runesFrom, pcs]
  | f + 1, i, acc => by
    unfold Conv.runesFrom pcs
    rw [ofNat_toArray]
    split
    · rw [decode_eq]
      rw [runesFrom_eq s f]
      simp only [List.map_cons, readP_w_eq, readP_r_eq]
      simp
    · simp
theorem flatten_single {α : Type} (f : α → Value) (l : List α) : (l.map fun x => [f x]).flatten = l.map f := by
  induction l with
  | nil => rfl
  | cons x l ih => simp [ih]
theorem WL.strRunes {src dst e : TypeId} {x : Operand} {s : List UInt8} (hx : r.ev x = some (str s)) (hs1 : (P.underlying src).isSome = true) (hs2 : P.underlying dst = some (.slice e)) (hs3 : P.underlying e = some (.int .i32)) (hd : Nat.blt d n = true)
    (h : ∀ b cap, WL P ro n w0 ops Q l ((d, .slice (some ⟨b, 0, none⟩) (pieces s).length cap) :: r) ds m (.row (some ⟨b, 0, none⟩) cap e 1 ((pieces s).map fun p => rV p.r) :: H)) :
    WL P ro n w0 ops Q (⟨some d, .convert src dst x, ty, pos, after, none⟩ :: l) r ds m H := by
  refine .gen (fun v m' H' => ∃ b cap, v = .slice (some ⟨b, 0, none⟩) (pieces s).length cap ∧ m' = m ∧ H' = .row (some ⟨b, 0, none⟩) cap e 1 ((pieces s).map fun p => rV p.r) :: H) hd (fun _ h => by cases h) (fun tmps w ho hs => ?_)
    (by rintro _ _ _ ⟨b, cap, rfl, rfl, rfl⟩; exact h b cap)
  obtain ⟨us, hus⟩ := Option.isSome_iff_exists.1 hs1
  have hl := runesFrom_eq s s.length 0 #[]
  simp only [List.nil_append] at hl
  have hpl : pcs s.length s 0 = pieces s := rfl
  rw [hpl] at hl
  have hsz : (Conv.runesFrom ⟨s.toArray⟩ s.length 0 #[]).size = (pieces s).length := by rw [← Array.length_toList, hl]; simp
  generalize hE : Conv.runesFrom ⟨s.toArray⟩ s.length 0 #[] = E at hl hsz
  let q := Question.appendCap (pieces s).length 0 e
  let c := q.cut (w.tape w.drawn q)
  have hc : (pieces s).length ≤ c := Nat.le_add_right _ _
  have hs1' := (hs.drew).alloc (.cells (E ++ Array.replicate (c - (pieces s).length) (.int .i32 0)) e (0, 0))
  refine ⟨_, m, _, World.alloc { w with drawn := w.drawn + 1 } (.cells (E ++ Array.replicate (c - (pieces s).length) (.int .i32 0)) e (0, 0)), ?_, ?_, w.heap.size, c, rfl, rfl, rfl⟩
  rotate_left
  · have hh := hs1'
    refine ⟨hh.os, hh.tape, hh.output, hh.size, hh.pers, fun i hi => ?_, hh.sep, hh.free⟩
    cases hi with
    | head =>
      have hb := hh.own _ List.mem_cons_self
      refine ⟨_, (0, 0), rfl, hb, by simp [hsz]; omega, by simpa using hc, ?_, by simp [rV], .inl rfl⟩
      have : ((pieces s).map fun p => rV p.r).flatten = (pieces s).map fun p => Value.int .i32 (p.r : Int) := flatten_single (fun p : Pc => Value.int .i32 (p.r : Int)) (pieces s)
      rw [this, Array.toList_append, hl]
      simp
    | tail _ hi => exact hh.own i (List.mem_cons_of_mem _ hi)
  · simp only [execOp, ho.ev hx, convert, Sem.run_bind, run_underlying hus, run_underlying hs2, run_underlying hs3, Result.andThen_ok]
    cases us <;> (simp [str, run_underlying hs3, Conv.stringToRunes, ofNat_toArray, hE, hsz, Question.forced, Go.newRow, run_newObj_alloc, q, c, run_choose_drew, Result.andThen])
    all_goals rfl

theorem w_strRunes {src dst e : TypeId} {x : Operand} {s : List UInt8} (h : ∀ b cap, WL P ro n w0 ops Q l ((d, .slice (some ⟨b, 0, none⟩) (pieces s).length cap) :: r) ds m (.row (some ⟨b, 0, none⟩) cap e 1 ((pieces s).map fun p => rV p.r) :: H)) (hx : r.ev x = some (str s) := by exact rfl) (hs1 : (P.underlying src).isSome = true := by exact rfl) (hs2 : P.underlying dst = some (.slice e) := by exact rfl) (hs3 : P.underlying e = some (.int .i32) := by exact rfl) (hd : Nat.blt d n = true := by exact rfl) : WL P ro n w0 ops Q (⟨some d, .convert src dst x, ty, pos, after, none⟩ :: l) r ds m H := WL.strRunes hx hs1 hs2 hs3 hd h
/-! ### a slice that may be read: a row of one's own, or one that stays -/
def RowR (w0 : World) (m : Mem) (H : SHeap) (sz : Nat) (a : Option Addr) (es : List (List Value)) : Prop :=
  ∀ w, Sat w0 m H w → (∀ e ∈ es, e.length = sz) ∧ match a with
    | none => es = []
    | some b => ∀ j v, es.flatten[j]? = some v → w.cell? (b.add j) = some v
theorem RowR.row {a : Option Addr} {cap : Nat} {T : TypeId} {sz : Nat} {es : List (List Value)} (hm : Item.row a cap T sz es ∈ H) : RowR w0 m H sz a es := by
  intro w hs
  have h := hs.own _ hm
  cases a with
  | none =>
    have h' : es = [] ∧ cap = 0 := h
    obtain ⟨rfl, _⟩ := h'
    exact ⟨fun _ h => (by cases h), rfl⟩
  | some a =>
    obtain ⟨arr, fz, h1, h2, h3, h4, h5, h6, _⟩ := h
    refine ⟨h6, fun j v hj => ?_⟩
    rw [add_eq (by rw [h1])]
    have ho : a.off = 0 := by rw [h1]
    have hl := flat_len h6
    have hlt := (List.getElem?_eq_some_iff.1 hj).1
    have h8 : arr.toList[j]? = some v := by rw [← h5, List.getElem?_take_of_lt (by omega)] at hj; exact hj
    simp only [ho, Nat.zero_add, World.cell?, h2]
    rw [← Array.getElem?_toList]; exact h8
theorem RowR.prow {a : Option Addr} {len cap : Nat} {T : TypeId} {sz : Nat} {es : List (List Value)} (hp : PRow m T sz (.slice a len cap) es) : RowR w0 m H sz a es := by
  intro w hs
  cases a with
  | none =>
    obtain ⟨rfl, _⟩ := hp
    exact ⟨fun _ h => (by cases h), rfl⟩
  | some a =>
    obtain ⟨h1, _, h3, arr, fz, h4, h5⟩ := hp
    refine ⟨h3, fun j v hj => ?_⟩
    rw [add_eq h1]
    simp [World.cell?, hs.pers _ _ h4, h5 j v hj]
theorem RowR.nil {sz : Nat} {a : Option Addr} : RowR w0 m H sz a [] := by
  intro w hs
  refine ⟨fun _ h => (by cases h), ?_⟩
  cases a with
  | none => rfl
  | some a => intro j v hj; cases hj
theorem RowR.weak {sz : Nat} {a : Option Addr} {es : List (List Value)} {m' : Mem} {H' : SHeap} (h : RowR w0 m H sz a es) (hh : ∀ w, Sat w0 m' H' w → Sat w0 m H w) : RowR w0 m' H' sz a es := fun w hs => h w (hh w hs)
theorem RowR.more {sz : Nat} {a : Option Addr} {es : List (List Value)} {i : Item} (h : RowR w0 m H sz a es) : RowR w0 m (i :: H) sz a es := fun w hs => h w hs.drop
theorem RowR.le {sz : Nat} {a : Option Addr} {es : List (List Value)} {m' : Mem} (h : RowR w0 m H sz a es) (hm : m.le m') : RowR w0 m' H sz a es := fun w hs => h w (hs.forget hm)
theorem Cells.rrow {a : Addr} {sz k i : Nat} {es : List (List Value)} {e : List Value} (hr : RowR w0 m H sz (some a) es) (hi : es[i]? = some e) (hk : k = i * sz) : Cells w0 m H (a.add k) e := by
  subst hk
  intro w hs j v hj
  rw [addadd]
  exact (hr w hs).2 _ v (flatten_at (hr w hs).1 hi j v hj)
theorem RowR.some {sz : Nat} {a : Option Addr} {es : List (List Value)} {w : World} (h : RowR w0 m H sz a es) (hs : Sat w0 m H w) (hne : 0 < es.length) : ∃ a0, a = some a0 := by
  cases a with
  | none => have := (h w hs).2; subst this; simp at hne
  | some a => exact ⟨a, rfl⟩
theorem WC.rSome {c : Code} {sz : Nat} {a : Option Addr} {es : List (List Value)} (hr : RowR w0 m H sz a es) (hne : 0 < es.length) (h : ∀ a0, a = some a0 → WC P ro n w0 c Q r ds m H) : WC P ro n w0 c Q r ds m H := by
  intro tmps w ho hs
  obtain ⟨a0, e⟩ := hr.some hs hne
  exact h a0 e tmps w ho hs
theorem WL.rSome {sz : Nat} {a : Option Addr} {es : List (List Value)} (hr : RowR w0 m H sz a es) (hne : 0 < es.length) (h : ∀ a0, a = some a0 → WL P ro n w0 ops Q l r ds m H) : WL P ro n w0 ops Q l r ds m H := by
  intro tmps w ho hs
  obtain ⟨a0, e⟩ := hr.some hs hne
  exact h a0 e tmps w ho hs
theorem Loads.rrow {t : TypeId} {a : Addr} {sz i kk k : Nat} {es : List (List Value)} {e : List Value} (hr : RowR w0 m H sz (some a) es) (hi : es[i]? = some e) (hkk : kk = i * sz) (hu : aggB P t = some true) (hz : sizeB P t = some k) (hl : e.length = k) :
    Loads P w0 m H t (a.add kk) (.agg e.toArray) := .agg hu hz hl (Cells.rrow hr hi hkk)
theorem Loads.rrow1 {t : TypeId} {a : Addr} {sz i kk : Nat} {es : List (List Value)} {v : Value} (hr : RowR w0 m H sz (some a) es) (hi : es[i]? = some [v]) (hkk : kk = i * sz) (hu : aggB P t = some false) :
    Loads P w0 m H t (a.add kk) v := .one hu (Cells.cell (Cells.rrow hr hi hkk))
theorem Loads.rrowF {t : TypeId} {a : Addr} {sz i kk o : Nat} {es : List (List Value)} {e : List Value} {v : Value} (hr : RowR w0 m H sz (some a) es) (hi : es[i]? = some e) (hkk : kk = i * sz) (hu : aggB P t = some false) (hv : e[o]? = some v) :
    Loads P w0 m H t ((a.add kk).add o) v := .one hu (Cells.at_ (Cells.rrow hr hi hkk) hv)
theorem Source.rrow {sz cap : Nat} {tx e' : TypeId} {a : Option Addr} {es : List (List Value)} (hk : P.underlying tx = some (.slice e')) (hr : RowR w0 m H sz a es) (h1 : ∀ e ∈ es, e.all okCell = true) : Source P w0 m H sz tx (.slice a es.length cap) es.length es.flatten := by
  intro w hs
  cases a with
  | none => have := (hr w hs).2; subst this; exact Source.nil (w0 := w0) (m := m) (H := H) hk cap w hs
  | some a =>
    refine Src.ofSlice w hk a _ cap _ (flatten_length (hr w hs).1) (fun j u hu => (hr w hs).2 j u hu) (fun u hu => ?_)
    obtain ⟨e, he, hu'⟩ := List.mem_flatten.1 hu
    exact List.all_eq_true.1 (h1 e he) u hu'
/-- a part of such a slice -/
theorem RowR.sub {sz cap lo hi : Nat} {a : Option Addr} {es : List (List Value)} (h : RowR w0 m H sz a es) (hb : lo ≤ hi ∧ hi ≤ es.length) (hcap : es.length ≤ cap) : RowR w0 m H sz (if cap = lo then a else a.map (·.add (lo * sz))) ((es.take hi).drop lo) := by
  intro w hs
  obtain ⟨h1, h2⟩ := h w hs
  refine ⟨fun e he => h1 e (List.mem_of_mem_take (List.mem_of_mem_drop he)), ?_⟩
  by_cases hc : cap = lo
  · have : (es.take hi).drop lo = [] := List.drop_eq_nil_of_le (by simp; omega)
    rw [this, if_pos hc]
    cases a with
    | none => rfl
    | some a => intro j v hj; cases hj
  · rw [if_neg hc]
    cases a with
    | none => simp only at h2; subst h2; simp
    | some a =>
      intro j v hj
      rw [addadd]
      refine h2 _ v ?_
      rw [flat_drop sz _ _ (fun e he => h1 e (List.mem_of_mem_take he)), flat_take sz _ _ h1, List.getElem?_drop, List.getElem?_take] at hj
      split at hj
      · exact hj
      · cases hj
theorem WL.bytesR {src dst e : TypeId} {x : Operand} {a : Option Addr} {len cap : Nat} {s : List UInt8} (hx : r.ev x = some (.slice a len cap)) (hlen : len = s.length) (hr : RowR w0 m H 1 a (s.map fun b => [Value.int .u8 (b.toNat : Int)]))
    (hs1 : P.underlying src = some (.slice e)) (hs2 : P.underlying dst = some .string) (hs3 : P.underlying e = some (.int .u8)) (hsz : sizeB P e = some 1) (hd : Nat.blt d n = true)
    (h : WL P ro n w0 ops Q l ((d, str s) :: r) ds m H) : WL P ro n w0 ops Q (⟨some d, .convert src dst x, ty, pos, after, none⟩ :: l) r ds m H := by
  subst hlen
  cases a with
  | none =>
    refine .val hd (fun _ h => by cases h) (fun tmps w ho hs => ?_) h
    have h1 := (hr w hs).2
    have h3 : s = [] := by simpa using h1
    subst h3
    simp [execOp, ho.ev hx, convert, run_underlying hs1, run_underlying hs2, run_underlying hs3, Conv.bytesToString]
    rfl
  | some a =>
    refine WL.bytesStr hx hs1 hs2 hs3 hsz (.inr ⟨a, cap, rfl, fun w hs j v hj => (hr w hs).2 j v ?_⟩) hd h
    rw [flatten_single (fun b : UInt8 => Value.int .u8 (b.toNat : Int))]; exact hj
theorem w_bytesR {src dst e : TypeId} {x : Operand} {a : Option Addr} {len cap : Nat} {s : List UInt8} (hr : RowR w0 m H 1 a (s.map fun b => [Value.int .u8 (b.toNat : Int)])) (h : WL P ro n w0 ops Q l ((d, str s) :: r) ds m H) (hx : r.ev x = some (.slice a len cap) := by exact rfl) (hlen : len = s.length := by first | exact rfl | (simp; done) | omega) (hs1 : P.underlying src = some (.slice e) := by exact rfl) (hs2 : P.underlying dst = some .string := by exact rfl) (hs3 : P.underlying e = some (.int .u8) := by exact rfl) (hsz : sizeB P e = some 1 := by exact rfl) (hd : Nat.blt d n = true := by exact rfl) : WL P ro n w0 ops Q (⟨some d, .convert src dst x, ty, pos, after, none⟩ :: l) r ds m H := WL.bytesR hx hlen hr hs1 hs2 hs3 hsz hd h
theorem runes_all : ∀ (ns : List Int) (acc : List UInt8), ns.foldl (fun r n => r ++ Utf8.encode n) ⟨acc.toArray⟩ = ⟨(acc ++ ns.flatMap fun n => fmb (rn n)).toArray⟩
  | [], acc => by simp
  | k :: ns, acc => by
    rw [List.foldl_cons]
    have : (⟨acc.toArray⟩ : ByteArray) ++ Utf8.encode k = ⟨(acc ++ fmb (rn k)).toArray⟩ := by
      apply ByteArray.ext
      apply Array.ext'
      rw [← encode_eq]; simp
    rw [this, runes_all ns]
    simp
theorem WL.runesR {src dst e : TypeId} {x : Operand} {a : Option Addr} {len cap : Nat} {ns : List Int} (hx : r.ev x = some (.slice a len cap)) (hlen : len = ns.length) (hr : RowR w0 m H 1 a (ns.map fun k => [Value.int .i32 k]))
    (hs1 : P.underlying src = some (.slice e)) (hs2 : P.underlying dst = some .string) (hs3 : P.underlying e = some (.int .i32)) (hd : Nat.blt d n = true)
    (h : WL P ro n w0 ops Q l ((d, str (ns.flatMap fun k => fmb (rn k))) :: r) ds m H) : WL P ro n w0 ops Q (⟨some d, .convert src dst x, ty, pos, after, none⟩ :: l) r ds m H := by
  subst hlen
  refine .val hd (fun _ h => by cases h) (fun tmps w ho hs => ?_) h
  cases a with
  | none =>
    have h1 := (hr w hs).2
    have h3 : ns = [] := by simpa using h1
    subst h3
    simp [execOp, ho.ev hx, convert, run_underlying hs1, run_underlying hs2, run_underlying hs3, Conv.runesToString]
    rfl
  | some a =>
    have hl := run_loadCells_list (P := P) (w := w) a (ns.map (Value.int .i32)) (fun j v hj => (hr w hs).2 j v (by rw [flatten_single (Value.int .i32)]; exact hj))
    rw [List.length_map] at hl
    have hb := run_runesToString (P := P) w a ns.length cap ns hl
    have hp := runes_all ns []
    simp only [List.nil_append] at hp
    rw [runesBytes, show (ByteArray.empty : ByteArray) = ⟨([] : List UInt8).toArray⟩ from rfl, hp] at hb
    simp only [execOp, ho.ev hx, convert, Sem.run_bind, run_underlying hs1, run_underlying hs2, run_underlying hs3, Result.andThen_ok, hb, Sem.run_pure]

theorem w_runesR {src dst e : TypeId} {x : Operand} {a : Option Addr} {len cap : Nat} {ns : List Int} (hr : RowR w0 m H 1 a (ns.map fun k => [Value.int .i32 k])) (h : WL P ro n w0 ops Q l ((d, str (ns.flatMap fun k => fmb (rn k))) :: r) ds m H) (hx : r.ev x = some (.slice a len cap) := by exact rfl) (hlen : len = ns.length := by first | exact rfl | (simp; done) | omega) (hs1 : P.underlying src = some (.slice e) := by exact rfl) (hs2 : P.underlying dst = some .string := by exact rfl) (hs3 : P.underlying e = some (.int .i32) := by exact rfl) (hd : Nat.blt d n = true := by exact rfl) : WL P ro n w0 ops Q (⟨some d, .convert src dst x, ty, pos, after, none⟩ :: l) r ds m H := WL.runesR hx hlen hr hs1 hs2 hs3 hd h
/-! ### appending a text, or a row -/
theorem WL.appendS {t tx e : TypeId} {x y : Operand} {z : Value} {a : Option Addr} {cap len : Nat} {es : List (List Value)} {s : List UInt8} {H1 : SHeap} (hx : r.ev x = some (.slice a len cap)) (hy : r.ev y = some (str s))
    (hu : P.underlying t = some (.slice e)) (hux : P.underlying tx = some .string) (ho : Out (.row a cap e 1 es) H H1) (hz : zeroB P e = some z) (hsz : sizeB P e = some 1) (hby : bytesB P e = some 1) (hzs : z.cells.size = 1) (hlen : len = es.length)
    (hb : es.length + s.length ≤ 140737488355328) (hd : Nat.blt d n = true)
    (h : ∀ a' cap', WL P ro n w0 ops Q l ((d, .slice a' (es.length + s.length) cap') :: r) ds m (.row a' cap' e 1 (es ++ s.map fun b => [Value.int .u8 (b.toNat : Int)]) :: H1)) :
    WL P ro n w0 ops Q (⟨some d, .call ⟨.builtin .append, #[x, y], #[t, tx]⟩, ty, pos, after, none⟩ :: l) r ds m H := by
  refine .append (es' := s.map fun b => [Value.int .u8 (b.toNat : Int)]) (news := s.map fun b => Value.int .u8 (b.toNat : Int)) hx hy hlen ho hu hz hsz hby hzs (Source.str hux s) (by simp) (flatten_single _ s).symm (by simp) (by simp; omega) (by simpa using hb) hd ?_
  intro a' cap'
  rw [List.length_append, List.length_map]
  exact h a' cap'
theorem w_appendS {t tx e : TypeId} {x y : Operand} {z : Value} {a : Option Addr} {cap len : Nat} {es : List (List Value)} {s : List UInt8} {H1 : SHeap} (h : ∀ a' cap', WL P ro n w0 ops Q l ((d, .slice a' (es.length + s.length) cap') :: r) ds m (.row a' cap' e 1 (es ++ s.map fun b => [Value.int .u8 (b.toNat : Int)]) :: H1)) (hx : r.ev x = some (.slice a len cap) := by exact rfl) (hy : r.ev y = some (str s) := by exact rfl) (hu : P.underlying t = some (.slice e) := by exact rfl) (hux : P.underlying tx = some .string := by exact rfl) (ho : Out (.row a cap e 1 es) H H1 := by (repeat (first | exact Out.here | apply Out.there))) (hz : zeroB P e = some z := by exact rfl) (hsz : sizeB P e = some 1 := by exact rfl) (hby : bytesB P e = some 1 := by exact rfl) (hzs : z.cells.size = 1 := by exact rfl) (hlen : len = es.length := by first | exact rfl | (simp; done) | omega) (hb : es.length + s.length ≤ 140737488355328 := by omega) (hd : Nat.blt d n = true := by exact rfl) : WL P ro n w0 ops Q (⟨some d, .call ⟨.builtin .append, #[x, y], #[t, tx]⟩, ty, pos, after, none⟩ :: l) r ds m H := WL.appendS hx hy hu hux ho hz hsz hby hzs hlen hb hd h
theorem WL.appendR {t tx e e' : TypeId} {x y : Operand} {sz by' : Nat} {z : Value} {a a2 : Option Addr} {cap len len2 cap2 : Nat} {es es' : List (List Value)} {H1 : SHeap} (hx : r.ev x = some (.slice a len cap)) (hy : r.ev y = some (.slice a2 len2 cap2))
    (hu : P.underlying t = some (.slice e)) (hux : P.underlying tx = some (.slice e')) (ho : Out (.row a cap e sz es) H H1) (hr : RowR w0 m H sz a2 es') (hok : ∀ q ∈ es', q.all okCell = true) (hq : ∀ q ∈ es', q.length = sz)
    (hz : zeroB P e = some z) (hsz : sizeB P e = some sz) (hby : bytesB P e = some by') (hzs : z.cells.size = sz) (hlen : len = es.length) (hlen2 : len2 = es'.length) (hb : (es.length + es'.length) * by' ≤ 140737488355328) (h0 : 0 < by') (hd : Nat.blt d n = true)
    (h : ∀ a' cap', WL P ro n w0 ops Q l ((d, .slice a' (es.length + es'.length) cap') :: r) ds m (.row a' cap' e sz (es ++ es') :: H1)) :
    WL P ro n w0 ops Q (⟨some d, .call ⟨.builtin .append, #[x, y], #[t, tx]⟩, ty, pos, after, none⟩ :: l) r ds m H := by
  subst hlen2
  have h63 : es.length + es'.length ≤ 9223372036854775807 := by
    have : (es.length + es'.length) * 1 ≤ (es.length + es'.length) * by' := Nat.mul_le_mul_left _ h0
    omega
  refine .append (es' := es') (news := es'.flatten) hx hy hlen ho hu hz hsz hby hzs (Source.rrow hux hr hok) rfl rfl hq h63 hb hd ?_
  intro a' cap'
  rw [List.length_append]
  exact h a' cap'

theorem w_appendR {t tx e e' : TypeId} {x y : Operand} {sz by' : Nat} {z : Value} {a a2 : Option Addr} {cap len len2 cap2 : Nat} {es es' : List (List Value)} {H1 : SHeap} (hr : RowR w0 m H sz a2 es') (hok : ∀ q ∈ es', q.all okCell = true) (hq : ∀ q ∈ es', q.length = sz) (h : ∀ a' cap', WL P ro n w0 ops Q l ((d, .slice a' (es.length + es'.length) cap') :: r) ds m (.row a' cap' e sz (es ++ es') :: H1)) (hx : r.ev x = some (.slice a len cap) := by exact rfl) (hy : r.ev y = some (.slice a2 len2 cap2) := by exact rfl) (hu : P.underlying t = some (.slice e) := by exact rfl) (hux : P.underlying tx = some (.slice e') := by exact rfl) (ho : Out (.row a cap e sz es) H H1 := by (repeat (first | exact Out.here | apply Out.there))) (hz : zeroB P e = some z := by exact rfl) (hsz : sizeB P e = some sz := by exact rfl) (hby : bytesB P e = some by' := by exact rfl) (hzs : z.cells.size = sz := by exact rfl) (hlen : len = es.length := by first | exact rfl | (simp; done) | omega) (hlen2 : len2 = es'.length := by first | exact rfl | (simp; done) | omega) (hb : (es.length + es'.length) * by' ≤ 140737488355328 := by first | omega | (simp; omega)) (h0 : 0 < by' := by decide) (hd : Nat.blt d n = true := by exact rfl) : WL P ro n w0 ops Q (⟨some d, .call ⟨.builtin .append, #[x, y], #[t, tx]⟩, ty, pos, after, none⟩ :: l) r ds m H := WL.appendR hx hy hu hux ho hr hok hq hz hsz hby hzs hlen hlen2 hb h0 hd h
/-! ### a row with room, without elements -/
theorem WL.makeRoom {e : TypeId} {lo hi : Operand} {kl kh : IntKind} {i j : Int} {k sz by' : Nat} {z : Value} (hl : r.ev lo = some (.int kl i)) (hh : r.ev hi = some (.int kh j)) (ei : i = 0) (ej : j = (k : Int))
    (hu : P.underlying t = some (.slice e)) (hz : zeroB P e = some z) (hsz : sizeB P e = some sz) (hby : bytesB P e = some by') (hb : k * by' ≤ 140737488355328) (h63 : k ≤ 9223372036854775807)
    (hd : Nat.blt d n = true) (h : ∀ b, WL P ro n w0 ops Q l ((d, .slice (some ⟨b, 0, none⟩) 0 k) :: r) ds m (.row (some ⟨b, 0, none⟩) k e sz [] :: H)) :
    WL P ro n w0 ops Q (⟨some d, .makeSlice t lo hi, ty, pos, after, none⟩ :: l) r ds m H := by
  subst ei; subst ej
  refine .gen (fun v m' H' => ∃ b, v = .slice (some ⟨b, 0, none⟩) 0 k ∧ m' = m ∧ H' = .row (some ⟨b, 0, none⟩) k e sz [] :: H) hd (fun _ h => by cases h) (fun tmps w ho hs => ?_)
    (by rintro _ _ _ ⟨b, rfl, rfl, rfl⟩; exact h b)
  obtain ⟨inf, hinf, hbe, hrun⟩ := run_info hby w
  have wl : IntKind.i64.wrap (k : Int) = (k : Int) := by rw [IntKind.wrap_i64]; omega
  have w00 : IntKind.i64.wrap 0 = 0 := by rw [IntKind.wrap_i64]; rfl
  have n2 : ¬ (281474976710656 < (by' : Int) * (k : Int)) := by
    have : (by' : Int) * (k : Int) = ((k * by' : Nat) : Int) := by push_cast; rw [Int.mul_comm]
    omega
  have n5 : ¬ (140737488355328 < k * by') := by omega
  have hrow : ∀ (arr : Array Value), arr.size = k * sz → Sat w0 m (.row (some ⟨w.heap.size, 0, none⟩) k e sz [] :: H) (w.alloc (.cells arr e (0, 0))) := fun arr ha => by
    have hh := hs.alloc (.cells arr e (0, 0))
    refine ⟨hh.os, hh.tape, hh.output, hh.size, hh.pers, fun i hi => ?_, hh.sep, hh.free⟩
    cases hi with
    | head => exact ⟨arr, (0, 0), rfl, hh.own _ List.mem_cons_self, ha, Nat.zero_le _, by simp, (fun _ h => (by cases h)), .inl rfl⟩
    | tail _ hi => exact hh.own i (List.mem_cons_of_mem _ hi)
  have n1 : ¬ (k : Int) < 0 := by omega
  by_cases hn : k * sz = 0
  · refine ⟨_, m, _, w.alloc (.cells #[] e (0, 0)), ?_, hrow _ (by simp [hn]), w.heap.size, rfl, rfl, rfl⟩
    rcases Nat.mul_eq_zero.1 hn with rfl | rfl
    · simp [execOp, ho.ev hl, ho.ev hh, Instr.makeSlice, run_underlying hu, asInt, asIntOf, hrun, w00, run_size hsz, askRoom, roomBytes, Go.newRow, run_newObj_alloc]
      exact congrArg (fun q => w.alloc (.cells q e (0, 0))) (Array.eq_empty_of_size_eq_zero (by simp))
    · simp [execOp, ho.ev hl, ho.ev hh, Instr.makeSlice, run_underlying hu, asInt, asIntOf, hrun, wl, w00, run_size hsz, hbe, n1, n2, n5, askRoom, roomBytes, Go.newRow, run_newObj_alloc]
      exact congrArg (fun q => w.alloc (.cells q e (0, 0))) (Array.eq_empty_of_size_eq_zero (by simp))
  · refine ⟨_, m, _, w.alloc (.cells ((Array.range (k * sz)).map fun x => z.cells[x % z.cells.size]!) e (0, 0)), ?_, hrow _ (by simp), w.heap.size, rfl, rfl, rfl⟩
    simp [execOp, ho.ev hl, ho.ev hh, Instr.makeSlice, run_underlying hu, asInt, asIntOf, hrun, wl, w00, run_size hsz, hbe, n1, n2, n5, askRoom, roomBytes, Go.newRow, run_newObj_alloc, hn, run_zero hz]

theorem w_makeRoom {e : TypeId} {lo hi : Operand} {kl kh : IntKind} {i j : Int} {k sz by' : Nat} {z : Value} (h : ∀ b, WL P ro n w0 ops Q l ((d, .slice (some ⟨b, 0, none⟩) 0 k) :: r) ds m (.row (some ⟨b, 0, none⟩) k e sz [] :: H)) (hl : r.ev lo = some (.int kl i) := by exact rfl) (hh : r.ev hi = some (.int kh j) := by exact rfl) (ei : i = 0 := by exact rfl) (ej : j = (k : Int) := by (first | with_reducible exact natz _ | with_reducible exact natz0 | with_reducible exact natz1 | with_reducible exact natz2 | with_reducible exact natz3 | with_reducible exact natz4 | with_reducible exact natz8 | (apply natz_add; (· first | with_reducible exact natz _ | with_reducible exact natz0 | with_reducible exact natz1 | with_reducible exact natz2 | with_reducible exact natz3 | with_reducible exact natz4 | with_reducible exact natz8); (· first | with_reducible exact natz _ | with_reducible exact natz0 | with_reducible exact natz1 | with_reducible exact natz2 | with_reducible exact natz3 | with_reducible exact natz4 | with_reducible exact natz8)) | (apply natz_sub; (· first | with_reducible exact natz _ | with_reducible exact natz0 | with_reducible exact natz1 | with_reducible exact natz2 | with_reducible exact natz3 | with_reducible exact natz4 | with_reducible exact natz8); (· first | with_reducible exact natz _ | with_reducible exact natz0 | with_reducible exact natz1 | with_reducible exact natz2 | with_reducible exact natz3 | with_reducible exact natz4 | with_reducible exact natz8); (· omega)) | exact (Int.toNat_of_nonneg (by omega)).symm)) (hu : P.underlying t = some (.slice e) := by exact rfl) (hz : zeroB P e = some z := by exact rfl) (hsz : sizeB P e = some sz := by exact rfl) (hby : bytesB P e = some by' := by exact rfl) (hb : k * by' ≤ 140737488355328 := by omega) (h63 : k ≤ 9223372036854775807 := by omega) (hd : Nat.blt d n = true := by exact rfl) : WL P ro n w0 ops Q (⟨some d, .makeSlice t lo hi, ty, pos, after, none⟩ :: l) r ds m H := WL.makeRoom hl hh ei ej hu hz hsz hby hb h63 hd h
/-! ### numbers of u64 -/
theorem WL.remu64 {t t' : TypeId} {x y : Operand} {a b : Int} (hx : r.ev x = some (.int .u64 a)) (hy : r.ev y = some (.int .u64 b)) (hd : Nat.blt d n = true) (ha : 0 ≤ a ∧ a ≤ 18446744073709551615) (hb : 1 ≤ b)
    (h : WL P ro n w0 ops Q l ((d, .int .u64 (a % b)) :: r) ds m H) : WL P ro n w0 ops Q (⟨some d, .binOp .rem t x y t', ty, pos, after, none⟩ :: l) r ds m H := by
  refine .rem hx hy hd (by omega) ?_
  rw [Int.tmod_eq_emod_of_nonneg ha.1]
  exact h
theorem w_remu64 {t t' : TypeId} {x y : Operand} {a b : Int} (h : WL P ro n w0 ops Q l ((d, .int .u64 (a % b)) :: r) ds m H) (hx : r.ev x = some (.int .u64 a) := by exact rfl) (hy : r.ev y = some (.int .u64 b) := by exact rfl) (hd : Nat.blt d n = true := by exact rfl) (ha : 0 ≤ a ∧ a ≤ 18446744073709551615 := by omega) (hb : 1 ≤ b := by omega) : WL P ro n w0 ops Q (⟨some d, .binOp .rem t x y t', ty, pos, after, none⟩ :: l) r ds m H := WL.remu64 hx hy hd ha hb h
theorem WL.convu64mod {src dst : TypeId} {k : IntKind} {a : Int} {x : Operand} (hx : r.ev x = some (.int k a)) (hs : (P.underlying src).isSome = true) (hu : P.underlying dst = some (.int .u64)) (hd : Nat.blt d n = true)
    (h : WL P ro n w0 ops Q l ((d, .int .u64 (a % 18446744073709551616)) :: r) ds m H) : WL P ro n w0 ops Q (⟨some d, .convert src dst x, ty, pos, after, none⟩ :: l) r ds m H :=
  .conv hx hs hu hd (by
    have : IntKind.u64.wrap a = a % 18446744073709551616 := by simp [IntKind.wrap, IntKind.signed, IntKind.bits]
    rw [this]; exact h)
theorem w_convu64mod {src dst : TypeId} {k : IntKind} {a : Int} {x : Operand} (h : WL P ro n w0 ops Q l ((d, .int .u64 (a % 18446744073709551616)) :: r) ds m H) (hx : r.ev x = some (.int k a) := by exact rfl) (hs : (P.underlying src).isSome = true := by exact rfl) (hu : P.underlying dst = some (.int .u64) := by exact rfl) (hd : Nat.blt d n = true := by exact rfl) : WL P ro n w0 ops Q (⟨some d, .convert src dst x, ty, pos, after, none⟩ :: l) r ds m H := WL.convu64mod hx hs hu hd h
theorem at_idx {α : Type} {xs : List α} {f : α → List Value} {i : Nat} (h : i < xs.length) : ∃ x, xs[i]? = some x ∧ (xs.map f)[i]? = some (f x) ∧ xs.take (i + 1) = xs.take i ++ [x] ∧ x ∈ xs ∧ xs.drop i = x :: xs.drop (i + 1) := by
  refine ⟨xs[i], List.getElem?_eq_getElem h, by rw [List.getElem?_map, List.getElem?_eq_getElem h]; rfl, List.take_succ_eq_append_getElem h, List.getElem_mem h, List.drop_eq_getElem_cons h⟩
end
end Go.Eng

/-
  A walk's engine, fifteenth part: loops that let go of what they need no more. No condition.
-/
set_option linter.all false
namespace Go.Eng
open Go Go.RowKit
section
variable {P : Program} {ro : Option Nat} {n : Nat} {w0 : World} {Q : Exit → Act → World → Prop} {r : Env} {ds : List Nat} {m : Mem} {H : SHeap}
theorem WC.loopH {c : Code} {H0 : SHeap} (r0 : Env) (hr : Env.Sub r0 r) (hh : ∀ w, Sat w0 m H w → Sat w0 m H0 w) (I : Nat → Env → List Nat → Mem → SHeap → Prop) (j : Nat) (h0 : I j r0 ds m H0)
    (round : ∀ j r ds m H, I j r ds m H → WC P ro n w0 c (QLoop n w0 I j Q) r ds m H) : WC P ro n w0 (.loop c) Q r ds m H :=
  fun tmps w ho hs => WC.loopW (H := H0) r0 hr I j h0 round tmps w ho (hh w hs)
/-- what lies in a row has room there -/
theorem row_cap {w : World} {a : Option Addr} {cap : Nat} {T : TypeId} {sz : Nat} {es : List (List Value)} (hs : Sat w0 m H w) (hm : Item.row a cap T sz es ∈ H) : es.length ≤ cap := by
  have h := hs.own _ hm
  cases a with
  | none =>
    have h' : es = [] ∧ cap = 0 := h
    rw [h'.1]; exact Nat.zero_le _
  | some a => exact h.choose_spec.choose_spec.2.2.2.1
theorem WL.rowCap {ops : Array Oper} {l : List Oper} {a : Option Addr} {cap : Nat} {T : TypeId} {sz : Nat} {es : List (List Value)} (hm : Item.row a cap T sz es ∈ H) (h : es.length ≤ cap → WL P ro n w0 ops Q l r ds m H) : WL P ro n w0 ops Q l r ds m H :=
  fun tmps w ho hs => h (row_cap hs hm) tmps w ho hs
theorem WC.rowCap {c : Code} {a : Option Addr} {cap : Nat} {T : TypeId} {sz : Nat} {es : List (List Value)} (hm : Item.row a cap T sz es ∈ H) (h : es.length ≤ cap → WC P ro n w0 c Q r ds m H) : WC P ro n w0 c Q r ds m H :=
  fun tmps w ho hs => h (row_cap hs hm) tmps w ho hs
/-- all marks of a function's end at once -/
theorem WQ.marks {fn : Func} {Post : Value → Mem → SHeap → Prop} : ∀ {ds : List Nat} {H H1 : SHeap}, List.Perm H ((ds.map fun D => Item.blk D (.deferred (some []))) ++ H1) → WQ n w0 (QFun P fn w0 Post) .ret r [] m H1 → WQ n w0 (QFun P fn w0 Post) .ret r ds m H
  | [], _, _, hp, h => fun tmps w ho hs => h tmps w ho (hs.perm hp)
  | _ :: _, _, _, hp, h => WQ.mark hp (WQ.marks (List.Perm.refl _) h)
section
variable {ops : Array Oper} {l : List Oper} {d : Nat} {t : TypeId} {ty : TypeId} {pos : String} {after : Array Edge}
theorem WL.pickIsT {c x y : Operand} {v : Value} {b : Bool} (hc : r.ev c = some (.bool b)) (hb : b = true) (hx : r.ev x = some v) (hd : Nat.blt d n = true) (h : WL P ro n w0 ops Q l ((d, v) :: r) ds m H) :
    WL P ro n w0 ops Q (⟨some d, .pick c x y, ty, pos, after, none⟩ :: l) r ds m H := .pick_t (by rw [hc, hb]) hx hd h
theorem w_pickIsT {c x y : Operand} {v : Value} {b : Bool} (h : WL P ro n w0 ops Q l ((d, v) :: r) ds m H) (hc : r.ev c = some (.bool b) := by exact rfl) (hb : b = true := by assumption) (hx : r.ev x = some v := by exact rfl) (hd : Nat.blt d n = true := by exact rfl) : WL P ro n w0 ops Q (⟨some d, .pick c x y, ty, pos, after, none⟩ :: l) r ds m H := WL.pickIsT hc hb hx hd h
theorem WL.pickIsF {c x y : Operand} {v : Value} {b : Bool} (hc : r.ev c = some (.bool b)) (hb : b = false) (hx : r.ev y = some v) (hd : Nat.blt d n = true) (h : WL P ro n w0 ops Q l ((d, v) :: r) ds m H) :
    WL P ro n w0 ops Q (⟨some d, .pick c x y, ty, pos, after, none⟩ :: l) r ds m H := .pick_f (by rw [hc, hb]) hx hd h
theorem w_pickIsF {c x y : Operand} {v : Value} {b : Bool} (h : WL P ro n w0 ops Q l ((d, v) :: r) ds m H) (hc : r.ev c = some (.bool b) := by exact rfl) (hb : b = false := by assumption) (hx : r.ev y = some v := by exact rfl) (hd : Nat.blt d n = true := by exact rfl) : WL P ro n w0 ops Q (⟨some d, .pick c x y, ty, pos, after, none⟩ :: l) r ds m H := WL.pickIsF hc hb hx hd h
end
end
/-- some of what is owned, in whatever order -/
inductive Pick : SHeap → SHeap → Prop
  | all {A : SHeap} : Pick A A
  | take {i : Item} {A A' B : SHeap} : Out i A A' → Pick A' B → Pick A (i :: B)
  | drop {i : Item} {A B : SHeap} : Pick A B → Pick (i :: A) B
theorem Pick.sat {w0 : World} {m : Mem} {A B : SHeap} (h : Pick A B) : ∀ {w : World}, Sat w0 m A w → Sat w0 m B w := by
  induction h with
  | all => exact fun h => h
  | @take i A A' B ho _ ih =>
    intro w hs
    have h1 := hs.perm ho.perm
    have h2 := ih h1.drop
    have hsub : ∀ b ∈ SHeap.foot B, b ∈ SHeap.foot A' := by
      rename_i hp
      clear ih h2
      intro b hb
      have key : ∀ {A B : SHeap}, Pick A B → ∀ b ∈ SHeap.foot B, b ∈ SHeap.foot A := by
        intro A B hp
        induction hp with
        | all => exact fun _ h => h
        | take ho _ ih =>
          intro b hb
          have hf := List.Perm.flatMap_right Item.foot ho.perm
          refine hf.mem_iff.2 ?_
          simp only [List.flatMap_cons, List.mem_append, SHeap.foot] at hb ⊢
          rcases hb with hb | hb
          · exact .inl hb
          · exact .inr (ih b hb)
        | drop _ ih =>
          intro b hb
          simp only [SHeap.foot, List.flatMap_cons, List.mem_append]
          exact .inr (ih b hb)
      exact key hp b hb
    have hsep := h1.sep
    simp only [SHeap.foot, List.flatMap_cons, List.nodup_append] at hsep
    refine ⟨h2.os, h2.tape, h2.output, h2.size, h2.pers, ?_, ?_, ?_⟩
    · intro x hx
      cases hx with
      | head => exact h1.own _ List.mem_cons_self
      | tail _ hx => exact h2.own x hx
    · simp only [SHeap.foot, List.flatMap_cons, List.nodup_append]
      exact ⟨hsep.1, h2.sep, fun a ha b hb => hsep.2.2 a ha b (hsub b hb)⟩
    · intro b hb
      simp only [SHeap.foot, List.flatMap_cons, List.mem_append] at hb
      rcases hb with hb | hb
      · exact h1.free b (by simp only [SHeap.foot, List.flatMap_cons, List.mem_append]; exact .inl hb)
      · exact h2.free b hb
  | drop _ ih => exact fun hs => ih hs.drop
/-- a part of a row of one's own -/
theorem RowR.subRow {w0 : World} {m : Mem} {H : SHeap} {T : TypeId} {sz cap lo hi : Nat} {a : Option Addr} {es : List (List Value)} (hm : Item.row a cap T sz es ∈ H) (hb : lo ≤ hi ∧ hi ≤ es.length) :
    RowR w0 m H sz (if cap = lo then a else a.map (·.add (lo * sz))) ((es.take hi).drop lo) := by
  intro w hs
  have hc : es.length ≤ cap := row_cap hs hm
  exact (RowR.row hm).sub hb hc w hs
theorem Does.callsW {P : Program} {f : FuncId} {args : Array Value} {w : World} {v : Value} (h : Does P f args w (memOf w) [] (fun v' m' _ => v' = v ∧ (memOf w).le m')) :
    Calls P f args w fun e w' => e = .returned v ∧ Below w.heap.size w w' := by
  have h1 := h w (Sat.start w)
  have h2 : CallsIn Fence.wide 0 P f args w fun e w' => e = .returned v ∧ Below w.heap.size w w' := h1.mono fun e w' ⟨v', m', H', he, hg, hs⟩ => by
    obtain ⟨rfl, hm⟩ := hg
    exact ⟨he, (hs.forget hm).below⟩
  exact callsIn_wide.1 h2
end Go.Eng

/-
  A walk's engine, seventeenth part: functions, pointers, slices held against nil; scopes and labels; a text's bytes. No condition.
-/
set_option linter.all false
namespace Go.Eng
open Go Go.RowKit
section
variable {P : Program} {ro : Option Nat} {n : Nat} {w0 : World} {Q : Exit → Act → World → Prop} {r : Env} {ds : List Nat} {m : Mem} {H : SHeap}
  {ops : Array Oper} {l : List Oper} {d : Nat} {ty : TypeId} {pos : String} {after : Array Edge} {t t' : TypeId} {x y : Operand}
theorem WL.eqlNilF {c : Fn} {a b : Array Value} {ps rs : Array TypeId} {va : Bool} (hx : r.ev x = some (.func c a b)) (hy : r.ev y = some .nilFunc) (hu : P.underlying t = some (.func ps rs va)) (hd : Nat.blt d n = true)
    (h : WL P ro n w0 ops Q l ((d, .bool false) :: r) ds m H) : WL P ro n w0 ops Q (⟨some d, .binOp .eql t x y t', ty, pos, after, none⟩ :: l) r ds m H :=
  .val hd (fun _ h => by cases h) (fun tmps w ho _ => by
    have h2 : (eqGuard .eql t x y (.func c a b) .nilFunc) = pure () := rfl
    have h3 : ∀ e, (Op.equalIn (e + 1) t (.func c a b) .nilFunc).run P w = .ok false w := fun e => by simp [Op.equalIn, run_underlying hu]
    have h4 := h3 9999
    simp [execOp, ho.ev hx, ho.ev hy, h2, binOp, Op.equal, show Op.maxDepth = 9999 + 1 from rfl, h4]) h

theorem w_eqlNilF {c : Fn} {a b : Array Value} {ps rs : Array TypeId} {va : Bool} (h : WL P ro n w0 ops Q l ((d, .bool false) :: r) ds m H) (hx : r.ev x = some (.func c a b) := by exact rfl) (hy : r.ev y = some .nilFunc := by exact rfl) (hu : P.underlying t = some (.func ps rs va) := by exact rfl) (hd : Nat.blt d n = true := by exact rfl) : WL P ro n w0 ops Q (⟨some d, .binOp .eql t x y t', ty, pos, after, none⟩ :: l) r ds m H := WL.eqlNilF hx hy hu hd h
/-- two values of which one is nil -/
theorem WL.eqNil {op : BinOp} {vx vy : Value} {b : Bool} (hop : op = .eql ∨ op = .neq) (hg : ∀ op, eqGuard op t x y vx vy = pure ()) (hx : r.ev x = some vx) (hy : r.ev y = some vy)
    (hk : ∀ (d : Nat) (w : World), (Op.equalIn (d + 1) t vx vy).run P w = .ok b w) (hb : ∀ op, op = .eql ∨ op = .neq → binOp op t vx vy = (do let c ← Op.equal t vx vy; pure (.bool (if op = .eql then c else !c)))) (hd : Nat.blt d n = true)
    (h : WL P ro n w0 ops Q l ((d, .bool (if op = .eql then b else !b)) :: r) ds m H) : WL P ro n w0 ops Q (⟨some d, .binOp op t x y t', ty, pos, after, none⟩ :: l) r ds m H :=
  .val hd (fun _ h => by cases h) (fun tmps w ho _ => by
    have h4 := hk 9999 w
    simp [execOp, ho.ev hx, ho.ev hy, hg, hb op hop, Op.equal, show Op.maxDepth = 9999 + 1 from rfl, h4]) h
theorem WL.eqlNilP {a : Option Addr} {e : TypeId} (hx : r.ev x = some (.pointer a)) (hy : r.ev y = some (.pointer none)) (hu : P.underlying t = some (.pointer e)) (hd : Nat.blt d n = true)
    (h : WL P ro n w0 ops Q l ((d, .bool a.isNone) :: r) ds m H) : WL P ro n w0 ops Q (⟨some d, .binOp .eql t x y t', ty, pos, after, none⟩ :: l) r ds m H :=
  .eqNil (op := .eql) (b := a.isNone) (.inl rfl) (fun _ => by unfold eqGuard; split <;> rfl) hx hy (fun d w => by cases a <;> simp [Op.equalIn, run_underlying hu]) (by rintro _ (rfl | rfl) <;> rfl) hd h
theorem w_eqlNilP {a : Option Addr} {e : TypeId} (h : WL P ro n w0 ops Q l ((d, .bool a.isNone) :: r) ds m H) (hx : r.ev x = some (.pointer a) := by exact rfl) (hy : r.ev y = some (.pointer none) := by exact rfl) (hu : P.underlying t = some (.pointer e) := by exact rfl) (hd : Nat.blt d n = true := by exact rfl) : WL P ro n w0 ops Q (⟨some d, .binOp .eql t x y t', ty, pos, after, none⟩ :: l) r ds m H := WL.eqlNilP hx hy hu hd h
theorem WL.neqNilP {a : Option Addr} {e : TypeId} (hx : r.ev x = some (.pointer a)) (hy : r.ev y = some (.pointer none)) (hu : P.underlying t = some (.pointer e)) (hd : Nat.blt d n = true)
    (h : WL P ro n w0 ops Q l ((d, .bool (!a.isNone)) :: r) ds m H) : WL P ro n w0 ops Q (⟨some d, .binOp .neq t x y t', ty, pos, after, none⟩ :: l) r ds m H :=
  .eqNil (op := .neq) (b := a.isNone) (.inr rfl) (fun _ => by unfold eqGuard; split <;> rfl) hx hy (fun d w => by cases a <;> simp [Op.equalIn, run_underlying hu]) (by rintro _ (rfl | rfl) <;> rfl) hd h
theorem w_neqNilP {a : Option Addr} {e : TypeId} (h : WL P ro n w0 ops Q l ((d, .bool (!a.isNone)) :: r) ds m H) (hx : r.ev x = some (.pointer a) := by exact rfl) (hy : r.ev y = some (.pointer none) := by exact rfl) (hu : P.underlying t = some (.pointer e) := by exact rfl) (hd : Nat.blt d n = true := by exact rfl) : WL P ro n w0 ops Q (⟨some d, .binOp .neq t x y t', ty, pos, after, none⟩ :: l) r ds m H := WL.neqNilP hx hy hu hd h
theorem WL.eqlNilSl {a : Option Addr} {len cap : Nat} {e : TypeId} (hx : r.ev x = some (.slice a len cap)) (hy : r.ev y = some (.slice none 0 0)) (hu : P.underlying t = some (.slice e)) (hd : Nat.blt d n = true)
    (h : WL P ro n w0 ops Q l ((d, .bool a.isNone) :: r) ds m H) : WL P ro n w0 ops Q (⟨some d, .binOp .eql t x y t', ty, pos, after, none⟩ :: l) r ds m H :=
  .eqNil (op := .eql) (b := a.isNone) (.inl rfl) (fun _ => by unfold eqGuard; split <;> rfl) hx hy (fun d w => by cases a <;> simp [Op.equalIn, run_underlying hu]) (by rintro _ (rfl | rfl) <;> rfl) hd h
theorem w_eqlNilSl {a : Option Addr} {len cap : Nat} {e : TypeId} (h : WL P ro n w0 ops Q l ((d, .bool a.isNone) :: r) ds m H) (hx : r.ev x = some (.slice a len cap) := by exact rfl) (hy : r.ev y = some (.slice none 0 0) := by exact rfl) (hu : P.underlying t = some (.slice e) := by exact rfl) (hd : Nat.blt d n = true := by exact rfl) : WL P ro n w0 ops Q (⟨some d, .binOp .eql t x y t', ty, pos, after, none⟩ :: l) r ds m H := WL.eqlNilSl hx hy hu hd h
theorem WL.neqNilSl {a : Option Addr} {len cap : Nat} {e : TypeId} (hx : r.ev x = some (.slice a len cap)) (hy : r.ev y = some (.slice none 0 0)) (hu : P.underlying t = some (.slice e)) (hd : Nat.blt d n = true)
    (h : WL P ro n w0 ops Q l ((d, .bool (!a.isNone)) :: r) ds m H) : WL P ro n w0 ops Q (⟨some d, .binOp .neq t x y t', ty, pos, after, none⟩ :: l) r ds m H :=
  .eqNil (op := .neq) (b := a.isNone) (.inr rfl) (fun _ => by unfold eqGuard; split <;> rfl) hx hy (fun d w => by cases a <;> simp [Op.equalIn, run_underlying hu]) (by rintro _ (rfl | rfl) <;> rfl) hd h
theorem w_neqNilSl {a : Option Addr} {len cap : Nat} {e : TypeId} (h : WL P ro n w0 ops Q l ((d, .bool (!a.isNone)) :: r) ds m H) (hx : r.ev x = some (.slice a len cap) := by exact rfl) (hy : r.ev y = some (.slice none 0 0) := by exact rfl) (hu : P.underlying t = some (.slice e) := by exact rfl) (hd : Nat.blt d n = true := by exact rfl) : WL P ro n w0 ops Q (⟨some d, .binOp .neq t x y t', ty, pos, after, none⟩ :: l) r ds m H := WL.neqNilSl hx hy hu hd h
/-- a text's bytes, in memory of their own -/
theorem WL.strBytes {src dst e : TypeId} {s : List UInt8} (hx : r.ev x = some (str s)) (hs1 : (P.underlying src).isSome = true) (hs2 : P.underlying dst = some (.slice e)) (hs3 : P.underlying e = some (.int .u8)) (hd : Nat.blt d n = true)
    (h : ∀ b cap, WL P ro n w0 ops Q l ((d, .slice (some ⟨b, 0, none⟩) s.length cap) :: r) ds m (.row (some ⟨b, 0, none⟩) cap e 1 (s.map fun b => [Value.int .u8 (b.toNat : Int)]) :: H)) :
    WL P ro n w0 ops Q (⟨some d, .convert src dst x, ty, pos, after, none⟩ :: l) r ds m H := by
  refine .gen (fun v m' H' => ∃ b cap, v = .slice (some ⟨b, 0, none⟩) s.length cap ∧ m' = m ∧ H' = .row (some ⟨b, 0, none⟩) cap e 1 (s.map fun b => [Value.int .u8 (b.toNat : Int)]) :: H) hd (fun _ h => by cases h) (fun tmps w ho hs => ?_)
    (by rintro _ _ _ ⟨b, cap, rfl, rfl, rfl⟩; exact h b cap)
  obtain ⟨us, hus⟩ := Option.isSome_iff_exists.1 hs1
  have hrun := Go.Lib.run_convert_string_bytes (P := P) w src dst e ⟨s.toArray⟩ hus hs2 hs3
  have hsz : (⟨s.toArray⟩ : ByteArray).size = s.length := ofNat_toArray s
  rw [hsz] at hrun
  have hge : s.length ≤ grownCap w s.length 0 e := grownCap_ge w s.length 0 e
  have hcs : (Go.Lib.bytesCells w e ⟨s.toArray⟩).size = grownCap w s.length 0 e := by
    simp only [Go.Lib.bytesCells, hsz, Array.size_append, Array.size_map, List.size_toArray, Array.size_replicate]; omega
  have hk : Sat w0 m H (Go.Lib.bytesWorld w e ⟨s.toArray⟩) := hs.keep rfl rfl rfl (by rw [Go.Lib.bytesWorld_size]; omega) (fun b hb => Go.Lib.bytesWorld_at_old w e _ b hb)
  refine ⟨.slice (some ⟨w.heap.size, 0, none⟩) s.length (grownCap w s.length 0 e), m, _, Go.Lib.bytesWorld w e ⟨s.toArray⟩, ?_, ?_, w.heap.size, grownCap w s.length 0 e, rfl, rfl, rfl⟩
  · show (execOp _ _).run P w = _
    simp only [execOp, ho.ev hx, Sem.run_bind]
    rw [show (str s) = Value.string ⟨s.toArray⟩ from rfl, hrun]
    rfl
  · refine ⟨hk.os, hk.tape, hk.output, hk.size, hk.pers, fun i hi => ?_, ?_, fun b hb => ?_⟩
    · cases hi with
      | head =>
        refine ⟨_, _, rfl, Go.Lib.bytesWorld_at_new w e _, by simpa using hcs, by simpa using hge, ?_, by simp, .inr (Nat.le_refl _)⟩
        have : (s.map fun b => [Value.int .u8 (b.toNat : Int)]).flatten = s.map fun b => Value.int .u8 (b.toNat : Int) := flatten_single _ s
        rw [this]
        simp [Go.Lib.bytesCells]
      | tail _ hi => exact hk.own i hi
    · simp only [SHeap.foot, List.flatMap_cons, Item.foot, List.singleton_append, List.nodup_cons]
      exact ⟨fun hb => absurd (hs.foot_lt _ hb) (Nat.lt_irrefl _), hs.sep⟩
    · simp only [SHeap.foot, List.flatMap_cons, Item.foot, List.singleton_append, List.mem_cons] at hb
      rcases hb with rfl | hb
      · cases hm : m w.heap.size with
        | none => rfl
        | some o' => exact absurd (Array.getElem?_eq_some_iff.1 (hs.pers _ _ hm)).1 (Nat.lt_irrefl _)
      · exact hs.free b hb
theorem w_strBytes {src dst e : TypeId} {s : List UInt8} (h : ∀ b cap, WL P ro n w0 ops Q l ((d, .slice (some ⟨b, 0, none⟩) s.length cap) :: r) ds m (.row (some ⟨b, 0, none⟩) cap e 1 (s.map fun b => [Value.int .u8 (b.toNat : Int)]) :: H)) (hx : r.ev x = some (str s) := by exact rfl) (hs1 : (P.underlying src).isSome = true := by exact rfl) (hs2 : P.underlying dst = some (.slice e) := by exact rfl) (hs3 : P.underlying e = some (.int .u8) := by exact rfl) (hd : Nat.blt d n = true := by exact rfl) : WL P ro n w0 ops Q (⟨some d, .convert src dst x, ty, pos, after, none⟩ :: l) r ds m H := WL.strBytes hx hs1 hs2 hs3 hd h
section scope
variable {b : Frame} {a : Act} {k : List Go.Item} {cs : List Frame} {w : World}
theorem stepR_scope {c : Code} : step P (lone (b.atR a (.code (.scope c) :: k)) cs w) = .next (lone (b.atR a (.code c :: .inScope c :: k)) cs w) :=
  step_lone_go (by simp [stepG, stepG.exec, Frame.atR])
theorem stepR_inScope {c : Code} : step P (lone (b.atR a (.inScope c :: k)) cs w) = .next (lone (b.atR a k) cs w) :=
  step_lone_go (by simp [stepG, stepG.exec, Frame.atR])
theorem wpIn_scope {F : Fence} {n : Nat} {c : Code} (h : c.wpIn F n P (Exit.noGoto Q) a w) : (Code.scope c).wpIn F n P Q a w := by
  intro b k cs hro hb hr
  have h0 : (lone (b.atR a (.code (.scope c) :: k)) cs w).fenced P F := fenced_calm hb hr rfl
  obtain ⟨e, a₁, w₁, hq, harr⟩ := h b (.inScope c :: k) cs hro hb hr
  cases e with
  | normal => exact ⟨.normal, a₁, w₁, hq, .head h0 stepR_scope (StepsIn.trans harr (.one (fenced_calm hb hr rfl) stepR_inScope))⟩
  | exit id =>
    have hx : exitTo id (.inScope c :: k) = exitTo id k := by simp [exitTo]
    exact ⟨.exit id, a₁, w₁, hq, fun k' hk => .head h0 stepR_scope (harr.1 k' (by rw [hx]; exact hk)),
      fun hr' hk => let ⟨k₁, h1, h2⟩ := harr.2 hr' (by rw [hx]; exact hk); ⟨k₁, h1, .head h0 stepR_scope h2⟩⟩
  | goto l => exact hq.elim
  | ret => exact ⟨_, a₁, w₁, hq, .of_steps (.one h0 stepR_scope) harr⟩
  | panic ch => exact ⟨_, a₁, w₁, hq, .of_steps (.one h0 stepR_scope) harr⟩
  | outgrown => exact ⟨_, a₁, w₁, hq, .of_steps (.one h0 stepR_scope) harr⟩
end scope
theorem WC.scope {c : Code} (h : WC P ro n w0 c (Exit.noGoto Q) r ds m H) : WC P ro n w0 (.scope c) Q r ds m H := fun tmps w ho hs => wpIn_scope (h tmps w ho hs)
theorem c_scope {c : Code} (h : WC P ro n w0 c (Exit.noGoto Q) r ds m H) : WC P ro n w0 (.scope c) Q r ds m H := WC.scope h
theorem WC.label {id : Nat} (h : WQ n w0 Q .normal r ds m H) : WC P ro n w0 (.label id) Q r ds m H := fun tmps w ho hs => wpIn_label (h tmps w ho hs)
theorem c_label {id : Nat} (h : WQ n w0 Q .normal r ds m H) : WC P ro n w0 (.label id) Q r ds m H := WC.label h
theorem WQ.scopeNorm (h : WQ n w0 Q .normal r ds m H) : WQ n w0 (Exit.noGoto Q) .normal r ds m H := h
theorem q_scopeNorm (h : WQ n w0 Q .normal r ds m H) : WQ n w0 (Exit.noGoto Q) .normal r ds m H := WQ.scopeNorm h
theorem WQ.scopeRet (h : WQ n w0 Q .ret r ds m H) : WQ n w0 (Exit.noGoto Q) .ret r ds m H := h
theorem q_scopeRet (h : WQ n w0 Q .ret r ds m H) : WQ n w0 (Exit.noGoto Q) .ret r ds m H := WQ.scopeRet h
theorem WQ.scopeExit {id : Nat} (h : WQ n w0 Q (.exit id) r ds m H) : WQ n w0 (Exit.noGoto Q) (.exit id) r ds m H := h
theorem q_scopeExit {id : Nat} (h : WQ n w0 Q (.exit id) r ds m H) : WQ n w0 (Exit.noGoto Q) (.exit id) r ds m H := WQ.scopeExit h
end
end Go.Eng

