/-
  A walk's engine, twelfth part: fields of a row's elements, rows that stay, slices of slices. No condition.
-/
import Derived.Test.YtdmdabjaboigcaaEngL
set_option linter.all false
namespace Go.Eng
open Go Go.RowKit
section
variable {P : Program} {ro : Option Nat} {n : Nat} {w0 : World} {Q : Exit → Act → World → Prop} {r : Env} {ds : List Nat} {m : Mem} {H : SHeap}
  {ops : Array Oper} {l : List Oper} {d : Nat} {t : TypeId} {ty : TypeId} {pos : String} {after : Array Edge}

/-! ### a part of an element -/
theorem Cells.at_ {a : Addr} {vs : List Value} {o : Nat} {v : Value} (h : Cells w0 m H a vs) (hv : vs[o]? = some v) : Cell w0 m H (a.add o) v := fun w hs => h w hs o v hv
theorem addadd (a : Addr) (j k : Nat) : (a.add j).add k = a.add (j + k) := by
  obtain ⟨b, o, s⟩ := a
  unfold Addr.add
  by_cases h1 : j = 0 <;> by_cases h2 : k = 0 <;> simp [h1, h2, Nat.add_assoc]
theorem Cells.sub {a : Addr} {vs ws : List Value} {o k : Nat} (h : Cells w0 m H a vs) (hv : Seg vs o k ws) : Cells w0 m H (a.add o) ws := by
  intro w hs j v hj
  rw [addadd]
  exact h w hs _ v (hv.at_.2 j v hj)
theorem Loads.rowF {t : TypeId} {a : Addr} {cap : Nat} {T : TypeId} {sz i kk o : Nat} {es : List (List Value)} {e : List Value} {v : Value} (hm : Item.row (some a) cap T sz es ∈ H) (hi : es[i]? = some e) (hkk : kk = i * sz) (hu : aggB P t = some false) (hv : e[o]? = some v) :
    Loads P w0 m H t ((a.add kk).add o) v := .one hu (Cells.at_ (Cells.row hm hi hkk) hv)
theorem Loads.rowS {t : TypeId} {a : Addr} {cap : Nat} {T : TypeId} {sz i kk o k : Nat} {es : List (List Value)} {e ws : List Value} (hm : Item.row (some a) cap T sz es ∈ H) (hi : es[i]? = some e) (hkk : kk = i * sz) (hu : aggB P t = some true) (hz : sizeB P t = some k) (hv : Seg e o k ws) :
    Loads P w0 m H t ((a.add kk).add o) (.agg ws.toArray) := .agg hu hz hv.at_.1 (Cells.sub (Cells.row hm hi hkk) hv)
theorem Loads.prow {t : TypeId} {a : Addr} {len cap : Nat} {T : TypeId} {sz i kk k : Nat} {es : List (List Value)} {e : List Value} (hp : PRow m T sz (.slice (some a) len cap) es) (hi : es[i]? = some e) (hkk : kk = i * sz) (hu : aggB P t = some true) (hz : sizeB P t = some k) (hl : e.length = k) :
    Loads P w0 m H t (a.add kk) (.agg e.toArray) := .agg hu hz hl (Cells.prow hp hi hkk)
theorem Loads.prow1 {t : TypeId} {a : Addr} {len cap : Nat} {T : TypeId} {sz i kk : Nat} {es : List (List Value)} {v : Value} (hp : PRow m T sz (.slice (some a) len cap) es) (hi : es[i]? = some [v]) (hkk : kk = i * sz) (hu : aggB P t = some false) :
    Loads P w0 m H t (a.add kk) v := .one hu (Cells.cell (Cells.prow hp hi hkk))
theorem Loads.prowF {t : TypeId} {a : Addr} {len cap : Nat} {T : TypeId} {sz i kk o : Nat} {es : List (List Value)} {e : List Value} {v : Value} (hp : PRow m T sz (.slice (some a) len cap) es) (hi : es[i]? = some e) (hkk : kk = i * sz) (hu : aggB P t = some false) (hv : e[o]? = some v) :
    Loads P w0 m H t ((a.add kk).add o) v := .one hu (Cells.at_ (Cells.prow hp hi hkk) hv)
/-- a part of a part of an element -/
theorem WL.fieldAddrR {t u : TypeId} {x : Operand} {a : Addr} {kk o1 i o k q : Nat} (hx : r.ev x = some (.pointer (some ((a.add kk).add o1)))) (hf : fieldB P t i = some (o, u)) (hz : sizeB P u = some (k + 1)) (hd : Nat.blt d n = true) (hq : lit (o1 + o) = some q)
    (h : WL P ro n w0 ops Q l ((d, .pointer (some ((a.add kk).add q))) :: r) ds m H) : WL P ro n w0 ops Q (⟨some d, .fieldAddr t x i, ty, pos, after, none⟩ :: l) r ds m H :=
  .fieldAddr hx hf hz hd (by rw [lit_eq] at hq; rw [addadd (a.add kk), Option.some.inj hq]; exact h)
theorem w_fieldAddrR {t u : TypeId} {x : Operand} {a : Addr} {kk o1 i o k q : Nat} (h : WL P ro n w0 ops Q l ((d, .pointer (some ((a.add kk).add q))) :: r) ds m H) (hx : r.ev x = some (.pointer (some ((a.add kk).add o1))) := by exact rfl) (hf : fieldB P t i = some (o, u) := by exact rfl) (hz : sizeB P u = some (k + 1) := by exact rfl) (hd : Nat.blt d n = true := by exact rfl) (hq : lit (o1 + o) = some q := by exact rfl) : WL P ro n w0 ops Q (⟨some d, .fieldAddr t x i, ty, pos, after, none⟩ :: l) r ds m H := WL.fieldAddrR hx hf hz hd hq h
theorem laid_in : ∀ (vs A B C : List Value) (o : Nat), o + vs.length ≤ B.length → laid (A ++ B ++ C) (A.length + o) vs = A ++ laid B o vs ++ C
  | [], A, B, C, o, h => rfl
  | v :: vs, A, B, C, o, h => by
    simp only [List.length_cons] at h
    have e : (A ++ B ++ C).set (A.length + o) v = A ++ B.set o v ++ C := by
      rw [List.append_assoc, List.set_append_right _ _ (by omega), Nat.add_sub_cancel_left, List.set_append_left _ _ (by omega), List.append_assoc]
    rw [laid, e]
    have := laid_in vs A (B.set o v) C (o + 1) (by simp; omega)
    rw [show A.length + o + 1 = A.length + (o + 1) by omega, this]
    rfl
/-- a store into a part of an element of a row of one's own -/
theorem WL.storeRowF {u : TypeId} {x y : Operand} {a : Addr} {k o i cap sz kz : Nat} {T : TypeId} {es es' : List (List Value)} {v : Value} {vs e e' : List Value} {H' : SHeap} (hx : r.ev x = some (.pointer (some ((a.add k).add o)))) (hk : k = i * sz) (hy : r.ev y = some v)
    (hv : v.cells = vs.toArray) (hz : sizeB P u = some kz) (hvs : vs.length = kz) (ha : vs.all okCell = true) (hr : Repl (.row (some a) cap T sz es) (.row (some a) cap T sz es') H H') (hi : es[i]? = some e) (hnf : NF (laid e o vs) e') (hb : Nat.ble (o + kz) sz = true) (he : es' = es.set i e')
    (h : WL P ro n w0 ops Q l r ds m H') : WL P ro n w0 ops Q (⟨none, .store u x y, ty, pos, after, none⟩ :: l) r ds m H :=
  .act (fun m' H'' => m' = m ∧ H'' = H') rfl (fun _ h => by cases h)
    (fun tmps w ho hs => by
      subst hk; subst he
      have hnf := hnf.eq
      subst hnf
      have hb : o + kz ≤ sz := by simpa using hb
      obtain ⟨H1, p1, p2⟩ := hr.perm
      have hs1 := hs.perm p1
      obtain ⟨arr, fz, h1, h2, h3, h4, h5, h6, h9⟩ := hs1.own _ List.mem_cons_self
      have hil : i < es.length := (List.getElem?_eq_some_iff.1 hi).1
      obtain ⟨s, t, rfl, hsl⟩ : ∃ s t, es = s ++ e :: t ∧ s.length = i := ⟨es.take i, es.drop (i + 1), by
        have := List.getElem?_eq_some_iff.1 hi
        rw [← this.2, ← List.drop_eq_getElem_cons hil, List.take_append_drop], by rw [List.length_take]; omega⟩
      have hset : (s ++ e :: t).set i (laid e o vs) = s ++ laid e o vs :: t := by subst hsl; simp
      have hsf : s.flatten.length = i * sz := by rw [← hsl]; exact flat_len (fun q hq => h6 q (by simp [hq]))
      have he0 : e.length = sz := h6 e (by simp)
      have hll : (laid e o vs).length = sz := by rw [laid_length, he0]
      have harr : arr.toList = s.flatten ++ e ++ (t.flatten ++ arr.toList.drop ((s ++ e :: t).length * sz)) := by
        have := List.take_append_drop ((s ++ e :: t).length * sz) arr.toList
        rw [h5] at this
        rw [← List.append_assoc]
        simpa using this.symm
      have hlen : i * sz + sz ≤ arr.toList.length := by rw [harr]; simp only [List.length_append, hsf, he0]; omega
      have hs2 : Sat w0 m (.blk a.block (.cells arr.toList.toArray T fz) :: H1) w := ⟨hs1.os, hs1.tape, hs1.output, hs1.size, hs1.pers, fun q hq => by
        cases hq with
        | head => show w.heap[a.block]? = _; rw [h2]
        | tail _ hq => exact hs1.own q (List.mem_cons_of_mem _ hq), by simpa [SHeap.foot, Item.foot] using hs1.sep, by simpa [SHeap.foot, Item.foot] using hs1.free⟩
      obtain ⟨w', g1, g2⟩ := run_laid (P := P) vs 0 (i * sz + o) arr.toList H1 w (by omega) (by rcases h9 with h | h; exact .inl h; exact .inr (.inr (by simpa using h))) ha hs2
      rw [Nat.add_zero, ← hsf, harr, laid_in vs s.flatten e _ o (by omega)] at g2
      have hb2 : w'.heap[a.block]? = _ := g2.own _ List.mem_cons_self
      have g3 : Sat w0 m (.row (some a) cap T sz (s ++ laid e o vs :: t) :: H1) w' := ⟨g2.os, g2.tape, g2.output, g2.size, g2.pers, fun q hq => by
        cases hq with
        | head =>
          refine ⟨_, fz, h1, hb2, ?_, by simpa using h4, ?_, ?_, ?_⟩
          rotate_left 3
          · have h7 := congrArg List.length harr
            simp only [List.length_append, Array.length_toList] at h7
            rcases h9 with h | h
            · exact .inl h
            · right; simp only [List.size_toArray, List.length_append]; omega
          · have h7 : arr.toList.length = arr.size := Array.length_toList
            rw [← h3, List.size_toArray]
            have := congrArg List.length harr
            simp only [List.length_append] at this ⊢
            omega
          · have e1 : (s ++ laid e o vs :: t).length * sz = (s.flatten ++ laid e o vs ++ t.flatten).length := by
              have e2 := flat_len h6
              simp only [List.flatten_append, List.flatten_cons, List.length_append, List.length_cons] at e2 ⊢
              omega
            rw [e1]
            simp [← List.append_assoc]
          · intro q hq
            rcases List.mem_append.1 hq with hq | hq
            · exact h6 q (by simp [hq])
            · rcases List.mem_cons.1 hq with rfl | hq
              · exact hll
              · exact h6 q (by simp [hq])
        | tail _ hq => exact g2.own q (List.mem_cons_of_mem _ hq), by simpa [SHeap.foot, Item.foot] using g2.sep, by simpa [SHeap.foot, Item.foot] using g2.free⟩
      rw [hset] at p2
      refine ⟨m, H', w', ?_, g3.perm p2.symm, rfl, rfl⟩
      have hadd : (a.add (i * sz)).add o = ⟨a.block, i * sz + o, none⟩ := by rw [addadd, h1, add_none]; simp
      simp only [execOp, Instr.storeAt, Instr.sureAddr, storeVar, ho.ev hx, ho.ev hy, hv, Sem.run_bind, Sem.run_pure, Result.andThen_ok, run_size hz, hadd]
      simp only [List.size_toArray, hvs, ne_eq, not_true_eq_false, if_false, g1, Result.andThen_ok])
    (by rintro _ _ ⟨rfl, rfl⟩; exact h)

theorem w_storeRowF {u : TypeId} {x y : Operand} {a : Addr} {k o i cap sz kz : Nat} {T : TypeId} {es es' : List (List Value)} {v : Value} {vs e e' : List Value} {H' : SHeap} (h : WL P ro n w0 ops Q l r ds m H') (hx : r.ev x = some (.pointer (some ((a.add k).add o))) := by exact rfl) (hk : k = i * sz := by exact rfl) (hy : r.ev y = some v := by exact rfl) (hv : v.cells = vs.toArray := by exact rfl) (hz : sizeB P u = some kz := by exact rfl) (hvs : vs.length = kz := by exact rfl) (ha : vs.all okCell = true := by exact rfl) (hr : Repl (.row (some a) cap T sz es) (.row (some a) cap T sz es') H H' := by (repeat (first | exact Repl.here | apply Repl.there))) (hi : es[i]? = some e := by assumption) (hnf : NF (laid e o vs) e' := by (repeat (first | (apply NF.cons; (· exact rfl)) | exact NF.nil rfl))) (hb : Nat.ble (o + kz) sz = true := by exact rfl) (he : es' = es.set i e' := by exact rfl) : WL P ro n w0 ops Q (⟨none, .store u x y, ty, pos, after, none⟩ :: l) r ds m H := WL.storeRowF hx hk hy hv hz hvs ha hr hi hnf hb he h
/-! ### slices of slices -/
theorem flat_drop (sz : Nat) : ∀ (es : List (List Value)) (k : Nat), (∀ e ∈ es, e.length = sz) → (es.drop k).flatten = es.flatten.drop (k * sz)
  | es, 0, _ => by simp
  | [], k + 1, _ => by simp
  | e :: es, k + 1, h => by
    have he := h e List.mem_cons_self
    rw [List.drop_succ_cons, List.flatten_cons, flat_drop sz es k (fun x hx => h x (List.mem_cons_of_mem _ hx)), Nat.succ_mul, List.drop_append, (List.drop_eq_nil_of_le (by omega) : e.drop (k * sz + sz) = []), List.nil_append, he, Nat.add_sub_cancel]
theorem flat_take (sz : Nat) : ∀ (es : List (List Value)) (k : Nat), (∀ e ∈ es, e.length = sz) → (es.take k).flatten = es.flatten.take (k * sz)
  | es, 0, _ => by simp
  | [], k + 1, _ => by simp
  | e :: es, k + 1, h => by
    have he := h e List.mem_cons_self
    rw [List.take_succ_cons, List.flatten_cons, List.flatten_cons, flat_take sz es k (fun x hx => h x (List.mem_cons_of_mem _ hx)), Nat.succ_mul, List.take_append, List.take_of_length_le (l := e) (by omega), he, Nat.add_sub_cancel]
def subSl (a : Option Addr) (cap lo hi sz : Nat) : Value := .slice (if cap = lo then a else a.map (·.add (lo * sz))) (hi - lo) (cap - lo)
theorem sliceAt_sl {t e : TypeId} {sz : Nat} (hu : P.underlying t = some (.slice e)) (hz : sizeB P e = some sz) (lo hi : Option Value) (a : Option Addr) (len cap : Nat) (w : World) :
    (Instr.sliceAt t (.slice a len cap) lo hi none).run P w = ((Instr.sliceBounds true len cap lo hi none).run P w).andThen fun p w' => .ok (.slice (if p.2.2 = p.1 then a else a.map (·.add (p.1 * sz))) (p.2.1 - p.1) (p.2.2 - p.1)) w' := by
  simp only [Instr.sliceAt, Instr.slice, Sem.run_bind, run_underlying hu, Result.andThen_ok, run_size hz, Sem.run_pure]
theorem WL.slLH {t e : TypeId} {sz : Nat} {kl kh : IntKind} {x lo hi : Operand} {a : Option Addr} {len cap : Nat} {i j : Int} (hx : r.ev x = some (.slice a len cap)) (hl : r.ev lo = some (.int kl i)) (hh : r.ev hi = some (.int kh j)) {p q : Nat} (hia : i = (p : Int)) (hjb : j = (q : Int))
    (hu : P.underlying t = some (.slice e)) (hz : sizeB P e = some sz) (hd : Nat.blt d n = true) (hb : p ≤ q ∧ q ≤ cap) (h : WL P ro n w0 ops Q l ((d, subSl a cap p q sz) :: r) ds m H) :
    WL P ro n w0 ops Q (⟨some d, .slice t x (some lo) (some hi) none, ty, pos, after, none⟩ :: l) r ds m H :=
  .val hd (fun _ h => by cases h) (fun tmps w ho _ => by
    subst hia; subst hjb
    have e1 := bound_ok (P := P) (i := (p : Int)) (k := kl) (y := q) (by omega) (by omega) .sliceB w
    have e2 := bound_ok (P := P) (i := (q : Int)) (k := kh) (y := cap) (by omega) (by omega) .sliceAcap w
    simp only [execOp, Option.map_some, Option.map_none, Sem.run_bind, ho.ev hx, ho.ev hl, ho.ev hh, sliceAt_sl hu hz, Instr.sliceBounds]
    simp [e1, e2, Result.andThen, subSl]) h
theorem w_slLH {t e : TypeId} {sz : Nat} {kl kh : IntKind} {x lo hi : Operand} {a : Option Addr} {len cap : Nat} {i j : Int} {p q : Nat} (h : WL P ro n w0 ops Q l ((d, subSl a cap p q sz) :: r) ds m H) (hx : r.ev x = some (.slice a len cap) := by exact rfl) (hl : r.ev lo = some (.int kl i) := by exact rfl) (hh : r.ev hi = some (.int kh j) := by exact rfl) (hia : i = (p : Int) := by (first | with_reducible exact natz _ | with_reducible exact natz0 | with_reducible exact natz1 | with_reducible exact natz2 | with_reducible exact natz3 | with_reducible exact natz4 | with_reducible exact natz8 | (apply natz_add; (· first | with_reducible exact natz _ | with_reducible exact natz0 | with_reducible exact natz1 | with_reducible exact natz2 | with_reducible exact natz3 | with_reducible exact natz4 | with_reducible exact natz8); (· first | with_reducible exact natz _ | with_reducible exact natz0 | with_reducible exact natz1 | with_reducible exact natz2 | with_reducible exact natz3 | with_reducible exact natz4 | with_reducible exact natz8)) | (apply natz_sub; (· first | with_reducible exact natz _ | with_reducible exact natz0 | with_reducible exact natz1 | with_reducible exact natz2 | with_reducible exact natz3 | with_reducible exact natz4 | with_reducible exact natz8); (· first | with_reducible exact natz _ | with_reducible exact natz0 | with_reducible exact natz1 | with_reducible exact natz2 | with_reducible exact natz3 | with_reducible exact natz4 | with_reducible exact natz8); (· omega)) | exact (Int.toNat_of_nonneg (by omega)).symm)) (hjb : j = (q : Int) := by (first | with_reducible exact natz _ | with_reducible exact natz0 | with_reducible exact natz1 | with_reducible exact natz2 | with_reducible exact natz3 | with_reducible exact natz4 | with_reducible exact natz8 | (apply natz_add; (· first | with_reducible exact natz _ | with_reducible exact natz0 | with_reducible exact natz1 | with_reducible exact natz2 | with_reducible exact natz3 | with_reducible exact natz4 | with_reducible exact natz8); (· first | with_reducible exact natz _ | with_reducible exact natz0 | with_reducible exact natz1 | with_reducible exact natz2 | with_reducible exact natz3 | with_reducible exact natz4 | with_reducible exact natz8)) | (apply natz_sub; (· first | with_reducible exact natz _ | with_reducible exact natz0 | with_reducible exact natz1 | with_reducible exact natz2 | with_reducible exact natz3 | with_reducible exact natz4 | with_reducible exact natz8); (· first | with_reducible exact natz _ | with_reducible exact natz0 | with_reducible exact natz1 | with_reducible exact natz2 | with_reducible exact natz3 | with_reducible exact natz4 | with_reducible exact natz8); (· omega)) | exact (Int.toNat_of_nonneg (by omega)).symm)) (hu : P.underlying t = some (.slice e) := by exact rfl) (hz : sizeB P e = some sz := by exact rfl) (hd : Nat.blt d n = true := by exact rfl) (hb : p ≤ q ∧ q ≤ cap := by omega) : WL P ro n w0 ops Q (⟨some d, .slice t x (some lo) (some hi) none, ty, pos, after, none⟩ :: l) r ds m H := WL.slLH hx hl hh hia hjb hu hz hd hb h
theorem WL.slH {t e : TypeId} {sz : Nat} {kh : IntKind} {x hi : Operand} {a : Option Addr} {len cap : Nat} {j : Int} (hx : r.ev x = some (.slice a len cap)) (hh : r.ev hi = some (.int kh j)) {q : Nat} (hjb : j = (q : Int))
    (hu : P.underlying t = some (.slice e)) (hz : sizeB P e = some sz) (hd : Nat.blt d n = true) (hb : q ≤ cap) (h : WL P ro n w0 ops Q l ((d, subSl a cap 0 q sz) :: r) ds m H) :
    WL P ro n w0 ops Q (⟨some d, .slice t x none (some hi) none, ty, pos, after, none⟩ :: l) r ds m H :=
  .val hd (fun _ h => by cases h) (fun tmps w ho _ => by
    subst hjb
    have e2 := bound_ok (P := P) (i := (q : Int)) (k := kh) (y := cap) (by omega) (by omega) .sliceAcap w
    simp only [execOp, Option.map_some, Option.map_none, Sem.run_bind, ho.ev hx, ho.ev hh, sliceAt_sl hu hz, Instr.sliceBounds]
    simp [e2, Result.andThen, subSl]) h
theorem w_slH {t e : TypeId} {sz : Nat} {kh : IntKind} {x hi : Operand} {a : Option Addr} {len cap : Nat} {j : Int} {q : Nat} (h : WL P ro n w0 ops Q l ((d, subSl a cap 0 q sz) :: r) ds m H) (hx : r.ev x = some (.slice a len cap) := by exact rfl) (hh : r.ev hi = some (.int kh j) := by exact rfl) (hjb : j = (q : Int) := by (first | with_reducible exact natz _ | with_reducible exact natz0 | with_reducible exact natz1 | with_reducible exact natz2 | with_reducible exact natz3 | with_reducible exact natz4 | with_reducible exact natz8 | (apply natz_add; (· first | with_reducible exact natz _ | with_reducible exact natz0 | with_reducible exact natz1 | with_reducible exact natz2 | with_reducible exact natz3 | with_reducible exact natz4 | with_reducible exact natz8); (· first | with_reducible exact natz _ | with_reducible exact natz0 | with_reducible exact natz1 | with_reducible exact natz2 | with_reducible exact natz3 | with_reducible exact natz4 | with_reducible exact natz8)) | (apply natz_sub; (· first | with_reducible exact natz _ | with_reducible exact natz0 | with_reducible exact natz1 | with_reducible exact natz2 | with_reducible exact natz3 | with_reducible exact natz4 | with_reducible exact natz8); (· first | with_reducible exact natz _ | with_reducible exact natz0 | with_reducible exact natz1 | with_reducible exact natz2 | with_reducible exact natz3 | with_reducible exact natz4 | with_reducible exact natz8); (· omega)) | exact (Int.toNat_of_nonneg (by omega)).symm)) (hu : P.underlying t = some (.slice e) := by exact rfl) (hz : sizeB P e = some sz := by exact rfl) (hd : Nat.blt d n = true := by exact rfl) (hb : q ≤ cap := by omega) : WL P ro n w0 ops Q (⟨some d, .slice t x none (some hi) none, ty, pos, after, none⟩ :: l) r ds m H := WL.slH hx hh hjb hu hz hd hb h
theorem WL.slL {t e : TypeId} {sz : Nat} {kl : IntKind} {x lo : Operand} {a : Option Addr} {len cap : Nat} {i : Int} (hx : r.ev x = some (.slice a len cap)) (hl : r.ev lo = some (.int kl i)) {p : Nat} (hia : i = (p : Int))
    (hu : P.underlying t = some (.slice e)) (hz : sizeB P e = some sz) (hd : Nat.blt d n = true) (hb : p ≤ len) (h : WL P ro n w0 ops Q l ((d, subSl a cap p len sz) :: r) ds m H) :
    WL P ro n w0 ops Q (⟨some d, .slice t x (some lo) none none, ty, pos, after, none⟩ :: l) r ds m H :=
  .val hd (fun _ h => by cases h) (fun tmps w ho _ => by
    subst hia
    have e1 := bound_ok (P := P) (i := (p : Int)) (k := kl) (y := len) (by omega) (by omega) .sliceB w
    simp only [execOp, Option.map_some, Option.map_none, Sem.run_bind, ho.ev hx, ho.ev hl, sliceAt_sl hu hz, Instr.sliceBounds]
    simp [e1, Result.andThen, subSl]) h
theorem w_slL {t e : TypeId} {sz : Nat} {kl : IntKind} {x lo : Operand} {a : Option Addr} {len cap : Nat} {i : Int} {p : Nat} (h : WL P ro n w0 ops Q l ((d, subSl a cap p len sz) :: r) ds m H) (hx : r.ev x = some (.slice a len cap) := by exact rfl) (hl : r.ev lo = some (.int kl i) := by exact rfl) (hia : i = (p : Int) := by (first | with_reducible exact natz _ | with_reducible exact natz0 | with_reducible exact natz1 | with_reducible exact natz2 | with_reducible exact natz3 | with_reducible exact natz4 | with_reducible exact natz8 | (apply natz_add; (· first | with_reducible exact natz _ | with_reducible exact natz0 | with_reducible exact natz1 | with_reducible exact natz2 | with_reducible exact natz3 | with_reducible exact natz4 | with_reducible exact natz8); (· first | with_reducible exact natz _ | with_reducible exact natz0 | with_reducible exact natz1 | with_reducible exact natz2 | with_reducible exact natz3 | with_reducible exact natz4 | with_reducible exact natz8)) | (apply natz_sub; (· first | with_reducible exact natz _ | with_reducible exact natz0 | with_reducible exact natz1 | with_reducible exact natz2 | with_reducible exact natz3 | with_reducible exact natz4 | with_reducible exact natz8); (· first | with_reducible exact natz _ | with_reducible exact natz0 | with_reducible exact natz1 | with_reducible exact natz2 | with_reducible exact natz3 | with_reducible exact natz4 | with_reducible exact natz8); (· omega)) | exact (Int.toNat_of_nonneg (by omega)).symm)) (hu : P.underlying t = some (.slice e) := by exact rfl) (hz : sizeB P e = some sz := by exact rfl) (hd : Nat.blt d n = true := by exact rfl) (hb : p ≤ len := by omega) : WL P ro n w0 ops Q (⟨some d, .slice t x (some lo) none none, ty, pos, after, none⟩ :: l) r ds m H := WL.slL hx hl hia hu hz hd hb h
/-- a slice of a row that stays is a row that stays -/
theorem PRow.sub {T : TypeId} {sz len cap lo hi : Nat} {a : Option Addr} {es : List (List Value)} (h : PRow m T sz (.slice a len cap) es) (hb : lo ≤ hi ∧ hi ≤ es.length) (hcap : len ≤ cap) : PRow m T sz (subSl a cap lo hi sz) ((es.take hi).drop lo) := by
  cases a with
  | none =>
    obtain ⟨rfl, rfl⟩ := h
    simp only [subSl, Option.map_none, ite_self]
    exact ⟨by simp, by simp at hb; omega⟩
  | some a =>
    obtain ⟨h1, h2, h3, arr, fz, h4, h5⟩ := h
    subst h2
    have hne : ∀ e ∈ (es.take hi).drop lo, e.length = sz := fun e he => h3 e (List.mem_of_mem_take (List.mem_of_mem_drop he))
    have hl : hi - lo = ((es.take hi).drop lo).length := by simp; omega
    by_cases hc : cap = lo
    · have : (es.take hi).drop lo = [] := List.drop_eq_nil_of_le (by simp; omega)
      rw [this] at hl ⊢
      simp only [subSl, if_pos hc]
      exact ⟨h1, hl, by simp, arr, fz, h4, by simp⟩
    · simp only [subSl, if_neg hc, Option.map_some]
      refine ⟨add_spot h1 _, hl, hne, arr, fz, by rw [add_eq h1]; exact h4, fun j v hj => ?_⟩
      rw [add_eq h1]
      rw [flat_drop sz _ _ (fun e he => h3 e (List.mem_of_mem_take he)), flat_take sz _ _ h3, List.getElem?_drop] at hj
      rw [List.getElem?_take] at hj
      split at hj
      · have := h5 _ v hj
        rw [Nat.add_assoc]
        exact this
      · cases hj
end
end Go.Eng
