/-
  A walk's engine, tenth part: make of a slice; numbers of 32 bits. No condition.
-/
import Derived.Test.YtdmdabjaboigcaaEngI
set_option linter.all false
namespace Go.Eng
open Go Go.RowKit
set_option linter.all false
section
variable {P : Program} {ro : Option Nat} {n : Nat} {w0 : World} {Q : Exit → Act → World → Prop} {r : Env} {ds : List Nat} {m : Mem} {H : SHeap}
  {ops : Array Oper} {l : List Oper} {d : Nat} {ty : TypeId} {pos : String} {after : Array Edge} {x y : Operand} {a b : Int} {t t' : TypeId}
theorem WL.quo32 (hx : r.ev x = some (.int .i32 a)) (hy : r.ev y = some (.int .i32 b)) (hd : Nat.blt d n = true) (ha : 0 ≤ a ∧ a ≤ 2147483647) (hb : 1 ≤ b)
    (h : WL P ro n w0 ops Q l ((d, .int .i32 (a / b)) :: r) ds m H) : WL P ro n w0 ops Q (⟨some d, .binOp .quo t x y t', ty, pos, after, none⟩ :: l) r ds m H := by
  refine .quo hx hy hd (by omega) ?_
  have h1 : a.tdiv b = a / b := Int.tdiv_eq_ediv_of_nonneg ha.1
  have h2 : a / b ≤ a := Int.ediv_le_self _ ha.1
  have h3 : 0 ≤ a / b := Int.ediv_nonneg ha.1 (by omega)
  rw [h1, IntKind.wrap_i32, show (a / b + 2147483648) % 4294967296 - 2147483648 = a / b by omega]
  exact h
theorem w_quo32 (h : WL P ro n w0 ops Q l ((d, .int .i32 (a / b)) :: r) ds m H) (hx : r.ev x = some (.int .i32 a) := by exact rfl) (hy : r.ev y = some (.int .i32 b) := by exact rfl) (hd : Nat.blt d n = true := by exact rfl) (ha : 0 ≤ a ∧ a ≤ 2147483647 := by omega) (hb : 1 ≤ b := by omega) : WL P ro n w0 ops Q (⟨some d, .binOp .quo t x y t', ty, pos, after, none⟩ :: l) r ds m H := WL.quo32 hx hy hd ha hb h
theorem WL.rem32 (hx : r.ev x = some (.int .i32 a)) (hy : r.ev y = some (.int .i32 b)) (hd : Nat.blt d n = true) (ha : 0 ≤ a) (hb : 1 ≤ b)
    (h : WL P ro n w0 ops Q l ((d, .int .i32 (a % b)) :: r) ds m H) : WL P ro n w0 ops Q (⟨some d, .binOp .rem t x y t', ty, pos, after, none⟩ :: l) r ds m H := by
  refine .rem hx hy hd (by omega) ?_
  rw [Int.tmod_eq_emod_of_nonneg ha]
  exact h
theorem w_rem32 (h : WL P ro n w0 ops Q l ((d, .int .i32 (a % b)) :: r) ds m H) (hx : r.ev x = some (.int .i32 a) := by exact rfl) (hy : r.ev y = some (.int .i32 b) := by exact rfl) (hd : Nat.blt d n = true := by exact rfl) (ha : 0 ≤ a := by omega) (hb : 1 ≤ b := by omega) : WL P ro n w0 ops Q (⟨some d, .binOp .rem t x y t', ty, pos, after, none⟩ :: l) r ds m H := WL.rem32 hx hy hd ha hb h
/-- a new row, made so long and no longer -/
theorem WL.makeSlice {e : TypeId} {lo hi : Operand} {kl kh : IntKind} {i j : Int} {k sz by' : Nat} {z : Value} (hl : r.ev lo = some (.int kl i)) (hh : r.ev hi = some (.int kh j)) (ei : i = (k : Int)) (ej : j = (k : Int))
    (hu : P.underlying t = some (.slice e)) (hz : zeroB P e = some z) (hsz : sizeB P e = some sz) (hby : bytesB P e = some by') (hzs : z.cells.size = sz) (h0 : 0 < sz) (h63 : k ≤ 9223372036854775807) (hb : k * by' ≤ 140737488355328)
    (hd : Nat.blt d n = true) (h : ∀ b, WL P ro n w0 ops Q l ((d, .slice (some ⟨b, 0, none⟩) k k) :: r) ds m (.blk b (.cells (List.replicate k z.cells.toList).flatten.toArray e (0, 0)) :: H)) :
    WL P ro n w0 ops Q (⟨some d, .makeSlice t lo hi, ty, pos, after, none⟩ :: l) r ds m H := by
  subst ei; subst ej
  refine .gen (fun v m' H' => ∃ b, v = .slice (some ⟨b, 0, none⟩) k k ∧ m' = m ∧ H' = .blk b (.cells (List.replicate k z.cells.toList).flatten.toArray e (0, 0)) :: H) hd (fun _ h => by cases h) (fun tmps w ho hs => ?_)
    (by rintro _ _ _ ⟨b, rfl, rfl, rfl⟩; exact h b)
  obtain ⟨inf, hinf, hbe, hrun⟩ := run_info hby w
  let base : Array Value := (Array.range (k * sz)).map fun j => z.cells[j % z.cells.size]!
  have hbs : base.size = k * sz := by simp [base]
  have hbl : base = (List.replicate k z.cells.toList).flatten.toArray := by
    apply Array.ext'
    show base.toList = (List.replicate k z.cells.toList).flatten
    apply List.ext_getElem?
    intro j
    have hlen : (List.replicate k z.cells.toList).flatten.length = k * sz := by
      rw [List.length_flatten]; simp [hzs]
    by_cases hj : j < k * sz
    · have h1 : j % sz < z.cells.size := by rw [hzs]; exact Nat.mod_lt _ h0
      have hq : j / sz < k := Nat.div_lt_of_lt_mul (by rw [Nat.mul_comm]; exact hj)
      have h2 := flatten_at (es := List.replicate k z.cells.toList) (sz := sz) (i := j / sz) (e := z.cells.toList) (fun x hx => by rw [(List.mem_replicate.1 hx).2]; simp [hzs]) (by simp [List.getElem?_replicate, hq]) (j % sz) z.cells[j % sz] (by simp [h1])
      rw [show j / sz * sz + j % sz = j by rw [Nat.mul_comm]; exact Nat.div_add_mod j sz] at h2
      rw [h2]
      simp [base, hj, hzs, getElem!_pos, hzs ▸ h1]
    · rw [List.getElem?_eq_none (by simp [hbs]; omega), List.getElem?_eq_none (by omega)]
  have wl : IntKind.i64.wrap (k : Int) = (k : Int) := by rw [IntKind.wrap_i64]; omega
  have n1 : ¬ (k : Int) < 0 := by omega
  have n2 : ¬ (281474976710656 < (inf.bytes : Int) * (k : Int)) := by
    rw [hbe]; have : (by' : Int) * (k : Int) = ((k * by' : Nat) : Int) := by push_cast; rw [Int.mul_comm]
    omega
  have n5 : ¬ (140737488355328 < k * by') := by omega
  refine ⟨_, m, _, w.alloc (.cells (List.replicate k z.cells.toList).flatten.toArray e (0, 0)), ?_, hs.alloc _, w.heap.size, rfl, rfl, rfl⟩
  by_cases hn : k = 0
  · subst hn
    have w00 : IntKind.i64.wrap 0 = 0 := by rw [IntKind.wrap_i64]; rfl
    simp [w00, execOp, ho.ev hl, ho.ev hh, Instr.makeSlice, run_underlying hu, asInt, asIntOf, hrun, wl, run_size hsz, Go.newRow, run_newObj_alloc, askRoom]
    exact congrArg (fun q => w.alloc (.cells q e (0, 0))) (Array.eq_empty_of_size_eq_zero (by simp))
  · have hn' : ¬ k * sz = 0 := by intro h; rcases Nat.mul_eq_zero.1 h with h | h <;> omega
    have n2' : ¬ (281474976710656 < (by' : Int) * (k : Int)) := hbe ▸ n2
    have e2 : (Array.range (k * sz)).map (fun x => z.cells[x % z.cells.size]!) = (List.replicate k z.cells.toList).flatten.toArray := hbl
    simp [execOp, ho.ev hl, ho.ev hh, Instr.makeSlice, run_underlying hu, asInt, asIntOf, hrun, wl, run_size hsz, hbe, n1, n2', n5, hn, Nat.ne_of_gt h0, run_zero hz, askRoom, roomBytes, Go.newRow, e2, run_newObj_alloc]
    exact fun h => absurd h hn'
theorem flat_len {sz : Nat} : ∀ {es : List (List Value)}, (∀ e ∈ es, e.length = sz) → es.flatten.length = es.length * sz
  | [], _ => by simp
  | e :: es, h => by
    rw [List.flatten_cons, List.length_append, flat_len (fun q hq => h q (List.mem_cons_of_mem _ hq)), h e List.mem_cons_self, List.length_cons, Nat.succ_mul, Nat.add_comm]
theorem Sat.row_of {b : Nat} {T : TypeId} {sz : Nat} {es : List (List Value)} {w : World} (hes : ∀ e ∈ es, e.length = sz) (h : Sat w0 m (.blk b (.cells es.flatten.toArray T (0, 0)) :: H) w) :
    Sat w0 m (.row (some ⟨b, 0, none⟩) es.length T sz es :: H) w := by
  have hl := flat_len hes
  exact ⟨h.os, h.tape, h.output, h.size, h.pers, fun i hi => by
    cases hi with
    | head =>
      have hb : w.heap[b]? = _ := h.own _ List.mem_cons_self
      exact ⟨es.flatten.toArray, (0, 0), rfl, hb, by simpa using hl, Nat.le_refl _, by rw [← hl]; exact List.take_length, hes, .inl rfl⟩
    | tail _ hi => exact h.own i (List.mem_cons_of_mem _ hi), h.sep, h.free⟩
theorem WL.makeRow {e : TypeId} {lo hi : Operand} {kl kh : IntKind} {i j : Int} {k sz by' : Nat} {z : Value} {zs : List Value} (hl : r.ev lo = some (.int kl i)) (hh : r.ev hi = some (.int kh j)) (ei : i = (k : Int)) (ej : j = (k : Int))
    (hu : P.underlying t = some (.slice e)) (hz : zeroB P e = some z) (hsz : sizeB P e = some sz) (hby : bytesB P e = some by') (hzl : z.cells = zs.toArray) (hzs : zs.length = sz) (h0 : 0 < sz) (h63 : k ≤ 9223372036854775807) (hb : k * by' ≤ 140737488355328)
    (hd : Nat.blt d n = true) (h : ∀ b, WL P ro n w0 ops Q l ((d, .slice (some ⟨b, 0, none⟩) k k) :: r) ds m (.row (some ⟨b, 0, none⟩) k e sz (List.replicate k zs) :: H)) :
    WL P ro n w0 ops Q (⟨some d, .makeSlice t lo hi, ty, pos, after, none⟩ :: l) r ds m H := by
  refine .makeSlice hl hh ei ej hu hz hsz hby (by rw [hzl]; simpa using hzs) h0 h63 hb hd (fun b => fun tmps w ho hs => h b tmps w ho ?_)
  rw [show z.cells.toList = zs by rw [hzl]] at hs
  have := Sat.row_of (es := List.replicate k zs) (sz := sz) (fun q hq => by rw [(List.mem_replicate.1 hq).2]; exact hzs) hs
  rwa [List.length_replicate] at this
theorem w_makeRow {e : TypeId} {lo hi : Operand} {kl kh : IntKind} {i j : Int} {k sz by' : Nat} {z : Value} {zs : List Value} (h : ∀ b, WL P ro n w0 ops Q l ((d, .slice (some ⟨b, 0, none⟩) k k) :: r) ds m (.row (some ⟨b, 0, none⟩) k e sz (List.replicate k zs) :: H)) (hl : r.ev lo = some (.int kl i) := by exact rfl) (hh : r.ev hi = some (.int kh j) := by exact rfl) (ei : i = (k : Int) := by (first | with_reducible exact natz _ | with_reducible exact natz0 | with_reducible exact natz1 | with_reducible exact natz2 | with_reducible exact natz3 | with_reducible exact natz4 | with_reducible exact natz8 | (apply natz_add; (· first | with_reducible exact natz _ | with_reducible exact natz0 | with_reducible exact natz1 | with_reducible exact natz2 | with_reducible exact natz3 | with_reducible exact natz4 | with_reducible exact natz8); (· first | with_reducible exact natz _ | with_reducible exact natz0 | with_reducible exact natz1 | with_reducible exact natz2 | with_reducible exact natz3 | with_reducible exact natz4 | with_reducible exact natz8)) | (apply natz_sub; (· first | with_reducible exact natz _ | with_reducible exact natz0 | with_reducible exact natz1 | with_reducible exact natz2 | with_reducible exact natz3 | with_reducible exact natz4 | with_reducible exact natz8); (· first | with_reducible exact natz _ | with_reducible exact natz0 | with_reducible exact natz1 | with_reducible exact natz2 | with_reducible exact natz3 | with_reducible exact natz4 | with_reducible exact natz8); (· omega)) | exact (Int.toNat_of_nonneg (by omega)).symm)) (ej : j = (k : Int) := by (first | with_reducible exact natz _ | with_reducible exact natz0 | with_reducible exact natz1 | with_reducible exact natz2 | with_reducible exact natz3 | with_reducible exact natz4 | with_reducible exact natz8 | (apply natz_add; (· first | with_reducible exact natz _ | with_reducible exact natz0 | with_reducible exact natz1 | with_reducible exact natz2 | with_reducible exact natz3 | with_reducible exact natz4 | with_reducible exact natz8); (· first | with_reducible exact natz _ | with_reducible exact natz0 | with_reducible exact natz1 | with_reducible exact natz2 | with_reducible exact natz3 | with_reducible exact natz4 | with_reducible exact natz8)) | (apply natz_sub; (· first | with_reducible exact natz _ | with_reducible exact natz0 | with_reducible exact natz1 | with_reducible exact natz2 | with_reducible exact natz3 | with_reducible exact natz4 | with_reducible exact natz8); (· first | with_reducible exact natz _ | with_reducible exact natz0 | with_reducible exact natz1 | with_reducible exact natz2 | with_reducible exact natz3 | with_reducible exact natz4 | with_reducible exact natz8); (· omega)) | exact (Int.toNat_of_nonneg (by omega)).symm)) (hu : P.underlying t = some (.slice e) := by exact rfl) (hz : zeroB P e = some z := by exact rfl) (hsz : sizeB P e = some sz := by exact rfl) (hby : bytesB P e = some by' := by exact rfl) (hzl : z.cells = zs.toArray := by exact rfl) (hzs : zs.length = sz := by exact rfl) (h0 : 0 < sz := by decide) (h63 : k ≤ 9223372036854775807 := by omega) (hb : k * by' ≤ 140737488355328 := by omega) (hd : Nat.blt d n = true := by exact rfl) : WL P ro n w0 ops Q (⟨some d, .makeSlice t lo hi, ty, pos, after, none⟩ :: l) r ds m H := WL.makeRow hl hh ei ej hu hz hsz hby hzl hzs h0 h63 hb hd h
theorem WL.blkStr {src dst e : TypeId} {x : Operand} {b k cap : Nat} {L : List Value} {T : TypeId} {fz : Nat × Nat} {s : List UInt8} (hx : r.ev x = some (.slice (some ⟨b, 0, none⟩) k cap)) (hm : Item.blk b (.cells L.toArray T fz) ∈ H)
    (hL : L = s.map fun b => Value.int .u8 (b.toNat : Int)) (hk : k = s.length)
    (hs1 : P.underlying src = some (.slice e)) (hs2 : P.underlying dst = some .string) (hs3 : P.underlying e = some (.int .u8)) (hsz : sizeB P e = some 1) (hd : Nat.blt d n = true)
    (h : WL P ro n w0 ops Q l ((d, str s) :: r) ds m H) : WL P ro n w0 ops Q (⟨some d, .convert src dst x, ty, pos, after, none⟩ :: l) r ds m H := by
  subst hk; subst hL
  exact .bytesStr hx hs1 hs2 hs3 hsz (.inr ⟨_, _, rfl, fun w hs j v hj => by rw [add_none]; exact Cell.blk hm (by simpa using hj) w hs⟩) hd h
theorem laid_app : ∀ (vs A B C : List Value), B.length = vs.length → laid (A ++ B ++ C) A.length vs = A ++ vs ++ C
  | [], A, B, C, h => by
    have : B = [] := List.eq_nil_of_length_eq_zero h
    subst this; rfl
  | v :: vs, A, [], C, h => by simp at h
  | v :: vs, A, q :: B, C, h => by
    have e : (A ++ q :: B ++ C).set A.length v = A ++ [v] ++ B ++ C := by simp
    have := laid_app vs (A ++ [v]) B C (by simpa using h)
    rw [laid, e]
    simpa using this
/-- a store into an element of a row of one's own -/
theorem WL.storeRow {u : TypeId} {a : Addr} {k i cap sz : Nat} {T : TypeId} {es es' : List (List Value)} {v : Value} {vs : List Value} {H' : SHeap} (hx : r.ev x = some (.pointer (some (a.add k)))) (hk : k = i * sz) (hy : r.ev y = some v)
    (hv : v.cells = vs.toArray) (hz : sizeB P u = some sz) (hvs : vs.length = sz) (ha : vs.all okCell = true) (hr : Repl (.row (some a) cap T sz es) (.row (some a) cap T sz es') H H') (hi : i < es.length) (he : es' = es.set i vs)
    (h : WL P ro n w0 ops Q l r ds m H') : WL P ro n w0 ops Q (⟨none, .store u x y, ty, pos, after, none⟩ :: l) r ds m H :=
  .act (fun m' H'' => m' = m ∧ H'' = H') rfl (fun _ h => by cases h)
    (fun tmps w ho hs => by
      subst hk; subst he
      obtain ⟨H1, p1, p2⟩ := hr.perm
      have hs1 := hs.perm p1
      obtain ⟨arr, fz, h1, h2, h3, h4, h5, h6, h9⟩ := hs1.own _ List.mem_cons_self
      obtain ⟨s, e0, t, rfl, hsl⟩ : ∃ s e0 t, es = s ++ e0 :: t ∧ s.length = i := ⟨es.take i, es[i], es.drop (i + 1), by rw [← List.drop_eq_getElem_cons hi, List.take_append_drop], by rw [List.length_take]; omega⟩
      have hset : (s ++ e0 :: t).set i vs = s ++ vs :: t := by subst hsl; simp
      have hsf : s.flatten.length = i * sz := by rw [← hsl]; exact flat_len (fun q hq => h6 q (by simp [hq]))
      have he0 : e0.length = sz := h6 e0 (by simp)
      have harr : arr.toList = s.flatten ++ e0 ++ (t.flatten ++ arr.toList.drop ((s ++ e0 :: t).length * sz)) := by
        have := List.take_append_drop ((s ++ e0 :: t).length * sz) arr.toList
        rw [h5] at this
        rw [← List.append_assoc]
        simpa using this.symm
      have hlen : i * sz + sz ≤ arr.toList.length := by rw [harr]; simp only [List.length_append, hsf, he0]; omega
      have hs2 : Sat w0 m (.blk a.block (.cells arr.toList.toArray T fz) :: H1) w := ⟨hs1.os, hs1.tape, hs1.output, hs1.size, hs1.pers, fun q hq => by
        cases hq with
        | head => show w.heap[a.block]? = _; rw [h2]
        | tail _ hq => exact hs1.own q (List.mem_cons_of_mem _ hq), by simpa [SHeap.foot, Item.foot] using hs1.sep, by simpa [SHeap.foot, Item.foot] using hs1.free⟩
      obtain ⟨w', g1, g2⟩ := run_laid (P := P) vs 0 (i * sz) arr.toList H1 w (by omega) (by rcases h9 with h | h; exact .inl h; exact .inr (.inr (by simpa using h))) ha hs2
      rw [Nat.add_zero, ← hsf, harr, laid_app vs s.flatten e0 _ (by omega)] at g2
      have hb2 : w'.heap[a.block]? = _ := g2.own _ List.mem_cons_self
      have g3 : Sat w0 m (.row (some a) cap T sz (s ++ vs :: t) :: H1) w' := ⟨g2.os, g2.tape, g2.output, g2.size, g2.pers, fun q hq => by
        cases hq with
        | head =>
          refine ⟨_, fz, h1, hb2, ?_, by simpa using h4, ?_, ?_, ?_⟩
          rotate_left 3
          · have h7 := congrArg List.length harr
            simp only [List.length_append, Array.length_toList] at h7
            rcases h9 with h | h
            · exact .inl h
            · right; simp only [List.size_toArray, List.length_append]; omega
          · have h7 : arr.toList.length = arr.size := Array.length_toList
            rw [← h3, List.size_toArray]
            have := congrArg List.length harr
            simp only [List.length_append] at this ⊢
            omega
          · have e1 : (s ++ vs :: t).length * sz = (s.flatten ++ vs ++ t.flatten).length := by
              have e2 := flat_len h6
              simp only [List.flatten_append, List.flatten_cons, List.length_append, List.length_cons] at e2 ⊢
              omega
            rw [e1]
            simp [← List.append_assoc]
          · intro q hq
            rcases List.mem_append.1 hq with hq | hq
            · exact h6 q (by simp [hq])
            · rcases List.mem_cons.1 hq with rfl | hq
              · exact hvs
              · exact h6 q (by simp [hq])
        | tail _ hq => exact g2.own q (List.mem_cons_of_mem _ hq), by simpa [SHeap.foot, Item.foot] using g2.sep, by simpa [SHeap.foot, Item.foot] using g2.free⟩
      rw [hset] at p2
      refine ⟨m, H', w', ?_, g3.perm p2.symm, rfl, rfl⟩
      have hadd : a.add (i * sz) = ⟨a.block, i * sz, none⟩ := by rw [h1, add_none]; simp
      simp only [execOp, Instr.storeAt, Instr.sureAddr, storeVar, ho.ev hx, ho.ev hy, hv, Sem.run_bind, Sem.run_pure, Result.andThen_ok, run_size hz, hadd]
      simp only [List.size_toArray, hvs, ne_eq, not_true_eq_false, if_false, g1, Result.andThen_ok])
    (by rintro _ _ ⟨rfl, rfl⟩; exact h)
theorem w_storeRow {u : TypeId} {a : Addr} {k i cap sz : Nat} {T : TypeId} {es es' : List (List Value)} {v : Value} {vs : List Value} {H' : SHeap} (h : WL P ro n w0 ops Q l r ds m H') (hx : r.ev x = some (.pointer (some (a.add k))) := by exact rfl) (hk : k = i * sz := by exact rfl) (hy : r.ev y = some v := by exact rfl) (hv : v.cells = vs.toArray := by exact rfl) (hz : sizeB P u = some sz := by exact rfl) (hvs : vs.length = sz := by exact rfl) (ha : vs.all okCell = true := by exact rfl) (hr : Repl (.row (some a) cap T sz es) (.row (some a) cap T sz es') H H' := by (repeat (first | exact Repl.here | apply Repl.there))) (hi : i < es.length := by first | omega | (simp; omega)) (he : es' = es.set i vs := by exact rfl) : WL P ro n w0 ops Q (⟨none, .store u x y, ty, pos, after, none⟩ :: l) r ds m H := WL.storeRow hx hk hy hv hz hvs ha hr hi he h
theorem vi {k : IntKind} {a b : Int} (h : a = b) : Value.int k a = Value.int k b := by rw [h]
theorem WL.pickYes {c x y : Operand} {v : Value} {p : Prop} [Decidable p] (hc : r.ev c = some (.bool (dcd p))) (hp : p) (hx : r.ev x = some v) (hd : Nat.blt d n = true) (h : WL P ro n w0 ops Q l ((d, v) :: r) ds m H) :
    WL P ro n w0 ops Q (⟨some d, .pick c x y, ty, pos, after, none⟩ :: l) r ds m H := .pick_t (by rw [hc, dcd_true hp]) hx hd h
theorem w_pickYes {c x y : Operand} {v : Value} {p : Prop} [Decidable p] (h : WL P ro n w0 ops Q l ((d, v) :: r) ds m H) (hc : r.ev c = some (.bool (dcd p)) := by exact rfl) (hp : p := by first | omega | assumption | with_reducible rfl | with_reducible exact ⟨rfl, rfl⟩ | with_reducible exact ⟨rfl, rfl, rfl⟩ | exact ⟨rfl, rfl, rfl, rfl⟩) (hx : r.ev x = some v := by exact rfl) (hd : Nat.blt d n = true := by exact rfl) : WL P ro n w0 ops Q (⟨some d, .pick c x y, ty, pos, after, none⟩ :: l) r ds m H := WL.pickYes hc hp hx hd h
theorem WL.pickNo {c x y : Operand} {v : Value} {p : Prop} [Decidable p] (hc : r.ev c = some (.bool (dcd p))) (hp : ¬ p) (hx : r.ev y = some v) (hd : Nat.blt d n = true) (h : WL P ro n w0 ops Q l ((d, v) :: r) ds m H) :
    WL P ro n w0 ops Q (⟨some d, .pick c x y, ty, pos, after, none⟩ :: l) r ds m H := .pick_f (by rw [hc, dcd_false hp]) hx hd h
theorem w_pickNo {c x y : Operand} {v : Value} {p : Prop} [Decidable p] (h : WL P ro n w0 ops Q l ((d, v) :: r) ds m H) (hc : r.ev c = some (.bool (dcd p)) := by exact rfl) (hp : ¬ p := by first | omega | assumption | with_reducible rfl | with_reducible exact ⟨rfl, rfl⟩ | with_reducible exact ⟨rfl, rfl, rfl⟩ | exact ⟨rfl, rfl, rfl, rfl⟩) (hx : r.ev y = some v := by exact rfl) (hd : Nat.blt d n = true := by exact rfl) : WL P ro n w0 ops Q (⟨some d, .pick c x y, ty, pos, after, none⟩ :: l) r ds m H := WL.pickNo hc hp hx hd h
theorem WL.pickNyes {c x y : Operand} {v : Value} {p : Prop} [Decidable p] (hc : r.ev c = some (.bool (!dcd p))) (hp : ¬ p) (hx : r.ev x = some v) (hd : Nat.blt d n = true) (h : WL P ro n w0 ops Q l ((d, v) :: r) ds m H) :
    WL P ro n w0 ops Q (⟨some d, .pick c x y, ty, pos, after, none⟩ :: l) r ds m H := .pick_t (by rw [hc, dcd_false hp]; rfl) hx hd h
theorem w_pickNyes {c x y : Operand} {v : Value} {p : Prop} [Decidable p] (h : WL P ro n w0 ops Q l ((d, v) :: r) ds m H) (hc : r.ev c = some (.bool (!dcd p)) := by exact rfl) (hp : ¬ p := by first | omega | assumption | with_reducible rfl | with_reducible exact ⟨rfl, rfl⟩ | with_reducible exact ⟨rfl, rfl, rfl⟩ | exact ⟨rfl, rfl, rfl, rfl⟩) (hx : r.ev x = some v := by exact rfl) (hd : Nat.blt d n = true := by exact rfl) : WL P ro n w0 ops Q (⟨some d, .pick c x y, ty, pos, after, none⟩ :: l) r ds m H := WL.pickNyes hc hp hx hd h
theorem WL.pickNno {c x y : Operand} {v : Value} {p : Prop} [Decidable p] (hc : r.ev c = some (.bool (!dcd p))) (hp : p) (hx : r.ev y = some v) (hd : Nat.blt d n = true) (h : WL P ro n w0 ops Q l ((d, v) :: r) ds m H) :
    WL P ro n w0 ops Q (⟨some d, .pick c x y, ty, pos, after, none⟩ :: l) r ds m H := .pick_f (by rw [hc, dcd_true hp]; rfl) hx hd h
theorem w_pickNno {c x y : Operand} {v : Value} {p : Prop} [Decidable p] (h : WL P ro n w0 ops Q l ((d, v) :: r) ds m H) (hc : r.ev c = some (.bool (!dcd p)) := by exact rfl) (hp : p := by first | omega | assumption | with_reducible rfl | with_reducible exact ⟨rfl, rfl⟩ | with_reducible exact ⟨rfl, rfl, rfl⟩ | exact ⟨rfl, rfl, rfl, rfl⟩) (hx : r.ev y = some v := by exact rfl) (hd : Nat.blt d n = true := by exact rfl) : WL P ro n w0 ops Q (⟨some d, .pick c x y, ty, pos, after, none⟩ :: l) r ds m H := WL.pickNno hc hp hx hd h
/-- a call that hands back this and leaves all as it was -/
theorem WL.callG {f : FuncId} {fn : Func} {c : Code} {args : List Operand} {vs : List Value} {ts : Array TypeId} {v : Value}
    (hf : P.funcs[f]? = some fn) (hname : (fn.name == "runtime.NumGoroutine") = false) (hb : fn.body = some c)
    (hv : r.evs args = some vs) (hd : Nat.blt d n = true) (hs : Does P f vs.toArray w0 m H (Gives v m H)) (h : WL P ro n w0 ops Q l ((d, v) :: r) ds m H) :
    WL P ro n w0 ops Q (⟨some d, .call ⟨.value (.func f), args.toArray, ts⟩, ty, pos, after, none⟩ :: l) r ds m H :=
  .callF hf hname hb hv hd hs (by rintro _ _ _ ⟨rfl, rfl, rfl⟩; exact h)
theorem w_callG {f : FuncId} {fn : Func} {c : Code} {args : List Operand} {vs : List Value} {ts : Array TypeId} {v : Value} (hf : P.funcs[f]? = some fn) (h : WL P ro n w0 ops Q l ((d, v) :: r) ds m H) (hname : (fn.name == "runtime.NumGoroutine") = false := by exact rfl) (hb : fn.body = some c := by exact rfl) (hv : r.evs args = some vs := by exact rfl) (hd : Nat.blt d n = true := by exact rfl) (hs : Does P f vs.toArray w0 m H (Gives v m H)) : WL P ro n w0 ops Q (⟨some d, .call ⟨.value (.func f), args.toArray, ts⟩, ty, pos, after, none⟩ :: l) r ds m H := WL.callG hf hname hb hv hd hs h
/-- ways that meet again -/
def QJoin (n : Nat) (w0 : World) (I : Env → List Nat → Mem → SHeap → Prop) (Q : Exit → Act → World → Prop) : Exit → Act → World → Prop
  | .normal, a, w => ∃ r ds m H, I r ds m H ∧ r.ok n a.tmps ∧ a.defers = marks ds ∧ Sat w0 m H w
  | e, a, w => Q e a w
theorem WC.join {c : Code} (I : Env → List Nat → Mem → SHeap → Prop) (h1 : WC P ro n w0 c (QJoin n w0 I Q) r ds m H) (h2 : ∀ r ds m H, I r ds m H → WQ n w0 Q .normal r ds m H) : WC P ro n w0 c Q r ds m H :=
  h1.of_post fun e a w h => by
    cases e with
    | normal =>
      obtain ⟨r', ds', m', H', hI, ho, hd, hs⟩ := h
      have := h2 _ _ _ _ hI a.tmps w ho hs
      rw [← hd] at this
      exact this
    | _ => exact h
theorem WQ.join {I : Env → List Nat → Mem → SHeap → Prop} {r' : Env} {H' : SHeap} (hI : I r' ds m H') (hr : Env.Sub r' r) (hh : ∀ w, Sat w0 m H w → Sat w0 m H' w) : WQ n w0 (QJoin n w0 I Q) .normal r ds m H :=
  fun tmps w ho hs => ⟨r', ds, m, H', hI, hr.ok ho, rfl, hh w hs⟩
theorem WQ.joinRet {I : Env → List Nat → Mem → SHeap → Prop} (h : WQ n w0 Q .ret r ds m H) : WQ n w0 (QJoin n w0 I Q) .ret r ds m H := h
theorem q_joinRet {I : Env → List Nat → Mem → SHeap → Prop} (h : WQ n w0 Q .ret r ds m H) : WQ n w0 (QJoin n w0 I Q) .ret r ds m H := WQ.joinRet h
theorem WQ.joinExit {I : Env → List Nat → Mem → SHeap → Prop} {id : Nat} (h : WQ n w0 Q (.exit id) r ds m H) : WQ n w0 (QJoin n w0 I Q) (.exit id) r ds m H := h
theorem q_joinExit {I : Env → List Nat → Mem → SHeap → Prop} {id : Nat} (h : WQ n w0 Q (.exit id) r ds m H) : WQ n w0 (QJoin n w0 I Q) (.exit id) r ds m H := WQ.joinExit h
attribute [irreducible] QJoin
end
theorem vb_t {p : Prop} [Decidable p] (h : p) : Value.bool true = .bool (dcd p) := by rw [dcd_true h]
theorem vb_f {p : Prop} [Decidable p] (h : ¬ p) : Value.bool false = .bool (dcd p) := by rw [dcd_false h]
theorem vb_iff {p q : Prop} [Decidable p] [Decidable q] (h : p ↔ q) : Value.bool (dcd p) = .bool (dcd q) := by
  by_cases hp : p
  · rw [dcd_true hp, dcd_true (h.1 hp)]
  · rw [dcd_false hp, dcd_false (fun hq => hp (h.2 hq))]
end Go.Eng
