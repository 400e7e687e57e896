/-
  A walk's engine, sixth part: building values, rows that grow, a function's results. No condition.
-/
import Derived.Test.YtdmdabjaboigcaaEngE
import Derived.Deep.AppendSrc
import Derived.Laws.BytesString
import Derived.Laws.Tables
set_option linter.all false
namespace Go.Eng
open Go Go.RowKit

/-! ### building a struct, a row -/
def placesB (P : Program) (t : TypeId) : Option (List (Nat × Nat)) := match P.underlying t with
  | some (.struct fs) => fs.toList.mapM fun f => (P.info? f.type).map fun i => (f.offset, i.size)
  | _ => none
/-- the parts, each at its place -/
def placedB (ps : List (Nat × Nat)) : List (Nat × Value) → List (Nat × Value)
  | [] => []
  | (i, v) :: rest => (((ps[i]?).map (·.1)).getD 0, v) :: placedB ps rest
theorem placedB_eq (ps : List (Nat × Nat)) : ∀ parts : List (Nat × Value), placedB ps parts = parts.map fun p => (((ps[p.1]?).map (·.1)).getD 0, p.2)
  | [] => rfl
  | (i, v) :: rest => by simp [placedB, placedB_eq ps rest]
def placedA (sz : Nat) : List (Nat × Value) → List (Nat × Value)
  | [] => []
  | (i, v) :: rest => (i * sz, v) :: placedA sz rest
theorem placedA_eq (sz : Nat) : ∀ parts : List (Nat × Value), placedA sz parts = parts.map fun p => (p.1 * sz, p.2)
  | [] => rfl
  | (i, v) :: rest => by simp [placedA, placedA_eq sz rest]
def fitsB (ps : List (Nat × Nat)) (k : Nat) (parts : List (Nat × Value)) : Bool :=
  parts.all fun p => match ps[p.1]? with | some (o, s) => Nat.beq p.2.cells.size s && Nat.ble (o + s) k | none => false
def Env.evp (r : Env) : List (Nat × Operand) → Option (List (Nat × Value))
  | [] => some []
  | (i, o) :: l => match r.ev o, r.evp l with
    | some v, some vs => some ((i, v) :: vs)
    | _, _ => none
theorem Env.ok.evp {n : Nat} {r : Env} {tmps : Array Value} (h : r.ok n tmps) (ds : List Deferred) : ∀ {l : List (Nat × Operand)} {vs : List (Nat × Value)}, r.evp l = some vs → l.map (fun p => (p.1, (Act.mk tmps ds).eval p.2)) = vs
  | [], vs, he => by simpa [Env.evp] using he
  | (i, o) :: l, vs, he => by
    simp only [Env.evp] at he
    cases h1 : r.ev o with
    | none => simp [h1] at he
    | some v =>
      cases h2 : Env.evp r l with
      | none => simp [h1, h2] at he
      | some ws =>
        simp [h1, h2] at he
        subst he
        simp [h.ev h1, h.evp ds h2]

section
variable {P : Program} {ro : Option Nat} {n : Nat} {w0 : World} {Q : Exit → Act → World → Prop} {r : Env} {ds : List Nat} {m : Mem} {H : SHeap}
  {ops : Array Oper} {l : List Oper} {d : Nat} {ty : TypeId} {pos : String} {after : Array Edge}

theorem run_places_of {t : TypeId} {ps : List (Nat × Nat)} (hps : placesB P t = some ps) : ∃ fs, P.underlying t = some (.struct fs) ∧ ∀ w, (fs.mapM fun f => (do pure (f.offset, ← sizeOf f.type) : Sem (Nat × Nat))).run P w = .ok ps.toArray w := by
  unfold placesB at hps
  cases hu : P.underlying t with
  | none => simp [hu] at hps
  | some q =>
    cases q with
    | struct fs =>
      simp only [hu] at hps
      refine ⟨fs, rfl, fun w => ?_⟩
      have hpl := run_places (P := P) w fs.toList ps hps
      rw [Array.mapM_eq_mapM_toList]
      have : (fs.toList.mapM fun f => (do pure (f.offset, ← sizeOf f.type) : Sem (Nat × Nat))) = fs.toList.mapM fun f => Prod.mk f.offset <$> sizeOf f.type := rfl
      rw [this]
      simp [hpl]
    | _ => simp [hu] at hps
theorem WL.build {t : TypeId} {parts : List (Nat × Operand)} {pv : List (Nat × Value)} {ps : List (Nat × Nat)} {z : Value} {k : Nat} {cs : List Value}
    (hp : r.evp parts = some pv) (hps : placesB P t = some ps) (hz : zeroB P t = some z) (hk : z.cells.size = k) (hfit : fitsB ps k pv = true) (hc : NF (overlay z.cells.toList (placedB ps pv)) cs)
    (hd : Nat.blt d n = true) (h : WL P ro n w0 ops Q l ((d, .agg cs.toArray) :: r) ds m H) : WL P ro n w0 ops Q (⟨some d, .build t parts.toArray, ty, pos, after, none⟩ :: l) r ds m H := by
  refine .val hd (fun _ h => by cases h) (fun tmps w ho _ => ?_) h
  have e1 := ho.evp (marks ds) hp
  obtain ⟨fs, hu, hpl⟩ := run_places_of hps
  have hc' := hc.eq
  try rw [placedA_eq] at hc'
  subst hc'
  have g1 := fill_ok (fun i => ps[i]?) pv (placedB ps pv) z.cells (by simp [placedB_eq]) (by simp [placedB_eq]) (by
    unfold fitsB at hfit
    rw [← hk] at hfit
    exact hfit)
  simp only [execOp, Instr.build, Sem.run_bind, run_zero hz, Result.andThen_ok, run_underlying hu, List.map_toArray, e1, hpl]
  have g1' : Instr.fill (fun x => ps.toArray[x]?) z.cells pv = some (overlay z.cells.toList (placedB ps pv)).toArray := by simpa using g1
  simp only [g1', Sem.run_pure, Result.andThen_ok]
theorem w_build {t : TypeId} {parts : List (Nat × Operand)} {pv : List (Nat × Value)} {ps : List (Nat × Nat)} {z : Value} {k : Nat} {cs : List Value} (h : WL P ro n w0 ops Q l ((d, .agg cs.toArray) :: r) ds m H) (hp : r.evp parts = some pv := by exact rfl) (hps : placesB P t = some ps := by exact rfl) (hz : zeroB P t = some z := by exact rfl) (hk : z.cells.size = k := by exact rfl) (hfit : fitsB ps k pv = true := by exact rfl) (hc : NF (overlay z.cells.toList (placedB ps pv)) cs := by (repeat (first | (apply NF.cons; (· exact rfl)) | exact NF.nil rfl))) (hd : Nat.blt d n = true := by exact rfl) : WL P ro n w0 ops Q (⟨some d, .build t parts.toArray, ty, pos, after, none⟩ :: l) r ds m H := WL.build hp hps hz hk hfit hc hd h
def arrB (P : Program) (t : TypeId) : Option TypeId := match P.underlying t with
  | some (.array _ e) => some e
  | _ => none
theorem WL.buildArr {t e : TypeId} {parts : List (Nat × Operand)} {pv : List (Nat × Value)} {z : Value} {sz k : Nat} {cs : List Value}
    (hp : r.evp parts = some pv) (hu : arrB P t = some e) (hsz : sizeB P e = some sz) (hz : zeroB P t = some z) (hk : z.cells.size = k) (hfit : (pv.all fun p => Nat.beq p.2.cells.size sz && Nat.ble (p.1 * sz + sz) k) = true)
    (hc : NF (overlay z.cells.toList (placedA sz pv)) cs)
    (hd : Nat.blt d n = true) (h : WL P ro n w0 ops Q l ((d, .agg cs.toArray) :: r) ds m H) : WL P ro n w0 ops Q (⟨some d, .build t parts.toArray, ty, pos, after, none⟩ :: l) r ds m H := by
  refine .val hd (fun _ h => by cases h) (fun tmps w ho _ => ?_) h
  have e1 := ho.evp (marks ds) hp
  have hc' := hc.eq
  try rw [placedA_eq] at hc'
  subst hc'
  have g1 := fill_ok (fun i => some (i * sz, sz)) pv (pv.map fun p => (p.1 * sz, p.2)) z.cells (by simp) (by simp) (by
    rw [hk]; exact hfit)
  unfold arrB at hu
  cases hq : P.underlying t with
  | none => simp [hq] at hu
  | some q =>
    cases q with
    | array ln e' =>
      simp [hq] at hu
      subst hu
      simp only [execOp, Instr.build, Sem.run_bind, run_zero hz, Result.andThen_ok, run_underlying hq, List.map_toArray, e1, run_size hsz]
      rw [g1]
      simp only [Sem.run_pure, Result.andThen_ok]
    | _ => simp [hq] at hu
theorem w_buildArr {t e : TypeId} {parts : List (Nat × Operand)} {pv : List (Nat × Value)} {z : Value} {sz k : Nat} {cs : List Value} (h : WL P ro n w0 ops Q l ((d, .agg cs.toArray) :: r) ds m H) (hp : r.evp parts = some pv := by exact rfl) (hu : arrB P t = some e := by exact rfl) (hsz : sizeB P e = some sz := by exact rfl) (hz : zeroB P t = some z := by exact rfl) (hk : z.cells.size = k := by exact rfl) (hfit : (pv.all fun p => Nat.beq p.2.cells.size sz && Nat.ble (p.1 * sz + sz) k) = true := by exact rfl) (hc : NF (overlay z.cells.toList (placedA sz pv)) cs := by (repeat (first | (apply NF.cons; (· exact rfl)) | exact NF.nil rfl))) (hd : Nat.blt d n = true := by exact rfl) : WL P ro n w0 ops Q (⟨some d, .build t parts.toArray, ty, pos, after, none⟩ :: l) r ds m H := WL.buildArr hp hu hsz hz hk hfit hc hd h
/-- a new row of elements that are written out -/
theorem WL.buildSlice {t e : TypeId} {k sz : Nat} {parts : List (Nat × Operand)} {pv : List (Nat × Value)} {z : Value} {cs : List Value}
    (hp : r.evp parts = some pv) (hu : P.underlying t = some (.slice e)) (hz : zeroB P e = some z) (hsz : sizeB P e = some sz) (hzs : z.cells.size = sz) (hpos : Nat.blt 0 (k * sz) = true) (hsmall : Nat.ble (k * sz) 16777216 = true)
    (hfit : (pv.all fun p => Nat.beq p.2.cells.size sz && Nat.ble (p.1 * sz + sz) (k * sz)) = true)
    (hc : NF (overlay (List.replicate k z.cells.toList).flatten (placedA sz pv)) cs)
    (hd : Nat.blt d n = true) (h : ∀ b, WL P ro n w0 ops Q l ((d, .slice (some ⟨b, 0, none⟩) k k) :: r) ds m (.blk b (.cells cs.toArray e (0, 0)) :: H)) :
    WL P ro n w0 ops Q (⟨some d, .buildSlice t k parts.toArray, ty, pos, after, none⟩ :: l) r ds m H := by
  have hpos' : 0 < k * sz := by simpa [Nat.blt_eq] using hpos
  have hsz0 : 0 < sz := Nat.pos_of_mul_pos_left hpos'
  have hsm : ¬ (k * sz > 2 ^ 24) := by have : k * sz ≤ 16777216 := by simpa using hsmall
                                       omega
  refine .gen (fun v m' H' => ∃ b, v = .slice (some ⟨b, 0, none⟩) k k ∧ m' = m ∧ H' = .blk b (.cells cs.toArray e (0, 0)) :: H) hd (fun _ h => by cases h) (fun tmps w ho hs => ?_)
    (by rintro _ _ _ ⟨b, rfl, rfl, rfl⟩; exact h b)
  have e1 := ho.evp (marks ds) hp
  let base : Array Value := (Array.range (k * sz)).map fun j => z.cells[j % z.cells.size]!
  have hbs : base.size = k * sz := by simp [base]
  have hbl : base.toList = (List.replicate k z.cells.toList).flatten := by
    apply List.ext_getElem?
    intro j
    have hlen : (List.replicate k z.cells.toList).flatten.length = k * sz := by
      rw [List.length_flatten]; simp [hzs]
    by_cases hj : j < k * sz
    · have h1 : j % sz < z.cells.size := by rw [hzs]; exact Nat.mod_lt _ hsz0
      have hq : j / sz < k := Nat.div_lt_of_lt_mul (by rw [Nat.mul_comm]; exact hj)
      have h2 := flatten_at (es := List.replicate k z.cells.toList) (sz := sz) (i := j / sz) (e := z.cells.toList) (fun x hx => by rw [(List.mem_replicate.1 hx).2]; simp [hzs]) (by simp [List.getElem?_replicate, hq]) (j % sz) z.cells[j % sz] (by simp [h1])
      rw [show j / sz * sz + j % sz = j by rw [Nat.mul_comm]; exact Nat.div_add_mod j sz] at h2
      rw [h2]
      simp [base, hj, hzs, getElem!_pos, hzs ▸ h1]
    · rw [List.getElem?_eq_none (by simp [hbs]; omega), List.getElem?_eq_none (by omega)]
  have g1 := fill_ok (fun i => some (i * sz, sz)) pv (pv.map fun p => (p.1 * sz, p.2)) base (by simp) (by simp) (by
    rw [hbs]; simpa using hfit)
  have hc' := hc.eq
  try rw [placedA_eq] at hc'
  subst hc'
  rw [hbl] at g1
  refine ⟨_, m, _, w.alloc (.cells (overlay (List.replicate k z.cells.toList).flatten (pv.map fun p => (p.1 * sz, p.2))).toArray e (0, 0)), ?_, hs.alloc _, w.heap.size, rfl, rfl, rfl⟩
  simp only [execOp, Instr.buildSlice, Sem.run_bind, run_underlying hu, Result.andThen_ok, run_size hsz, hsm, if_false, Sem.run_pure, if_neg (Nat.ne_of_gt hpos'), run_zero hz, List.map_toArray, e1]
  rw [show Instr.fill (fun i => some (i * sz, sz)) (Array.map (fun x => z.cells[x % z.cells.size]!) (Array.range (k * sz))) pv = _ from g1]
  simp only [newRow, Sem.run_bind, run_newObj_alloc, Result.andThen_ok, Sem.run_pure]

theorem w_buildSlice {t e : TypeId} {k sz : Nat} {parts : List (Nat × Operand)} {pv : List (Nat × Value)} {z : Value} {cs : List Value} (h : ∀ b, WL P ro n w0 ops Q l ((d, .slice (some ⟨b, 0, none⟩) k k) :: r) ds m (.blk b (.cells cs.toArray e (0, 0)) :: H)) (hp : r.evp parts = some pv := by exact rfl) (hu : P.underlying t = some (.slice e) := by exact rfl) (hz : zeroB P e = some z := by exact rfl) (hsz : sizeB P e = some sz := by exact rfl) (hzs : z.cells.size = sz := by exact rfl) (hpos : Nat.blt 0 (k * sz) = true := by exact rfl) (hsmall : Nat.ble (k * sz) 16777216 = true := by exact rfl) (hfit : (pv.all fun p => Nat.beq p.2.cells.size sz && Nat.ble (p.1 * sz + sz) (k * sz)) = true := by exact rfl) (hc : NF (overlay (List.replicate k z.cells.toList).flatten (placedA sz pv)) cs := by (repeat (first | (apply NF.cons; (· exact rfl)) | exact NF.nil rfl))) (hd : Nat.blt d n = true := by exact rfl) : WL P ro n w0 ops Q (⟨some d, .buildSlice t k parts.toArray, ty, pos, after, none⟩ :: l) r ds m H := WL.buildSlice hp hu hz hsz hzs hpos hsmall hfit hc hd h
/-! ### rows -/
theorem WL.lenSl {t e : TypeId} {x : Operand} {a : Option Addr} {k cap : Nat} (hx : r.ev x = some (.slice a k cap)) (hu : P.underlying t = some (.slice e)) (hd : Nat.blt d n = true)
    (h : WL P ro n w0 ops Q l ((d, .int .i64 (k : Int)) :: r) ds m H) : WL P ro n w0 ops Q (⟨some d, .call ⟨.builtin .len, #[x], #[t]⟩, ty, pos, after, none⟩ :: l) r ds m H :=
  .val hd (fun _ h => by cases h) (fun tmps w ho _ => by
    simp only [execOp, resolve, invoke, builtin, Builtin.len_, Sem.run_bind, Sem.run_pure, Result.andThen_ok, List.map_toArray, List.map_cons, List.map_nil, ho.ev hx]
    show (Sem.run P ((underlying t).bind _) w).andThen _ = _
    rw [Sem.run_bind', run_underlying hu, Result.andThen_ok]
    rfl) h
theorem w_lenSl {t e : TypeId} {x : Operand} {a : Option Addr} {k cap : Nat} (h : WL P ro n w0 ops Q l ((d, .int .i64 (k : Int)) :: r) ds m H) (hx : r.ev x = some (.slice a k cap) := by exact rfl) (hu : P.underlying t = some (.slice e) := by exact rfl) (hd : Nat.blt d n = true := by exact rfl) : WL P ro n w0 ops Q (⟨some d, .call ⟨.builtin .len, #[x], #[t]⟩, ty, pos, after, none⟩ :: l) r ds m H := WL.lenSl hx hu hd h
theorem WL.capSl {t e : TypeId} {x : Operand} {a : Option Addr} {k cap : Nat} (hx : r.ev x = some (.slice a k cap)) (hu : P.underlying t = some (.slice e)) (hd : Nat.blt d n = true)
    (h : WL P ro n w0 ops Q l ((d, .int .i64 (cap : Int)) :: r) ds m H) : WL P ro n w0 ops Q (⟨some d, .call ⟨.builtin .cap, #[x], #[t]⟩, ty, pos, after, none⟩ :: l) r ds m H :=
  .val hd (fun _ h => by cases h) (fun tmps w ho _ => by
    simp only [execOp, resolve, invoke, builtin, Builtin.cap_, Sem.run_bind, Sem.run_pure, Result.andThen_ok, List.map_toArray, List.map_cons, List.map_nil, ho.ev hx]
    show (Sem.run P ((underlying t).bind _) w).andThen _ = _
    rw [Sem.run_bind', run_underlying hu, Result.andThen_ok]
    rfl) h
theorem WL.indexAddr {t e : TypeId} {x y : Operand} {a : Addr} {k cap sz i : Nat} {ki : IntKind} {z : Int} (hx : r.ev x = some (.slice (some a) k cap)) (hy : r.ev y = some (.int ki z)) (hz : z = (i : Int)) (hu : P.underlying t = some (.slice e)) (hsz : sizeB P e = some sz)
    (hi : i < k) (hd : Nat.blt d n = true) (h : WL P ro n w0 ops Q l ((d, .pointer (some (a.add (i * sz)))) :: r) ds m H) :
    WL P ro n w0 ops Q (⟨some d, .indexAddr t x y, ty, pos, after, none⟩ :: l) r ds m H :=
  .val hd (fun _ h => by cases h) (fun tmps w ho _ => by
    subst hz
    have h1 : (0 : Int) ≤ (i : Int) ∧ (i : Int) < (k : Int) := by omega
    simp only [execOp, Instr.indexAt, asIntOf, ho.ev hx, ho.ev hy, Sem.run_bind, Sem.run_pure, Result.andThen_ok, run_underlying hu]
    simp [h1, run_size hsz]) h
theorem w_indexAddr {t e : TypeId} {x y : Operand} {a : Addr} {k cap sz i : Nat} {ki : IntKind} {z : Int} (h : WL P ro n w0 ops Q l ((d, .pointer (some (a.add (i * sz)))) :: r) ds m H) (hx : r.ev x = some (.slice (some a) k cap) := by exact rfl) (hy : r.ev y = some (.int ki z) := by exact rfl) (hz : z = (i : Int) := by (first | with_reducible exact natz _ | with_reducible exact natz0 | with_reducible exact natz1 | with_reducible exact natz2 | with_reducible exact natz3 | with_reducible exact natz4 | with_reducible exact natz8 | (apply natz_add; (· first | with_reducible exact natz _ | with_reducible exact natz0 | with_reducible exact natz1 | with_reducible exact natz2 | with_reducible exact natz3 | with_reducible exact natz4 | with_reducible exact natz8); (· first | with_reducible exact natz _ | with_reducible exact natz0 | with_reducible exact natz1 | with_reducible exact natz2 | with_reducible exact natz3 | with_reducible exact natz4 | with_reducible exact natz8)) | (apply natz_sub; (· first | with_reducible exact natz _ | with_reducible exact natz0 | with_reducible exact natz1 | with_reducible exact natz2 | with_reducible exact natz3 | with_reducible exact natz4 | with_reducible exact natz8); (· first | with_reducible exact natz _ | with_reducible exact natz0 | with_reducible exact natz1 | with_reducible exact natz2 | with_reducible exact natz3 | with_reducible exact natz4 | with_reducible exact natz8); (· omega)) | exact (Int.toNat_of_nonneg (by omega)).symm)) (hu : P.underlying t = some (.slice e) := by exact rfl) (hsz : sizeB P e = some sz := by exact rfl) (hi : i < k := by omega) (hd : Nat.blt d n = true := by exact rfl) : WL P ro n w0 ops Q (⟨some d, .indexAddr t x y, ty, pos, after, none⟩ :: l) r ds m H := WL.indexAddr hx hy hz hu hsz hi hd h
theorem row_some {w : World} {a : Option Addr} {cap : Nat} {T : TypeId} {sz : Nat} {es : List (List Value)} (hs : Sat w0 m H w) (hm : Item.row a cap T sz es ∈ H) (hne : 0 < es.length) : ∃ a0, a = some a0 := by
  cases a with
  | some a0 => exact ⟨a0, rfl⟩
  | none =>
    have := hs.own _ hm
    have h1 : es = [] := this.1
    subst h1; simp at hne
/-- an own row that is not empty has an address -/
theorem WL.rowSome {a : Option Addr} {cap : Nat} {T : TypeId} {sz : Nat} {es : List (List Value)} (hm : Item.row a cap T sz es ∈ H) (hne : 0 < es.length) (h : ∀ a0, a = some a0 → WL P ro n w0 ops Q l r ds m H) : WL P ro n w0 ops Q l r ds m H := by
  intro tmps w ho hs
  obtain ⟨a0, e⟩ := row_some hs hm hne
  exact h a0 e tmps w ho hs
theorem WC.rowSome {c : Code} {a : Option Addr} {cap : Nat} {T : TypeId} {sz : Nat} {es : List (List Value)} (hm : Item.row a cap T sz es ∈ H) (hne : 0 < es.length) (h : ∀ a0, a = some a0 → WC P ro n w0 c Q r ds m H) : WC P ro n w0 c Q r ds m H := by
  intro tmps w ho hs
  obtain ⟨a0, e⟩ := row_some hs hm hne
  exact h a0 e tmps w ho hs

/-! ### append -/
theorem flatten_length : ∀ {es : List (List Value)} {sz : Nat}, (∀ e ∈ es, e.length = sz) → es.flatten.length = es.length * sz
  | [], sz, _ => by simp
  | e :: es, sz, h => by
    rw [List.flatten_cons, List.length_append, h e List.mem_cons_self, flatten_length (fun q hq => h q (List.mem_cons_of_mem _ hq)), List.length_cons, Nat.succ_mul]
    omega
/-- what is appended, in whatever world of such a state -/
def Source (P : Program) (w0 : World) (m : Mem) (H : SHeap) (sz : Nat) (tx : TypeId) (x : Value) (k : Nat) (news : List Value) : Prop := ∀ w, Sat w0 m H w → Src P sz tx x k news w
theorem Source.str {tx : TypeId} (hk : P.underlying tx = some .string) (s : List UInt8) : Source P w0 m H 1 tx (str s) s.length (s.map fun b => Value.int .u8 (b.toNat : Int)) := fun w _ => by
  have := Src.ofString (P := P) w hk ⟨s.toArray⟩
  simpa [byteCells, ByteArray.size] using this
theorem Source.nil {sz : Nat} {tx e' : TypeId} (hk : P.underlying tx = some (.slice e')) (c : Nat) : Source P w0 m H sz tx (.slice none 0 c) 0 [] := fun w _ => Src.ofNil w hk c
theorem Source.cells {sz k c : Nat} {tx e' : TypeId} {a : Addr} {news : List Value} (hk : P.underlying tx = some (.slice e')) (hc : Cells w0 m H a news) (hl : news.length = k * sz) (h1 : news.all okCell = true) : Source P w0 m H sz tx (.slice (some a) k c) k news :=
  fun w hs => Src.ofSlice w hk a k c news hl (fun j u hu => hc w hs j u hu) (fun u hu => List.all_eq_true.1 h1 u hu)
theorem Source.prow {sz : Nat} {tx e' : TypeId} {T : TypeId} {v : Value} {es : List (List Value)} (hk : P.underlying tx = some (.slice e')) (hp : PRow m T sz v es) (h1 : ∀ e ∈ es, e.all okCell = true) : Source P w0 m H sz tx v es.length es.flatten := by
  have hlen : (∀ e ∈ es, e.length = sz) → es.flatten.length = es.length * sz := fun h => flatten_length h
  match v, hp with
  | .slice none len cap, ⟨h2, h3⟩ => subst h2; subst h3; exact .nil hk cap
  | .slice (some a) len cap, ⟨hsp, h2, h3, arr, fz, h4, h5⟩ =>
    subst h2
    refine fun w hs => Src.ofSlice w hk a _ cap _ (hlen h3) (fun j u hu => ?_) (fun u hu => ?_)
    · rw [add_eq hsp]
      simp [World.cell?, hs.pers _ _ h4, h5 j u hu]
    · obtain ⟨e, he, hu'⟩ := List.mem_flatten.1 hu
      exact List.all_eq_true.1 (h1 e he) u hu'
theorem take_laid : ∀ (vs : List Value) (L : List Value) (o : Nat), o + vs.length ≤ L.length → (laid L o vs).take (o + vs.length) = L.take o ++ vs
  | [], L, o, _ => by simp [laid]
  | v :: vs, L, o, h => by
    simp only [laid, List.length_cons] at h ⊢
    rw [show o + (vs.length + 1) = (o + 1) + vs.length by omega, take_laid vs (L.set o v) (o + 1) (by simp; omega)]
    rw [List.take_succ_eq_append_getElem (by simp; omega)]
    simp [List.take_set_of_le]
theorem run_append_row {t tx e : TypeId} {sz by' : Nat} {z : Value} {a : Option Addr} {cap : Nat} {es es' : List (List Value)} {x : Value} {w : World} (hu : P.underlying t = some (.slice e)) (hz : zeroB P e = some z) (hsz : sizeB P e = some sz) (hby : bytesB P e = some by')
    (hzs : z.cells.size = sz) (hs : Sat w0 m (.row a cap e sz es :: H) w) (hx : Src P sz tx x es'.length es'.flatten w) (hes : ∀ q ∈ es', q.length = sz) (h63 : es.length + es'.length ≤ 9223372036854775807) (hb : (es.length + es'.length) * by' ≤ 140737488355328) :
    ∃ a' cap' w', (Builtin.append_ #[t, tx] ty #[.slice a es.length cap, x]).run P w = .ok (.slice a' (es ++ es').length cap') w' ∧ Sat w0 m (.row a' cap' e sz (es ++ es') :: H) w' := by
  obtain ⟨i, hi, hib, _⟩ := run_info hby w
  have his : i.size = sz := by
    unfold sizeB at hsz; rw [hi] at hsz; simpa [lit_eq] using hsz
  have hiz : i.zero = some z := by
    unfold zeroB at hz; rw [hi] at hz; simpa using hz
  have hold : Item.holds w (.row a cap e sz es) := hs.own _ List.mem_cons_self
  by_cases hroom : es.length + es'.length ≤ cap
  · -- there is room
    cases a with
    | none =>
      have h1 : es = [] ∧ cap = 0 := hold
      obtain ⟨h1, h2⟩ := h1
      subst h1; subst h2
      have h3 : es' = [] := List.eq_nil_of_length_eq_zero (by simpa using hroom)
      subst h3
      refine ⟨none, 0, w, ?_, by simpa using hs⟩
      rcases hx.kind with ⟨e', hk⟩ | hk <;> simp [Builtin.append_, run_underlying hu, run_underlying hk, sizeOf, typeInfo, hi, hx.len, his]
      all_goals
        have := hx.cells
        simp at this
        simp [this]
    | some a =>
      obtain ⟨arr, fz, g1, g2, g3, g4, g5, g6, g7⟩ := hold
      have hal : a = ⟨a.block, 0, none⟩ := g1
      generalize hbk : a.block = b at *
      subst g1
      have hlen1 := flatten_length g6
      have hlen2 := flatten_length hes
      have hfitA : es.length * sz + es'.flatten.length ≤ arr.toList.length := by
        have hL : arr.toList.length = cap * sz := by simp [g3]
        rw [hlen2, ← Nat.add_mul, hL]; exact Nat.mul_le_mul_right _ hroom
      have hb1 : Sat w0 m (.blk b (.cells arr.toList.toArray e fz) :: H) w := by
        refine hs.turn (j := .blk b (.cells arr.toList.toArray e fz)) rfl rfl rfl (Nat.le_refl _) (fun _ _ _ => rfl) (by simpa [Item.holds] using g2) (fun y hy => .inl (by simpa [Item.foot] using hy)) (by simp [Item.foot])
      obtain ⟨w', k1, k2⟩ := run_laid (P := P) es'.flatten 0 (es.length * sz) arr.toList H w (by simpa using hfitA) (by rcases g7 with h | h; exact .inl h; exact .inr (.inr (by simpa using h))) (List.all_eq_true.2 fun u hu => hx.one u hu) hb1
      refine ⟨some ⟨b, 0, none⟩, cap, w', ?_, ?_⟩
      · rcases hx.kind with ⟨e', hk⟩ | hk <;>
          simp [Builtin.append_, run_underlying hu, run_underlying hk, sizeOf, typeInfo, hi, hx.len, his, hroom, hx.cells, Addr.add_lit, k1]
      · have hw' : w'.heap[b]? = some (.cells (laid arr.toList (es.length * sz + 0) es'.flatten).toArray e fz) := k2.own _ List.mem_cons_self
        refine k2.turn (j := .row (some ⟨b, 0, none⟩) cap e sz (es ++ es')) rfl rfl rfl (Nat.le_refl _) (fun _ _ _ => rfl) ?_ (fun y hy => .inl (by simpa [Item.foot] using hy)) (by simp [Item.foot])
        refine ⟨_, fz, rfl, hw', ?_, by simpa using hroom, ?_, ?_, ?_⟩
        · simp [laid_length, g3]
        · simp only [Nat.add_zero, List.length_append, List.flatten_append]
          rw [Nat.add_mul, ← hlen2, take_laid _ _ _ hfitA, g5]
        · intro q hq
          rcases List.mem_append.1 hq with h | h
          · exact g6 q h
          · exact hes q h
        · simpa [laid_length] using g7
  · -- a new row
    have hfit := growslice_fits (bytes := i.bytes) (show cap < es.length + es'.length by omega) (by rw [hib]; exact hb)
    have holds : (∀ q ∈ es, q.length = sz) ∧ ∀ w1 : World, w1.heap = w.heap → (Builtin.firstCells i.size es.length (.slice a es.length cap)).run P w1 = .ok es.flatten.toArray w1 := by
      cases a with
      | none =>
        have h1 : es = [] ∧ cap = 0 := hold
        obtain ⟨h1, h2⟩ := h1
        subst h1
        exact ⟨(fun q hq => by cases hq), (fun w1 _ => by simp [Builtin.firstCells])⟩
      | some a =>
        have hold' := hold
        obtain ⟨arr, fz, g1, g2, g3, g4, g5, g6, _⟩ := hold
        refine ⟨g6, fun w1 hw1 => ?_⟩
        refine run_firstCells_some w1 i.size es.length a es.length cap es.flatten (by rw [his]; exact flatten_length g6) (fun j u hu => ?_)
        have hsp : a.spot = none := by rw [g1]
        have hoff : a.off = 0 := by rw [g1]
        rw [← g5, List.getElem?_take] at hu
        split at hu
        · rw [add_eq hsp, hoff]
          simp only [World.cell?, hw1, g2]
          simpa using hu
        · cases hu
    have hr := run_append_grow_src (P := P) w t tx ty e i z hu hi hiz a es.length cap es.flatten (holds.2 _ rfl) x es'.length es'.flatten (by rw [his]; exact hx) (by omega) (by omega) hfit
    refine ⟨_, _, _, by rw [List.length_append]; exact hr, ?_⟩
    have hge := grownCap_ge w (es.length + es'.length) cap e
    have hs2 : Sat w0 m H w.drew := hs.drop.drew
    have hs3 := hs2.alloc (.cells ((es.flatten ++ es'.flatten).toArray ++ Builtin.zeroCells z.cells (grownCap w (es.length + es'.length) cap e - (es.length + es'.length))) e (0, 0))
    refine hs3.turn (j := .row (some ⟨w.heap.size, 0, none⟩) (grownCap w (es.length + es'.length) cap e) e sz (es ++ es')) rfl rfl rfl (Nat.le_refl _) (fun _ _ _ => rfl) ?_ (fun y hy => .inl (by simpa [Item.foot] using hy)) (by simp [Item.foot])
    have hl1 := flatten_length holds.1
    have hl2 := flatten_length hes
    refine ⟨_, (0, 0), rfl, World.alloc_heap_new _ _, ?_, by simpa using hge, ?_, ?_, .inl rfl⟩
    · simp only [Array.size_append, List.size_toArray, List.length_append, size_zeroCells, hzs, hl1, hl2, ← Nat.add_mul]
      congr 1; omega
    · simp only [Array.toList_append, List.flatten_append, List.length_append]
      rw [show (es.length + es'.length) * sz = (es.flatten ++ es'.flatten).length by rw [List.length_append, hl1, hl2, Nat.add_mul]]
      exact List.take_left
    · intro q hq
      rcases List.mem_append.1 hq with h | h
      · exact holds.1 q h
      · exact hes q h
theorem WL.append {t tx e : TypeId} {x y : Operand} {sz by' k : Nat} {z v : Value} {a : Option Addr} {cap len : Nat} {es es' : List (List Value)} {news : List Value} {H1 : SHeap} (hx : r.ev x = some (.slice a len cap)) (hy : r.ev y = some v) (hlen : len = es.length)
    (ho : Out (.row a cap e sz es) H H1) (hu : P.underlying t = some (.slice e)) (hz : zeroB P e = some z) (hsz : sizeB P e = some sz) (hby : bytesB P e = some by') (hzs : z.cells.size = sz)
    (hsrc : Source P w0 m H sz tx v k news) (hk : k = es'.length) (hn : news = es'.flatten) (hes : ∀ q ∈ es', q.length = sz) (h63 : es.length + es'.length ≤ 9223372036854775807) (hb : (es.length + es'.length) * by' ≤ 140737488355328) (hd : Nat.blt d n = true)
    (h : ∀ a' cap', WL P ro n w0 ops Q l ((d, .slice a' (es ++ es').length cap') :: r) ds m (.row a' cap' e sz (es ++ es') :: H1)) :
    WL P ro n w0 ops Q (⟨some d, .call ⟨.builtin .append, #[x, y], #[t, tx]⟩, ty, pos, after, none⟩ :: l) r ds m H := by
  subst hk; subst hn; subst hlen
  refine .gen (fun v m' H' => ∃ a' cap', v = .slice a' (es ++ es').length cap' ∧ m' = m ∧ H' = .row a' cap' e sz (es ++ es') :: H1) hd (fun _ h => by cases h) (fun tmps w hok hs => ?_)
    (by rintro _ _ _ ⟨a', cap', rfl, rfl, rfl⟩; exact h a' cap')
  obtain ⟨a', cap', w', h1, h2⟩ := run_append_row (ty := ty) hu hz hsz hby hzs (hs.perm ho.perm) (hsrc w hs) hes h63 hb
  refine ⟨_, m, _, w', ?_, h2, a', cap', rfl, rfl, rfl⟩
  simp only [execOp, resolve, invoke, builtin, Sem.run_bind, Sem.run_pure, Result.andThen_ok, List.map_toArray, List.map_cons, List.map_nil, hok.ev hx, hok.ev hy, h1]
/-- a nil slice becomes a row of one's own -/
theorem WL.newRow {T : TypeId} {sz : Nat} (h : WL P ro n w0 ops Q l r ds m (.row none 0 T sz [] :: H)) : WL P ro n w0 ops Q l r ds m H :=
  fun tmps w ho hs => h tmps w ho ⟨hs.os, hs.tape, hs.output, hs.size, hs.pers, fun i hi => by
    cases hi with
    | head => exact ⟨rfl, rfl⟩
    | tail _ hi => exact hs.own i hi, by simpa [SHeap.foot, Item.foot] using hs.sep, by simpa [SHeap.foot, Item.foot] using hs.free⟩
theorem WC.newRow {c : Code} {T : TypeId} {sz : Nat} (h : WC P ro n w0 c Q r ds m (.row none 0 T sz [] :: H)) : WC P ro n w0 c Q r ds m H :=
  fun tmps w ho hs => h tmps w ho ⟨hs.os, hs.tape, hs.output, hs.size, hs.pers, fun i hi => by
    cases hi with
    | head => exact ⟨rfl, rfl⟩
    | tail _ hi => exact hs.own i hi, by simpa [SHeap.foot, Item.foot] using hs.sep, by simpa [SHeap.foot, Item.foot] using hs.free⟩

/-! ### bytes to a text -/
theorem push_all : ∀ (s acc : List UInt8), (s.map fun b => (b.toNat : Int)).foldl (fun (q : ByteArray) (n : Int) => q.push (UInt8.ofNat n.toNat)) ⟨acc.toArray⟩ = ⟨(acc ++ s).toArray⟩
  | [], acc => by simp
  | b :: s, acc => by
    simp only [List.map_cons, List.foldl_cons]
    have : (⟨acc.toArray⟩ : ByteArray).push (UInt8.ofNat (Int.toNat (b.toNat : Int))) = ⟨(acc ++ [b]).toArray⟩ := by
      apply ByteArray.ext
      simp [ByteArray.push]
    rw [this, push_all s (acc ++ [b])]
    simp
theorem WL.bytesStr {src dst e : TypeId} {x : Operand} {v : Value} {s : List UInt8} (hx : r.ev x = some v) (hs1 : P.underlying src = some (.slice e)) (hs2 : P.underlying dst = some .string) (hs3 : P.underlying e = some (.int .u8)) (hsz : sizeB P e = some 1)
    (hsrc : (v = .slice none 0 0 ∧ s = []) ∨ ∃ a cap, v = .slice (some a) s.length cap ∧ Cells w0 m H a (s.map fun b => Value.int .u8 (b.toNat : Int))) (hd : Nat.blt d n = true)
    (h : WL P ro n w0 ops Q l ((d, str s) :: r) ds m H) : WL P ro n w0 ops Q (⟨some d, .convert src dst x, ty, pos, after, none⟩ :: l) r ds m H :=
  .val hd (fun _ h => by cases h) (fun tmps w ho hs => by
    have e1 := hsz
    rcases hsrc with ⟨rfl, rfl⟩ | ⟨a, cap, rfl, hc⟩
    · simp [execOp, ho.ev hx, convert, run_underlying hs1, run_underlying hs2, run_underlying hs3, Conv.bytesToString]
      rfl
    · have hl := run_loadCells_list (P := P) (w := w) a (s.map fun b => Value.int .u8 (b.toNat : Int)) (fun j v hj => hc w hs j v hj)
      have hl' : (loadCells a s.length).run P w = .ok ((s.map fun b => (b.toNat : Int)).map (Value.int .u8)).toArray w := by
        simpa [List.map_map, Function.comp_def] using hl
      have hb := run_bytesToString (P := P) w a s.length cap _ hl'
      have hp := push_all s []
      simp only [List.nil_append] at hp
      rw [show (ByteArray.empty : ByteArray) = ⟨([] : List UInt8).toArray⟩ from rfl, hp] at hb
      simp only [execOp, ho.ev hx, convert, Sem.run_bind, run_underlying hs1, run_underlying hs2, run_underlying hs3, Result.andThen_ok, hb, Sem.run_pure]) h
theorem row_cells {a : Addr} {cap : Nat} {T : TypeId} {s : List UInt8} (hm : Item.row (some a) cap T 1 (s.map fun b => [Value.int .u8 (b.toNat : Int)]) ∈ H) : Cells w0 m H a (s.map fun b => Value.int .u8 (b.toNat : Int)) := by
  intro w hs j v hj
  have hj' : (s.map fun b => [Value.int .u8 (b.toNat : Int)])[j]? = some [v] := by
    simp only [List.getElem?_map, Option.map_eq_some_iff] at hj ⊢
    obtain ⟨b, hb, rfl⟩ := hj
    exact ⟨b, hb, rfl⟩
  have := (row_at (hs.own _ hm) hj').2 0 v rfl
  simpa using this
/-- an own row of bytes -/
theorem WL.rowStr {src dst e : TypeId} {x : Operand} {a : Option Addr} {len cap : Nat} {s : List UInt8} (hx : r.ev x = some (.slice a len cap)) (hlen : len = s.length) (hm : Item.row a cap e 1 (s.map fun b => [Value.int .u8 (b.toNat : Int)]) ∈ H)
    (hs1 : P.underlying src = some (.slice e)) (hs2 : P.underlying dst = some .string) (hs3 : P.underlying e = some (.int .u8)) (hsz : sizeB P e = some 1) (hd : Nat.blt d n = true)
    (h : WL P ro n w0 ops Q l ((d, str s) :: r) ds m H) : WL P ro n w0 ops Q (⟨some d, .convert src dst x, ty, pos, after, none⟩ :: l) r ds m H := by
  subst hlen
  intro tmps w ho hs
  cases a with
  | none =>
    have h1 : (s.map fun b => [Value.int .u8 (b.toNat : Int)]) = [] ∧ cap = 0 := hs.own _ hm
    obtain ⟨h1, h2⟩ := h1
    have h3 : s = [] := by simpa using h1
    subst h3; subst h2
    exact WL.bytesStr hx hs1 hs2 hs3 hsz (.inl ⟨rfl, rfl⟩) hd h tmps w ho hs
  | some a => exact WL.bytesStr hx hs1 hs2 hs3 hsz (.inr ⟨a, cap, rfl, row_cells hm⟩) hd h tmps w ho hs

/-! ### results -/
theorem res_tmp {fn : Func} {t : Tmp} {v : Value} (hf : fn.results = #[.tmp t]) (hv : r.get t = some v) : ∀ tmps w, r.ok n tmps → Sat w0 m H w → (results fn tmps).run P w = .ok v w := by
  intro tmps w ho _
  rw [results_tmp hf, Array.getD_eq_getD_getElem?, ho.at_ _ _ hv]; rfl
theorem res_none {fn : Func} (hf : fn.results = #[]) : ∀ tmps w, r.ok n tmps → Sat w0 m H w → (results fn tmps).run P w = .ok (.tuple #[]) w := by
  intro tmps w _ _
  rw [results_none hf]
/-- one result after the other -/
inductive ResAll (P : Program) (w0 : World) (m : Mem) (H : SHeap) (r : Env) : List ResultVar → List Value → Prop
  | nil : ResAll P w0 m H r [] []
  | tmp {t : Tmp} {v : Value} {rs : List ResultVar} {vs : List Value} : r.get t = some v → ResAll P w0 m H r rs vs → ResAll P w0 m H r (.tmp t :: rs) (v :: vs)
  | cell {t : Tmp} {u : TypeId} {a : Addr} {v : Value} {rs : List ResultVar} {vs : List Value} : r.get t = some (.pointer (some a)) → Loads P w0 m H u a v → ResAll P w0 m H r rs vs → ResAll P w0 m H r (.cell t u :: rs) (v :: vs)
def resOne (tmps : Array Value) : ResultVar → Sem Value
  | .tmp t => pure (tmps.getD t undef)
  | .cell a t => do loadVar t (← asAddr (tmps.getD a undef))
theorem results_eq (fn : Func) (tmps : Array Value) : results fn tmps = (do let vs ← fn.results.mapM (resOne tmps); pure (if h : vs.size = 1 then vs[0] else .tuple vs)) := rfl
theorem ResAll.run {rs : List ResultVar} {vs : List Value} (h : ResAll P w0 m H r rs vs) : ∀ tmps w, r.ok n tmps → Sat w0 m H w → (rs.mapM (resOne tmps)).run P w = .ok vs w := by
  induction h with
  | nil => intro tmps w _ _; simp
  | tmp h1 _ ih =>
    intro tmps w ho hs
    simp only [List.mapM_cons, Sem.run_bind, resOne, Sem.run_pure, Result.andThen_ok, ih tmps w ho hs]
    rw [Array.getD_eq_getD_getElem?, ho.at_ _ _ h1]; rfl
  | cell h1 h2 _ ih =>
    intro tmps w ho hs
    have e : ∀ a t, tmps.getD t undef = .pointer (some a) → (asAddr (tmps.getD t undef)).run P w = .ok a w := fun a t h => by rw [h]; simp [asAddr]
    have e2 := e _ _ (by rw [Array.getD_eq_getD_getElem?, ho.at_ _ _ h1]; rfl)
    simp only [List.mapM_cons, Sem.run_bind, resOne, Sem.run_pure, Result.andThen_ok, e2, h2 w hs, ih tmps w ho hs]
theorem ResAll.all {fn : Func} {rs : List ResultVar} {vs : List Value} (hf : fn.results = rs.toArray) (h : ResAll P w0 m H r rs vs) : ∀ tmps w, r.ok n tmps → Sat w0 m H w →
    (results fn tmps).run P w = .ok (if h : vs.toArray.size = 1 then vs.toArray[0] else .tuple vs.toArray) w := by
  intro tmps w ho hs
  have h1 := h.run tmps w ho hs
  rw [results_eq, hf, Array.mapM_eq_mapM_toList]
  generalize resOne tmps = f at *
  simp [h1]
theorem res_many {fn : Func} {rs : List ResultVar} {vs : List Value} (hf : fn.results = rs.toArray) (h : ResAll P w0 m H r rs vs) (hne : Nat.beq vs.length 1 = false) : ∀ tmps w, r.ok n tmps → Sat w0 m H w → (results fn tmps).run P w = .ok (.tuple vs.toArray) w := by
  intro tmps w ho hs
  have h2 : ¬ vs.toArray.size = 1 := fun e => by rw [show vs.length = 1 from by simpa using e] at hne; cases hne
  rw [h.all hf tmps w ho hs, dif_neg h2]
theorem res_cell {fn : Func} {t : Tmp} {u : TypeId} {a : Addr} {v : Value} (hf : fn.results = #[.cell t u]) (h1 : r.get t = some (.pointer (some a))) (h2 : Loads P w0 m H u a v) : ∀ tmps w, r.ok n tmps → Sat w0 m H w → (results fn tmps).run P w = .ok v w := by
  intro tmps w ho hs
  rw [(ResAll.cell h1 h2 .nil).all (fn := fn) hf tmps w ho hs]
  rfl
end
end Go.Eng
