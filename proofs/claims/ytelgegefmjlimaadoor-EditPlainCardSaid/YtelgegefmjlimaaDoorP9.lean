/-
  Parts of a walk, joined: EngV EV EVW EQ10 EQT. No condition.
-/
import Derived.Test.YtelgegefmjlimaaDoorP4
import Derived.Deep.Strs
import Derived.Test.YtelgegefmjlimaaDoorRows
import Derived.Test.YtelgegefmjlimaaDoorP7
import Derived.Test.YtelgegefmjlimaaDoorP8
import Derived.Test.YtelgegefmjlimaaDoorP5
import Derived.Lib.LaidU8
import Derived.LaidLaws
set_option linter.all false
/-
  A walk's engine: a law's arguments that are slices of elements of several cells. No condition.
-/
set_option linter.all false
namespace Go.Eng
open Go Go.RowKit Go.ChangeShapes Go.WideShapes Go.ChangeMaps
section
variable {H : Type} {enc : TypeId × Value → H} {P : Program}
theorem rows_at {sz : Nat} : ∀ {es : List (List Value)}, (∀ e ∈ es, e.length = sz) → ∀ {j : Nat} {v : Value}, es.flatten[j]? = some v → ∃ i c e, es[i]? = some e ∧ c < sz ∧ j = i * sz + c ∧ e[c]? = some v
  | [], _, j, v, h => by simp at h
  | e :: es, he, j, v, h => by
    have hl : e.length = sz := he e List.mem_cons_self
    rw [List.flatten_cons] at h
    by_cases hj : j < sz
    · rw [List.getElem?_append_left (by omega)] at h
      exact ⟨0, j, e, rfl, hj, by simp, h⟩
    · rw [List.getElem?_append_right (by omega), hl] at h
      obtain ⟨i, c, e', h1, h2, h3, h4⟩ := rows_at (fun x hx => he x (List.mem_cons_of_mem _ hx)) h
      exact ⟨i + 1, c, e', by simpa using h1, h2, by rw [Nat.add_mul, Nat.one_mul]; omega, h4⟩
theorem open_rows {α : Type} [Inhabited α] (sz : Nat) (val : α → List Value) (dat : α → DataW H) (ok : α → Prop) (hsz : ∀ x, (val x).length = sz) {W : World} {r : Go.Reach} {b0 : Nat} {t e : TypeId} {v : Value} {d : DataW H} {ps : List MemPlace} (ht : P.underlying t = some (.slice e)) (hc : P.cellsOf e = sz)
    (hone : ∀ (n : Nat) (u : List Value) (y : DataW H × List MemPlace), DataW.trod enc P W 0 (fun _ => true) true n e u = some y → ∃ x, u = val x ∧ y.1 = dat x ∧ ok x)
    (hval : Value.okWide P W r b0 t v) (h : DataW.Trod enc P W 0 (fun _ => true) true t v d ps) : ∃ (a : Option Addr) (cap : Nat) (ns : List α) (spare : List (DataW H)), v = .slice a ns.length cap ∧ ns.length ≤ cap ∧ (∀ x ∈ ns, ok x) ∧
      (d = .nil ∧ ns = [] ∨ d = .slice (ns.map dat) spare) ∧ ∀ w0 Hp, RowR w0 (memOf W) Hp sz a (ns.map val) := by
  obtain ⟨a, len, cap, rfl⟩ := okWide_slice ht hval
  obtain ⟨n, hn⟩ := h
  rcases Deep.open_slice ht hn with ⟨h1, h2⟩ | ⟨a', len', cap', m, n', D, Pl, h1, _, hle, _, hm, h2, hx⟩
  · simp [Value.cells] at h1
    obtain ⟨rfl, rfl, rfl⟩ := h1
    exact ⟨none, 0, [], [], rfl, Nat.le_refl _, (by simp), .inl ⟨congrArg Prod.fst h2, rfl⟩, fun _ _ => RowR.nil⟩
  · simp [Value.cells] at h1
    obtain ⟨rfl, rfl, rfl⟩ := h1
    simp only [if_true] at hm
    subst hm
    rw [hc] at hx
    obtain ⟨X, hX⟩ := Deep.choose_lt (α := α) (n := m) (p := fun i x => W.cells? 0 (a'.add (i * sz)) sz = some (val x) ∧ D i = dat x ∧ ok x) (fun i hi => by
      obtain ⟨u, g1, g2⟩ := hx i hi
      obtain ⟨x, rfl, e2, e3⟩ := hone _ _ _ g2
      exact ⟨x, g1, e2, e3⟩)
    refine ⟨some a', m, (List.range len).map X, (List.range (m - len)).map fun j => D (len + j), by simp, by simpa using hle, ?_, .inr ?_, fun w0 Hp => ?_⟩
    · intro x hxm
      obtain ⟨i, hi, rfl⟩ := List.mem_map.1 hxm
      exact (hX i (by have := List.mem_range.1 hi; omega)).2.2
    · have := congrArg Prod.fst h2
      simp only at this
      rw [this, List.map_map]
      congr 1
      exact List.map_congr_left fun i hi => (hX i (by have := List.mem_range.1 hi; omega)).2.1
    · have hall : ∀ e ∈ ((List.range len).map X).map val, e.length = sz := by
        intro e he
        obtain ⟨x, _, rfl⟩ := List.mem_map.1 he
        exact hsz x
      refine RowR.came hall ?_
      intro j v hj
      obtain ⟨i, c, e, h1, h2, rfl, h4⟩ := rows_at hall hj
      rw [List.getElem?_map, List.getElem?_map] at h1
      obtain ⟨x, hx1, rfl⟩ := Option.map_eq_some_iff.1 h1
      obtain ⟨i', hi, rfl⟩ := Option.map_eq_some_iff.1 hx1
      obtain ⟨hjl, rfl⟩ := List.getElem?_eq_some_iff.1 hi
      rw [List.getElem_range] at h4
      have hjl' : i < len := by simpa using hjl
      have g := (World.cells?_some (hX i (by omega)).1).2.2 c h2
      rw [h4] at g
      rw [← g, Go.Addr.add_add]
/-- slices of elements of three cells: a number and two texts -/
theorem open_trips {k : IntKind} {f0 f1 f2 : Field} {W : World} {r : Go.Reach} {b0 : Nat} {t e : TypeId} {v : Value} {d : DataW H} {ps : List MemPlace} (ht : P.underlying t = some (.slice e)) (he : P.underlying e = some (.struct #[f0, f1, f2])) (hc : P.cellsOf e = 3)
    (h0 : f0.offset = 0 ∧ P.underlying f0.type = some (.int k) ∧ P.cellsOf f0.type = 1) (h1 : f1.offset = 1 ∧ P.underlying f1.type = some .string ∧ P.cellsOf f1.type = 1) (h2 : f2.offset = 2 ∧ P.underlying f2.type = some .string ∧ P.cellsOf f2.type = 1)
    (hval : Value.okWide P W r b0 t v) (h : DataW.Trod enc P W 0 (fun _ => true) true t v d ps) : ∃ (a : Option Addr) (cap : Nat) (ns : List (Int × List UInt8 × List UInt8)) (spare : List (DataW H)), v = .slice a ns.length cap ∧ ns.length ≤ cap ∧ (∀ x ∈ ns, (Lit.int k x.1).wf = true) ∧
      (d = .nil ∧ ns = [] ∨ d = .slice (ns.map fun x => .agg [.lit (.int k x.1), .lit (.string x.2.1), .lit (.string x.2.2)]) spare) ∧ ∀ w0 Hp, RowR w0 (memOf W) Hp 3 a (ns.map fun x => [Value.int k x.1, str x.2.1, str x.2.2]) := by
  refine open_rows 3 (fun x : Int × List UInt8 × List UInt8 => [Value.int k x.1, str x.2.1, str x.2.2]) _ (fun x => (Lit.int k x.1).wf = true) (fun _ => rfl) ht hc (fun n u y hy => ?_) hval h
  obtain ⟨y0, y1, y2, m, rfl, hl, g0, g1, g2⟩ := Deep.trod_struct3 he hy
  rw [hc] at hl
  obtain ⟨c0, c1, c2, rfl⟩ : ∃ c0 c1 c2, u = [c0, c1, c2] := by
    match u, hl with
    | [c0, c1, c2], _ => exact ⟨c0, c1, c2, rfl⟩
  rw [h0.1, h0.2.2] at g0
  rw [h1.1, h1.2.2] at g1
  rw [h2.1, h2.2.2] at g2
  obtain ⟨x0, e0, d0, w0⟩ := DataW.trod_int h0.2.1 g0
  obtain ⟨x1, e1, d1, w1⟩ := DataW.trod_string h1.2.1 g1
  obtain ⟨x2, e2, d2, w2⟩ := DataW.trod_string h2.2.1 g2
  simp at e0 e1 e2
  subst e0 e1 e2 d0 d1 d2
  refine ⟨(x0, x1.data.toList, x2.data.toList), rfl, ?_, w0⟩
  simp
end
end Go.Eng

/-
  How the laws' arguments that are changes are read. No condition.
-/
namespace Go.Eng
open Go Go.RowKit Go.ChangeShapes Go.WideShapes Go.ChangeMaps
def Stp.dat {H : Type} (x : Stp) : DataW H := .agg [.lit (.int .i64 x.k), .lit (.string x.d), .lit (.string x.p)]
theorem open_steps {H : Type} {enc : TypeId × Value → H} {P : Program} {f0 f1 f2 : Field} {W : World} {r : Go.Reach} {b0 : Nat} {t e : TypeId} {v : Value} {d : DataW H} {ps : List MemPlace} (ht : P.underlying t = some (.slice e)) (he : P.underlying e = some (.struct #[f0, f1, f2])) (hc : P.cellsOf e = 3)
    (h0 : f0.offset = 0 ∧ P.underlying f0.type = some (.int .i64) ∧ P.cellsOf f0.type = 1) (h1 : f1.offset = 1 ∧ P.underlying f1.type = some .string ∧ P.cellsOf f1.type = 1) (h2 : f2.offset = 2 ∧ P.underlying f2.type = some .string ∧ P.cellsOf f2.type = 1)
    (hval : Value.okWide P W r b0 t v) (h : DataW.Trod enc P W 0 (fun _ => true) true t v d ps) : ∃ (a : Option Addr) (cap : Nat) (l : List Stp) (spare : List (DataW H)), v = .slice a l.length cap ∧ l.length ≤ cap ∧ (∀ x ∈ l, -9223372036854775808 ≤ x.k ∧ x.k ≤ 9223372036854775807) ∧
      (d = .nil ∧ l = [] ∨ d = .slice (l.map Stp.dat) spare) ∧ ∀ w0 Hp, RowR w0 (memOf W) Hp 3 a (l.map Stp.cs) := by
  obtain ⟨a, cap, ns, sp, h1, h2, h3, h4, h5⟩ := open_trips (k := .i64) ht he hc h0 h1 h2 hval h
  refine ⟨a, cap, ns.map fun x => ⟨x.1, x.2.1, x.2.2⟩, sp, by rw [List.length_map]; exact h1, by rw [List.length_map]; exact h2, ?_, ?_, ?_⟩
  · intro x hx
    obtain ⟨y, hy, rfl⟩ := List.mem_map.1 hx
    have := h3 y hy
    simp only [Lit.wf, Bool.and_eq_true, decide_eq_true_eq] at this
    exact this
  · rcases h4 with ⟨g1, g2⟩ | g
    · exact .inl ⟨g1, by rw [g2]; rfl⟩
    · exact .inr (by rw [g, List.map_map]; rfl)
  · intro w0 Hp
    have := h5 w0 Hp
    rwa [List.map_map]
end Go.Eng
namespace Go.Proofs.YtelgegefmjlimaaDoor
open Go Go.Eng
end Go.Proofs.YtelgegefmjlimaaDoor

/-
  How large a change may be that a law is given: as large as the reading's own reach has it. No condition.
-/
namespace Go.Eng
open Go
theorem stp_weights {H : Type} {P : Program} {e : TypeId} {f0 f1 f2 : Field} (he : P.underlying e = some (.struct #[f0, f1, f2])) (x : Stp) : DataW.weights P e (Stp.dat (H := H) x) = [x.d.length, x.p.length] := by
  simp [Stp.dat, DataW.weights, he, DataW.weightsEach]
theorem steps_weights {H : Type} {P : Program} {e : TypeId} {f0 f1 f2 : Field} (he : P.underlying e = some (.struct #[f0, f1, f2])) : ∀ (l : List Stp), ∀ x ∈ l, x.d.length ∈ DataW.weightsAll P e (l.map (Stp.dat (H := H))) ∧ x.p.length ∈ DataW.weightsAll P e (l.map (Stp.dat (H := H)))
  | [], x, h => by cases h
  | y :: l, x, h => by
    rw [List.map_cons, DataW.weightsAll, stp_weights he]
    rcases List.mem_cons.1 h with rfl | h
    · simp
    · have := steps_weights (H := H) he l x h
      simp only [List.mem_append]
      exact ⟨.inr this.1, .inr this.2⟩
theorem fitW_of {H : Type} {P : Program} {t e : TypeId} {ts : List TypeId} {f0 f1 f2 : Field} {d : DataW H} {l : List Stp} {spare : List (DataW H)} (ht : P.underlying t = some (.slice e)) (he : P.underlying e = some (.struct #[f0, f1, f2])) (hb : Nat.ble 1 (P.bytesOf e) = true)
    (hk : ∀ x ∈ l, -9223372036854775808 ≤ x.k ∧ x.k ≤ 9223372036854775807) (hd : d = .nil ∧ l = [] ∨ d = .slice (l.map Stp.dat) spare) (hz : (DataW.weightsEach P (t :: ts) ([d] ++ [])).all (· ≤ reachBytes) = true) : FitW l := by
  rcases hd with ⟨rfl, rfl⟩ | rfl
  · exact ⟨by simp, by simp, by simp, by simp⟩
  · have hr : reachBytes ≤ 140737488355328 := by decide
    have hz' : ∀ w ∈ DataW.weights P t (.slice (l.map (Stp.dat (H := H))) spare), w ≤ reachBytes := by
      intro w hw
      have := List.all_eq_true.1 hz w (by
        rw [List.singleton_append, DataW.weightsEach]
        exact List.mem_append_left _ hw)
      exact of_decide_eq_true this
    rw [DataW.weights, ht] at hz'
    have h1 := hz' _ List.mem_cons_self
    have hb' := Nat.le_of_ble_eq_true hb
    rw [List.length_map] at h1
    have h2 : l.length * 1 ≤ (l.length + spare.length) * P.bytesOf e := Nat.mul_le_mul (Nat.le_add_right _ _) hb'
    refine ⟨by omega, hk, fun x hx => ?_, fun x hx => ?_⟩
    · have := hz' x.d.length (List.mem_cons_of_mem _ (List.mem_append_left _ (steps_weights he l x hx).1))
      omega
    · have := hz' x.p.length (List.mem_cons_of_mem _ (List.mem_append_left _ (steps_weights he l x hx).2))
      omega
end Go.Eng

/-
  What the law EditPlain needs. No condition.
-/

/-
  The library's tables and its error, as a row's list of variables has them. No condition.
-/
namespace Go.Proofs.YtelgegefmjlimaaDoor
open Go Go.Eng
set_option maxRecDepth 100000
theorem gtabs_of {W : World} (h : laidMet Tryd.prog Rows.editReadsRow.laid W) : GTabs Tryd.prog (memOf W) := by
  obtain ⟨g1, t1, cs1, f1, p1, a1, b1, c1, d1⟩ := Lib.laidMet.reads h (n := "internal/strconv.uint64pow10") (d := Rows.laid_internal_strconv_uint64pow10) (.tail _ (.tail _ (.head _)))
  obtain ⟨g2, t2, cs2, f2, p2, a2, b2, c2, d2⟩ := Lib.laidMet.reads h (n := "math/bits.deBruijn64tab") (d := Rows.laid_math_bits_deBruijn64tab) (.tail _ (.head _))
  obtain ⟨g3, t3, cs3, f3, p3, a3, b3, c3, d3⟩ := Lib.laidMet.reads h (n := "strconv.ErrRange") (d := Rows.laid_strconv_ErrRange) (.tail _ (.tail _ (.tail _ (.head _))))
  obtain rfl := Option.some.inj ((show Tryd.prog.globalNamed "internal/strconv.uint64pow10" = some 2 by kernel_rfl).symm.trans a1)
  obtain rfl := Option.some.inj ((show Tryd.prog.globalNamed "math/bits.deBruijn64tab" = some 5 by kernel_rfl).symm.trans a2)
  obtain rfl := Option.some.inj ((show Tryd.prog.globalNamed "strconv.ErrRange" = some 1 by kernel_rfl).symm.trans a3)
  obtain rfl := Option.some.inj ((show (Tryd.prog.globals[2]?).map (·.type) = some 177 by kernel_rfl).symm.trans b1)
  obtain rfl := Option.some.inj ((show (Tryd.prog.globals[5]?).map (·.type) = some 186 by kernel_rfl).symm.trans b2)
  obtain rfl := Option.some.inj ((show (Tryd.prog.globals[1]?).map (·.type) = some 131 by kernel_rfl).symm.trans b3)
  have e1 : cs1.toList = Lib.pow10Tab.map fun z => Value.int .u64 z := Lib.cells_of_tab (k := .u64) (zs := Lib.pow10Tab) Tryd.underlying177 Tryd.underlying161 (by kernel_rfl) (by kernel_rfl) d1
  have e2 := Lib.cells_of_tab (k := .u8) (zs := [0, 1, 56, 2, 57, 49, 28, 3, 61, 58, 42, 50, 38, 29, 17, 4, 62, 47, 59, 36, 45, 43, 51, 22, 53, 39, 33, 30, 24, 18, 12, 5, 63, 55, 48, 27, 60, 41, 37, 16, 46, 35, 44, 21, 52, 32, 23, 11, 54, 26, 40, 15, 34, 20, 31, 10, 25, 14, 19, 9, 13, 8, 7, 6]) Tryd.underlying186 Tryd.underlying5 (by kernel_rfl) (by kernel_rfl) d2
  obtain ⟨_, u, v, e3, _, _⟩ := iface_of_trod Tryd.underlying131 d3
  refine ⟨GV.of ?_, ⟨u, v, GV.of ?_⟩, GV.of ?_⟩
  · rw [c1, ← e1]
  · rw [c3, ← e3]
  · rw [c2, ← e2]
end Go.Proofs.YtelgegefmjlimaaDoor

