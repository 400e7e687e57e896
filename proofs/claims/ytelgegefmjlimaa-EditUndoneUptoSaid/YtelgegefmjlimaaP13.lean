/-
  Parts of a walk, joined: E28 EngV EV LM4. No condition.
-/
import Derived.Test.YtelgegefmjlimaaP12
import Derived.Test.YtelgegefmjlimaaP6
import Derived.Deep.Strs
import Derived.Test.YtelgegefmjlimaaRows
/-
  The walk of the law EditUndone. No condition.
-/
namespace Go.Proofs.Ytelgegefmjlimaa
open Go Go.Eng
set_option maxRecDepth 100000
set_option maxHeartbeats 4000000
set_option linter.all false
attribute [local irreducible] WL WC WQ QFun QLoop Does Q1 QRound QAssign Go.Addr.add
theorem sq_E28_1 {G : Prop} (h : G := by (repeat (first | (refine sp ?_; (repeat intro zzc)) | (refine iF 12 rfl ?_; refine w_callG Try.func12 ?_ (hs := live_any _ _ _)))); exact WQ.q1 rfl) : G := h
theorem st_E28_1 {G G' : Prop} (next : G') (h : Bx G' → G := by intro zzn; (first | ((refine st ?_; (repeat intro zzc)); (try ((first | (refine iF 12 rfl ?_; refine w_callG Try.func12 ?_ (hs := live_any _ _ _)) | ((refine iDraw ?_; (first | refine WC.drawAll rfl (by decide +kernel) ?_ | refine WC.draw 1 rfl (by decide +kernel) ?_ | refine WC.draw 2 rfl (by decide +kernel) ?_ | refine WC.draw 3 rfl (by decide +kernel) ?_ | refine WC.draw 4 rfl (by decide +kernel) ?_ | refine WC.draw 5 rfl (by decide +kernel) ?_ | refine WC.draw 6 rfl (by decide +kernel) ?_ | refine WC.draw 7 rfl (by decide +kernel) ?_ | refine WC.draw 8 rfl (by decide +kernel) ?_ | refine WC.draw 9 rfl (by decide +kernel) ?_ | refine WC.draw 10 rfl (by decide +kernel) ?_ | refine WC.draw 11 rfl (by decide +kernel) ?_ | refine WC.draw 12 rfl (by decide +kernel) ?_ | refine WC.draw 13 rfl (by decide +kernel) ?_ | refine WC.draw 14 rfl (by decide +kernel) ?_ | refine WC.draw 15 rfl (by decide +kernel) ?_ | refine WC.draw 16 rfl (by decide +kernel) ?_ | refine WC.draw 17 rfl (by decide +kernel) ?_ | refine WC.draw 18 rfl (by decide +kernel) ?_ | refine WC.draw 19 rfl (by decide +kernel) ?_ | refine WC.draw 20 rfl (by decide +kernel) ?_ | refine WC.draw 21 rfl (by decide +kernel) ?_ | refine WC.draw 22 rfl (by decide +kernel) ?_ | refine WC.draw 23 rfl (by decide +kernel) ?_ | refine WC.draw 24 rfl (by decide +kernel) ?_)); (repeat (refine WD.cons rfl (fun c h => by cases h) sq_E28_1 ?_)); refine WD.nil ?_)); (try (refine st ?_; (repeat intro zzc)))))) | ((first | (refine iF 12 rfl ?_; refine w_callG Try.func12 ?_ (hs := live_any _ _ _)) | ((refine iDraw ?_; (first | refine WC.drawAll rfl (by decide +kernel) ?_ | refine WC.draw 1 rfl (by decide +kernel) ?_ | refine WC.draw 2 rfl (by decide +kernel) ?_ | refine WC.draw 3 rfl (by decide +kernel) ?_ | refine WC.draw 4 rfl (by decide +kernel) ?_ | refine WC.draw 5 rfl (by decide +kernel) ?_ | refine WC.draw 6 rfl (by decide +kernel) ?_ | refine WC.draw 7 rfl (by decide +kernel) ?_ | refine WC.draw 8 rfl (by decide +kernel) ?_ | refine WC.draw 9 rfl (by decide +kernel) ?_ | refine WC.draw 10 rfl (by decide +kernel) ?_ | refine WC.draw 11 rfl (by decide +kernel) ?_ | refine WC.draw 12 rfl (by decide +kernel) ?_ | refine WC.draw 13 rfl (by decide +kernel) ?_ | refine WC.draw 14 rfl (by decide +kernel) ?_ | refine WC.draw 15 rfl (by decide +kernel) ?_ | refine WC.draw 16 rfl (by decide +kernel) ?_ | refine WC.draw 17 rfl (by decide +kernel) ?_ | refine WC.draw 18 rfl (by decide +kernel) ?_ | refine WC.draw 19 rfl (by decide +kernel) ?_ | refine WC.draw 20 rfl (by decide +kernel) ?_ | refine WC.draw 21 rfl (by decide +kernel) ?_ | refine WC.draw 22 rfl (by decide +kernel) ?_ | refine WC.draw 23 rfl (by decide +kernel) ?_ | refine WC.draw 24 rfl (by decide +kernel) ?_)); (repeat (refine WD.cons rfl (fun c h => by cases h) sq_E28_1 ?_)); refine WD.nil ?_)); (try (refine st ?_; (repeat intro zzc))))); (repeat ((first | (refine iF 12 rfl ?_; refine w_callG Try.func12 ?_ (hs := live_any _ _ _)) | ((refine iDraw ?_; (first | refine WC.drawAll rfl (by decide +kernel) ?_ | refine WC.draw 1 rfl (by decide +kernel) ?_ | refine WC.draw 2 rfl (by decide +kernel) ?_ | refine WC.draw 3 rfl (by decide +kernel) ?_ | refine WC.draw 4 rfl (by decide +kernel) ?_ | refine WC.draw 5 rfl (by decide +kernel) ?_ | refine WC.draw 6 rfl (by decide +kernel) ?_ | refine WC.draw 7 rfl (by decide +kernel) ?_ | refine WC.draw 8 rfl (by decide +kernel) ?_ | refine WC.draw 9 rfl (by decide +kernel) ?_ | refine WC.draw 10 rfl (by decide +kernel) ?_ | refine WC.draw 11 rfl (by decide +kernel) ?_ | refine WC.draw 12 rfl (by decide +kernel) ?_ | refine WC.draw 13 rfl (by decide +kernel) ?_ | refine WC.draw 14 rfl (by decide +kernel) ?_ | refine WC.draw 15 rfl (by decide +kernel) ?_ | refine WC.draw 16 rfl (by decide +kernel) ?_ | refine WC.draw 17 rfl (by decide +kernel) ?_ | refine WC.draw 18 rfl (by decide +kernel) ?_ | refine WC.draw 19 rfl (by decide +kernel) ?_ | refine WC.draw 20 rfl (by decide +kernel) ?_ | refine WC.draw 21 rfl (by decide +kernel) ?_ | refine WC.draw 22 rfl (by decide +kernel) ?_ | refine WC.draw 23 rfl (by decide +kernel) ?_ | refine WC.draw 24 rfl (by decide +kernel) ?_)); (repeat (refine WD.cons rfl (fun c h => by cases h) sq_E28_1 ?_)); refine WD.nil ?_)); (try (refine st ?_; (repeat intro zzc))))); (repeat revert zzc); exact zzn.out) : G := h ⟨next⟩
attribute [local irreducible] sizesOf applyV listOf plainOf applyA
theorem editUndone_any {pa : Option Addr} {ca : Nat} {a : List Stp} {s : List UInt8} {hand : Int} (hsl : s.length ≤ 1048576) (hh : -9223372036854775808 ≤ hand ∧ hand ≤ 9223372036854775807) (hfa : Fit a) (w0 : World) (m : Mem) (H : SHeap) (hra : ∀ Hp, RowR w0 m Hp 3 pa (a.map Stp.cs)) :
    Does Try.prog 10 #[str s, .int .i64 hand, .slice pa a.length ca] w0 m H (fun v m' _ => v = .bool true ∧ m.le m') := by
  refine Does.of_body (args := [str s, .int .i64 hand, .slice pa a.length ca]) Try.func10 rfl Try.ntmps10 rfl ?_
  have hla := hfa.len
  (try (refine st_E28_1 ?_; intros))
  refine w_callF Try.func13 ?_ (hs := ref_any hfa _ _ _ hra)
  rintro v m _ ⟨rfl, (⟨hsm, c1, p1, rfl, rfl⟩ | ⟨hsm, rfl, rfl⟩)⟩
  · by_cases hsl2 : s.length ≤ 5000
    · by_cases hh2 : hand < 0
      · (try (refine st_E28_1 ?_; intros))
        (refine q_fin0 ?_)
        exact ⟨rfl, Mem.le.refl _⟩
      · (try (refine st_E28_1 ?_; intros))
        refine w_callF Try.func14 ?_ (hs := refSizes_any hfa _ _ _ (RowR.row (a := c1) (by (repeat (first | exact List.Mem.head _ | apply List.Mem.tail)))))
        rintro v m H1 ⟨rfl, rfl, rfl⟩
        have hz : ∃ f t bb, szR (sizesOf a) = .tuple #[.int .i64 f, .int .i64 t, .bool bb] ∧ (bb = false ↔ sizesOf a = none) := by
          cases sizesOf a with
          | none => exact ⟨_, _, _, rfl, by simp⟩
          | some x => exact ⟨_, _, _, rfl, by simp⟩
        obtain ⟨f, t, bb, hz, hbb⟩ := hz
        rw [hz]
        (try (refine st_E28_1 ?_; intros))
        refine w_callF Try.func30 ?_ (hs := new_any (s := s) (by omega) _ _ _)
        rintro v m H1 ⟨rfl, b, rfl, rfl⟩
        (try (refine st_E28_1 ?_; intros))
        refine w_callF Try.func31 ?_ (hs := send_any ⟨by omega, hh.2⟩ hfa (by omega) _ _ _ (hra _))
        rintro v m H1 ⟨rfl, (⟨e, he, rfl, rfl, hen⟩ | ⟨u, tt, hsz, hu, c, cp, c2, cp2, ra, cra, rfl, rfl⟩)⟩
        · have hno : bb = false ∨ bb = true := by cases bb <;> simp
          rcases hno with rfl | rfl
          all_goals
            (try (refine st_E28_1 ?_; intros))
            refine WL.newRow (T := 136) (sz := 3) ?_
            refine WL.heap (H' := .blk b (.cells [str s, str s, .slice none 0 0].toArray 131 (0, 0)) :: .row none 0 136 3 [] :: .row c1 p1 84 3 (a.map Stp.cs) :: H) (fun w h => Pick.sat (by iterate 60 (try (first | exact Pick.all | (apply Pick.take; (· (repeat (first | exact Out.here | apply Out.there)))) | apply Pick.drop))) h) ?_
            refine w_callF Try.func33 ?_ (hs := undo_none (es := []) ⟨by omega, hh.2⟩ (by decide) (by simp) _ _ _)
            rintro v m H1 ⟨rfl, rfl, rfl⟩
            (try (refine st_E28_1 ?_; intros))
            refine w_callF Try.func34 ?_ (hs := revision_any (b := b) (s1 := s) (s2 := s) (k := 0) _ _ _ (by (repeat (first | exact List.Mem.head _ | apply List.Mem.tail))))
            rintro v m H1 ⟨rfl, rfl, rfl⟩
            (try (refine st_E28_1 ?_; intros))
            (refine q_fin0 ?_)
            exact ⟨congrArg Value.bool (dcd_true rfl), Mem.le.refl _⟩
        · have hbt : bb = true := by
            cases bb with
            | true => rfl
            | false => rw [hbb.1 rfl] at hsz; cases hsz
          subst hbt
          have hok := (sized hsz).1
          have hfp := fit_plain hsz
          have hpz := plain_sizes hsz
          obtain ⟨hfr, hsr⟩ := inv_fit hpz
          have hlr := hfr.len
          have hlist : listOf ((atomsOf (plainOf a)).map Atm.inv) = listOf ((nfOf (gapsOf a)).map Atm.inv) := by rw [plain_atoms]
          (try (refine st_E28_1 ?_; intros))
          refine WL.heap (H' := .blk b (.cells [str u, str s, .slice ra 1 cra].toArray 131 (0, 0)) :: .row ra cra 136 3 [sentV hand c2 (plainOf a).length cp2 true] :: .row c2 cp2 59 3 ((plainOf a).map Stp.cs) :: .row c1 p1 84 3 (a.map Stp.cs) :: H) (fun w h => Pick.sat (by iterate 60 (try (first | exact Pick.all | (apply Pick.take; (· (repeat (first | exact Out.here | apply Out.there)))) | apply Pick.drop))) h) ?_
          refine w_callF Try.func33 ?_ (hs := undo_one ⟨by omega, hh.2⟩ hsz hu _ _ _)
          rintro v m H1 ⟨rfl, c3, cp3, c4, cp4, ra2, cra2, rfl, rfl⟩
          (try (refine st_E28_1 ?_; intros))
          refine w_callF Try.func32 ?_ (hs := at_any (b := b) (s1 := s) (s2 := s) (k := 2) rfl _ _ _ (by (repeat (first | exact List.Mem.head _ | apply List.Mem.tail))))
          rintro v m H1 ⟨rfl, rfl, rfl⟩
          (try (refine st_E28_1 ?_; intros))
          refine WL.heap (H' := .blk b (.cells [str s, str s, .slice ra2 2 cra2].toArray 131 (0, 0)) :: .row ra2 cra2 136 3 [sentV hand c2 (plainOf a).length cp2 false, sentV hand c4 (listOf ((atomsOf (plainOf a)).map Atm.inv)).length cp4 false] :: .row c3 cp3 59 3 ((listOf ((atomsOf (plainOf a)).map Atm.inv)).map Stp.cs) :: .row c1 p1 84 3 (a.map Stp.cs) :: H) (fun w h => Pick.sat (by iterate 60 (try (first | exact Pick.all | (apply Pick.take; (· (repeat (first | exact Out.here | apply Out.there)))) | apply Pick.drop))) h) ?_
          refine w_callF Try.func33 ?_ (hs := undo_none (es := [sentV hand c2 (plainOf a).length cp2 false, sentV hand c4 (listOf ((atomsOf (plainOf a)).map Atm.inv)).length cp4 false]) ⟨by omega, hh.2⟩ (by simp) (by intro e he; simp only [List.mem_cons, List.not_mem_nil, or_false] at he; rcases he with rfl | rfl <;> exact ⟨_, _, _, rfl⟩) _ _ _)
          rintro v m H1 ⟨rfl, rfl, rfl⟩
          have hss : s = s := rfl
          (try (refine st_E28_1 ?_; intros))
          refine w_callF Try.func35 ?_ (hs := rInvert_any hfa hsz _ _ _ (RowR.row (a := c1) (by (repeat (first | exact List.Mem.head _ | apply List.Mem.tail)))))
          rintro v m H1 ⟨rfl, c5, cp5, rfl, rfl⟩
          rw [← hlist]
          (try (refine st_E28_1 ?_; intros))
          refine w_callF Try.func19 ?_ (hs := same_any (l := listOf ((atomsOf (plainOf a)).map Atm.inv)) (by omega) _ _ _ (RowR.row (a := c3) (by (repeat (first | exact List.Mem.head _ | apply List.Mem.tail)))) (RowR.row (a := c5) (by (repeat (first | exact List.Mem.head _ | apply List.Mem.tail)))))
          rintro v m H1 ⟨rfl, rfl, rfl⟩
          (try (refine st_E28_1 ?_; intros))
          refine w_callF Try.func34 ?_ (hs := revision_any (b := b) (s1 := s) (s2 := s) (k := 2) _ _ _ (by (repeat (first | exact List.Mem.head _ | apply List.Mem.tail))))
          rintro v m H1 ⟨rfl, rfl, rfl⟩
          (try (refine st_E28_1 ?_; intros))
          (refine q_fin0 ?_)
          exact ⟨congrArg Value.bool (dcd_true rfl), Mem.le.refl _⟩
    · (try (refine st_E28_1 ?_; intros))
      (refine q_fin0 ?_)
      exact ⟨rfl, Mem.le.refl _⟩
  · (try (refine st_E28_1 ?_; intros))
    (refine q_fin0 ?_)
    exact ⟨rfl, Mem.le.refl _⟩
end Go.Proofs.Ytelgegefmjlimaa

/-
  A walk's engine: a law's arguments that are slices of elements of several cells. No condition.
-/
set_option linter.all false
namespace Go.Eng
open Go Go.RowKit Go.ChangeShapes Go.WideShapes Go.ChangeMaps
section
variable {H : Type} {enc : TypeId × Value → H} {P : Program}
theorem rows_at {sz : Nat} : ∀ {es : List (List Value)}, (∀ e ∈ es, e.length = sz) → ∀ {j : Nat} {v : Value}, es.flatten[j]? = some v → ∃ i c e, es[i]? = some e ∧ c < sz ∧ j = i * sz + c ∧ e[c]? = some v
  | [], _, j, v, h => by simp at h
  | e :: es, he, j, v, h => by
    have hl : e.length = sz := he e List.mem_cons_self
    rw [List.flatten_cons] at h
    by_cases hj : j < sz
    · rw [List.getElem?_append_left (by omega)] at h
      exact ⟨0, j, e, rfl, hj, by simp, h⟩
    · rw [List.getElem?_append_right (by omega), hl] at h
      obtain ⟨i, c, e', h1, h2, h3, h4⟩ := rows_at (fun x hx => he x (List.mem_cons_of_mem _ hx)) h
      exact ⟨i + 1, c, e', by simpa using h1, h2, by rw [Nat.add_mul, Nat.one_mul]; omega, h4⟩
theorem open_rows {α : Type} [Inhabited α] (sz : Nat) (val : α → List Value) (dat : α → DataW H) (ok : α → Prop) (hsz : ∀ x, (val x).length = sz) {W : World} {r : Go.Reach} {b0 : Nat} {t e : TypeId} {v : Value} {d : DataW H} {ps : List MemPlace} (ht : P.underlying t = some (.slice e)) (hc : P.cellsOf e = sz)
    (hone : ∀ (n : Nat) (u : List Value) (y : DataW H × List MemPlace), DataW.trod enc P W 0 (fun _ => true) true n e u = some y → ∃ x, u = val x ∧ y.1 = dat x ∧ ok x)
    (hval : Value.okWide P W r b0 t v) (h : DataW.Trod enc P W 0 (fun _ => true) true t v d ps) : ∃ (a : Option Addr) (cap : Nat) (ns : List α) (spare : List (DataW H)), v = .slice a ns.length cap ∧ ns.length ≤ cap ∧ (∀ x ∈ ns, ok x) ∧
      (d = .nil ∧ ns = [] ∨ d = .slice (ns.map dat) spare) ∧ ∀ w0 Hp, RowR w0 (memOf W) Hp sz a (ns.map val) := by
  obtain ⟨a, len, cap, rfl⟩ := okWide_slice ht hval
  obtain ⟨n, hn⟩ := h
  rcases Deep.open_slice ht hn with ⟨h1, h2⟩ | ⟨a', len', cap', m, n', D, Pl, h1, _, hle, _, hm, h2, hx⟩
  · simp [Value.cells] at h1
    obtain ⟨rfl, rfl, rfl⟩ := h1
    exact ⟨none, 0, [], [], rfl, Nat.le_refl _, (by simp), .inl ⟨congrArg Prod.fst h2, rfl⟩, fun _ _ => RowR.nil⟩
  · simp [Value.cells] at h1
    obtain ⟨rfl, rfl, rfl⟩ := h1
    simp only [if_true] at hm
    subst hm
    rw [hc] at hx
    obtain ⟨X, hX⟩ := Deep.choose_lt (α := α) (n := m) (p := fun i x => W.cells? 0 (a'.add (i * sz)) sz = some (val x) ∧ D i = dat x ∧ ok x) (fun i hi => by
      obtain ⟨u, g1, g2⟩ := hx i hi
      obtain ⟨x, rfl, e2, e3⟩ := hone _ _ _ g2
      exact ⟨x, g1, e2, e3⟩)
    refine ⟨some a', m, (List.range len).map X, (List.range (m - len)).map fun j => D (len + j), by simp, by simpa using hle, ?_, .inr ?_, fun w0 Hp => ?_⟩
    · intro x hxm
      obtain ⟨i, hi, rfl⟩ := List.mem_map.1 hxm
      exact (hX i (by have := List.mem_range.1 hi; omega)).2.2
    · have := congrArg Prod.fst h2
      simp only at this
      rw [this, List.map_map]
      congr 1
      exact List.map_congr_left fun i hi => (hX i (by have := List.mem_range.1 hi; omega)).2.1
    · have hall : ∀ e ∈ ((List.range len).map X).map val, e.length = sz := by
        intro e he
        obtain ⟨x, _, rfl⟩ := List.mem_map.1 he
        exact hsz x
      refine RowR.came hall ?_
      intro j v hj
      obtain ⟨i, c, e, h1, h2, rfl, h4⟩ := rows_at hall hj
      rw [List.getElem?_map, List.getElem?_map] at h1
      obtain ⟨x, hx1, rfl⟩ := Option.map_eq_some_iff.1 h1
      obtain ⟨i', hi, rfl⟩ := Option.map_eq_some_iff.1 hx1
      obtain ⟨hjl, rfl⟩ := List.getElem?_eq_some_iff.1 hi
      rw [List.getElem_range] at h4
      have hjl' : i < len := by simpa using hjl
      have g := (World.cells?_some (hX i (by omega)).1).2.2 c h2
      rw [h4] at g
      rw [← g, Go.Addr.add_add]
/-- slices of elements of three cells: a number and two texts -/
theorem open_trips {k : IntKind} {f0 f1 f2 : Field} {W : World} {r : Go.Reach} {b0 : Nat} {t e : TypeId} {v : Value} {d : DataW H} {ps : List MemPlace} (ht : P.underlying t = some (.slice e)) (he : P.underlying e = some (.struct #[f0, f1, f2])) (hc : P.cellsOf e = 3)
    (h0 : f0.offset = 0 ∧ P.underlying f0.type = some (.int k) ∧ P.cellsOf f0.type = 1) (h1 : f1.offset = 1 ∧ P.underlying f1.type = some .string ∧ P.cellsOf f1.type = 1) (h2 : f2.offset = 2 ∧ P.underlying f2.type = some .string ∧ P.cellsOf f2.type = 1)
    (hval : Value.okWide P W r b0 t v) (h : DataW.Trod enc P W 0 (fun _ => true) true t v d ps) : ∃ (a : Option Addr) (cap : Nat) (ns : List (Int × List UInt8 × List UInt8)) (spare : List (DataW H)), v = .slice a ns.length cap ∧ ns.length ≤ cap ∧ (∀ x ∈ ns, (Lit.int k x.1).wf = true) ∧
      (d = .nil ∧ ns = [] ∨ d = .slice (ns.map fun x => .agg [.lit (.int k x.1), .lit (.string x.2.1), .lit (.string x.2.2)]) spare) ∧ ∀ w0 Hp, RowR w0 (memOf W) Hp 3 a (ns.map fun x => [Value.int k x.1, str x.2.1, str x.2.2]) := by
  refine open_rows 3 (fun x : Int × List UInt8 × List UInt8 => [Value.int k x.1, str x.2.1, str x.2.2]) _ (fun x => (Lit.int k x.1).wf = true) (fun _ => rfl) ht hc (fun n u y hy => ?_) hval h
  obtain ⟨y0, y1, y2, m, rfl, hl, g0, g1, g2⟩ := Deep.trod_struct3 he hy
  rw [hc] at hl
  obtain ⟨c0, c1, c2, rfl⟩ : ∃ c0 c1 c2, u = [c0, c1, c2] := by
    match u, hl with
    | [c0, c1, c2], _ => exact ⟨c0, c1, c2, rfl⟩
  rw [h0.1, h0.2.2] at g0
  rw [h1.1, h1.2.2] at g1
  rw [h2.1, h2.2.2] at g2
  obtain ⟨x0, e0, d0, w0⟩ := DataW.trod_int h0.2.1 g0
  obtain ⟨x1, e1, d1, w1⟩ := DataW.trod_string h1.2.1 g1
  obtain ⟨x2, e2, d2, w2⟩ := DataW.trod_string h2.2.1 g2
  simp at e0 e1 e2
  subst e0 e1 e2 d0 d1 d2
  refine ⟨(x0, x1.data.toList, x2.data.toList), rfl, ?_, w0⟩
  simp
end
end Go.Eng

/-
  How the laws' arguments that are changes are read. No condition.
-/
namespace Go.Eng
open Go Go.RowKit Go.ChangeShapes Go.WideShapes Go.ChangeMaps
def Stp.dat {H : Type} (x : Stp) : DataW H := .agg [.lit (.int .i64 x.k), .lit (.string x.d), .lit (.string x.p)]
theorem open_steps {H : Type} {enc : TypeId × Value → H} {P : Program} {f0 f1 f2 : Field} {W : World} {r : Go.Reach} {b0 : Nat} {t e : TypeId} {v : Value} {d : DataW H} {ps : List MemPlace} (ht : P.underlying t = some (.slice e)) (he : P.underlying e = some (.struct #[f0, f1, f2])) (hc : P.cellsOf e = 3)
    (h0 : f0.offset = 0 ∧ P.underlying f0.type = some (.int .i64) ∧ P.cellsOf f0.type = 1) (h1 : f1.offset = 1 ∧ P.underlying f1.type = some .string ∧ P.cellsOf f1.type = 1) (h2 : f2.offset = 2 ∧ P.underlying f2.type = some .string ∧ P.cellsOf f2.type = 1)
    (hval : Value.okWide P W r b0 t v) (h : DataW.Trod enc P W 0 (fun _ => true) true t v d ps) : ∃ (a : Option Addr) (cap : Nat) (l : List Stp) (spare : List (DataW H)), v = .slice a l.length cap ∧ l.length ≤ cap ∧ (∀ x ∈ l, -9223372036854775808 ≤ x.k ∧ x.k ≤ 9223372036854775807) ∧
      (d = .nil ∧ l = [] ∨ d = .slice (l.map Stp.dat) spare) ∧ ∀ w0 Hp, RowR w0 (memOf W) Hp 3 a (l.map Stp.cs) := by
  obtain ⟨a, cap, ns, sp, h1, h2, h3, h4, h5⟩ := open_trips (k := .i64) ht he hc h0 h1 h2 hval h
  refine ⟨a, cap, ns.map fun x => ⟨x.1, x.2.1, x.2.2⟩, sp, by rw [List.length_map]; exact h1, by rw [List.length_map]; exact h2, ?_, ?_, ?_⟩
  · intro x hx
    obtain ⟨y, hy, rfl⟩ := List.mem_map.1 hx
    have := h3 y hy
    simp only [Lit.wf, Bool.and_eq_true, decide_eq_true_eq] at this
    exact this
  · rcases h4 with ⟨g1, g2⟩ | g
    · exact .inl ⟨g1, by rw [g2]; rfl⟩
    · exact .inr (by rw [g, List.map_map]; rfl)
  · intro w0 Hp
    have := h5 w0 Hp
    rwa [List.map_map]
end Go.Eng
namespace Go.Proofs.Ytelgegefmjlimaa
open Go Go.Eng
theorem steps_len {H : Type} (l : List Stp) : l.length ≤ Rows.uptoBulkAll (l.map (Stp.dat (H := H))) ∧ ∀ x ∈ l, x.d.length ≤ Rows.uptoBulkAll (l.map (Stp.dat (H := H))) ∧ x.p.length ≤ Rows.uptoBulkAll (l.map (Stp.dat (H := H))) := by
  induction l with
  | nil => simp
  | cons x l ih =>
    have h1 : Rows.uptoBulk (Stp.dat (H := H) x) = 1 + (x.d.length + 1 + (x.p.length + 1)) + 1 := by simp [Stp.dat, Rows.uptoBulk, Rows.uptoBulkAll]
    simp only [List.map_cons, Rows.uptoBulkAll, List.length_cons]
    refine ⟨by omega, fun y hy => ?_⟩
    rcases List.mem_cons.1 hy with rfl | hy
    · omega
    · have := ih.2 y hy; omega
theorem fit_of {H : Type} {d : DataW H} {l : List Stp} {spare : List (DataW H)} (hk : ∀ x ∈ l, -9223372036854775808 ≤ x.k ∧ x.k ≤ 9223372036854775807) (hd : d = .nil ∧ l = [] ∨ d = .slice (l.map Stp.dat) spare) (hb : Rows.uptoBulk d ≤ 1048576) : Fit l := by
  rcases hd with ⟨rfl, rfl⟩ | rfl
  · exact ⟨by simp, by simp, by simp, by simp⟩
  · simp only [Rows.uptoBulk] at hb
    obtain ⟨h1, h2⟩ := steps_len (H := H) l
    exact ⟨by omega, hk, fun x hx => by have := h2 x hx; omega, fun x hx => by have := h2 x hx; omega⟩
end Go.Proofs.Ytelgegefmjlimaa

/-
  What the law EditUndone needs. No condition.
-/

