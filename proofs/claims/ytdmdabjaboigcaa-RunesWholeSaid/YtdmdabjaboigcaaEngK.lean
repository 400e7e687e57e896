/-
  A walk's engine, eleventh part: equality of values with parts; an element appended to a row; what is let go. No condition.
-/
import Derived.Test.YtdmdabjaboigcaaEngJ
set_option linter.all false
namespace Go.Eng
open Go Go.RowKit
set_option linter.all false
def partB (P : Program) (t : TypeId) (xs : List Value) (o : Nat) : Option Value := match aggB P t with
  | some false => xs[o]?
  | some true => match sizeB P t with
    | some k => some (.agg ((xs.drop o).take k).toArray)
    | none => none
  | none => none
def eqFs (P : Program) (rec : TypeId → Value → Value → Option Bool) : List Field → List Value → List Value → Option Bool
  | [], _, _ => some true
  | f :: fs, xs, ys => match decide (f.name = "_") with
    | true => eqFs P rec fs xs ys
    | false => match partB P f.type xs f.offset, partB P f.type ys f.offset with
      | some u, some v => match rec f.type u v with
        | some b => match eqFs P rec fs xs ys with
          | some c => some (b && c)
          | none => none
        | none => none
      | _, _ => none
/-- equality of values of a type of numbers, truths, texts and structs of such -/
def eqB (P : Program) : Nat → TypeId → Value → Value → Option Bool
  | 0, _, _, _ => none
  | d + 1, t, x, y => match P.underlying t with
    | some .bool => match x, y with
      | .bool a, .bool b => some (a == b)
      | _, _ => none
    | some (.int _) => match x, y with
      | .int k a, .int k' b => match decide (k = k') with
        | true => some (a == b)
        | false => none
      | _, _ => none
    | some .string => match x, y with
      | .string a, .string b => some (a == b)
      | _, _ => none
    | some (.struct fs) => match P.stoodInHeld t, x, y with
      | false, .agg xs, .agg ys => eqFs P (eqB P d) fs.toList xs.toList ys.toList
      | _, _, _ => none
    | _ => none
section
variable {P : Program} {ro : Option Nat} {n : Nat} {w0 : World} {Q : Exit → Act → World → Prop} {r : Env} {ds : List Nat} {m : Mem} {H : SHeap}
  {ops : Array Oper} {l : List Oper} {d : Nat} {ty : TypeId} {pos : String} {after : Array Edge} {x y : Operand} {t t' : TypeId}
theorem run_part {xs : Array Value} {o : Nat} {v : Value} (h : partB P t xs.toList o = some v) (w : World) : (part t xs o).run P w = .ok v w := by
  unfold partB at h
  cases ha : aggB P t with
  | none => simp [ha] at h
  | some b =>
    cases b with
    | false =>
      simp only [ha] at h
      simp only [part, Sem.run_bind, run_agg ha, Result.andThen_ok, Bool.false_eq_true, if_false]
      have h' : xs[o]? = some v := by simpa using h
      simp [h']
    | true =>
      simp only [ha] at h
      cases hs : sizeB P t with
      | none => simp [hs] at h
      | some k =>
        simp only [hs, Option.some.injEq] at h
        subst h
        simp only [part, Sem.run_bind, run_agg ha, Result.andThen_ok, if_true, run_size hs]
        have e : xs.extract o (o + k) = ((xs.toList.drop o).take k).toArray := by
          apply Array.ext'
          simp [List.extract_eq_take_drop]
        rw [e]; rfl
theorem run_eqFs {d : Nat} (ih : ∀ t x y b, eqB P d t x y = some b → ∀ d', d ≤ d' → ∀ w, (Op.equalIn d' t x y).run P w = .ok b w) {d' : Nat} (hd : d ≤ d') {xs ys : Array Value} :
    ∀ (fs : List Field) (b : Bool), eqFs P (eqB P d) fs xs.toList ys.toList = some b → ∀ w,
      ((forIn fs ((none, ()) : Option Bool × Unit) fun f __s =>
          if f.name ≠ "_" then do
            let __do_lift ← part f.type xs f.offset
            let __do_lift_1 ← part f.type ys f.offset
            let __do_lift ← Op.equalIn d' f.type __do_lift __do_lift_1
            if (!__do_lift) = true then pure (ForInStep.done (some false, ()))
              else pure (ForInStep.yield (none, ()))
          else pure (ForInStep.yield (none, ())) : Sem (Option Bool × Unit))).run P w = .ok (if b then none else some false, ()) w
  | [], b, h, w => by
    simp only [eqFs, Option.some.injEq] at h
    subst h
    simp
  | f :: fs, b, h, w => by
    rw [List.forIn_cons]
    unfold eqFs at h
    by_cases hn : f.name = "_"
    · simp only [hn, decide_true] at h
      have := run_eqFs ih hd fs b h w
      simp only [hn, ne_eq, not_true_eq_false, if_false, Sem.run_bind, Sem.run_pure, Result.andThen_ok]
      exact this
    · simp only [hn, decide_false] at h
      cases hu : partB P f.type xs.toList f.offset with
      | none => simp [hu] at h
      | some u =>
        cases hv : partB P f.type ys.toList f.offset with
        | none => simp [hu, hv] at h
        | some v =>
          simp only [hu, hv] at h
          cases he : eqB P d f.type u v with
          | none => simp [he] at h
          | some c =>
            simp only [he] at h
            cases hr : eqFs P (eqB P d) fs xs.toList ys.toList with
            | none => simp [hr] at h
            | some c' =>
              simp only [hr, Option.some.injEq] at h
              subst h
              have h1 := ih _ _ _ _ he d' hd w
              have h2 := run_eqFs ih hd fs c' hr w
              simp only [ne_eq, hn, not_false_eq_true, if_true, Sem.run_bind, run_part hu, run_part hv, Result.andThen_ok, h1]
              cases c with
              | false => simp
              | true =>
                simp only [Bool.not_true, Bool.false_eq_true, if_false, Sem.run_pure, Result.andThen_ok, Bool.true_and]
                exact h2
theorem run_eqB : ∀ (d : Nat) (t : TypeId) (x y : Value) (b : Bool), eqB P d t x y = some b → ∀ d', d ≤ d' → ∀ w, (Op.equalIn d' t x y).run P w = .ok b w
  | 0, _, _, _, _, h, _, _, _ => by simp [eqB] at h
  | d + 1, t, x, y, b, h, d', hd, w => by
    obtain ⟨e, rfl⟩ : ∃ e, d' = e + 1 := ⟨d' - 1, by omega⟩
    unfold eqB at h
    cases hu : P.underlying t with
    | none => simp [hu] at h
    | some u =>
      cases u with
      | bool =>
        simp only [hu] at h
        split at h
        · simp at h; subst h
          simp [Op.equalIn, run_underlying hu]
        · cases h
      | int ki =>
        simp only [hu] at h
        split at h
        · rename_i k a k' b'
          by_cases hk : k = k'
          · simp only [hk, decide_true, Option.some.injEq] at h; subst h
            simp [Op.equalIn, run_underlying hu, hk]
          · simp [hk] at h
        · cases h
      | string =>
        simp only [hu] at h
        split at h
        · simp at h; subst h
          simp [Op.equalIn, run_underlying hu]
        · cases h
      | struct fs =>
        simp only [hu] at h
        split at h
        · rename_i xs ys hh
          have h1 := run_eqFs (P := P) (d := d) (fun t x y b hb d' hd w => run_eqB d t x y b hb d' hd w) (d' := e) (by omega) fs.toList b h w
          simp only [Op.equalIn, Sem.run_bind, run_underlying hu, Result.andThen_ok, run_program, hh, Bool.false_eq_true, if_false]
          rw [← Array.forIn_toList]
          rw [h1]
          cases b <;> simp
        · cases h
      | _ => simp [hu] at h
theorem eq_guard {cs : Array Value} {y : Value} {vx vy : Operand} (op : BinOp) (hg : P.eqGuardType P.depth t = false) (w : World) : (eqGuard op t vx vy (.agg cs) y).run P w = .ok () w := by
  unfold eqGuard
  cases op <;> first
    | rfl
    | (cases y <;> first | rfl | (simp [hg]; done))
theorem WL.eqlV {vx vy : Value} {b : Bool} (hx : r.ev x = some vx) (hy : r.ev y = some vy) (he : eqB P 8 t vx vy = some b) (hg : P.eqGuardType P.depth t = false) (hn : ∃ cs, vx = .agg cs) (hd : Nat.blt d n = true)
    (h : WL P ro n w0 ops Q l ((d, .bool b) :: r) ds m H) : WL P ro n w0 ops Q (⟨some d, .binOp .eql t x y t', ty, pos, after, none⟩ :: l) r ds m H := by
  obtain ⟨cs, rfl⟩ := hn
  refine .val hd (fun _ h => by cases h) (fun tmps w ho _ => ?_) h
  have h1 := run_eqB 8 t _ _ b he Op.maxDepth (by decide) w
  have h2 := eq_guard (P := P) (cs := cs) (y := vy) (vx := x) (vy := y) .eql hg w
  simp only [execOp, ho.ev hx, ho.ev hy, Sem.run_bind, h2, Result.andThen_ok]
  cases vy <;> simp [binOp, Op.equal, h1]
theorem w_eqlV {vx vy : Value} {b : Bool} (h : WL P ro n w0 ops Q l ((d, .bool b) :: r) ds m H) (hx : r.ev x = some vx := by exact rfl) (hy : r.ev y = some vy := by exact rfl) (hg : P.eqGuardType P.depth t = false := by kernel_rfl) (hn : ∃ cs, vx = .agg cs := by exact ⟨_, rfl⟩) (hd : Nat.blt d n = true := by exact rfl) (he : eqB P 8 t vx vy = some b) : WL P ro n w0 ops Q (⟨some d, .binOp .eql t x y t', ty, pos, after, none⟩ :: l) r ds m H := WL.eqlV hx hy he hg hn hd h
theorem WL.neqV {vx vy : Value} {b : Bool} (hx : r.ev x = some vx) (hy : r.ev y = some vy) (he : eqB P 8 t vx vy = some b) (hg : P.eqGuardType P.depth t = false) (hn : ∃ cs, vx = .agg cs) (hd : Nat.blt d n = true)
    (h : WL P ro n w0 ops Q l ((d, .bool (!b)) :: r) ds m H) : WL P ro n w0 ops Q (⟨some d, .binOp .neq t x y t', ty, pos, after, none⟩ :: l) r ds m H := by
  obtain ⟨cs, rfl⟩ := hn
  refine .val hd (fun _ h => by cases h) (fun tmps w ho _ => ?_) h
  have h1 := run_eqB 8 t _ _ b he Op.maxDepth (by decide) w
  have h2 := eq_guard (P := P) (cs := cs) (y := vy) (vx := x) (vy := y) .neq hg w
  simp only [execOp, ho.ev hx, ho.ev hy, Sem.run_bind, h2, Result.andThen_ok]
  cases vy <;> simp [binOp, Op.equal, h1]
theorem w_neqV {vx vy : Value} {b : Bool} (h : WL P ro n w0 ops Q l ((d, .bool (!b)) :: r) ds m H) (hx : r.ev x = some vx := by exact rfl) (hy : r.ev y = some vy := by exact rfl) (hg : P.eqGuardType P.depth t = false := by kernel_rfl) (hn : ∃ cs, vx = .agg cs := by exact ⟨_, rfl⟩) (hd : Nat.blt d n = true := by exact rfl) (he : eqB P 8 t vx vy = some b) : WL P ro n w0 ops Q (⟨some d, .binOp .neq t x y t', ty, pos, after, none⟩ :: l) r ds m H := WL.neqV hx hy he hg hn hd h
theorem WL.eqlBool {a b : Bool} (hx : r.ev x = some (.bool a)) (hy : r.ev y = some (.bool b)) (hu : P.underlying t = some .bool) (hd : Nat.blt d n = true)
    (h : WL P ro n w0 ops Q l ((d, .bool (a == b)) :: r) ds m H) : WL P ro n w0 ops Q (⟨some d, .binOp .eql t x y t', ty, pos, after, none⟩ :: l) r ds m H :=
  .val hd (fun _ h => by cases h) (fun tmps w ho _ => by
    have h1 := run_eqB (P := P) 1 t (.bool a) (.bool b) (a == b) (by simp [eqB, hu]) Op.maxDepth (by decide) w
    have h2 : (eqGuard .eql t x y (.bool a) (.bool b)) = pure () := rfl
    simp [execOp, ho.ev hx, ho.ev hy, h2, binOp, Op.equal, h1]) h
theorem w_eqlBool {a b : Bool} (h : WL P ro n w0 ops Q l ((d, .bool (a == b)) :: r) ds m H) (hx : r.ev x = some (.bool a) := by exact rfl) (hy : r.ev y = some (.bool b) := by exact rfl) (hu : P.underlying t = some .bool := by exact rfl) (hd : Nat.blt d n = true := by exact rfl) : WL P ro n w0 ops Q (⟨some d, .binOp .eql t x y t', ty, pos, after, none⟩ :: l) r ds m H := WL.eqlBool hx hy hu hd h
theorem WL.neqBool {a b : Bool} (hx : r.ev x = some (.bool a)) (hy : r.ev y = some (.bool b)) (hu : P.underlying t = some .bool) (hd : Nat.blt d n = true)
    (h : WL P ro n w0 ops Q l ((d, .bool (!(a == b))) :: r) ds m H) : WL P ro n w0 ops Q (⟨some d, .binOp .neq t x y t', ty, pos, after, none⟩ :: l) r ds m H :=
  .val hd (fun _ h => by cases h) (fun tmps w ho _ => by
    have h1 := run_eqB (P := P) 1 t (.bool a) (.bool b) (a == b) (by simp [eqB, hu]) Op.maxDepth (by decide) w
    have h2 : (eqGuard .neq t x y (.bool a) (.bool b)) = pure () := rfl
    simp [execOp, ho.ev hx, ho.ev hy, h2, binOp, Op.equal, h1]) h
theorem w_neqBool {a b : Bool} (h : WL P ro n w0 ops Q l ((d, .bool (!(a == b))) :: r) ds m H) (hx : r.ev x = some (.bool a) := by exact rfl) (hy : r.ev y = some (.bool b) := by exact rfl) (hu : P.underlying t = some .bool := by exact rfl) (hd : Nat.blt d n = true := by exact rfl) : WL P ro n w0 ops Q (⟨some d, .binOp .neq t x y t', ty, pos, after, none⟩ :: l) r ds m H := WL.neqBool hx hy hu hd h
theorem WD.mono {K K' : Env → Prop} {l : List Oper} (h : WD P ro n w0 ops ds m H K l r) (hk : ∀ r', K r' → K' r') : WD P ro n w0 ops ds m H K' l r := by
  induction h with
  | nil h => exact .nil (hk _ h)
  | cons a b c _ ih => exact .cons a b c ih
  | known d k a b _ ih => exact .known d k a b ih
/-- one element more, at the end of a row of one's own -/
theorem WL.append1 {e e' T' tx : TypeId} {sz by' c b cap len : Nat} {z : Value} {a : Option Addr} {es : List (List Value)} {L : List Value} {H1 : SHeap} {fz : Nat × Nat} (hx : r.ev x = some (.slice a len cap)) (hy : r.ev y = some (.slice (some ⟨b, 0, none⟩) 1 c))
    (hu : P.underlying t = some (.slice e)) (hux : P.underlying tx = some (.slice e')) (ho : Out (.row a cap e sz es) H H1) (hb : Item.blk b (.cells L.toArray T' fz) ∈ H) (hL : L.length = sz) (hok : L.all okCell = true)
    (hz : zeroB P e = some z) (hsz : sizeB P e = some sz) (hby : bytesB P e = some by') (hzs : z.cells.size = sz) (hlen : len = es.length) (hroom : (es.length + 1) * by' ≤ 140737488355328) (hpos : 0 < by') (hd : Nat.blt d n = true)
    (h : ∀ a' cap', WL P ro n w0 ops Q l ((d, .slice a' (es.length + 1) cap') :: r) ds m (.row a' cap' e sz (es ++ [L]) :: H1)) :
    WL P ro n w0 ops Q (⟨some d, .call ⟨.builtin .append, #[x, y], #[t, tx]⟩, ty, pos, after, none⟩ :: l) r ds m H := by
  have h63 : es.length + 1 ≤ 9223372036854775807 := by
    have : (es.length + 1) * 1 ≤ (es.length + 1) * by' := Nat.mul_le_mul_left _ hpos
    omega
  refine .append (es' := [L]) (news := L) hx hy hlen ho hu hz hsz hby hzs (.cells hux (fun w hs j v hj => by rw [add_none]; exact Cell.blk hb (by simpa using hj) w hs) (by omega) hok) rfl (by simp) (by simpa using hL) h63 hroom hd ?_
  intro a' cap'
  rw [List.length_append]
  exact h a' cap'
theorem w_append1 {e e' T' tx : TypeId} {sz by' c b cap len : Nat} {z : Value} {a : Option Addr} {es : List (List Value)} {L : List Value} {H1 : SHeap} {fz : Nat × Nat} (h : ∀ a' cap', WL P ro n w0 ops Q l ((d, .slice a' (es.length + 1) cap') :: r) ds m (.row a' cap' e sz (es ++ [L]) :: H1)) (hx : r.ev x = some (.slice a len cap) := by exact rfl) (hy : r.ev y = some (.slice (some ⟨b, 0, none⟩) 1 c) := by exact rfl) (hu : P.underlying t = some (.slice e) := by exact rfl) (hux : P.underlying tx = some (.slice e') := by exact rfl) (ho : Out (.row a cap e sz es) H H1 := by (repeat (first | exact Out.here | apply Out.there))) (hb : Item.blk b (.cells L.toArray T' fz) ∈ H := by (repeat (first | exact List.Mem.head _ | apply List.Mem.tail))) (hL : L.length = sz := by exact rfl) (hok : L.all okCell = true := by exact rfl) (hz : zeroB P e = some z := by exact rfl) (hsz : sizeB P e = some sz := by exact rfl) (hby : bytesB P e = some by' := by exact rfl) (hzs : z.cells.size = sz := by exact rfl) (hlen : len = es.length := by first | exact rfl | (simp; done) | omega) (hroom : (es.length + 1) * by' ≤ 140737488355328 := by first | omega | (simp; omega)) (hpos : 0 < by' := by decide) (hd : Nat.blt d n = true := by exact rfl) : WL P ro n w0 ops Q (⟨some d, .call ⟨.builtin .append, #[x, y], #[t, tx]⟩, ty, pos, after, none⟩ :: l) r ds m H := WL.append1 hx hy hu hux ho hb hL hok hz hsz hby hzs hlen hroom hpos hd h
/-- a new row without elements -/
theorem WL.buildSlice0 {e : TypeId} {sz : Nat} (hu : P.underlying t = some (.slice e)) (hsz : sizeB P e = some sz) (hd : Nat.blt d n = true)
    (h : ∀ b, WL P ro n w0 ops Q l ((d, .slice (some ⟨b, 0, none⟩) 0 0) :: r) ds m (.row (some ⟨b, 0, none⟩) 0 e sz [] :: H)) :
    WL P ro n w0 ops Q (⟨some d, .buildSlice t 0 #[], ty, pos, after, none⟩ :: l) r ds m H := by
  refine .gen (fun v m' H' => ∃ b, v = .slice (some ⟨b, 0, none⟩) 0 0 ∧ m' = m ∧ H' = .row (some ⟨b, 0, none⟩) 0 e sz [] :: H) hd (fun _ h => by cases h) (fun tmps w ho hs => ?_)
    (by rintro _ _ _ ⟨b, rfl, rfl, rfl⟩; exact h b)
  have h1 := hs.alloc (.cells #[] e (0, 0))
  have h2 := Sat.row_of (es := []) (sz := sz) (by simp) (b := w.heap.size) (T := e) (H := H) (w := w.alloc (.cells #[] e (0, 0))) (by simpa using h1)
  refine ⟨_, m, _, w.alloc (.cells #[] e (0, 0)), ?_, h2, w.heap.size, rfl, rfl, rfl⟩
  simp [execOp, Instr.buildSlice, run_underlying hu, run_size hsz, Instr.fill, Go.newRow, run_newObj_alloc]
  exact congrArg (fun q => w.alloc (.cells q e (0, 0))) (Array.eq_empty_of_size_eq_zero (by simp))
theorem w_buildSlice0 {e : TypeId} {sz : Nat} (h : ∀ b, WL P ro n w0 ops Q l ((d, .slice (some ⟨b, 0, none⟩) 0 0) :: r) ds m (.row (some ⟨b, 0, none⟩) 0 e sz [] :: H)) (hu : P.underlying t = some (.slice e) := by exact rfl) (hsz : sizeB P e = some sz := by exact rfl) (hd : Nat.blt d n = true := by exact rfl) : WL P ro n w0 ops Q (⟨some d, .buildSlice t 0 #[], ty, pos, after, none⟩ :: l) r ds m H := WL.buildSlice0 hu hsz hd h
/-- a region that draws its order and only reads -/
theorem WC.drawAll {id : Nat} {l : List Oper} (hm : P.follows .mixedOrders = true) (hc : drawB l l.length = true) (h : WD P ro n w0 l.toArray ds m H (fun r' => WQ n w0 Q .normal r' ds m H) l r) :
    WC P ro n w0 (.region id l.toArray true) Q r ds m H := by
  refine .draw l.length hm hc ?_
  rw [List.take_length, List.drop_length]
  exact h.mono fun r' hq => .nil hq
end
theorem Sat.sublist {w0 : World} {m : Mem} {w : World} {A B : SHeap} (hl : List.Sublist B A) : Sat w0 m A w → Sat w0 m B w := fun h =>
  have hf : List.Sublist (SHeap.foot B) (SHeap.foot A) := by
    clear h
    induction hl with
    | slnil => exact List.Sublist.refl _
    | cons i _ ih => exact List.Sublist.trans ih (by simp only [SHeap.foot, List.flatMap_cons]; exact List.sublist_append_right _ _)
    | cons_cons i _ ih => simp only [SHeap.foot, List.flatMap_cons] at ih ⊢; exact List.Sublist.append (List.Sublist.refl _) ih
  ⟨h.os, h.tape, h.output, h.size, h.pers, fun i hi => h.own i (hl.mem hi), h.sep.sublist hf, fun b hb => h.free b (hf.mem hb)⟩
/-- a new row is handed back -/
def MakesRow (T : TypeId) (sz : Nat) (es : List (List Value)) (m : Mem) (H : SHeap) : Value → Mem → SHeap → Prop := fun v m' H' =>
  ∃ a cap, v = .slice a es.length cap ∧ m' = m ∧ H' = .row a cap T sz es :: H
end Go.Eng
