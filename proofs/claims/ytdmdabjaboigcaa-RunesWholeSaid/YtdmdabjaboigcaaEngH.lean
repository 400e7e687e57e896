/-
  A walk's engine, eighth part: a range over a function: what an iterator promises, what a loop over it owes. No condition.
-/
import Derived.Test.YtdmdabjaboigcaaEngG
set_option linter.all false
namespace Go.Eng
open Go Go.RowKit

/-- a call of yield in such a state: it hands back true, or false -/
def YieldOK (P : Program) (w0 : World) (l : Nat) (args : Array Value) (m : Mem) (H : SHeap) (Jt Jf : Mem → SHeap → Prop) : Prop :=
  ∀ w, Sat w0 m H w → YieldAt (FW none) 0 P l args w fun e w' =>
    (e = .returned (.bool true) ∧ ∃ m' H', Jt m' H' ∧ Sat w0 m' H' w') ∨ (e = .returned (.bool false) ∧ ∃ m' H', Jf m' H' ∧ Sat w0 m' H' w')
/-- an iterator: it hands over xs, one after the other, as long as it is told to go on; Cap: what it leans on -/
def SeqC {α : Type} (P : Program) (gf : FuncId) (lb : List Value) (encs : α → List Value) (xs : List α) (Cap : Mem → Prop) : Prop :=
  ∀ (w0 : World) (l : Nat) (J Jx : List α → Mem → SHeap → Prop) (m : Mem) (H : SHeap), Cap m → J [] m H →
    (∀ pre x post, xs = pre ++ x :: post → ∀ m1 H1 Hit, J pre m1 H1 → m.le m1 →
      YieldOK P w0 l (encs x).toArray m1 (Hit ++ H1) (fun m' H' => ∃ H2, H' = Hit ++ H2 ∧ J (pre ++ [x]) m' H2 ∧ m1.le m') (fun m' H' => ∃ H2, H' = Hit ++ H2 ∧ Jx (pre ++ [x]) m' H2 ∧ m1.le m')) →
    Does P gf (.func (.yield l) #[] #[] :: lb).toArray w0 m H (fun _ m' H' => m.le m' ∧ (J xs m' H' ∨ ∃ pre, pre <+: xs ∧ Jx pre m' H'))
/-- a list that ends in a frame -/
inductive Tail (Hfr : SHeap) : SHeap → SHeap → Prop
  | nil : Tail Hfr Hfr []
  | cons {i : Item} {H Hl : SHeap} : Tail Hfr H Hl → Tail Hfr (i :: H) (i :: Hl)
theorem Tail.eq {Hfr H Hl : SHeap} (h : Tail Hfr H Hl) : H = Hl ++ Hfr := by
  induction h with
  | nil => rfl
  | cons _ ih => rw [ih]; rfl

section
variable {P : Program} {ro : Option Nat} {n : Nat} {w0 : World} {Q : Exit → Act → World → Prop} {r : Env} {ds : List Nat} {m : Mem} {H : SHeap}
  {ops : Array Oper} {l : List Oper} {d : Nat} {ty : TypeId} {pos : String} {after : Array Edge}

/-- a call of yield -/
theorem WL.yield {f : Operand} {args : List Operand} {vs : List Value} {ts : Array TypeId} {lp : Nat} {Jt Jf : Mem → SHeap → Prop} (hf : r.ev f = some (.func (.yield lp) #[] #[])) (hv : r.evs args = some vs)
    (hd : Nat.blt d n = true) (hy : YieldOK P w0 lp vs.toArray m H Jt Jf)
    (ht : ∀ m' H', Jt m' H' → WL P ro n w0 ops Q l ((d, .bool true) :: r) ds m' H') (hn : ∀ m' H', Jf m' H' → WL P ro n w0 ops Q l ((d, .bool false) :: r) ds m' H') :
    WL P ro n w0 ops Q (⟨some d, .call ⟨.value f, args.toArray, ts⟩, ty, pos, after, none⟩ :: l) r ds m H := by
  intro tmps w ho hs
  obtain ⟨fn, tm, assign, body, hrun, hround⟩ := hy w hs
  unfold wpListIn
  simp only [Region.wanted, if_true]
  refine ⟨fun f _ => FW_fn ro f, ?_⟩
  rw [semAt_exec (FW ro).round _ _ (fun _ h => by cases h)]
  have e1 := ho.evs (marks ds) hv
  have hex : (execOp (Act.mk tmps (marks ds)).eval ⟨some d, .call ⟨.value f, args.toArray, ts⟩, ty, pos, after, none⟩).run P w = .ok (.round lp fn tm assign body) w := by
    simp only [execOp, resolve, Sem.run_bind, List.map_toArray, e1, ho.ev hf]
    simp [Deferred.ofValue, invoke, hrun, Result.andThen]
  rw [hex]
  refine ⟨FW_depth ro, ?_⟩
  have hr : RoundIn (FW ro) (0 - 1) P lp fn tm assign body w _ := hround
  refine hr.mono ?_
  have hd' : d < n := by simpa [Nat.blt_eq] using hd
  rintro e w' (⟨rfl, m', H', hJ, hs'⟩ | ⟨rfl, m', H', hJ, hs'⟩)
  · exact ht m' H' hJ _ w' (ho.put hd' _) hs'
  · exact hn m' H' hJ _ w' (ho.put hd' _) hs'

/-- what a round's end owes -/
def QRound {α : Type} (w0 : World) (J : List α → Mem → SHeap → Prop) (Jx : Code → List α → Mem → SHeap → Prop) (pre : List α) (m1 : Mem) (Hfr : SHeap) : Exit → Act → World → Prop
  | .normal, _, w => ∃ m' Hl, J pre m' Hl ∧ m1.le m' ∧ Sat w0 m' (Hl ++ Hfr) w
  | .ret, _, w => ∃ m' Hl, Jx .ret pre m' Hl ∧ m1.le m' ∧ Sat w0 m' (Hl ++ Hfr) w
  | .exit id, _, w => ∃ m' Hl, Jx (.exit id) pre m' Hl ∧ m1.le m' ∧ Sat w0 m' (Hl ++ Hfr) w
  | .goto t, _, w => ∃ m' Hl, Jx (.goto t) pre m' Hl ∧ m1.le m' ∧ Sat w0 m' (Hl ++ Hfr) w
  | _, _, _ => False
/-- what the end of the assignment to the loop's variables owes: the body, over whatever frame -/
def QAssign {α : Type} (P : Program) (n : Nat) (w0 : World) (lp : Nat) (body : Code) (J : List α → Mem → SHeap → Prop) (Jx : Code → List α → Mem → SHeap → Prop) (pre : List α) (m1 : Mem) (Hfr : SHeap) : Exit → Act → World → Prop :=
  Exit.then (fun a w => ∃ r m' Hl, r.ok n a.tmps ∧ a.defers = marks [] ∧ Sat w0 m' (Hl ++ Hfr) w ∧ m1.le m' ∧ ∀ Hfr2, (∃ rec, Item.blk lp (.loop rec) ∈ Hfr2) → WC P (some lp) n w0 body (QRound w0 J Jx pre m1 Hfr2) r [] m' (Hl ++ Hfr2)) (fun _ _ _ => False)
theorem WQ.assigned {α : Type} {lp : Nat} {body : Code} {J : List α → Mem → SHeap → Prop} {Jx : Code → List α → Mem → SHeap → Prop} {pre : List α} {m1 : Mem} {Hfr Hl : SHeap} (ht : Tail Hfr H Hl) (hm : m1.le m)
    (h : ∀ Hfr2, WC P (some lp) n w0 body (QRound w0 J Jx pre m1 Hfr2) r [] m (Hl ++ Hfr2)) : WQ n w0 (QAssign P n w0 lp body J Jx pre m1 Hfr) .normal r [] m H :=
  fun _ _ ho hs => ⟨r, m, Hl, ho, rfl, by rw [← ht.eq]; exact hs, hm, fun Hfr2 _ => h Hfr2⟩
/-- the same, where the body needs to know the loop that it is a round of -/
theorem WQ.assignedIn {α : Type} {lp : Nat} {body : Code} {J : List α → Mem → SHeap → Prop} {Jx : Code → List α → Mem → SHeap → Prop} {pre : List α} {m1 : Mem} {Hfr Hl : SHeap} (ht : Tail Hfr H Hl) (hm : m1.le m)
    (h : ∀ Hfr2, (∃ rec, Item.blk lp (.loop rec) ∈ Hfr2) → WC P (some lp) n w0 body (QRound w0 J Jx pre m1 Hfr2) r [] m (Hl ++ Hfr2)) : WQ n w0 (QAssign P n w0 lp body J Jx pre m1 Hfr) .normal r [] m H :=
  fun _ _ ho hs => ⟨r, m, Hl, ho, rfl, by rw [← ht.eq]; exact hs, hm, h⟩
theorem WQ.roundOn {α : Type} {J : List α → Mem → SHeap → Prop} {Jx : Code → List α → Mem → SHeap → Prop} {pre : List α} {m1 : Mem} {Hfr Hl : SHeap} (ht : ∀ w, Sat w0 m H w → Sat w0 m (Hl ++ Hfr) w) (hm : m1.le m) (h : J pre m Hl) :
    WQ n w0 (QRound w0 J Jx pre m1 Hfr) .normal r ds m H := fun _ _ _ hs => ⟨m, Hl, h, hm, ht _ hs⟩
theorem WQ.roundRet {α : Type} {J : List α → Mem → SHeap → Prop} {Jx : Code → List α → Mem → SHeap → Prop} {pre : List α} {m1 : Mem} {Hfr Hl : SHeap} (ht : ∀ w, Sat w0 m H w → Sat w0 m (Hl ++ Hfr) w) (hm : m1.le m) (h : Jx .ret pre m Hl) :
    WQ n w0 (QRound w0 J Jx pre m1 Hfr) .ret r ds m H := fun _ _ _ hs => ⟨m, Hl, h, hm, ht _ hs⟩
theorem WQ.roundExit {α : Type} {J : List α → Mem → SHeap → Prop} {Jx : Code → List α → Mem → SHeap → Prop} {pre : List α} {m1 : Mem} {Hfr Hl : SHeap} {id : Nat} (ht : ∀ w, Sat w0 m H w → Sat w0 m (Hl ++ Hfr) w) (hm : m1.le m) (h : Jx (.exit id) pre m Hl) :
    WQ n w0 (QRound w0 J Jx pre m1 Hfr) (.exit id) r ds m H := fun _ _ _ hs => ⟨m, Hl, h, hm, ht _ hs⟩

theorem perm_round (Hit : SHeap) (i : Item) (Hl Hb : SHeap) : List.Perm (Hit ++ (i :: (Hl ++ Hb))) (Hl ++ (i :: (Hb ++ Hit))) := by
  have h1 : List.Perm (Hit ++ (i :: (Hl ++ Hb))) ((i :: (Hl ++ Hb)) ++ Hit) := List.perm_append_comm
  refine h1.trans ?_
  rw [List.cons_append, List.append_assoc]
  exact List.perm_middle.symm
/-- the environment of a round: the loop's own, its parameters given -/
def Env.given : List Nat → List Value → Env → Env
  | p :: ps, v :: vs, r => Env.given ps vs ((p, v) :: r)
  | _, _, r => r
theorem Env.ok.given {n : Nat} : ∀ (ps : List Nat) (vs : List Value) {r : Env} {tmps : Array Value}, r.ok n tmps → (∀ p ∈ ps, p < n) → (Env.given ps vs r).ok n ((ps.zip vs).foldl (fun t (p : Nat × Value) => t.setIfInBounds p.1 p.2) tmps)
  | [], vs, r, tmps, h, _ => by simpa [Env.given] using h
  | p :: ps, [], r, tmps, h, _ => by simpa [Env.given] using h
  | p :: ps, v :: vs, r, tmps, h, hp => by
    simp only [Env.given, List.zip_cons_cons, List.foldl_cons]
    exact Env.ok.given ps vs (h.put (hp p List.mem_cons_self) v) (fun q hq => hp q (List.mem_cons_of_mem _ hq))

theorem range_core {α : Type} {gf : FuncId} {lb : List Value} {encs : α → List Value} {xs : List α} {Cap : Mem → Prop} {ps : List Nat} {assign body : Code} {fnd : FuncId} {tmps : Array Value} {L D : Nat} {Hb : SHeap}
    (hseq : SeqC P gf lb encs xs Cap) (hcap : Cap m) (hps : ∀ x, (encs x).length = ps.length) (hpn : ∀ p ∈ ps, p < n) (hok : r.ok n tmps)
    (J : List α → Mem → SHeap → Prop) (Jx : Code → List α → Mem → SHeap → Prop) {Hl0 : SHeap} (h0 : J [] m Hl0)
    (hround : ∀ lp pre x post, xs = pre ++ x :: post → ∀ m1 Hl, J pre m1 Hl → m.le m1 → ∀ Hfr, (∃ rec, Item.blk lp (.loop rec) ∈ Hfr ∧ rec.defers = D) → WC P (some lp) n w0 assign (QAssign P n w0 lp body J Jx (pre ++ [x]) m1 Hfr) (Env.given ps (encs x) r) [] m1 (Hl ++ Hfr))
    {w : World} (hs : Sat w0 m (.blk L (.loop { state := .ready, pending := none, fn := fnd, tmps := tmps, params := ps.toArray, assign := assign, body := body, defers := D }) :: (Hl0 ++ Hb)) w) :
    CallsIn (FW none) 0 P gf (.func (.yield L) #[] #[] :: lb).toArray w fun e w' => ∃ v m', e = .returned v ∧ m.le m' ∧
      ((∃ Hl, J xs m' Hl ∧ Sat w0 m' (.blk L (.loop { state := .ready, pending := none, fn := fnd, tmps := tmps, params := ps.toArray, assign := assign, body := body, defers := D }) :: (Hl ++ Hb)) w') ∨
       (∃ c pre Hl, pre <+: xs ∧ Jx c pre m' Hl ∧ Sat w0 m' (.blk L (.loop { state := .done, pending := some c, fn := fnd, tmps := tmps, params := ps.toArray, assign := assign, body := body, defers := D }) :: (Hl ++ Hb)) w')) := by
  obtain ⟨rec, hrec⟩ : ∃ rec : LoopState → Option Code → Loop, rec = fun st pe => { state := st, pending := pe, fn := fnd, tmps := tmps, params := ps.toArray, assign := assign, body := body, defers := D } := ⟨_, rfl⟩
  have hs1 : Sat w0 m (.blk L (.loop (rec .ready none)) :: (Hl0 ++ Hb)) w := by rw [hrec]; exact hs
  have := hseq w0 L (fun pre m H => ∃ Hl, H = .blk L (.loop (rec .ready none)) :: (Hl ++ Hb) ∧ J pre m Hl)
    (fun pre m H => ∃ c Hl, H = .blk L (.loop (rec .done (some c))) :: (Hl ++ Hb) ∧ Jx c pre m Hl) m _ hcap ⟨Hl0, rfl, h0⟩ ?_ w hs1
  · refine this.mono ?_
    rintro e w' ⟨v, m', H', rfl, ⟨hle, hP⟩, hs'⟩
    refine ⟨v, m', rfl, hle, ?_⟩
    rcases hP with ⟨Hl, rfl, hJ⟩ | ⟨pre, hpre, c, Hl, rfl, hJ⟩
    · exact .inl ⟨Hl, hJ, by rw [hrec] at hs'; exact hs'⟩
    · exact .inr ⟨c, pre, Hl, hpre, hJ, by rw [hrec] at hs'; exact hs'⟩
  · rintro pre x post hx m1 H1 Hit ⟨Hl, rfl, hJ⟩ hle W hW
    have hL : W.heap[L]? = some (.loop (rec .ready none)) := hW.own (.blk L _) (by simp)
    have hy := run_yield (P := P) (args := (encs x).toArray) hL (by rw [hrec]; simp [hps x])
    refine ⟨fnd, (ps.zip (encs x)).foldl (fun t (p : Nat × Value) => t.setIfInBounds p.1 p.2) tmps, assign, body, ?_, roundIn_of_wpIn (FW_fn none fnd) ?_⟩
    · rw [hy, hrec]
      congr 2
      simp
    · have hsat1 := hW.perm (perm_round Hit (.blk L (.loop (rec .ready none))) Hl Hb)
      have hr := hround L pre x post hx m1 Hl hJ hle (.blk L (.loop (rec .ready none)) :: (Hb ++ Hit)) ⟨_, List.mem_cons_self, by rw [hrec]⟩ _ W (hok.given ps (encs x) hpn) hsat1
      refine wpIn_mono hr ?_
      intro e a1 W1 hq
      cases e with
      | normal =>
        obtain ⟨r1, m2, Hl1, hok1, hdf, hs2, hle2, hbody⟩ := hq
        have hs2' := hs2.perm (List.perm_middle (a := Item.blk L (.loop (rec .ready none))) (l₁ := Hl1) (l₂ := Hb ++ Hit))
        have hL1 : W1.heap[L]? = some (.loop (rec .ready none)) := hs2'.own _ List.mem_cons_self
        refine ⟨_, run_beginRound hL1 (by rw [hrec]), ?_⟩
        have hs3 := (hs2'.putObj (o' := .loop { rec .ready none with state := .busy })).perm (List.perm_middle (a := Item.blk L (.loop { rec .ready none with state := .busy })) (l₁ := Hl1) (l₂ := Hb ++ Hit)).symm
        obtain ⟨tm1, df1⟩ := a1
        simp only at hdf
        subst hdf
        refine wpIn_mono (hbody (.blk L (.loop { rec .ready none with state := .busy }) :: (Hb ++ Hit)) ⟨_, List.mem_cons_self⟩ tm1 _ hok1 hs3) ?_
        have fin : ∀ (jump : Option Code) (m3 : Mem) (Hl3 : SHeap) (W3 : World), Sat w0 m3 (Hl3 ++ (.blk L (.loop { rec .ready none with state := .busy }) :: (Hb ++ Hit))) W3 →
            ∃ w4, (Instr.endRound L jump).run P W3 = .ok (.bool jump.isNone) w4 ∧ Sat w0 m3 (Hit ++ (.blk L (.loop (rec (if jump.isNone then .ready else .done) jump)) :: (Hl3 ++ Hb))) w4 := by
          intro jump m3 Hl3 W3 hs4
          have hs5 := hs4.perm (List.perm_middle (a := Item.blk L (.loop { rec .ready none with state := .busy })) (l₁ := Hl3) (l₂ := Hb ++ Hit))
          have hL3 : W3.heap[L]? = some (.loop { rec .ready none with state := .busy }) := hs5.own _ List.mem_cons_self
          refine ⟨_, run_endRound jump hL3, ?_⟩
          have hs6 := hs5.putObj (o' := .loop { { rec .ready none with state := .busy } with state := if jump.isNone then .ready else .done, pending := jump })
          have e1 : ({ { rec .ready none with state := .busy } with state := if jump.isNone then .ready else .done, pending := jump } : Loop) = rec (if jump.isNone then .ready else .done) jump := by rw [hrec]
          rw [e1] at hs6
          rw [e1]
          exact hs6.perm ((List.perm_middle (a := Item.blk L (.loop (rec (if jump.isNone then .ready else .done) jump))) (l₁ := Hl3) (l₂ := Hb ++ Hit)).symm.trans (perm_round Hit _ Hl3 Hb).symm)
        intro e3 a3 W3 hq3
        cases e3 with
        | normal =>
          obtain ⟨m3, Hl3, hJ3, hle3, hs4⟩ := hq3
          obtain ⟨w4, h4, hs5⟩ := fin none m3 Hl3 W3 hs4
          exact ⟨_, w4, h4, .inl ⟨rfl, m3, _, ⟨_, rfl, ⟨Hl3, rfl, hJ3⟩, hle3⟩, hs5⟩⟩
        | ret =>
          obtain ⟨m3, Hl3, hJ3, hle3, hs4⟩ := hq3
          obtain ⟨w4, h4, hs5⟩ := fin (some .ret) m3 Hl3 W3 hs4
          exact ⟨_, w4, h4, .inr ⟨rfl, m3, _, ⟨_, rfl, ⟨.ret, Hl3, rfl, hJ3⟩, hle3⟩, hs5⟩⟩
        | exit id =>
          obtain ⟨m3, Hl3, hJ3, hle3, hs4⟩ := hq3
          obtain ⟨w4, h4, hs5⟩ := fin (some (.exit id)) m3 Hl3 W3 hs4
          exact ⟨_, w4, h4, .inr ⟨rfl, m3, _, ⟨_, rfl, ⟨.exit id, Hl3, rfl, hJ3⟩, hle3⟩, hs5⟩⟩
        | goto t =>
          obtain ⟨m3, Hl3, hJ3, hle3, hs4⟩ := hq3
          obtain ⟨w4, h4, hs5⟩ := fin (some (.goto t)) m3 Hl3 W3 hs4
          exact ⟨_, w4, h4, .inr ⟨rfl, m3, _, ⟨_, rfl, ⟨.goto t, Hl3, rfl, hJ3⟩, hle3⟩, hs5⟩⟩
        | panic ch => exact hq3.elim
        | outgrown => exact hq3.elim
      | _ => exact hq.elim
theorem end_loop {L : Nat} {rec : Loop} {Hx : SHeap} {w : World} (hs : Sat w0 m (.blk L (.loop rec) :: Hx) w) (hb : rec.state ≠ .busy) :
    ∃ w', (Instr.endLoop L).run P w = .ok rec.pending w' ∧ Sat w0 m Hx w' :=
  ⟨_, run_endLoop (hs.own _ List.mem_cons_self) hb, hs.putObj.drop⟩
/-- a loop over a function, outside every other such loop -/
theorem WC.rangeFunc {α : Type} {g : Operand} {gf : FuncId} {fn : Func} {cb : Code} {lb : List Value} {encs : α → List Value} {xs : List α} {Cap : Mem → Prop} {ps : List Nat} {assign body : Code} {Hl0 Hc : SHeap}
    (hg : r.ev g = some (.func (.func gf) #[] lb.toArray)) (hf : P.funcs[gf]? = some fn) (hname : (fn.name == "runtime.NumGoroutine") = false) (hb : fn.body = some cb)
    (hseq : SeqC P gf lb encs xs Cap) (hcap : Cap m) (hps : ∀ x, (encs x).length = ps.length) (hpn : ps.all (fun p => Nat.blt p n) = true)
    (J : List α → Mem → SHeap → Prop) (Jx : Code → List α → Mem → SHeap → Prop) (ht : Tail Hc H Hl0) (h0 : J [] m Hl0)
    (hround : ∀ lp pre x post, xs = pre ++ x :: post → ∀ m1 Hl, J pre m1 Hl → m.le m1 → ∀ Hfr, (∃ rec, Item.blk lp (.loop rec) ∈ Hfr) → WC P (some lp) n w0 assign (QAssign P n w0 lp body J Jx (pre ++ [x]) m1 Hfr) (Env.given ps (encs x) r) [] m1 (Hl ++ Hfr))
    (hdone : ∀ D m' Hl, J xs m' Hl → m.le m' → WQ n w0 Q .normal r (D :: ds) m' (Hl ++ (.blk D (.deferred (some [])) :: Hc)))
    (hstop : ∀ D c pre m' Hl, pre <+: xs → Jx c pre m' Hl → m.le m' → WC P none n w0 c Q r (D :: ds) m' (Hl ++ (.blk D (.deferred (some [])) :: Hc))) :
    WC P none n w0 (.rangeFunc g ps.toArray assign body) Q r ds m H := by
  intro tmps w ho hs
  rw [ht.eq] at hs
  have hpn' : ∀ p ∈ ps, p < n := fun p hp => by have := List.all_eq_true.1 hpn p hp; simpa [Nat.blt_eq] using this
  have h1 : fn.name ≠ "runtime.NumGoroutine" := by simpa using hname
  have h2 : ∀ (a : Array Value) (w : World), (callFunc gf a).run P w = .ok (.enter gf a) w := fun a w => by simp [callFunc, hf, h1, hb]
  refine wpIn_rangeFunc (fun fnd _ => ?_)
  have hs1 := (hs.alloc (.deferred (some []))).alloc (.loop { state := .ready, pending := none, fn := fnd, tmps := tmps, params := ps.toArray, assign := assign, body := body, defers := w.heap.size })
  rw [World.size_alloc] at hs1
  have hs2 := hs1.perm (List.Perm.cons _ (List.perm_middle (a := Item.blk w.heap.size (.deferred (some []))) (l₁ := Hl0) (l₂ := Hc)).symm)
  have hcall := range_core (P := P) hseq hcap hps hpn' ho J Jx h0 (fun lp pre x post hx m1 Hl hJ hle Hfr ⟨rec, hr, _⟩ => hround lp pre x post hx m1 Hl hJ hle Hfr ⟨rec, hr⟩) hs2
  have henter := run_enterLoop_outer (P := P) (w := w) fnd tmps ps.toArray assign body
  generalize (w.alloc (.deferred (some []))).alloc (.loop { state := .ready, pending := none, fn := fnd, tmps := tmps, params := ps.toArray, assign := assign, body := body, defers := w.heap.size }) = W1 at henter hcall
  refine ⟨w.heap.size + 1, [{ target := .collected w.heap.size, args := #[] }], W1, { target := .fn (.func gf) lb.toArray, args := #[.func (.yield (w.heap.size + 1)) #[] #[]] }, W1, gf, (.func (.yield (w.heap.size + 1)) #[] #[] :: lb).toArray, W1,
    henter, ?_, fun f _ => FW_fn none f, ?_, FW_depth none, ?_⟩
  · have e0 : ∀ v, (Act.mk tmps (marks ds)).eval (.const v) = v := fun _ => rfl
    simp [resolve, ho.ev hg, e0, Deferred.ofValue]
  · simp [invoke, h2]
  · have hc : CallsIn (FW none) (0 - 1) P gf (.func (.yield (w.heap.size + 1)) #[] #[] :: lb).toArray _ _ := hcall
    refine hc.mono ?_
    rintro e w' ⟨v, m', rfl, hle, (⟨Hl, hJ, hs3⟩ | ⟨c, pre, Hl, hpre, hJ, hs3⟩)⟩
    · obtain ⟨w4, h4, hs4⟩ := end_loop (P := P) hs3 (by simp)
      exact ⟨none, w4, h4, hdone _ m' Hl hJ hle tmps w4 ho hs4⟩
    · obtain ⟨w4, h4, hs4⟩ := end_loop (P := P) hs3 (by simp)
      exact ⟨some c, w4, h4, hstop _ c pre m' Hl hpre hJ hle tmps w4 ho hs4⟩
/-- a loop over a function, in a round of another one -/
theorem WC.rangeFuncIn {α : Type} {lo : Nat} {g : Operand} {gf : FuncId} {fn : Func} {cb : Code} {lb : List Value} {encs : α → List Value} {xs : List α} {Cap : Mem → Prop} {ps : List Nat} {assign body : Code} {Hl0 Hc : SHeap}
    (hin : ∃ rec, Item.blk lo (.loop rec) ∈ Hc)
    (hg : r.ev g = some (.func (.func gf) #[] lb.toArray)) (hf : P.funcs[gf]? = some fn) (hname : (fn.name == "runtime.NumGoroutine") = false) (hb : fn.body = some cb)
    (hseq : SeqC P gf lb encs xs Cap) (hcap : Cap m) (hps : ∀ x, (encs x).length = ps.length) (hpn : ps.all (fun p => Nat.blt p n) = true)
    (J : List α → Mem → SHeap → Prop) (Jx : Code → List α → Mem → SHeap → Prop) (ht : Tail Hc H Hl0) (h0 : J [] m Hl0)
    (hround : ∀ lp pre x post, xs = pre ++ x :: post → ∀ m1 Hl, J pre m1 Hl → m.le m1 → ∀ Hfr, (∃ rec, Item.blk lp (.loop rec) ∈ Hfr) → WC P (some lp) n w0 assign (QAssign P n w0 lp body J Jx (pre ++ [x]) m1 Hfr) (Env.given ps (encs x) r) [] m1 (Hl ++ Hfr))
    (hdone : ∀ m' Hl, J xs m' Hl → m.le m' → WQ n w0 Q .normal r ds m' (Hl ++ Hc))
    (hstop : ∀ c pre m' Hl, pre <+: xs → Jx c pre m' Hl → m.le m' → WC P (some lo) n w0 c Q r ds m' (Hl ++ Hc)) :
    WC P (some lo) n w0 (.rangeFunc g ps.toArray assign body) Q r ds m H := by
  intro tmps w ho hs
  rw [ht.eq] at hs
  obtain ⟨rec0, hrec0⟩ := hin
  have hlo : w.heap[lo]? = some (.loop rec0) := hs.own (.blk lo (.loop rec0)) (List.mem_append.2 (.inr hrec0))
  have hpn' : ∀ p ∈ ps, p < n := fun p hp => by have := List.all_eq_true.1 hpn p hp; simpa [Nat.blt_eq] using this
  have h1 : fn.name ≠ "runtime.NumGoroutine" := by simpa using hname
  have h2 : ∀ (a : Array Value) (w : World), (callFunc gf a).run P w = .ok (.enter gf a) w := fun a w => by simp [callFunc, hf, h1, hb]
  refine wpIn_rangeFunc (fun fnd _ => ?_)
  have hs1 := hs.alloc (.loop { state := .ready, pending := none, fn := fnd, tmps := tmps, params := ps.toArray, assign := assign, body := body, defers := rec0.defers })
  have hcall := range_core (P := P) hseq hcap hps hpn' ho J Jx h0 (fun lp pre x post hx m1 Hl hJ hle Hfr ⟨rec, hr, _⟩ => hround lp pre x post hx m1 Hl hJ hle Hfr ⟨rec, hr⟩) hs1
  have henter := run_enterLoop_inner (P := P) (w := w) hlo fnd tmps ps.toArray assign body
  generalize w.alloc (.loop { state := .ready, pending := none, fn := fnd, tmps := tmps, params := ps.toArray, assign := assign, body := body, defers := rec0.defers }) = W1 at henter hcall
  refine ⟨w.heap.size, [], W1, { target := .fn (.func gf) lb.toArray, args := #[.func (.yield w.heap.size) #[] #[]] }, W1, gf, (.func (.yield w.heap.size) #[] #[] :: lb).toArray, W1,
    henter, ?_, fun f _ => FW_fn _ f, ?_, FW_depth _, ?_⟩
  · have e0 : ∀ v, (Act.mk tmps (marks ds)).eval (.const v) = v := fun _ => rfl
    simp [resolve, ho.ev hg, e0, Deferred.ofValue]
  · simp [invoke, h2]
  · have hc : CallsIn (FW (some lo)) (0 - 1) P gf (.func (.yield w.heap.size) #[] #[] :: lb).toArray _ _ := hcall
    refine hc.mono ?_
    rintro e w' ⟨v, m', rfl, hle, (⟨Hl, hJ, hs3⟩ | ⟨c, pre, Hl, hpre, hJ, hs3⟩)⟩
    · obtain ⟨w4, h4, hs4⟩ := end_loop (P := P) hs3 (by simp)
      exact ⟨none, w4, h4, hdone m' Hl hJ hle tmps w4 ho hs4⟩
    · obtain ⟨w4, h4, hs4⟩ := end_loop (P := P) hs3 (by simp)
      exact ⟨some c, w4, h4, hstop c pre m' Hl hpre hJ hle tmps w4 ho hs4⟩
end
end Go.Eng
