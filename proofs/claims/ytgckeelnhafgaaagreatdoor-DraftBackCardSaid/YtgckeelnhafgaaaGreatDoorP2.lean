/-
  Parts of a walk, joined. No condition.
-/
import Derived.Test.YtgckeelnhafgaaaGreatDoorP1
import Derived.OrdersIn
import Derived.ChangeSame
import Derived.Laws.Cover4
import Derived.Scope
import Derived.Lib.ConvBytes
set_option linter.all false
set_option maxRecDepth 100000
set_option maxHeartbeats 4000000
namespace Go.Proofs.YtgckeelnhafgaaaGreatDoor
end Go.Proofs.YtgckeelnhafgaaaGreatDoor
open Go.Proofs Go.Proofs.YtgckeelnhafgaaaGreatDoor
open Go Go.Eng
variable {P : Program} {ro : Option Nat} {n : Nat} {w0 : World} {Q : Exit → Act → World → Prop} {r : Env} {ds : List Dfr} {m : Mem} {H : SHeap} {ops : Array Oper} {l : List Oper} {d : Nat} {ty : TypeId} {pos : String} {after : Array Edge}
namespace Go.Eng
open Go Go.RowKit
def YieldOK (P : Program) (w0 : World) (l : Nat) (args : Array Value) (m : Mem) (H : SHeap) (Jt Jf : Mem → SHeap → Prop) : Prop :=
 ∀ w, Sat w0 m H w → YieldAt (FW none) 0 P l args w fun e w' =>
  (e = .returned (.bool true) ∧ ∃ m' H', Jt m' H' ∧ Sat w0 m' H' w') ∨ (e = .returned (.bool false) ∧ ∃ m' H', Jf m' H' ∧ Sat w0 m' H' w')
def SeqC {α : Type} (P : Program) (gf : FuncId) (lb : List Value) (encs : α → List Value) (xs : List α) (Cap : Mem → Prop) : Prop :=
 ∀ (w0 : World) (l : Nat) (J Jx : List α → Mem → SHeap → Prop) (m : Mem) (H : SHeap), Cap m → J [] m H →
  (∀ pre x post, xs = pre ++ x :: post → ∀ m1 H1 Hit, J pre m1 H1 → m.le m1 →
   YieldOK P w0 l (encs x).toArray m1 (Hit ++ H1) (fun m' H' => ∃ H2, H' = Hit ++ H2 ∧ J (pre ++ [x]) m' H2 ∧ m1.le m') (fun m' H' => ∃ H2, H' = Hit ++ H2 ∧ Jx (pre ++ [x]) m' H2 ∧ m1.le m')) →
  Does P gf (.func (.yield l) #[] #[] :: lb).toArray w0 m H (fun _ m' H' => m.le m' ∧ (J xs m' H' ∨ ∃ pre, pre <+: xs ∧ Jx pre m' H'))
inductive Tail (Hfr : SHeap) : SHeap → SHeap → Prop
 | nil : Tail Hfr Hfr []
 | cons {i : Item} {H Hl : SHeap} : Tail Hfr H Hl → Tail Hfr (i :: H) (i :: Hl)
theorem Tail.eq {Hfr H Hl : SHeap} (h : Tail Hfr H Hl) : H = Hl ++ Hfr := by
 induction h with
 | nil => rfl
 | cons _ ih => rw [ih]; rfl
section
theorem WL.yield {f : Operand} {args : List Operand} {vs : List Value} {ts : Array TypeId} {lp : Nat} {Jt Jf : Mem → SHeap → Prop} (hf : r.ev f = some (.func (.yield lp) #[] #[])) (hv : r.evs args = some vs)
  (hd : Nat.blt d n = true) (hy : YieldOK P w0 lp vs.toArray m H Jt Jf)
  (ht : ∀ m' H', Jt m' H' → WL P ro n w0 ops Q l ((d, .bool true) :: r) ds m' H') (hn : ∀ m' H', Jf m' H' → WL P ro n w0 ops Q l ((d, .bool false) :: r) ds m' H') :
  WL P ro n w0 ops Q (⟨some d, .call ⟨.value f, args.toArray, ts⟩, ty, pos, after, none⟩ :: l) r ds m H := by
 intro tmps w ho hs
 obtain ⟨fn, tm, assign, body, hrun, hround⟩ := hy w hs
 unfold wpListIn
 simp only [Region.wanted, if_true]
 refine ⟨fun f _ => jA ro f, ?_⟩
 rw [w6 (FW ro).round _ _ (fun _ h => by cases h)]
 have e1 := ho.evs (marks ds) hv
 have hex : (execOp (Act.mk tmps (marks ds)).eval ⟨some d, .call ⟨.value f, args.toArray, ts⟩, ty, pos, after, none⟩).run P w = .ok (.round lp fn tm assign body) w := by
  simp only [execOp, resolve, Sem.run_bind, List.map_toArray, e1, ho.ev hf]
  simp [Deferred.ofValue, invoke, hrun, Result.andThen]
 rw [hex]
 refine ⟨jV ro, ?_⟩
 have hr : RoundIn (FW ro) (0 - 1) P lp fn tm assign body w _ := hround
 refine hr.mono ?_
 have hd' : d < n := by simpa [Nat.blt_eq] using hd
 rintro e w' (⟨rfl, m', H', hJ, hs'⟩ | ⟨rfl, m', H', hJ, hs'⟩)
 ·exact ht m' H' hJ _ w' (ho.put hd' _) hs'
 ·exact hn m' H' hJ _ w' (ho.put hd' _) hs'
def zD {α : Type} (w0 : World) (J : List α → Mem → SHeap → Prop) (Jx : Code → List α → Mem → SHeap → Prop) (pre : List α) (m1 : Mem) (Hfr : SHeap) : Exit → Act → World → Prop
 | .normal, _, w => ∃ m' Hl, J pre m' Hl ∧ m1.le m' ∧ Sat w0 m' (Hl ++ Hfr) w
 | .ret, _, w => ∃ m' Hl, Jx .ret pre m' Hl ∧ m1.le m' ∧ Sat w0 m' (Hl ++ Hfr) w
 | .exit id, _, w => ∃ m' Hl, Jx (.exit id) pre m' Hl ∧ m1.le m' ∧ Sat w0 m' (Hl ++ Hfr) w
 | .goto t, _, w => ∃ m' Hl, Jx (.goto t) pre m' Hl ∧ m1.le m' ∧ Sat w0 m' (Hl ++ Hfr) w
 | _, _, _ => False
def zB {α : Type} (P : Program) (n : Nat) (w0 : World) (lp : Nat) (body : Code) (J : List α → Mem → SHeap → Prop) (Jx : Code → List α → Mem → SHeap → Prop) (pre : List α) (m1 : Mem) (Hfr : SHeap) : Exit → Act → World → Prop :=
 Exit.then (fun a w => ∃ r m' Hl, r.ok n a.tmps ∧ a.defers = marks [] ∧ Sat w0 m' (Hl ++ Hfr) w ∧ m1.le m' ∧ ∀ Hfr2, (∃ rec, Item.blk lp (.loop rec) ∈ Hfr2) → WC P (some lp) n w0 body (zD w0 J Jx pre m1 Hfr2) r [] m' (Hl ++ Hfr2)) (fun _ _ _ => False)
theorem WQ.assigned {α : Type} {lp : Nat} {body : Code} {J : List α → Mem → SHeap → Prop} {Jx : Code → List α → Mem → SHeap → Prop} {pre : List α} {m1 : Mem} {Hfr Hl : SHeap} (ht : Tail Hfr H Hl) (hm : m1.le m)
  (h : ∀ Hfr2, WC P (some lp) n w0 body (zD w0 J Jx pre m1 Hfr2) r [] m (Hl ++ Hfr2)) : WQ n w0 (zB P n w0 lp body J Jx pre m1 Hfr) .normal r [] m H :=
 fun _ _ ho hs => ⟨r, m, Hl, ho, rfl, by rw [← ht.eq]; exact hs, hm, fun Hfr2 _ => h Hfr2⟩
theorem WQ.assignedIn {α : Type} {lp : Nat} {body : Code} {J : List α → Mem → SHeap → Prop} {Jx : Code → List α → Mem → SHeap → Prop} {pre : List α} {m1 : Mem} {Hfr Hl : SHeap} (ht : Tail Hfr H Hl) (hm : m1.le m)
  (h : ∀ Hfr2, (∃ rec, Item.blk lp (.loop rec) ∈ Hfr2) → WC P (some lp) n w0 body (zD w0 J Jx pre m1 Hfr2) r [] m (Hl ++ Hfr2)) : WQ n w0 (zB P n w0 lp body J Jx pre m1 Hfr) .normal r [] m H :=
 fun _ _ ho hs => ⟨r, m, Hl, ho, rfl, by rw [← ht.eq]; exact hs, hm, h⟩
theorem WQ.roundOn {α : Type} {J : List α → Mem → SHeap → Prop} {Jx : Code → List α → Mem → SHeap → Prop} {pre : List α} {m1 : Mem} {Hfr Hl : SHeap} (ht : ∀ w, Sat w0 m H w → Sat w0 m (Hl ++ Hfr) w) (hm : m1.le m) (h : J pre m Hl) :
  WQ n w0 (zD w0 J Jx pre m1 Hfr) .normal r ds m H := fun _ _ _ hs => ⟨m, Hl, h, hm, ht _ hs⟩
theorem WQ.roundRet {α : Type} {J : List α → Mem → SHeap → Prop} {Jx : Code → List α → Mem → SHeap → Prop} {pre : List α} {m1 : Mem} {Hfr Hl : SHeap} (ht : ∀ w, Sat w0 m H w → Sat w0 m (Hl ++ Hfr) w) (hm : m1.le m) (h : Jx .ret pre m Hl) :
  WQ n w0 (zD w0 J Jx pre m1 Hfr) .ret r ds m H := fun _ _ _ hs => ⟨m, Hl, h, hm, ht _ hs⟩
theorem vA (Hit : SHeap) (i : Item) (Hl Hb : SHeap) : List.Perm (Hit ++ (i :: (Hl ++ Hb))) (Hl ++ (i :: (Hb ++ Hit))) := by
 have h1 : List.Perm (Hit ++ (i :: (Hl ++ Hb))) ((i :: (Hl ++ Hb)) ++ Hit) := List.perm_append_comm
 refine h1.trans ?_
 rw [List.cons_append, List.append_assoc]
 exact List.perm_middle.symm
def Env.given : List Nat → List Value → Env → Env
 | p :: ps, v :: vs, r => Env.given ps vs ((p, v) :: r)
 | _, _, r => r
theorem Env.ok.given {n : Nat} : ∀ (ps : List Nat) (vs : List Value) {r : Env} {tmps : Array Value}, r.ok n tmps → (∀ p ∈ ps, p < n) → (Env.given ps vs r).ok n ((ps.zip vs).foldl (fun t (p : Nat × Value) => t.setIfInBounds p.1 p.2) tmps)
 | [], vs, r, tmps, h, _ => by simpa [Env.given] using h
 | p :: ps, [], r, tmps, h, _ => by simpa [Env.given] using h
 | p :: ps, v :: vs, r, tmps, h, hp => by
  simp only [Env.given, List.zip_cons_cons, List.foldl_cons]
  exact Env.ok.given ps vs (h.put (hp p List.mem_cons_self) v) (fun q hq => hp q (List.mem_cons_of_mem _ hq))
theorem zF8 {α : Type} {gf : FuncId} {lb : List Value} {encs : α → List Value} {xs : List α} {Cap : Mem → Prop} {ps : List Nat} {assign body : Code} {fnd : FuncId} {tmps : Array Value} {L D : Nat} {Hb : SHeap}
  (hseq : SeqC P gf lb encs xs Cap) (hcap : Cap m) (hps : ∀ x, (encs x).length = ps.length) (hpn : ∀ p ∈ ps, p < n) (hok : r.ok n tmps)
  (J : List α → Mem → SHeap → Prop) (Jx : Code → List α → Mem → SHeap → Prop) {Hl0 : SHeap} (h0 : J [] m Hl0)
  (hround : ∀ lp pre x post, xs = pre ++ x :: post → ∀ m1 Hl, J pre m1 Hl → m.le m1 → ∀ Hfr, (∃ rec, Item.blk lp (.loop rec) ∈ Hfr ∧ rec.defers = D) → WC P (some lp) n w0 assign (zB P n w0 lp body J Jx (pre ++ [x]) m1 Hfr) (Env.given ps (encs x) r) [] m1 (Hl ++ Hfr))
  {w : World} (hs : Sat w0 m (.blk L (.loop { state := .ready, pending := none, fn := fnd, tmps := tmps, params := ps.toArray, assign := assign, body := body, defers := D }) :: (Hl0 ++ Hb)) w) :
  CallsIn (FW none) 0 P gf (.func (.yield L) #[] #[] :: lb).toArray w fun e w' => ∃ v m', e = .returned v ∧ m.le m' ∧
   ((∃ Hl, J xs m' Hl ∧ Sat w0 m' (.blk L (.loop { state := .ready, pending := none, fn := fnd, tmps := tmps, params := ps.toArray, assign := assign, body := body, defers := D }) :: (Hl ++ Hb)) w') ∨
    (∃ c pre Hl, pre <+: xs ∧ Jx c pre m' Hl ∧ Sat w0 m' (.blk L (.loop { state := .done, pending := some c, fn := fnd, tmps := tmps, params := ps.toArray, assign := assign, body := body, defers := D }) :: (Hl ++ Hb)) w')) := by
 obtain ⟨rec, hrec⟩ : ∃ rec : LoopState → Option Code → Loop, rec = fun st pe => { state := st, pending := pe, fn := fnd, tmps := tmps, params := ps.toArray, assign := assign, body := body, defers := D } := ⟨_, rfl⟩
 have hs1 : Sat w0 m (.blk L (.loop (rec .ready none)) :: (Hl0 ++ Hb)) w := by rw [hrec]; exact hs
 have := hseq w0 L (fun pre m H => ∃ Hl, H = .blk L (.loop (rec .ready none)) :: (Hl ++ Hb) ∧ J pre m Hl)
  (fun pre m H => ∃ c Hl, H = .blk L (.loop (rec .done (some c))) :: (Hl ++ Hb) ∧ Jx c pre m Hl) m _ hcap ⟨Hl0, rfl, h0⟩ ?_ w hs1
 ·refine this.mono ?_
  rintro e w' ⟨v, m', H', rfl, ⟨hle, hP⟩, hs'⟩
  refine ⟨v, m', rfl, hle, ?_⟩
  rcases hP with ⟨Hl, rfl, hJ⟩ | ⟨pre, hpre, c, Hl, rfl, hJ⟩
  ·exact .inl ⟨Hl, hJ, by rw [hrec] at hs'; exact hs'⟩
  ·exact .inr ⟨c, pre, Hl, hpre, hJ, by rw [hrec] at hs'; exact hs'⟩
 ·rintro pre x post hx m1 H1 Hit ⟨Hl, rfl, hJ⟩ hle W hW
  have hL : W.heap[L]? = some (.loop (rec .ready none)) := hW.own (.blk L _) (by simp)
  have hy := run_yield (P := P) (args := (encs x).toArray) hL (by rw [hrec]; simp [hps x])
  refine ⟨fnd, (ps.zip (encs x)).foldl (fun t (p : Nat × Value) => t.setIfInBounds p.1 p.2) tmps, assign, body, ?_, roundIn_of_wpIn (jA none fnd) ?_⟩
  ·rw [hy, hrec]
   congr 2
   simp
  ·have hsat1 := hW.perm (vA Hit (.blk L (.loop (rec .ready none))) Hl Hb)
   have hr := hround L pre x post hx m1 Hl hJ hle (.blk L (.loop (rec .ready none)) :: (Hb ++ Hit)) ⟨_, List.mem_cons_self, by rw [hrec]⟩ _ W (hok.given ps (encs x) hpn) hsat1
   refine wpIn_mono hr ?_
   intro e a1 W1 hq
   cases e with
   | normal =>
    obtain ⟨r1, m2, Hl1, hok1, hdf, hs2, hle2, hbody⟩ := hq
    have hs2' := hs2.perm (List.perm_middle (a := Item.blk L (.loop (rec .ready none))) (l₁ := Hl1) (l₂ := Hb ++ Hit))
    have hL1 : W1.heap[L]? = some (.loop (rec .ready none)) := hs2'.own _ List.mem_cons_self
    refine ⟨_, run_beginRound hL1 (by rw [hrec]), ?_⟩
    have hs3 := (hs2'.putObj (o' := .loop { rec .ready none with state := .busy })).perm (List.perm_middle (a := Item.blk L (.loop { rec .ready none with state := .busy })) (l₁ := Hl1) (l₂ := Hb ++ Hit)).symm
    obtain ⟨tm1, df1⟩ := a1
    simp only at hdf
    subst hdf
    refine wpIn_mono (hbody (.blk L (.loop { rec .ready none with state := .busy }) :: (Hb ++ Hit)) ⟨_, List.mem_cons_self⟩ tm1 _ hok1 hs3) ?_
    have fin : ∀ (jump : Option Code) (m3 : Mem) (Hl3 : SHeap) (W3 : World), Sat w0 m3 (Hl3 ++ (.blk L (.loop { rec .ready none with state := .busy }) :: (Hb ++ Hit))) W3 →
      ∃ w4, (Instr.endRound L jump).run P W3 = .ok (.bool jump.isNone) w4 ∧ Sat w0 m3 (Hit ++ (.blk L (.loop (rec (if jump.isNone then .ready else .done) jump)) :: (Hl3 ++ Hb))) w4 := by
     intro jump m3 Hl3 W3 hs4
     have hs5 := hs4.perm (List.perm_middle (a := Item.blk L (.loop { rec .ready none with state := .busy })) (l₁ := Hl3) (l₂ := Hb ++ Hit))
     have hL3 : W3.heap[L]? = some (.loop { rec .ready none with state := .busy }) := hs5.own _ List.mem_cons_self
     refine ⟨_, run_endRound jump hL3, ?_⟩
     have hs6 := hs5.putObj (o' := .loop { { rec .ready none with state := .busy } with state := if jump.isNone then .ready else .done, pending := jump })
     have e1 : ({ { rec .ready none with state := .busy } with state := if jump.isNone then .ready else .done, pending := jump } : Loop) = rec (if jump.isNone then .ready else .done) jump := by rw [hrec]
     rw [e1] at hs6
     rw [e1]
     exact hs6.perm ((List.perm_middle (a := Item.blk L (.loop (rec (if jump.isNone then .ready else .done) jump))) (l₁ := Hl3) (l₂ := Hb ++ Hit)).symm.trans (vA Hit _ Hl3 Hb).symm)
    intro e3 a3 W3 hq3
    cases e3 with
    | normal =>
     obtain ⟨m3, Hl3, hJ3, hle3, hs4⟩ := hq3
     obtain ⟨w4, h4, hs5⟩ := fin none m3 Hl3 W3 hs4
     exact ⟨_, w4, h4, .inl ⟨rfl, m3, _, ⟨_, rfl, ⟨Hl3, rfl, hJ3⟩, hle3⟩, hs5⟩⟩
    | ret =>
     obtain ⟨m3, Hl3, hJ3, hle3, hs4⟩ := hq3
     obtain ⟨w4, h4, hs5⟩ := fin (some .ret) m3 Hl3 W3 hs4
     exact ⟨_, w4, h4, .inr ⟨rfl, m3, _, ⟨_, rfl, ⟨.ret, Hl3, rfl, hJ3⟩, hle3⟩, hs5⟩⟩
    | exit id =>
     obtain ⟨m3, Hl3, hJ3, hle3, hs4⟩ := hq3
     obtain ⟨w4, h4, hs5⟩ := fin (some (.exit id)) m3 Hl3 W3 hs4
     exact ⟨_, w4, h4, .inr ⟨rfl, m3, _, ⟨_, rfl, ⟨.exit id, Hl3, rfl, hJ3⟩, hle3⟩, hs5⟩⟩
    | goto t =>
     obtain ⟨m3, Hl3, hJ3, hle3, hs4⟩ := hq3
     obtain ⟨w4, h4, hs5⟩ := fin (some (.goto t)) m3 Hl3 W3 hs4
     exact ⟨_, w4, h4, .inr ⟨rfl, m3, _, ⟨_, rfl, ⟨.goto t, Hl3, rfl, hJ3⟩, hle3⟩, hs5⟩⟩
    | panic ch => exact hq3.elim
    | outgrown => exact hq3.elim
   | _ => exact hq.elim
theorem uT {L : Nat} {rec : Loop} {Hx : SHeap} {w : World} (hs : Sat w0 m (.blk L (.loop rec) :: Hx) w) (hb : rec.state ≠ .busy) :
  ∃ w', (Instr.endLoop L).run P w = .ok rec.pending w' ∧ Sat w0 m Hx w' :=
 ⟨_, run_endLoop (hs.own _ List.mem_cons_self) hb, hs.putObj.drop⟩
theorem WC.rangeFunc {α : Type} {g : Operand} {gf : FuncId} {fn : Func} {cb : Code} {lb : List Value} {encs : α → List Value} {xs : List α} {Cap : Mem → Prop} {ps : List Nat} {assign body : Code} {Hl0 Hc : SHeap}
  (hg : r.ev g = some (.func (.func gf) #[] lb.toArray)) (hf : P.funcs[gf]? = some fn) (hname : (fn.name == "runtime.NumGoroutine") = false) (hb : fn.body = some cb)
  (hseq : SeqC P gf lb encs xs Cap) (hcap : Cap m) (hps : ∀ x, (encs x).length = ps.length) (hpn : ps.all (fun p => Nat.blt p n) = true)
  (J : List α → Mem → SHeap → Prop) (Jx : Code → List α → Mem → SHeap → Prop) (ht : Tail Hc H Hl0) (h0 : J [] m Hl0)
  (hround : ∀ lp pre x post, xs = pre ++ x :: post → ∀ m1 Hl, J pre m1 Hl → m.le m1 → ∀ Hfr, (∃ rec, Item.blk lp (.loop rec) ∈ Hfr) → WC P (some lp) n w0 assign (zB P n w0 lp body J Jx (pre ++ [x]) m1 Hfr) (Env.given ps (encs x) r) [] m1 (Hl ++ Hfr))
  (hdone : ∀ (D : Nat) m' Hl, J xs m' Hl → m.le m' → WQ n w0 Q .normal r (D :: ds) m' (Hl ++ (.blk D (.deferred (some [])) :: Hc)))
  (hstop : ∀ (D : Nat) c pre m' Hl, pre <+: xs → Jx c pre m' Hl → m.le m' → WC P none n w0 c Q r (D :: ds) m' (Hl ++ (.blk D (.deferred (some [])) :: Hc))) :
  WC P none n w0 (.rangeFunc g ps.toArray assign body) Q r ds m H := by
 intro tmps w ho hs
 rw [ht.eq] at hs
 have hpn' : ∀ p ∈ ps, p < n := fun p hp => by have := List.all_eq_true.1 hpn p hp; simpa [Nat.blt_eq] using this
 have h1 : fn.name ≠ "runtime.NumGoroutine" := by simpa using hname
 have h2 : ∀ (a : Array Value) (w : World), (callFunc gf a).run P w = .ok (.enter gf a) w := fun a w => by simp [callFunc, hf, h1, hb]
 refine wpIn_rangeFunc (fun fnd _ => ?_)
 have hs1 := (hs.alloc (.deferred (some []))).alloc (.loop { state := .ready, pending := none, fn := fnd, tmps := tmps, params := ps.toArray, assign := assign, body := body, defers := w.heap.size })
 rw [World.size_alloc] at hs1
 have hs2 := hs1.perm (List.Perm.cons _ (List.perm_middle (a := Item.blk w.heap.size (.deferred (some []))) (l₁ := Hl0) (l₂ := Hc)).symm)
 have hcall := zF8 (P := P) hseq hcap hps hpn' ho J Jx h0 (fun lp pre x post hx m1 Hl hJ hle Hfr ⟨rec, hr, _⟩ => hround lp pre x post hx m1 Hl hJ hle Hfr ⟨rec, hr⟩) hs2
 have henter := run_enterLoop_outer (P := P) (w := w) fnd tmps ps.toArray assign body
 generalize (w.alloc (.deferred (some []))).alloc (.loop { state := .ready, pending := none, fn := fnd, tmps := tmps, params := ps.toArray, assign := assign, body := body, defers := w.heap.size }) = W1 at henter hcall
 refine ⟨w.heap.size + 1, [{ target := .collected w.heap.size, args := #[] }], W1, { target := .fn (.func gf) lb.toArray, args := #[.func (.yield (w.heap.size + 1)) #[] #[]] }, W1, gf, (.func (.yield (w.heap.size + 1)) #[] #[] :: lb).toArray, W1,
  henter, ?_, fun f _ => jA none f, ?_, jV none, ?_⟩
 ·have e0 : ∀ v, (Act.mk tmps (marks ds)).eval (.const v) = v := fun _ => rfl
  simp [resolve, ho.ev hg, e0, Deferred.ofValue]
 ·simp [invoke, h2]
 ·have hc : CallsIn (FW none) (0 - 1) P gf (.func (.yield (w.heap.size + 1)) #[] #[] :: lb).toArray _ _ := hcall
  refine hc.mono ?_
  rintro e w' ⟨v, m', rfl, hle, (⟨Hl, hJ, hs3⟩ | ⟨c, pre, Hl, hpre, hJ, hs3⟩)⟩
  ·obtain ⟨w4, h4, hs4⟩ := uT (P := P) hs3 (by simp)
   exact ⟨none, w4, h4, hdone _ m' Hl hJ hle tmps w4 ho hs4⟩
  ·obtain ⟨w4, h4, hs4⟩ := uT (P := P) hs3 (by simp)
   exact ⟨some c, w4, h4, hstop _ c pre m' Hl hpre hJ hle tmps w4 ho hs4⟩
end
end Go.Eng
namespace Go.Eng
open Go Go.RowKit
def bind1 (e : Edge) : Bool := Region.binds .any e
def maskOf (o : Oper) (M : List Nat) : Nat := o.after.toList.foldl (fun b e => bif bind1 e then b ||| (1 <<< e.on) ||| M.getD e.on 0 else b) 0
def masks : List Oper → List Nat → List Nat
 | [], acc => acc
 | o :: rest, acc => masks rest (acc ++ [maskOf o acc])
def drawB (l : List Oper) (g : Nat) : Bool :=
 let M := masks l []
 Nat.ble g l.length && Nat.beq M.length l.length &&
 (l.zipIdx.all fun p => p.1.after.all fun e => !bind1 e || Nat.blt e.on p.2) &&
 (M.zipIdx.all fun p => match l[p.2]? with | some o => Nat.beq (p.1 &&& maskOf o M) p.1 | none => false) &&
 (M.zipIdx.all fun p => Nat.blt p.2 g || Nat.beq (p.1 &&& (2 ^ p.2 - 1)) (2 ^ p.2 - 1)) &&
 ((l.take g).zipIdx.all fun p => p.1.dst.isSome && ((l.take g).zipIdx.all fun q => Nat.beq p.2 q.2 || (p.1.dst != q.1.dst))) &&
 ((l.take g).zipIdx.all fun p => (p.1.looksAt l.toArray).all fun t => (l.take g).zipIdx.all fun q => q.1.dst != some t || (Nat.blt q.2 p.2 && (p.1.after.any fun e => bind1 e && Nat.beq e.on q.2)) || (Nat.blt p.2 q.2 && (M.getD q.2 0).testBit p.2))
def drawC (l : List Oper) (g : Nat) : Bool :=
 let M := masks l []
 Nat.ble g l.length && Nat.beq M.length l.length &&
 (l.zipIdx.all fun p => p.1.after.all fun e => !bind1 e || Nat.blt e.on p.2) &&
 (M.zipIdx.all fun p => match l[p.2]? with | some o => Nat.beq (p.1 &&& maskOf o M) p.1 | none => false) &&
 (M.zipIdx.all fun p => Nat.blt p.2 g || Nat.beq (p.1 &&& (2 ^ p.2 - 1)) (2 ^ p.2 - 1)) &&
 ((l.take g).zipIdx.all fun p => p.1.dst.isNone || ((l.take g).zipIdx.all fun q => Nat.beq p.2 q.2 || (p.1.dst != q.1.dst))) &&
 ((l.take g).zipIdx.all fun p => (p.1.looksAt l.toArray).all fun t => (l.take g).zipIdx.all fun q => q.1.dst != some t || (Nat.blt q.2 p.2 && (p.1.after.any fun e => bind1 e && Nat.beq e.on q.2)) || (Nat.blt p.2 q.2 && (M.getD q.2 0).testBit p.2))
def Env.sel (ts : List Nat) (r : Env) : Env := ts.filterMap fun t => (r.get t).map fun v => (t, v)
theorem Env.sel_get {ts : List Nat} {r : Env} {t : Nat} {v : Value} (h : (Env.sel ts r).get t = some v) : t ∈ ts ∧ r.get t = some v := by
 have := Env.get_mem h
 simp only [Env.sel, List.mem_filterMap] at this
 obtain ⟨t', ht', hv⟩ := this
 cases hr : r.get t' with
 | none => simp [hr] at hv
 | some u =>
  simp [hr] at hv
  obtain ⟨rfl, rfl⟩ := hv
  exact ⟨ht', hr⟩
def Q1 (w0 : World) (d : Nat) (v : Value) (ds : List Dfr) (m : Mem) (H : SHeap) : Exit → Act → World → Prop
 | .normal, a, w => a.tmps[d]? = some v ∧ a.defers = marks ds ∧ Sat w0 m H w
 | _, _, _ => False
section
theorem WQ.q1 {d : Nat} {v : Value} (hv : r.get d = some v) : WQ n w0 (Q1 w0 d v ds m H) .normal r ds m H := fun _ _ ho hs => ⟨ho.at_ _ _ hv, rfl, hs⟩
inductive WD (P : Program) (ro : Option Nat) (n : Nat) (w0 : World) (ops : Array Oper) (ds : List Dfr) (m : Mem) (H : SHeap) (K : Env → Prop) : List Oper → Env → Prop
 | nil {r : Env} : K r → WD P ro n w0 ops ds m H K [] r
 | cons {o : Oper} {rest : List Oper} {r : Env} {d : Nat} {v : Value} : o.dst = some d → (∀ c, o.op ≠ .defer c) → WL P ro n w0 ops (Q1 w0 d v ds m H) [o] (Env.sel (o.looksAt ops) r) ds m H →
   WD P ro n w0 ops ds m H K rest ((d, v) :: r) → WD P ro n w0 ops ds m H K (o :: rest) r
 | known {l : List Oper} {r : Env} (d : Nat) {b : Bool} (k : Bool) : r.get d = some (.bool b) → b = k → WD P ro n w0 ops ds m H K l ((d, .bool k) :: r) → WD P ro n w0 ops ds m H K l r
def Env.le (r r' : Env) : Prop := ∀ t u, r.get t = some u → r'.get t = some u
theorem Env.le.cons {r r' : Env} (h : r.le r') (d : Nat) (v : Value) : Env.le ((d, v) :: r) ((d, v) :: r') := by
 intro t u ht
 simp only [Env.get] at ht ⊢
 cases hb : Nat.beq d t with
 | true => simpa [hb] using ht
 | false => simp [hb] at ht ⊢; exact h t u ht
def envAt : List Oper → List Value → Nat → Env → Env
 | o :: l, v :: vs, i + 1, r => envAt l vs i ((o.dst.getD 0, v) :: r)
 | _, _, _, r => r
theorem WD.data {ops : Array Oper} {K : Env → Prop} {l : List Oper} (h : WD P ro n w0 ops ds m H K l r) : ∀ r0, r.le r0 → ∃ vals : List Value, vals.length = l.length ∧
  (∀ i o, l[i]? = some o → ∃ d v ri, o.dst = some d ∧ vals[i]? = some v ∧ Env.le ri (envAt l vals i r0) ∧ (∀ c, o.op ≠ .defer c) ∧ WL P ro n w0 ops (Q1 w0 d v ds m H) [o] (Env.sel (o.looksAt ops) ri) ds m H) ∧
  ∃ rf, Env.le rf (envAt l vals l.length r0) ∧ K rf := by
 induction h with
 | nil hK => exact fun r0 hr => ⟨[], rfl, fun i o h => by simp at h, _, hr, hK⟩
 | @cons o rest r d v hd hnd hwl _ ih =>
  intro r0 hr
  obtain ⟨vals, h1, h2, h3⟩ := ih ((d, v) :: r0) (hr.cons d v)
  refine ⟨v :: vals, by simp [h1], ?_, ?_⟩
  ·intro i o' ho
   cases i with
   | zero =>
    simp at ho
    subst ho
    exact ⟨d, v, r, hd, rfl, hr, hnd, hwl⟩
   | succ i =>
    obtain ⟨d', v', ri, g1, g2, g3, g4⟩ := h2 i o' (by simpa using ho)
    exact ⟨d', v', ri, g1, by simpa using g2, by simpa [envAt, hd] using g3, g4⟩
  ·obtain ⟨rf, g1, g2⟩ := h3
   exact ⟨rf, by simpa [envAt, hd] using g1, g2⟩
 | @known l r d b k hd hb _ ih =>
  intro r0 hr
  refine ih r0 (fun t u ht => ?_)
  simp only [Env.get] at ht
  cases hq : Nat.beq d t with
  | true =>
   have e := Nat.eq_of_beq_eq_true hq
   subst e; subst hb
   simp at ht
   subst ht
   exact hr _ _ hd
  | false => simp [hq] at ht; exact hr t u ht
theorem zLg : ∀ (l : List Oper) (vals : List Value) (i : Nat) (r0 : Env) (t : Nat) (u : Value), (envAt l vals i r0).get t = some u →
  (∃ j o v, j < i ∧ l[j]? = some o ∧ vals[j]? = some v ∧ o.dst.getD 0 = t ∧ u = v) ∨ (r0.get t = some u ∧ ∀ j o, j < i → j < vals.length → l[j]? = some o → o.dst.getD 0 ≠ t)
 | [], vals, i, r0, t, u, h => by
  have : (envAt [] vals i r0) = r0 := by cases i <;> cases vals <;> rfl
  rw [this] at h
  exact .inr ⟨h, fun j o _ _ hj => by simp at hj⟩
 | o :: l, [], i, r0, t, u, h => by
  have : (envAt (o :: l) [] i r0) = r0 := by cases i <;> rfl
  rw [this] at h
  exact .inr ⟨h, fun j o _ hj _ => by simp at hj⟩
 | o :: l, v :: vals, 0, r0, t, u, h => .inr ⟨h, fun j o hj _ _ => absurd hj (Nat.not_lt_zero _)⟩
 | o :: l, v :: vals, i + 1, r0, t, u, h => by
  simp only [envAt] at h
  rcases zLg l vals i _ t u h with ⟨j, o', v', h1, h2, h3, h4, h5⟩ | ⟨h1, h2⟩
  ·exact .inl ⟨j + 1, o', v', by omega, by simpa using h2, by simpa using h3, h4, h5⟩
  ·simp only [Env.get] at h1
   cases hq : Nat.beq (o.dst.getD 0) t with
   | true =>
    simp [hq] at h1
    exact .inl ⟨0, o, v, by omega, rfl, rfl, Nat.eq_of_beq_eq_true hq, h1.symm⟩
   | false =>
    simp [hq] at h1
    refine .inr ⟨h1, fun j o' hj hjv ho' => ?_⟩
    cases j with
    | zero =>
     simp at ho'
     subst ho'
     exact Nat.ne_of_beq_eq_false hq
    | succ j => exact h2 j o' (by omega) (by simpa using hjv) (by simpa using ho')
theorem zCn {ops : Array Oper} {i : Nat} {o : Oper} {d : Nat} {v : Value} {tmps : Array Value} {w : World} {K : Act → World → Prop} (hi : ops[i]? = some o) (hd : o.dst = some d) (hnd : ∀ c, o.op ≠ .defer c)
  (h : wpListIn (FW ro) 0 P ops (Q1 w0 d v ds m H) [o] ⟨tmps, marks ds⟩ w) (hK : ∀ w', Sat w0 m H w' → d < tmps.size → K ⟨tmps.setIfInBounds d v, marks ds⟩ w') : wpOpIn (FW ro) 0 P ops Q i K ⟨tmps, marks ds⟩ w := by
 have key : ∀ v0 w', Q1 w0 d v ds m H .normal ((Act.mk tmps (marks ds)).put o.dst v0) w' → K ((Act.mk tmps (marks ds)).put o.dst v0) w' := by
  intro v0 w' hq
  rw [hd] at hq ⊢
  obtain ⟨h1, _, h3⟩ := hq
  simp only [Act.put] at h1 ⊢
  by_cases hlt : d < tmps.size
  ·rw [Array.getElem?_setIfInBounds_self_of_lt hlt] at h1
   cases h1
   exact hK w' h3 hlt
  ·rw [Array.getElem?_eq_none (by simpa using hlt)] at h1
   cases h1
 unfold wpOpIn
 rw [hi]
 unfold wpListIn at h
 simp only
 split
 ·rename_i hw
  rw [if_pos hw] at h
  refine ⟨h.1, ?_⟩
  have h2 := h.2
  rw [w6 (FW ro).round _ _ hnd] at h2 ⊢
  generalize hr : (execOp (Act.mk tmps (marks ds)).eval o).run P w = res at *
  cases res with
  | ok x w' =>
   cases x <;> simp only [Oper.uponIn] at h2 ⊢
   case value v0 => exact key _ _ h2
   case skip => exact key _ _ h2
   case defer df =>
    exfalso
    have h3 : _ ∧ _ = marks ds ∧ _ := h2
    have h4 := congrArg List.length h3.2.1
    rw [hd] at h4
    simp [Act.put] at h4
   case enter f args => exact ⟨h2.1, CallsIn.mono h2.2 fun e w'' he => by
    cases e with
    | returned v0 => exact key _ _ he
    | panicked chain => exact he.elim
    | outgrown => obtain ⟨a, b, hh⟩ := he; exact hh.elim⟩
   case row rw' args => exact ⟨h2.1, RowsIn.mono h2.2 fun v0 w'' he => key _ _ he⟩
   case round l f tm asg bd => exact ⟨h2.1, RoundIn.mono h2.2 fun e w'' he => by
    cases e with
    | returned v0 => exact key _ _ he
    | panicked chain => exact he.elim
    | outgrown => obtain ⟨a, b, hh⟩ := he; exact hh.elim⟩
  | halt x w' =>
   cases x <;> simp only [Oper.uponIn] at h2 ⊢
   all_goals exact h2.elim
 ·rename_i hw
  rw [if_neg hw] at h
  exact ⟨h.1, key _ _ h.2⟩
theorem zBT (M : List Nat) : ∀ (es : List Edge) (b i : Nat), (es.foldl (fun b e => bif bind1 e then b ||| (1 <<< e.on) ||| M.getD e.on 0 else b) b).testBit i = true →
  b.testBit i = true ∨ ∃ e ∈ es, bind1 e = true ∧ (e.on = i ∨ (M.getD e.on 0).testBit i = true)
 | [], b, i, h => .inl h
 | e :: es, b, i, h => by
  simp only [List.foldl_cons] at h
  rcases zBT M es _ i h with h | ⟨e', he', h1, h2⟩
  ·cases hb : bind1 e with
   | false => rw [hb] at h; exact .inl h
   | true =>
    rw [hb] at h
    simp only [cond_true, Nat.testBit_or, Bool.or_eq_true] at h
    rcases h with (h | h) | h
    ·exact .inl h
    ·refine .inr ⟨e, List.mem_cons_self, hb, .inl ?_⟩
     rw [Nat.one_shiftLeft, Nat.testBit_two_pow] at h
     simpa using h
    ·exact .inr ⟨e, List.mem_cons_self, hb, .inr h⟩
  ·exact .inr ⟨e', List.mem_cons_of_mem _ he', h1, h2⟩
structure DrawOk (l : List Oper) (g : Nat) (M : List Nat) : Prop where
 le : g ≤ l.length
 size : M.length = l.length
 down : ∀ i o, l[i]? = some o → ∀ e ∈ o.after, bind1 e = true → e.on < i
 sub : ∀ j o, l[j]? = some o → (M.getD j 0) &&& maskOf o M = M.getD j 0
 all : ∀ j, g ≤ j → j < l.length → ∀ i, i < j → (M.getD j 0).testBit i = true
 dst : ∀ i o, i < g → l[i]? = some o → ∀ d, o.dst = some d → ∀ j o', j < g → l[j]? = some o' → o'.dst = some d → i = j
 reads : ∀ i o, i < g → l[i]? = some o → ∀ t ∈ o.looksAt l.toArray, ∀ j o', j < g → l[j]? = some o' → o'.dst = some t → (j < i ∧ ∃ e ∈ o.after, bind1 e = true ∧ e.on = j) ∨ (i < j ∧ (M.getD j 0).testBit i = true)
theorem wV {α : Type} {l : List α} {i : Nat} {x : α} (h : l[i]? = some x) : (x, i) ∈ l.zipIdx := by
 rw [List.mem_zipIdx_iff_getElem?]; exact h
theorem zF4 {l : List Oper} {g : Nat} (h : drawC l g = true) : DrawOk l g (masks l []) := by
 unfold drawC at h
 simp only [Bool.and_eq_true] at h
 obtain ⟨⟨⟨⟨⟨⟨h1, h2⟩, h3⟩, h4⟩, h5⟩, h6⟩, h7⟩ := h
 have hsz : (masks l []).length = l.length := Nat.eq_of_beq_eq_true h2
 have hg : g ≤ l.length := by simpa using h1
 have htake : ∀ i o, i < g → l[i]? = some o → (l.take g)[i]? = some o := fun i o hi ho => by rw [List.getElem?_take, if_pos hi]; exact ho
 refine ⟨hg, hsz, ?_, ?_, ?_, ?_, ?_⟩
 ·intro i o ho e he hb
  have := List.all_eq_true.1 h3 (o, i) (wV ho)
  have := Array.all_eq_true'.1 this e he
  simp [hb] at this
  simpa [Nat.blt_eq] using this
 ·intro j o ho
  have hj : j < (masks l []).length := by rw [hsz]; exact (List.getElem?_eq_some_iff.1 ho).1
  have hM : (masks l [])[j]? = some ((masks l []).getD j 0) := by rw [List.getD_eq_getElem?_getD, List.getElem?_eq_getElem hj]; rfl
  have := List.all_eq_true.1 h4 _ (wV hM)
  simp only [ho] at this
  exact Nat.eq_of_beq_eq_true this
 ·intro j hgj hj i hi
  have hj' : j < (masks l []).length := by rw [hsz]; exact hj
  have hM : (masks l [])[j]? = some ((masks l []).getD j 0) := by rw [List.getD_eq_getElem?_getD, List.getElem?_eq_getElem hj']; rfl
  have := List.all_eq_true.1 h5 _ (wV hM)
  simp only [Bool.or_eq_true] at this
  rcases this with h | h
  ·have : j < g := by simpa [Nat.blt_eq] using h
   omega
  ·have e := Nat.eq_of_beq_eq_true h
   have hb : ((masks l []).getD j 0 &&& (2 ^ j - 1)).testBit i = true := by
    rw [e, Nat.testBit_two_pow_sub_one]; simpa using hi
   rw [Nat.testBit_and, Bool.and_eq_true] at hb
   exact hb.1
 ·intro i o hi ho
  have := List.all_eq_true.1 h6 _ (wV (htake i o hi ho))
  intro d hd j o' hj ho' hd'
  rw [hd] at this
  simp only [Option.isNone_some, Bool.false_or] at this
  have := List.all_eq_true.1 this _ (wV (htake j o' hj ho'))
  simp only [Bool.or_eq_true] at this
  rcases this with h | h
  ·exact Nat.eq_of_beq_eq_true h
  ·simp [hd'] at h
 ·intro i o hi ho t ht j o' hj ho' hd
  have := List.all_eq_true.1 h7 _ (wV (htake i o hi ho))
  have := List.all_eq_true.1 this t ht
  have := List.all_eq_true.1 this _ (wV (htake j o' hj ho'))
  simp only [Bool.or_eq_true, Bool.and_eq_true] at this
  rcases this with (h | ⟨h, h'⟩) | ⟨h, h'⟩
  ·simp [hd] at h
  ·obtain ⟨e, he, hb⟩ := Array.any_eq_true'.1 h'
   simp only [Bool.and_eq_true] at hb
   exact .inl ⟨by simpa [Nat.blt_eq] using h, e, he, hb.1, Nat.eq_of_beq_eq_true hb.2⟩
  ·exact .inr ⟨by simpa [Nat.blt_eq] using h, h'⟩
theorem zKu {l : List Oper} {g : Nat} (h : drawB l g = true) : drawC l g = true := by
 unfold drawB at h
 unfold drawC
 simp only [Bool.and_eq_true] at h ⊢
 refine ⟨⟨h.1.1, ?_⟩, h.2⟩
 refine List.all_eq_true.2 fun p hp => ?_
 have := List.all_eq_true.1 h.1.2 p hp
 simp only [Bool.and_eq_true] at this
 rw [this.2, Bool.or_true]
theorem zIZ {l : List Oper} {g : Nat} (h : drawB l g = true) : DrawOk l g (masks l []) := zF4 (zKu h)
def Closed (l : List Oper) (listed : Array Bool) : Prop := ∀ j o, l[j]? = some o → listed.getD j false = true → ∀ e ∈ o.after, bind1 e = true → listed.getD e.on false = true
theorem uK {l : List Oper} {g : Nat} {M : List Nat} (ok : DrawOk l g M) {listed : Array Bool} (hc : Closed l listed) :
  ∀ j o, l[j]? = some o → (∀ e ∈ o.after, bind1 e = true → listed.getD e.on false = true) → ∀ i, (M.getD j 0).testBit i = true → listed.getD i false = true := by
 intro j
 induction j using Nat.strongRecOn with
 | _ j ih =>
  intro o ho hw i hi
  rw [← ok.sub j o ho, Nat.testBit_and, Bool.and_eq_true] at hi
  rcases zBT M o.after.toList 0 i hi.2 with h | ⟨e, he, hb, h⟩
  ·simp at h
  ·have he' : e ∈ o.after := by simpa using he
   have hon := hw e he' hb
   rcases h with rfl | h
   ·exact hon
   ·have hlt := ok.down j o ho e he' hb
    have hl : e.on < l.length := by
     have := (List.getElem?_eq_some_iff.1 ho).1; omega
    exact ih e.on hlt l[e.on] (List.getElem?_eq_getElem hl) (hc e.on _ (List.getElem?_eq_getElem hl) hon) i h
theorem zA4 {l : List Oper} {listed : Array Bool} {i : Nat} (h : i ∈ Region.ready .any l.toArray listed) : listed.getD i true = false ∧ ∃ o, l[i]? = some o ∧ ∀ e ∈ o.after, bind1 e = true → listed.getD e.on false = true := by
 obtain ⟨h1, o, h2, h3⟩ := mem_ready.1 h
 exact ⟨h1, o, by simpa using h2, h3⟩
theorem jW {l : List Oper} {listed : Array Bool} {i : Nat} {o : Oper} (hc : Closed l listed) (ho : l[i]? = some o) (hw : ∀ e ∈ o.after, bind1 e = true → listed.getD e.on false = true) : Closed l (listed.setIfInBounds i true) := by
 have hget : ∀ k, listed.getD k false = true → (listed.setIfInBounds i true).getD k false = true := by
  intro k hk
  simp only [Array.getD_eq_getD_getElem?] at hk ⊢
  by_cases hik : i = k
  ·subst hik
   by_cases hlt : i < listed.size
   ·simp [hlt]
   ·simp [Array.getElem?_eq_none (Nat.le_of_not_lt hlt)] at hk
  ·rw [Array.getElem?_setIfInBounds_ne hik]; exact hk
 intro j o' ho' hj e he hb
 by_cases hij : i = j
 ·subst hij
  rw [ho] at ho'
  cases ho'
  exact hget _ (hw e he hb)
 ·have : listed.getD j false = true := by
   simp only [Array.getD_eq_getD_getElem?] at hj ⊢
   rwa [Array.getElem?_setIfInBounds_ne hij] at hj
  exact hget _ (hc j o' ho' this e he hb)
theorem qL {l : List Oper} {g : Nat} {M : List Nat} (ok : DrawOk l g M) {listed : Array Bool} (hs : listed.size = l.length) (h : Region.ready .any l.toArray listed = []) : ∀ i, i < l.length → listed.getD i false = true := by
 intro i
 induction i using Nat.strongRecOn with
 | _ i ih =>
  intro hi
  cases hq : listed.getD i false with
  | true => rfl
  | false =>
   exfalso
   have hmem : i ∈ Region.ready .any l.toArray listed := by
    refine mem_ready.2 ⟨?_, l[i], by simp [hi], fun e he hb => ?_⟩
    ·simp only [Array.getD_eq_getD_getElem?] at hq ⊢
     rw [Array.getElem?_eq_getElem (by omega)] at hq ⊢
     exact hq
    ·have hlt := ok.down i l[i] (List.getElem?_eq_getElem hi) e he hb
     exact ih e.on hlt (by omega)
   rw [h] at hmem
   cases hmem
theorem zC8 {l : List Oper} {g : Nat} {M : List Nat} (ok : DrawOk l g M) : ∀ (fuel j : Nat) (listed : Array Bool) (a : Act) (w : World), listed.size = l.length → g ≤ j → j ≤ l.length → (∀ i, i < l.length → (listed.getD i false = true ↔ i < j)) → l.length - j ≤ fuel →
  wpListIn (FW ro) 0 P l.toArray Q (l.drop j) a w → wpAnyIn (FW ro) 0 P .any l.toArray Q fuel listed a w := by
 intro fuel
 induction fuel with
 | zero =>
  intro j listed a w hs hg hj hl hf h
  have : j = l.length := by omega
  subst this
  rw [List.drop_length] at h
  refine ⟨?_, h⟩
  cases hr : Region.ready .any l.toArray listed with
  | nil => rfl
  | cons i is =>
   exfalso
   obtain ⟨h1, o, h2, _⟩ := zA4 (l := l) (listed := listed) (i := i) (by rw [hr]; exact List.mem_cons_self)
   have hi := (List.getElem?_eq_some_iff.1 h2).1
   have := (hl i hi).2 hi
   simp only [Array.getD_eq_getD_getElem?] at h1 this
   rw [Array.getElem?_eq_getElem (by omega)] at h1 this
   simp at h1 this
   rw [h1] at this; cases this
 | succ fuel ih =>
  intro j listed a w hs hg hj hl hf h
  have hclosed : Closed l listed := by
   intro k o ho hk e he hb
   have hkl := (List.getElem?_eq_some_iff.1 ho).1
   have hkj := (hl k hkl).1 hk
   have := ok.down k o ho e he hb
   exact (hl e.on (by omega)).2 (by omega)
  refine ⟨fun hr => ?_, fun i hi => ?_⟩
  ·have hall := qL ok hs hr
   have : ¬ j < l.length := fun hlt => by have := (hl j hlt).1 (hall j hlt); omega
   have : j = l.length := by omega
   subst this
   rw [List.drop_length] at h
   exact h
  ·obtain ⟨h1, o, h2, h3⟩ := zA4 hi
   have hil := (List.getElem?_eq_some_iff.1 h2).1
   have hnl : ¬ i < j := fun hlt => by
    have := (hl i hil).2 hlt
    simp only [Array.getD_eq_getD_getElem?] at h1 this
    rw [Array.getElem?_eq_getElem (by omega)] at h1 this
    simp at h1 this
    rw [h1] at this; cases this
   have hij : i = j := by
    rcases Nat.lt_or_ge j i with hlt | hge
    ·exfalso
     have hb := ok.all i (by omega) hil j hlt
     have := uK ok hclosed i o h2 h3 j hb
     have := (hl j (by omega)).1 this
     omega
    ·omega
   subst hij
   rw [List.drop_eq_getElem_cons hil] at h
   have ho : l[i] = o := by rw [List.getElem?_eq_getElem hil] at h2; exact Option.some.inj h2
   rw [ho] at h
   have hgo : wpOpIn (FW ro) 0 P l.toArray Q i (wpListIn (FW ro) 0 P l.toArray Q (l.drop (i + 1))) a w := by
    unfold wpOpIn
    have : l.toArray[i]? = some o := by simpa using h2
    rw [this]
    unfold wpListIn at h
    exact h
   refine wpOpIn_mono (fun a' w' h' => ?_) hgo
   refine ih (i + 1) (listed.setIfInBounds i true) a' w' (by simp [hs]) (by omega) (by omega) ?_ (by omega) h'
   intro k hk
   simp only [Array.getD_eq_getD_getElem?]
   by_cases hik : i = k
   ·subst hik
    simp [show i < listed.size by omega]
   ·rw [Array.getElem?_setIfInBounds_ne hik]
    have := hl k hk
    simp only [Array.getD_eq_getD_getElem?] at this
    rw [this]; omega
theorem zDM {a b : List Nat} (e : a = b) : List.Sublist a b := e ▸ List.Sublist.refl _
theorem zIM {l : List Oper} {g : Nat} {M : List Nat} (ok : DrawOk l g M) {vals : List Value} {r0 : Env} (hv : vals.length = (l.take g).length)
  (hop : ∀ i o, (l.take g)[i]? = some o → ∃ d v ri, o.dst = some d ∧ vals[i]? = some v ∧ Env.le ri (envAt (l.take g) vals i r0) ∧ (∀ c, o.op ≠ .defer c) ∧ WL P ro n w0 l.toArray (Q1 w0 d v ds m H) [o] (Env.sel (o.looksAt l.toArray) ri) ds m H)
  {rf : Env} (hrf : Env.le rf (envAt (l.take g) vals (l.take g).length r0)) (hK : WL P ro n w0 l.toArray Q (l.drop g) rf ds m H) :
  ∀ (fuel : Nat) (listed : Array Bool) (tmps : Array Value) (w : World), listed.size = l.length → Closed l listed → (∃ i, i < g ∧ listed.getD i false = false ∨ (∀ i, i < g → listed.getD i false = true)) →
   (∀ j, g ≤ j → j < l.length → listed.getD j false = false) → tmps.size = n →
   (∀ j o v d, j < g → listed.getD j false = true → l[j]? = some o → vals[j]? = some v → o.dst = some d → tmps[d]? = some v) →
   (∀ t u, r0.get t = some u → (∀ j o, j < g → l[j]? = some o → listed.getD j false = true → o.dst ≠ some t) → tmps[t]? = some u) → Sat w0 m H w →
   ((List.range l.length).filter fun i => !listed.getD i false).length ≤ fuel → wpAnyIn (FW ro) 0 P .any l.toArray Q fuel listed ⟨tmps, marks ds⟩ w := by
 have hgl : (l.take g).length = g := by rw [List.length_take]; exact Nat.min_eq_left ok.le
 have htake : ∀ i o, i < g → l[i]? = some o → (l.take g)[i]? = some o := fun i o hi ho => by rw [List.getElem?_take, if_pos hi]; exact ho
 have htake' : ∀ i o, (l.take g)[i]? = some o → i < g ∧ l[i]? = some o := fun i o ho => by
  rw [List.getElem?_take] at ho
  split at ho
  ·exact ⟨by assumption, ho⟩
  ·cases ho
 intro fuel
 induction fuel with
 | zero =>
  intro listed tmps w hs hc _ htl htz hdone hold hsat hf
  have hall : ∀ i, i < l.length → listed.getD i false = true := by
   intro i hi
   cases hq : listed.getD i false with
   | true => rfl
   | false =>
    exfalso
    have : i ∈ (List.range l.length).filter fun i => !listed.getD i false := by simp only [List.mem_filter, List.mem_range]; exact ⟨hi, by rw [hq]; rfl⟩
    have h0 := List.eq_nil_of_length_eq_zero (Nat.le_zero.1 hf)
    rw [h0] at this; cases this
  have hgN : g = l.length := by
   rcases Nat.lt_or_ge g l.length with h | h
   ·have h1 := hall g h; rw [htl g (Nat.le_refl _) h] at h1; cases h1
   ·exact Nat.le_antisymm ok.le h
  refine zC8 ok 0 l.length listed _ _ hs (by omega) (Nat.le_refl _) (fun i hi => ⟨fun _ => hi, fun _ => hall i hi⟩) (by omega) ?_
  rw [← hgN]
  refine hK tmps w ⟨htz, fun t u ht => ?_⟩ hsat
  rcases zLg _ _ _ _ _ _ (hrf t u ht) with ⟨j, o, v, h1, h2, h3, h4, h5⟩ | ⟨h1, h2⟩
  ·obtain ⟨hjg, hjo⟩ := htake' j o h2
   obtain ⟨d, _, _, hd, _⟩ := hop j o h2
   rw [hd] at h4; simp at h4; subst h4; subst h5
   exact hdone j o u d hjg (hall j (by omega)) hjo h3 hd
  ·refine hold t u h1 (fun j o hj ho _ hd => ?_)
   have := h2 j o (by rw [hgl]; exact hj) (by rw [hv, hgl]; exact hj) (htake j o hj ho)
   rw [hd] at this; exact this rfl
 | succ fuel ih =>
  intro listed tmps w hs hc _ htl htz hdone hold hsat hf
  by_cases hfin : ∀ i, i < g → listed.getD i false = true
  ·-- all that reads is done
   refine zC8 ok (fuel + 1) g listed _ _ hs (Nat.le_refl _) ok.le (fun i hi => ⟨fun h => ?_, hfin i⟩) ?_ ?_
   ·rcases Nat.lt_or_ge i g with hlt | hge
    ·exact hlt
    ·rw [htl i hge hi] at h; cases h
   ·have : (List.range l.length).filter (fun i => !listed.getD i false) = (List.range l.length).filter (fun i => decide (g ≤ i)) := by
     apply List.filter_congr
     intro i hi
     have hi' := List.mem_range.1 hi
     rcases Nat.lt_or_ge i g with hlt | hge
     ·rw [hfin i hlt]; simp; omega
     ·rw [htl i hge hi']; simp [hge]
    rw [this] at hf
    have hcnt : l.length - g ≤ ((List.range l.length).filter (fun i => decide (g ≤ i))).length := by
     have hsub : List.Sublist (List.range' g (l.length - g)) ((List.range l.length).filter (fun i => decide (g ≤ i))) := by
      obtain ⟨k, hk⟩ : ∃ k, l.length = g + k := ⟨l.length - g, by have := ok.le; omega⟩
      have e : List.range l.length = List.range' 0 g ++ List.range' g (l.length - g) := by
       rw [List.range_eq_range', hk, Nat.add_sub_cancel_left]
       have := @List.range'_append 0 g k 1
       simpa using this.symm
      rw [e, List.filter_append]
      refine List.Sublist.trans ?_ (List.sublist_append_right _ _)
      rw [List.filter_eq_self.2 (fun i hi => by have := List.mem_range'_1.1 hi; simp; omega)]
      exact List.Sublist.refl _
     have := hsub.length_le
     simpa using this
    omega
   ·refine hK tmps w ⟨htz, fun t u ht => ?_⟩ hsat
    rcases zLg _ _ _ _ _ _ (hrf t u ht) with ⟨j, o, v, h1, h2, h3, h4, h5⟩ | ⟨h1, h2⟩
    ·obtain ⟨hjg, hjo⟩ := htake' j o h2
     obtain ⟨d, _, _, hd, _⟩ := hop j o h2
     rw [hd] at h4; simp at h4; subst h4; subst h5
     exact hdone j o u d hjg (hfin j hjg) hjo h3 hd
    ·refine hold t u h1 (fun j o hj ho _ hd => ?_)
     have := h2 j o (by rw [hgl]; exact hj) (by rw [hv, hgl]; exact hj) (htake j o hj ho)
     rw [hd] at this; exact this rfl
  ·-- one more reads
   refine ⟨fun hr => absurd (fun i hi => qL ok hs hr i (by have := ok.le; omega)) hfin, fun i hi => ?_⟩
   obtain ⟨h1, o, h2, h3⟩ := zA4 hi
   have hil := (List.getElem?_eq_some_iff.1 h2).1
   have hig : i < g := by
    rcases Nat.lt_or_ge i g with hlt | hge
    ·exact hlt
    ·exfalso
     refine hfin (fun k hk => ?_)
     exact uK ok hc i o h2 h3 k (ok.all i hge hil k (by omega))
   have hnl : listed.getD i false = false := by
    simp only [Array.getD_eq_getD_getElem?] at h1 ⊢
    rw [Array.getElem?_eq_getElem (by omega)] at h1 ⊢
    exact h1
   obtain ⟨d, v, ri, g1, g2, g3, g4, g5⟩ := hop i o (htake i o hig h2)
   refine zCn (m := m) (H := H) (w0 := w0) (v := v) (by simpa using h2) g1 g4 ?_ ?_
   ·refine g5 tmps w ⟨htz, fun t u ht => ?_⟩ hsat
    obtain ⟨hlook, hget⟩ := Env.sel_get ht
    rcases zLg _ _ _ _ _ _ (g3 t u hget) with ⟨j, oj, vj, k1, k2, k3, k4, k5⟩ | ⟨k1, k2⟩
    ·obtain ⟨hjg, hjo⟩ := htake' j oj k2
     obtain ⟨dj, _, _, hdj, _⟩ := hop j oj k2
     rw [hdj] at k4; simp at k4; subst k4; subst k5
     obtain ⟨_, e, he, hb, hon⟩ : j < i ∧ ∃ e ∈ o.after, bind1 e = true ∧ e.on = j := by
      rcases ok.reads i o hig h2 dj hlook j oj hjg hjo hdj with h | h
      ·exact h
      ·omega
     have := h3 e he hb
     rw [hon] at this
     exact hdone j oj u dj hjg this hjo k3 hdj
    ·refine hold t u k1 (fun j oj hj hoj hjl hd => ?_)
     rcases ok.reads i o hig h2 t hlook j oj hj hoj hd with ⟨hlt, _⟩ | ⟨_, hbit⟩
     ·have := k2 j oj hlt (by rw [hv, hgl]; exact hj) (htake j oj hj hoj)
      rw [hd] at this; exact this rfl
     ·have := uK ok hc j oj hoj (hc j oj hoj hjl) i hbit
      rw [hnl] at this; cases this
   ·intro w' hsat' hdlt
    refine ih (listed.setIfInBounds i true) (tmps.setIfInBounds d v) w' (by simp [hs]) (jW hc h2 h3) ?_ ?_ (by simp [htz]) ?_ ?_ hsat' ?_
    ·by_cases hx : ∃ k, k < g ∧ (listed.setIfInBounds i true).getD k false = false
     ·obtain ⟨k, hk1, hk2⟩ := hx
      exact ⟨k, .inl ⟨hk1, hk2⟩⟩
     ·refine ⟨0, .inr fun k hk => ?_⟩
      cases hq : (listed.setIfInBounds i true).getD k false with
      | true => rfl
      | false => exact absurd ⟨k, hk, hq⟩ hx
    ·intro j hj hjl
     have := htl j hj hjl
     simp only [Array.getD_eq_getD_getElem?] at this ⊢
     rwa [Array.getElem?_setIfInBounds_ne (by omega)]
    ·intro j oj vj dj hjg hjl hjo hjv hjd
     by_cases hij : i = j
     ·subst hij
      rw [h2] at hjo; cases hjo
      rw [g1] at hjd; cases hjd
      rw [g2] at hjv; cases hjv
      exact Array.getElem?_setIfInBounds_self_of_lt hdlt
     ·have hne : d ≠ dj := fun e => by
       subst e
       exact hij (ok.dst i o hig h2 _ g1 j oj hjg hjo hjd)
      rw [Array.getElem?_setIfInBounds_ne hne]
      refine hdone j oj vj dj hjg ?_ hjo hjv hjd
      simp only [Array.getD_eq_getD_getElem?] at hjl ⊢
      rwa [Array.getElem?_setIfInBounds_ne hij] at hjl
    ·intro t u ht hno
     have hil' : (listed.setIfInBounds i true).getD i false = true := by
      simp [show i < listed.size by omega]
     have hne : d ≠ t := fun e => by subst e; exact hno i o hig h2 hil' g1
     rw [Array.getElem?_setIfInBounds_ne hne]
     refine hold t u ht (fun j oj hj hoj hjl => hno j oj hj hoj ?_)
     by_cases hij : i = j
     ·subst hij; exact hil'
     ·simp only [Array.getD_eq_getD_getElem?] at hjl ⊢
      rwa [Array.getElem?_setIfInBounds_ne hij]
    ·have hlt : ((List.range l.length).filter fun k => !(listed.setIfInBounds i true).getD k false).length < ((List.range l.length).filter fun k => !listed.getD k false).length := by
      have hsub : List.Sublist ((List.range l.length).filter fun k => !(listed.setIfInBounds i true).getD k false) (((List.range l.length).filter fun k => !listed.getD k false).erase i) := by
       have hnd : ((List.range l.length).filter fun k => !listed.getD k false).Nodup := List.Pairwise.filter _ List.nodup_range
       rw [hnd.erase_eq_filter, List.filter_filter]
       refine zDM ?_
       apply List.filter_congr
       intro k hk
       simp only [Array.getD_eq_getD_getElem?]
       by_cases hik : i = k
       ·subst hik; simp [show i < listed.size by omega]
       ·rw [Array.getElem?_setIfInBounds_ne hik]; simp [Ne.symm hik]
      have hmem : i ∈ (List.range l.length).filter fun k => !listed.getD k false := by simp only [List.mem_filter, List.mem_range]; exact ⟨hil, by rw [hnl]; rfl⟩
      have h5 := hsub.length_le
      rw [List.length_erase_of_mem hmem] at h5
      have := List.length_pos_of_mem hmem
      omega
     omega
theorem WC.draw {id : Nat} {l : List Oper} (g : Nat) (hm : P.follows .mixedOrders = true) (hc : drawB l g = true) (h : WD P ro n w0 l.toArray ds m H (fun r' => WL P ro n w0 l.toArray Q (l.drop g) r' ds m H) (l.take g) r) :
  WC P ro n w0 (.region id l.toArray true) Q r ds m H := by
 intro tmps w ho hs
 have ok := zIZ hc
 obtain ⟨vals, h1, h2, rf, h3, h4⟩ := h.data r (fun _ _ h => h)
 refine wpIn_region_draw fun t => ?_
 simp only [Region.schedule, hm, Bool.true_or, if_true]
 refine wpAnyIn_sound _ _ _ _ _ ?_
 have hz : ∀ k, (Array.replicate l.length false).getD k false = false := by
  intro k
  simp only [Array.getD_eq_getD_getElem?]
  by_cases hk : k < l.length
  ·simp [hk]
  ·rw [Array.getElem?_eq_none (by simpa using hk)]; rfl
 have hsz : l.toArray.size = l.length := by simp
 rw [hsz]
 refine zIM ok h1 h2 h3 h4 l.length _ tmps _ (by simp) (fun j o _ hj => by rw [hz] at hj; cases hj) ?_ (fun j _ _ => hz j) ho.size (fun j o v d _ hj => by rw [hz] at hj; cases hj) (fun t u ht _ => ho.at_ t u ht) hs.drew ?_
 ·by_cases hg : 0 < g
  ·exact ⟨0, .inl ⟨hg, hz 0⟩⟩
  ·exact ⟨0, .inr fun i hi => by omega⟩
 ·exact Nat.le_trans (List.length_filter_le _ _) (by simp)
end
end Go.Eng
namespace Go.Eng
open Go Go.RowKit
section
variable {x y : Operand} {a b : Int} {t t' : TypeId}
theorem WL.quo32 (hx : r.ev x = some (.int .i32 a)) (hy : r.ev y = some (.int .i32 b)) (hd : Nat.blt d n = true) (ha : 0 ≤ a ∧ a ≤ 2147483647) (hb : 1 ≤ b)
  (h : WL P ro n w0 ops Q l ((d, .int .i32 (a / b)) :: r) ds m H) : WL P ro n w0 ops Q (⟨some d, .binOp .quo t x y t', ty, pos, after, none⟩ :: l) r ds m H := by
 refine .quo hx hy hd (by omega) ?_
 have h1 : a.tdiv b = a / b := Int.tdiv_eq_ediv_of_nonneg ha.1
 have h2 : a / b ≤ a := Int.ediv_le_self _ ha.1
 have h3 : 0 ≤ a / b := Int.ediv_nonneg ha.1 (by omega)
 rw [h1, IntKind.wrap_i32, show (a / b + 2147483648) % 4294967296 - 2147483648 = a / b by omega]
 exact h
theorem WL.rem32 (hx : r.ev x = some (.int .i32 a)) (hy : r.ev y = some (.int .i32 b)) (hd : Nat.blt d n = true) (ha : 0 ≤ a) (hb : 1 ≤ b)
  (h : WL P ro n w0 ops Q l ((d, .int .i32 (a % b)) :: r) ds m H) : WL P ro n w0 ops Q (⟨some d, .binOp .rem t x y t', ty, pos, after, none⟩ :: l) r ds m H := by
 refine .rem hx hy hd (by omega) ?_
 rw [Int.tmod_eq_emod_of_nonneg ha]
 exact h
theorem WL.makeSlice {e : TypeId} {lo hi : Operand} {kl kh : IntKind} {i j : Int} {k sz by' : Nat} {z : Value} (hl : r.ev lo = some (.int kl i)) (hh : r.ev hi = some (.int kh j)) (ei : i = (k : Int)) (ej : j = (k : Int))
  (hu : P.underlying t = some (.slice e)) (hz : zeroB P e = some z) (hsz : xI P e = some sz) (hby : bytesB P e = some by') (hzs : z.cells.size = sz) (h0 : 0 < sz) (h63 : k ≤ 9223372036854775807) (hb : k * by' ≤ 140737488355328)
  (hd : Nat.blt d n = true) (h : ∀ b, WL P ro n w0 ops Q l ((d, .slice (some ⟨b, 0, none⟩) k k) :: r) ds m (.blk b (.cells (List.replicate k z.cells.toList).flatten.toArray e (0, 0)) :: H)) :
  WL P ro n w0 ops Q (⟨some d, .makeSlice t lo hi, ty, pos, after, none⟩ :: l) r ds m H := by
 subst ei; subst ej
 refine .gen (fun v m' H' => ∃ b, v = .slice (some ⟨b, 0, none⟩) k k ∧ m' = m ∧ H' = .blk b (.cells (List.replicate k z.cells.toList).flatten.toArray e (0, 0)) :: H) hd (fun _ h => by cases h) (fun tmps w ho hs => ?_)
  (by rintro _ _ _ ⟨b, rfl, rfl, rfl⟩; exact h b)
 obtain ⟨inf, hinf, hbe, hrun⟩ := zAU hby w
 let base : Array Value := (Array.range (k * sz)).map fun j => z.cells[j % z.cells.size]!
 have hbs : base.size = k * sz := by simp [base]
 have hbl : base = (List.replicate k z.cells.toList).flatten.toArray := by
  apply Array.ext'
  show base.toList = (List.replicate k z.cells.toList).flatten
  apply List.ext_getElem?
  intro j
  have hlen : (List.replicate k z.cells.toList).flatten.length = k * sz := by
   rw [List.length_flatten]; simp [hzs]
  by_cases hj : j < k * sz
  ·have h1 : j % sz < z.cells.size := by rw [hzs]; exact Nat.mod_lt _ h0
   have hq : j / sz < k := Nat.div_lt_of_lt_mul (by rw [Nat.mul_comm]; exact hj)
   have h2 := uG (es := List.replicate k z.cells.toList) (sz := sz) (i := j / sz) (e := z.cells.toList) (fun x hx => by rw [(List.mem_replicate.1 hx).2]; simp [hzs]) (by simp [List.getElem?_replicate, hq]) (j % sz) z.cells[j % sz] (by simp [h1])
   rw [show j / sz * sz + j % sz = j by rw [Nat.mul_comm]; exact Nat.div_add_mod j sz] at h2
   rw [h2]
   simp [base, hj, hzs, getElem!_pos, hzs ▸ h1]
  ·rw [List.getElem?_eq_none (by simp [hbs]; omega), List.getElem?_eq_none (by omega)]
 have wl : IntKind.i64.wrap (k : Int) = (k : Int) := by rw [IntKind.wrap_i64]; omega
 have n1 : ¬ (k : Int) < 0 := by omega
 have n2 : ¬ (281474976710656 < (inf.bytes : Int) * (k : Int)) := by
  rw [hbe]; have : (by' : Int) * (k : Int) = ((k * by' : Nat) : Int) := by push_cast; rw [Int.mul_comm]
  omega
 have n5 : ¬ (140737488355328 < k * by') := by omega
 refine ⟨_, m, _, w.alloc (.cells (List.replicate k z.cells.toList).flatten.toArray e (0, 0)), ?_, hs.alloc _, w.heap.size, rfl, rfl, rfl⟩
 by_cases hn : k = 0
 ·subst hn
  have w00 : IntKind.i64.wrap 0 = 0 := by rw [IntKind.wrap_i64]; rfl
  simp [w00, execOp, ho.ev hl, ho.ev hh, Instr.makeSlice, run_underlying hu, asInt, asIntOf, hrun, wl, y8 hsz, Go.newRow, run_newObj_alloc, askRoom]
  exact congrArg (fun q => w.alloc (.cells q e (0, 0))) (Array.eq_empty_of_size_eq_zero (by simp))
 ·have hn' : ¬ k * sz = 0 := by intro h; rcases Nat.mul_eq_zero.1 h with h | h <;> omega
  have n2' : ¬ (281474976710656 < (by' : Int) * (k : Int)) := hbe ▸ n2
  have e2 : (Array.range (k * sz)).map (fun x => z.cells[x % z.cells.size]!) = (List.replicate k z.cells.toList).flatten.toArray := hbl
  simp [execOp, ho.ev hl, ho.ev hh, Instr.makeSlice, run_underlying hu, asInt, asIntOf, hrun, wl, y8 hsz, hbe, n1, n2', n5, hn, Nat.ne_of_gt h0, xG hz, askRoom, roomBytes, Go.newRow, e2, run_newObj_alloc]
  exact fun h => absurd h hn'
theorem uW {sz : Nat} : ∀ {es : List (List Value)}, (∀ e ∈ es, e.length = sz) → es.flatten.length = es.length * sz
 | [], _ => by simp
 | e :: es, h => by
  rw [List.flatten_cons, List.length_append, uW (fun q hq => h q (List.mem_cons_of_mem _ hq)), h e List.mem_cons_self, List.length_cons, Nat.succ_mul, Nat.add_comm]
theorem Sat.row_of {b : Nat} {T : TypeId} {sz : Nat} {es : List (List Value)} {w : World} (hes : ∀ e ∈ es, e.length = sz) (h : Sat w0 m (.blk b (.cells es.flatten.toArray T (0, 0)) :: H) w) :
  Sat w0 m (.row (some ⟨b, 0, none⟩) es.length T sz es :: H) w := by
 have hl := uW hes
 exact ⟨h.os, h.tape, h.output, h.size, h.pers, fun i hi => by
  cases hi with
  | head =>
   have hb : w.heap[b]? = _ := h.own _ List.mem_cons_self
   exact ⟨es.flatten.toArray, (0, 0), rfl, hb, by simpa using hl, Nat.le_refl _, by rw [← hl]; exact List.take_length, hes, .inl rfl, id⟩
  | tail _ hi => exact h.own i (List.mem_cons_of_mem _ hi), h.sep, h.free⟩
theorem WL.makeRow {e : TypeId} {lo hi : Operand} {kl kh : IntKind} {i j : Int} {k sz by' : Nat} {z : Value} {zs : List Value} (hl : r.ev lo = some (.int kl i)) (hh : r.ev hi = some (.int kh j)) (ei : i = (k : Int)) (ej : j = (k : Int))
  (hu : P.underlying t = some (.slice e)) (hz : zeroB P e = some z) (hsz : xI P e = some sz) (hby : bytesB P e = some by') (hzl : z.cells = zs.toArray) (hzs : zs.length = sz) (h0 : 0 < sz) (h63 : k ≤ 9223372036854775807) (hb : k * by' ≤ 140737488355328)
  (hd : Nat.blt d n = true) (h : ∀ b, WL P ro n w0 ops Q l ((d, .slice (some ⟨b, 0, none⟩) k k) :: r) ds m (.row (some ⟨b, 0, none⟩) k e sz (List.replicate k zs) :: H)) :
  WL P ro n w0 ops Q (⟨some d, .makeSlice t lo hi, ty, pos, after, none⟩ :: l) r ds m H := by
 refine .makeSlice hl hh ei ej hu hz hsz hby (by rw [hzl]; simpa using hzs) h0 h63 hb hd (fun b => fun tmps w ho hs => h b tmps w ho ?_)
 rw [show z.cells.toList = zs by rw [hzl]] at hs
 have := Sat.row_of (es := List.replicate k zs) (sz := sz) (fun q hq => by rw [(List.mem_replicate.1 hq).2]; exact hzs) hs
 rwa [List.length_replicate] at this
theorem WL.blkStr {src dst e : TypeId} {x : Operand} {b k cap : Nat} {L : List Value} {T : TypeId} {fz : Nat × Nat} {s : List UInt8} (hx : r.ev x = some (.slice (some ⟨b, 0, none⟩) k cap)) (hm : Item.blk b (.cells L.toArray T fz) ∈ H)
  (hL : L = s.map fun b => Value.int .u8 (b.toNat : Int)) (hk : k = s.length)
  (hs1 : P.underlying src = some (.slice e)) (hs2 : P.underlying dst = some .string) (hs3 : P.underlying e = some (.int .u8)) (hsz : xI P e = some 1) (hd : Nat.blt d n = true)
  (h : WL P ro n w0 ops Q l ((d, str s) :: r) ds m H) : WL P ro n w0 ops Q (⟨some d, .convert src dst x, ty, pos, after, none⟩ :: l) r ds m H := by
 subst hk; subst hL
 exact .bytesStr hx hs1 hs2 hs3 hsz (.inr ⟨_, _, rfl, fun w hs j v hj => by rw [xP]; exact Cell.blk hm (by simpa using hj) w hs⟩) hd h
theorem zCS : ∀ (vs A B C : List Value), B.length = vs.length → laid (A ++ B ++ C) A.length vs = A ++ vs ++ C
 | [], A, B, C, h => by
  have : B = [] := List.eq_nil_of_length_eq_zero h
  subst this; rfl
 | v :: vs, A, [], C, h => by simp at h
 | v :: vs, A, q :: B, C, h => by
  have e : (A ++ q :: B ++ C).set A.length v = A ++ [v] ++ B ++ C := by simp
  have := zCS vs (A ++ [v]) B C (by simpa using h)
  rw [laid, e]
  simpa using this
theorem WL.storeRow {u : TypeId} {a : Addr} {k i cap sz : Nat} {T : TypeId} {es es' : List (List Value)} {v : Value} {vs : List Value} {H' : SHeap} (hx : r.ev x = some (.pointer (some (a.add k)))) (hk : k = i * sz) (hy : r.ev y = some v)
  (hv : v.cells = vs.toArray) (hz : xI P u = some sz) (hvs : vs.length = sz) (ha : vs.all okCell = true) (hr : Repl (.row (some a) cap T sz es) (.row (some a) cap T sz es') H H') (hi : i < es.length) (he : es' = es.set i vs)
  (h : WL P ro n w0 ops Q l r ds m H') : WL P ro n w0 ops Q (⟨none, .store u x y, ty, pos, after, none⟩ :: l) r ds m H :=
 .act (fun m' H'' => m' = m ∧ H'' = H') rfl (fun _ h => by cases h)
  (fun tmps w ho hs => by
   subst hk; subst he
   obtain ⟨H1, p1, p2⟩ := hr.perm
   have hs1 := hs.perm p1
   obtain ⟨arr, fz, h1, h2, h3, h4, h5, h6, h9⟩ := hs1.own _ List.mem_cons_self
   obtain ⟨s, e0, t, rfl, hsl⟩ : ∃ s e0 t, es = s ++ e0 :: t ∧ s.length = i := ⟨es.take i, es[i], es.drop (i + 1), by rw [← List.drop_eq_getElem_cons hi, List.take_append_drop], by rw [List.length_take]; omega⟩
   have hset : (s ++ e0 :: t).set i vs = s ++ vs :: t := by subst hsl; simp
   have hsf : s.flatten.length = i * sz := by rw [← hsl]; exact uW (fun q hq => h6 q (by simp [hq]))
   have he0 : e0.length = sz := h6 e0 (by simp)
   have harr : arr.toList = s.flatten ++ e0 ++ (t.flatten ++ arr.toList.drop ((s ++ e0 :: t).length * sz)) := by
    have := List.take_append_drop ((s ++ e0 :: t).length * sz) arr.toList
    rw [h5] at this
    rw [← List.append_assoc]
    simpa using this.symm
   have hlen : i * sz + sz ≤ arr.toList.length := by rw [harr]; simp only [List.length_append, hsf, he0]; omega
   have hs2 : Sat w0 m (.blk a.block (.cells arr.toList.toArray T fz) :: H1) w := ⟨hs1.os, hs1.tape, hs1.output, hs1.size, hs1.pers, fun q hq => by
    cases hq with
    | head => show w.heap[a.block]? = _; rw [h2]
    | tail _ hq => exact hs1.own q (List.mem_cons_of_mem _ hq), by simpa [SHeap.foot, Item.foot] using hs1.sep, by simpa [SHeap.foot, Item.foot] using hs1.free⟩
   obtain ⟨w', g1, g2⟩ := qP (P := P) vs 0 (i * sz) arr.toList H1 w (by omega) (by rcases h9.1 with h | h; exact .inl h; exact .inr (.inr (by simpa using h))) ha hs2
   rw [Nat.add_zero, ← hsf, harr, zCS vs s.flatten e0 _ (by omega)] at g2
   have hb2 : w'.heap[a.block]? = _ := g2.own _ List.mem_cons_self
   have g3 : Sat w0 m (.row (some a) cap T sz (s ++ vs :: t) :: H1) w' := ⟨g2.os, g2.tape, g2.output, g2.size, g2.pers, fun q hq => by
    cases hq with
    | head =>
     refine ⟨_, fz, h1, hb2, ?_, by simpa using h4, ?_, ?_, ?_⟩
     rotate_left 3
     ·have h7 := congrArg List.length harr
      simp only [List.length_append, Array.length_toList] at h7
      refine ⟨?_, by simpa using h9.2⟩
      rcases h9.1 with h | h
      ·exact .inl h
      ·right; simp only [List.size_toArray, List.length_append]; omega
     ·have h7 : arr.toList.length = arr.size := Array.length_toList
      rw [← h3, List.size_toArray]
      have := congrArg List.length harr
      simp only [List.length_append] at this ⊢
      omega
     ·have e1 : (s ++ vs :: t).length * sz = (s.flatten ++ vs ++ t.flatten).length := by
       have e2 := uW h6
       simp only [List.flatten_append, List.flatten_cons, List.length_append, List.length_cons] at e2 ⊢
       omega
      rw [e1]
      simp [← List.append_assoc]
     ·intro q hq
      rcases List.mem_append.1 hq with hq | hq
      ·exact h6 q (by simp [hq])
      ·rcases List.mem_cons.1 hq with rfl | hq
       ·exact hvs
       ·exact h6 q (by simp [hq])
    | tail _ hq => exact g2.own q (List.mem_cons_of_mem _ hq), by simpa [SHeap.foot, Item.foot] using g2.sep, by simpa [SHeap.foot, Item.foot] using g2.free⟩
   rw [hset] at p2
   refine ⟨m, H', w', ?_, g3.perm p2.symm, rfl, rfl⟩
   have hadd : a.add (i * sz) = ⟨a.block, i * sz, none⟩ := by rw [h1, xP]; simp
   simp only [execOp, Instr.storeAt, Instr.sureAddr, storeVar, ho.ev hx, ho.ev hy, hv, Sem.run_bind, Sem.run_pure, Result.andThen_ok, y8 hz, hadd]
   simp only [List.size_toArray, hvs, ne_eq, not_true_eq_false, if_false, g1, Result.andThen_ok])
  (by rintro _ _ ⟨rfl, rfl⟩; exact h)
theorem vi {k : IntKind} {a b : Int} (h : a = b) : Value.int k a = Value.int k b := by rw [h]
theorem WL.pickYes {c x y : Operand} {v : Value} {p : Prop} [Decidable p] (hc : r.ev c = some (.bool (dcd p))) (hp : p) (hx : r.ev x = some v) (hd : Nat.blt d n = true) (h : WL P ro n w0 ops Q l ((d, v) :: r) ds m H) :
  WL P ro n w0 ops Q (⟨some d, .pick c x y, ty, pos, after, none⟩ :: l) r ds m H := .pick_t (by rw [hc, zE hp]) hx hd h
theorem WL.pickNo {c x y : Operand} {v : Value} {p : Prop} [Decidable p] (hc : r.ev c = some (.bool (dcd p))) (hp : ¬ p) (hx : r.ev y = some v) (hd : Nat.blt d n = true) (h : WL P ro n w0 ops Q l ((d, v) :: r) ds m H) :
  WL P ro n w0 ops Q (⟨some d, .pick c x y, ty, pos, after, none⟩ :: l) r ds m H := .pick_f (by rw [hc, zH hp]) hx hd h
theorem WL.pickNyes {c x y : Operand} {v : Value} {p : Prop} [Decidable p] (hc : r.ev c = some (.bool (!dcd p))) (hp : ¬ p) (hx : r.ev x = some v) (hd : Nat.blt d n = true) (h : WL P ro n w0 ops Q l ((d, v) :: r) ds m H) :
  WL P ro n w0 ops Q (⟨some d, .pick c x y, ty, pos, after, none⟩ :: l) r ds m H := .pick_t (by rw [hc, zH hp]; rfl) hx hd h
theorem WL.pickNno {c x y : Operand} {v : Value} {p : Prop} [Decidable p] (hc : r.ev c = some (.bool (!dcd p))) (hp : p) (hx : r.ev y = some v) (hd : Nat.blt d n = true) (h : WL P ro n w0 ops Q l ((d, v) :: r) ds m H) :
  WL P ro n w0 ops Q (⟨some d, .pick c x y, ty, pos, after, none⟩ :: l) r ds m H := .pick_f (by rw [hc, zE hp]; rfl) hx hd h
theorem WL.callG {f : FuncId} {fn : Func} {c : Code} {args : List Operand} {vs : List Value} {ts : Array TypeId} {v : Value}
  (hf : P.funcs[f]? = some fn) (hname : (fn.name == "runtime.NumGoroutine") = false) (hb : fn.body = some c)
  (hv : r.evs args = some vs) (hd : Nat.blt d n = true) (hs : Does P f vs.toArray w0 m H (Gives v m H)) (h : WL P ro n w0 ops Q l ((d, v) :: r) ds m H) :
  WL P ro n w0 ops Q (⟨some d, .call ⟨.value (.func f), args.toArray, ts⟩, ty, pos, after, none⟩ :: l) r ds m H :=
 .callF hf hname hb hv hd hs (by rintro _ _ _ ⟨rfl, rfl, rfl⟩; exact h)
theorem zU {f : FuncId} {fn : Func} {c : Code} {args : List Operand} {vs : List Value} {ts : Array TypeId} {v : Value} (hf : P.funcs[f]? = some fn) (h : WL P ro n w0 ops Q l ((d, v) :: r) ds m H) (hname : (fn.name == "runtime.NumGoroutine") = false := by exact rfl) (hb : fn.body = some c := by exact rfl) (hv : r.evs args = some vs := by exact rfl) (hd : Nat.blt d n = true := by exact rfl) (hs : Does P f vs.toArray w0 m H (Gives v m H)) : WL P ro n w0 ops Q (⟨some d, .call ⟨.value (.func f), args.toArray, ts⟩, ty, pos, after, none⟩ :: l) r ds m H := WL.callG hf hname hb hv hd hs h
def QJoin (n : Nat) (w0 : World) (I : Env → List Dfr → Mem → SHeap → Prop) (Q : Exit → Act → World → Prop) : Exit → Act → World → Prop
 | .normal, a, w => ∃ r ds m H, I r ds m H ∧ r.ok n a.tmps ∧ a.defers = marks ds ∧ Sat w0 m H w
 | e, a, w => Q e a w
theorem WC.join {c : Code} (I : Env → List Dfr → Mem → SHeap → Prop) (h1 : WC P ro n w0 c (QJoin n w0 I Q) r ds m H) (h2 : ∀ r ds m H, I r ds m H → WQ n w0 Q .normal r ds m H) : WC P ro n w0 c Q r ds m H :=
 h1.of_post fun e a w h => by
  cases e with
  | normal =>
   obtain ⟨r', ds', m', H', hI, ho, hd, hs⟩ := h
   have := h2 _ _ _ _ hI a.tmps w ho hs
   rw [← hd] at this
   exact this
  | _ => exact h
theorem WQ.join {I : Env → List Dfr → Mem → SHeap → Prop} {r' : Env} {H' : SHeap} (hI : I r' ds m H') (hr : Env.Sub r' r) (hh : ∀ w, Sat w0 m H w → Sat w0 m H' w) : WQ n w0 (QJoin n w0 I Q) .normal r ds m H :=
 fun tmps w ho hs => ⟨r', ds, m, H', hI, hr.ok ho, rfl, hh w hs⟩
theorem WQ.joinRet {I : Env → List Dfr → Mem → SHeap → Prop} (h : WQ n w0 Q .ret r ds m H) : WQ n w0 (QJoin n w0 I Q) .ret r ds m H := h
theorem WQ.joinExit {I : Env → List Dfr → Mem → SHeap → Prop} {id : Nat} (h : WQ n w0 Q (.exit id) r ds m H) : WQ n w0 (QJoin n w0 I Q) (.exit id) r ds m H := h
attribute [irreducible] QJoin
end
theorem vb_t {p : Prop} [Decidable p] (h : p) : Value.bool true = .bool (dcd p) := by rw [zE h]
theorem vb_f {p : Prop} [Decidable p] (h : ¬ p) : Value.bool false = .bool (dcd p) := by rw [zH h]
theorem zKJ {p q : Prop} [Decidable p] [Decidable q] (h : p ↔ q) : Value.bool (dcd p) = .bool (dcd q) := by
 by_cases hp : p
 ·rw [zE hp, zE (h.1 hp)]
 ·rw [zH hp, zH (fun hq => hp (h.2 hq))]
end Go.Eng
namespace Go.Eng
open Go Go.RowKit
def partB (P : Program) (t : TypeId) (xs : List Value) (o : Nat) : Option Value := match aggB P t with
 | some false => xs[o]?
 | some true => match xI P t with
  | some k => some (.agg ((xs.drop o).take k).toArray)
  | none => none
 | none => none
def eqFs (P : Program) (rec : TypeId → Value → Value → Option Bool) : List Field → List Value → List Value → Option Bool
 | [], _, _ => some true
 | f :: fs, xs, ys => match decide (f.name = "_") with
  | true => eqFs P rec fs xs ys
  | false => match partB P f.type xs f.offset, partB P f.type ys f.offset with
   | some u, some v => match rec f.type u v with
    | some b => match eqFs P rec fs xs ys with
     | some c => some (b && c)
     | none => none
    | none => none
   | _, _ => none
def eqB (P : Program) : Nat → TypeId → Value → Value → Option Bool
 | 0, _, _, _ => none
 | d + 1, t, x, y => match P.underlying t with
  | some .bool => match x, y with
   | .bool a, .bool b => some (a == b)
   | _, _ => none
  | some (.int _) => match x, y with
   | .int k a, .int k' b => match decide (k = k') with
    | true => some (a == b)
    | false => none
   | _, _ => none
  | some .string => match x, y with
   | .string a, .string b => some (a == b)
   | _, _ => none
  | some (.struct fs) => match P.stoodInHeld t, x, y with
   | false, .agg xs, .agg ys => eqFs P (eqB P d) fs.toList xs.toList ys.toList
   | _, _, _ => none
  | _ => none
section
variable {x y : Operand} {t t' : TypeId}
theorem zFS {xs : Array Value} {o : Nat} {v : Value} (h : partB P t xs.toList o = some v) (w : World) : (part t xs o).run P w = .ok v w := by
 unfold partB at h
 cases ha : aggB P t with
 | none => simp [ha] at h
 | some b =>
  cases b with
  | false =>
   simp only [ha] at h
   simp only [part, Sem.run_bind, zBs ha, Result.andThen_ok, Bool.false_eq_true, if_false]
   have h' : xs[o]? = some v := by simpa using h
   simp [h']
  | true =>
   simp only [ha] at h
   cases hs : xI P t with
   | none => simp [hs] at h
   | some k =>
    simp only [hs, Option.some.injEq] at h
    subst h
    simp only [part, Sem.run_bind, zBs ha, Result.andThen_ok, if_true, y8 hs]
    have e : xs.extract o (o + k) = ((xs.toList.drop o).take k).toArray := by
     apply Array.ext'
     simp [List.extract_eq_take_drop]
    rw [e]; rfl
theorem zDt {d : Nat} (ih : ∀ t x y b, eqB P d t x y = some b → ∀ d', d ≤ d' → ∀ w, (Op.equalIn d' t x y).run P w = .ok b w) {d' : Nat} (hd : d ≤ d') {xs ys : Array Value} :
  ∀ (fs : List Field) (b : Bool), eqFs P (eqB P d) fs xs.toList ys.toList = some b → ∀ w,
   ((forIn fs ((none, ()) : Option Bool × Unit) fun f __s =>
     if f.name ≠ "_" then do
      let __do_lift ← part f.type xs f.offset
      let __do_lift_1 ← part f.type ys f.offset
      let __do_lift ← Op.equalIn d' f.type __do_lift __do_lift_1
      if (!__do_lift) = true then pure (ForInStep.done (some false, ()))
       else pure (ForInStep.yield (none, ()))
     else pure (ForInStep.yield (none, ())) : Sem (Option Bool × Unit))).run P w = .ok (if b then none else some false, ()) w
 | [], b, h, w => by
  simp only [eqFs, Option.some.injEq] at h
  subst h
  simp
 | f :: fs, b, h, w => by
  rw [List.forIn_cons]
  unfold eqFs at h
  by_cases hn : f.name = "_"
  ·simp only [hn, decide_true] at h
   have := zDt ih hd fs b h w
   simp only [hn, ne_eq, not_true_eq_false, if_false, Sem.run_bind, Sem.run_pure, Result.andThen_ok]
   exact this
  ·simp only [hn, decide_false] at h
   cases hu : partB P f.type xs.toList f.offset with
   | none => simp [hu] at h
   | some u =>
    cases hv : partB P f.type ys.toList f.offset with
    | none => simp [hu, hv] at h
    | some v =>
     simp only [hu, hv] at h
     cases he : eqB P d f.type u v with
     | none => simp [he] at h
     | some c =>
      simp only [he] at h
      cases hr : eqFs P (eqB P d) fs xs.toList ys.toList with
      | none => simp [hr] at h
      | some c' =>
       simp only [hr, Option.some.injEq] at h
       subst h
       have h1 := ih _ _ _ _ he d' hd w
       have h2 := zDt ih hd fs c' hr w
       simp only [ne_eq, hn, not_false_eq_true, if_true, Sem.run_bind, zFS hu, zFS hv, Result.andThen_ok, h1]
       cases c with
       | false => simp
       | true =>
        simp only [Bool.not_true, Bool.false_eq_true, if_false, Sem.run_pure, Result.andThen_ok, Bool.true_and]
        exact h2
theorem zBa : ∀ (d : Nat) (t : TypeId) (x y : Value) (b : Bool), eqB P d t x y = some b → ∀ d', d ≤ d' → ∀ w, (Op.equalIn d' t x y).run P w = .ok b w
 | 0, _, _, _, _, h, _, _, _ => by simp [eqB] at h
 | d + 1, t, x, y, b, h, d', hd, w => by
  obtain ⟨e, rfl⟩ : ∃ e, d' = e + 1 := ⟨d' - 1, by omega⟩
  unfold eqB at h
  cases hu : P.underlying t with
  | none => simp [hu] at h
  | some u =>
   cases u with
   | bool =>
    simp only [hu] at h
    split at h
    ·simp at h; subst h
     simp [Op.equalIn, run_underlying hu]
    ·cases h
   | int ki =>
    simp only [hu] at h
    split at h
    ·rename_i k a k' b'
     by_cases hk : k = k'
     ·simp only [hk, decide_true, Option.some.injEq] at h; subst h
      simp [Op.equalIn, run_underlying hu, hk]
     ·simp [hk] at h
    ·cases h
   | string =>
    simp only [hu] at h
    split at h
    ·simp at h; subst h
     simp [Op.equalIn, run_underlying hu]
    ·cases h
   | struct fs =>
    simp only [hu] at h
    split at h
    ·rename_i xs ys hh
     have h1 := zDt (P := P) (d := d) (fun t x y b hb d' hd w => zBa d t x y b hb d' hd w) (d' := e) (by omega) fs.toList b h w
     simp only [Op.equalIn, Sem.run_bind, run_underlying hu, Result.andThen_ok, run_program, hh, Bool.false_eq_true, if_false]
     rw [← Array.forIn_toList]
     rw [h1]
     cases b <;> simp
    ·cases h
   | _ => simp [hu] at h
theorem zFN {cs : Array Value} {y : Value} {vx vy : Operand} (op : BinOp) (hg : P.eqGuardType P.depth t = false) (w : World) : (eqGuard op t vx vy (.agg cs) y).run P w = .ok () w := by
 unfold eqGuard
 cases op <;> first
  | rfl
  | (cases y <;> first | rfl | (simp [hg]; done))
theorem WL.eqlV {vx vy : Value} {b : Bool} (hx : r.ev x = some vx) (hy : r.ev y = some vy) (he : eqB P 8 t vx vy = some b) (hg : P.eqGuardType P.depth t = false) (hn : ∃ cs, vx = .agg cs) (hd : Nat.blt d n = true)
  (h : WL P ro n w0 ops Q l ((d, .bool b) :: r) ds m H) : WL P ro n w0 ops Q (⟨some d, .binOp .eql t x y t', ty, pos, after, none⟩ :: l) r ds m H := by
 obtain ⟨cs, rfl⟩ := hn
 refine .val hd (fun _ h => by cases h) (fun tmps w ho _ => ?_) h
 have h1 := zBa 8 t _ _ b he Op.maxDepth (by decide) w
 have h2 := zFN (P := P) (cs := cs) (y := vy) (vx := x) (vy := y) .eql hg w
 simp only [execOp, ho.ev hx, ho.ev hy, Sem.run_bind, h2, Result.andThen_ok]
 cases vy <;> simp [binOp, Op.equal, h1]
theorem zJ2 {vx vy : Value} {b : Bool} (h : WL P ro n w0 ops Q l ((d, .bool b) :: r) ds m H) (hx : r.ev x = some vx := by exact rfl) (hy : r.ev y = some vy := by exact rfl) (hg : P.eqGuardType P.depth t = false := by kernel_rfl) (hn : ∃ cs, vx = .agg cs := by exact ⟨_, rfl⟩) (hd : Nat.blt d n = true := by exact rfl) (he : eqB P 8 t vx vy = some b) : WL P ro n w0 ops Q (⟨some d, .binOp .eql t x y t', ty, pos, after, none⟩ :: l) r ds m H := WL.eqlV hx hy he hg hn hd h
theorem WL.neqV {vx vy : Value} {b : Bool} (hx : r.ev x = some vx) (hy : r.ev y = some vy) (he : eqB P 8 t vx vy = some b) (hg : P.eqGuardType P.depth t = false) (hn : ∃ cs, vx = .agg cs) (hd : Nat.blt d n = true)
  (h : WL P ro n w0 ops Q l ((d, .bool (!b)) :: r) ds m H) : WL P ro n w0 ops Q (⟨some d, .binOp .neq t x y t', ty, pos, after, none⟩ :: l) r ds m H := by
 obtain ⟨cs, rfl⟩ := hn
 refine .val hd (fun _ h => by cases h) (fun tmps w ho _ => ?_) h
 have h1 := zBa 8 t _ _ b he Op.maxDepth (by decide) w
 have h2 := zFN (P := P) (cs := cs) (y := vy) (vx := x) (vy := y) .neq hg w
 simp only [execOp, ho.ev hx, ho.ev hy, Sem.run_bind, h2, Result.andThen_ok]
 cases vy <;> simp [binOp, Op.equal, h1]
theorem zJW {vx vy : Value} {b : Bool} (h : WL P ro n w0 ops Q l ((d, .bool (!b)) :: r) ds m H) (hx : r.ev x = some vx := by exact rfl) (hy : r.ev y = some vy := by exact rfl) (hg : P.eqGuardType P.depth t = false := by kernel_rfl) (hn : ∃ cs, vx = .agg cs := by exact ⟨_, rfl⟩) (hd : Nat.blt d n = true := by exact rfl) (he : eqB P 8 t vx vy = some b) : WL P ro n w0 ops Q (⟨some d, .binOp .neq t x y t', ty, pos, after, none⟩ :: l) r ds m H := WL.neqV hx hy he hg hn hd h
theorem WL.eqlBool {a b : Bool} (hx : r.ev x = some (.bool a)) (hy : r.ev y = some (.bool b)) (hu : P.underlying t = some .bool) (hd : Nat.blt d n = true)
  (h : WL P ro n w0 ops Q l ((d, .bool (a == b)) :: r) ds m H) : WL P ro n w0 ops Q (⟨some d, .binOp .eql t x y t', ty, pos, after, none⟩ :: l) r ds m H :=
 .val hd (fun _ h => by cases h) (fun tmps w ho _ => by
  have h1 := zBa (P := P) 1 t (.bool a) (.bool b) (a == b) (by simp [eqB, hu]) Op.maxDepth (by decide) w
  have h2 : (eqGuard .eql t x y (.bool a) (.bool b)) = pure () := rfl
  simp [execOp, ho.ev hx, ho.ev hy, h2, binOp, Op.equal, h1]) h
theorem WL.neqBool {a b : Bool} (hx : r.ev x = some (.bool a)) (hy : r.ev y = some (.bool b)) (hu : P.underlying t = some .bool) (hd : Nat.blt d n = true)
  (h : WL P ro n w0 ops Q l ((d, .bool (!(a == b))) :: r) ds m H) : WL P ro n w0 ops Q (⟨some d, .binOp .neq t x y t', ty, pos, after, none⟩ :: l) r ds m H :=
 .val hd (fun _ h => by cases h) (fun tmps w ho _ => by
  have h1 := zBa (P := P) 1 t (.bool a) (.bool b) (a == b) (by simp [eqB, hu]) Op.maxDepth (by decide) w
  have h2 : (eqGuard .neq t x y (.bool a) (.bool b)) = pure () := rfl
  simp [execOp, ho.ev hx, ho.ev hy, h2, binOp, Op.equal, h1]) h
theorem WD.mono {K K' : Env → Prop} {l : List Oper} (h : WD P ro n w0 ops ds m H K l r) (hk : ∀ r', K r' → K' r') : WD P ro n w0 ops ds m H K' l r := by
 induction h with
 | nil h => exact .nil (hk _ h)
 | cons a b c _ ih => exact .cons a b c ih
 | known d k a b _ ih => exact .known d k a b ih
theorem WL.append1 {e e' T' tx : TypeId} {sz by' c b cap len : Nat} {z : Value} {a : Option Addr} {es : List (List Value)} {L : List Value} {H1 : SHeap} {fz : Nat × Nat} (hx : r.ev x = some (.slice a len cap)) (hy : r.ev y = some (.slice (some ⟨b, 0, none⟩) 1 c))
  (hu : P.underlying t = some (.slice e)) (hux : P.underlying tx = some (.slice e')) (ho : Out (.row a cap e sz es) H H1) (hb : Item.blk b (.cells L.toArray T' fz) ∈ H) (hL : L.length = sz) (hok : L.all okCell = true)
  (hz : zeroB P e = some z) (hsz : xI P e = some sz) (hby : bytesB P e = some by') (hzs : z.cells.size = sz) (hlen : len = es.length) (hroom : (es.length + 1) * by' ≤ 140737488355328) (hpos : 0 < by') (hd : Nat.blt d n = true)
  (h : ∀ a' cap', WL P ro n w0 ops Q l ((d, .slice a' (es.length + 1) cap') :: r) ds m (.row a' cap' e sz (es ++ [L]) :: H1)) :
  WL P ro n w0 ops Q (⟨some d, .call ⟨.builtin .append, #[x, y], #[t, tx]⟩, ty, pos, after, none⟩ :: l) r ds m H := by
 have h63 : es.length + 1 ≤ 9223372036854775807 := by
  have : (es.length + 1) * 1 ≤ (es.length + 1) * by' := Nat.mul_le_mul_left _ hpos
  omega
 refine .append (es' := [L]) (news := L) hx hy hlen ho hu hz hsz hby hzs (.cells hux (fun w hs j v hj => by rw [xP]; exact Cell.blk hb (by simpa using hj) w hs) (by omega) hok) rfl (by simp) (by simpa using hL) h63 hroom hd ?_
 intro a' cap'
 rw [List.length_append]
 exact h a' cap'
theorem WL.buildSlice0 {e : TypeId} {sz : Nat} (hu : P.underlying t = some (.slice e)) (hsz : xI P e = some sz) (hd : Nat.blt d n = true)
  (h : ∀ b, WL P ro n w0 ops Q l ((d, .slice (some ⟨b, 0, none⟩) 0 0) :: r) ds m (.row (some ⟨b, 0, none⟩) 0 e sz [] :: H)) :
  WL P ro n w0 ops Q (⟨some d, .buildSlice t 0 #[], ty, pos, after, none⟩ :: l) r ds m H := by
 refine .gen (fun v m' H' => ∃ b, v = .slice (some ⟨b, 0, none⟩) 0 0 ∧ m' = m ∧ H' = .row (some ⟨b, 0, none⟩) 0 e sz [] :: H) hd (fun _ h => by cases h) (fun tmps w ho hs => ?_)
  (by rintro _ _ _ ⟨b, rfl, rfl, rfl⟩; exact h b)
 have h1 := hs.alloc (.cells #[] e (0, 0))
 have h2 := Sat.row_of (es := []) (sz := sz) (by simp) (b := w.heap.size) (T := e) (H := H) (w := w.alloc (.cells #[] e (0, 0))) (by simpa using h1)
 refine ⟨_, m, _, w.alloc (.cells #[] e (0, 0)), ?_, h2, w.heap.size, rfl, rfl, rfl⟩
 simp [execOp, Instr.buildSlice, run_underlying hu, y8 hsz, Instr.fill, Go.newRow, run_newObj_alloc]
 exact congrArg (fun q => w.alloc (.cells q e (0, 0))) (Array.eq_empty_of_size_eq_zero (by simp))
theorem WC.drawAll {id : Nat} {l : List Oper} (hm : P.follows .mixedOrders = true) (hc : drawB l l.length = true) (h : WD P ro n w0 l.toArray ds m H (fun r' => WQ n w0 Q .normal r' ds m H) l r) :
  WC P ro n w0 (.region id l.toArray true) Q r ds m H := by
 refine .draw l.length hm hc ?_
 rw [List.take_length, List.drop_length]
 exact h.mono fun r' hq => .nil hq
end
theorem Sat.sublist {w0 : World} {m : Mem} {w : World} {A B : SHeap} (hl : List.Sublist B A) : Sat w0 m A w → Sat w0 m B w := fun h =>
 have hf : List.Sublist (SHeap.foot B) (SHeap.foot A) := by
  clear h
  induction hl with
  | slnil => exact List.Sublist.refl _
  | cons i _ ih => exact List.Sublist.trans ih (by simp only [SHeap.foot, List.flatMap_cons]; exact List.sublist_append_right _ _)
  | cons_cons i _ ih => simp only [SHeap.foot, List.flatMap_cons] at ih ⊢; exact List.Sublist.append (List.Sublist.refl _) ih
 ⟨h.os, h.tape, h.output, h.size, h.pers, fun i hi => h.own i (hl.mem hi), h.sep.sublist hf, fun b hb => h.free b (hf.mem hb)⟩
def MakesRow (T : TypeId) (sz : Nat) (es : List (List Value)) (m : Mem) (H : SHeap) : Value → Mem → SHeap → Prop := fun v m' H' =>
 ∃ a cap, v = .slice a es.length cap ∧ m' = m ∧ H' = .row a cap T sz es :: H
end Go.Eng
namespace Go.Eng
open Go Go.RowKit Go.ChangeShapes
theorem Does.calls {P : Program} {f : FuncId} {args : Array Value} {w : World} {v : Value} (h : Does P f args w (memOf w) [] (Gives v (memOf w) [])) :
  Calls P f args w fun e w' => e = .returned v ∧ Below w.heap.size w w' := by
 have h1 := h w (Sat.start w)
 have h2 : CallsIn Fence.wide 0 P f args w fun e w' => e = .returned v ∧ Below w.heap.size w w' := h1.mono fun e w' ⟨v', m', H', he, hg, hs⟩ => by
  obtain ⟨rfl, rfl, rfl⟩ := hg
  exact ⟨he, hs.below⟩
 exact callsIn_wide.1 h2
section
variable {H : Type} {enc : TypeId × Value → H}
theorem zGN {f : Func} {s : ChangeSpec} {apart fresh handsOn again : Bool} {W W' : World} {args : Array Value} {v : Value} {ds gs : List (DataW H)} {before pa pv : List MemPlace}
  (hW : DataW.Whole enc P f.params.toList s.vars apart W args.toList ds gs before)
  (hres : ∀ (b : Nat) (sp : Nat → Bool) (hd : Bool), DataW.TrodAll enc P W' b sp hd f.resultTypes.toList (v.resultList f.resultTypes.size) (s.fn H (ds ++ gs)).results [])
  (hargs : ∀ sp : Nat → Bool, (∀ p ∈ before, sp p.block = true) → DataW.TrodAll enc P W' 0 sp true f.params.toList args.toList (s.fn H (ds ++ gs)).args pa)
  (hvars : ∀ sp : Nat → Bool, (∀ p ∈ before, sp p.block = true) → DataW.TrodVars enc P W' sp s.vars (s.fn H (ds ++ gs)).vars pv)
  (hps : before = pa ++ pv) (hb : Below W.heap.size W W')
  (hok : ∀ (j : Nat) (t : TypeId) (r : Value), f.resultTypes[j]? = some t → (v.resultList f.resultTypes.size)[j]? = some r → Value.okWide P W' .any 0 t r) :
  s.post enc P f apart fresh handsOn again W args v W' := by
 have hold : ∀ p ∈ before, (fun b => decide (b < W.heap.size)) p.block = true := fun p hp => by simpa using hW.lt p hp
 have hlt := hW.lt
 refine ⟨ds, gs, before, [], pa, pv, hW, hres _ _ _, hargs _ hold, hvars _ hold, World.keptBut_mono (fun p hp => ⟨hp, ?_⟩) (hb.frame _), fun _ => ?_⟩
 ·rw [hps, List.mem_append] at hp
  exact Or.inr hp
 ·obtain ⟨_, _, _, _, _, hz, hn⟩ := hW
  refine ⟨hok, _, _, ([] ++ pa) ++ pv, ⟨[] ++ pa, pv, trodAll_append (hargs _ (fun _ _ => rfl)) (hres _ _ _), hvars _ (fun _ _ => rfl), rfl, ?_, ?_⟩, ?_⟩
  ·intro b off hp
   have hp' := hp
   rw [List.nil_append, ← hps] at hp'
   have hq : b < W.heap.size := hlt _ hp'
   rw [hb.frozen (p := _) hq]
   exact hz b off (by rw [hps]; simpa using hp)
  ·intro ha
   have := hn ha
   rw [hps] at this
   simpa using this
  ·intro p hp _
   rw [hps]
   simpa using hp
end
end Go.Eng
namespace Go.Eng
open Go Go.RowKit
section
variable {t : TypeId}
theorem Cells.at_ {a : Addr} {vs : List Value} {o : Nat} {v : Value} (h : Cells w0 m H a vs) (hv : vs[o]? = some v) : Cell w0 m H (a.add o) v := fun w hs => h w hs o v hv
theorem addadd (a : Addr) (j k : Nat) : (a.add j).add k = a.add (j + k) := by
 obtain ⟨b, o, s⟩ := a
 unfold Addr.add
 by_cases h1 : j = 0 <;> by_cases h2 : k = 0 <;> simp [h1, h2, Nat.add_assoc]
theorem Cells.sub {a : Addr} {vs ws : List Value} {o k : Nat} (h : Cells w0 m H a vs) (hv : Seg vs o k ws) : Cells w0 m H (a.add o) ws := by
 intro w hs j v hj
 rw [addadd]
 exact h w hs _ v (hv.at_.2 j v hj)
theorem Loads.rowF {t : TypeId} {a : Addr} {cap : Nat} {T : TypeId} {sz i kk o : Nat} {es : List (List Value)} {e : List Value} {v : Value} (hm : Item.row (some a) cap T sz es ∈ H) (hi : es[i]? = some e) (hkk : kk = i * sz) (hu : aggB P t = some false) (hv : e[o]? = some v) :
  Loads P w0 m H t ((a.add kk).add o) v := .one hu (Cells.at_ (Cells.row hm hi hkk) hv)
theorem Loads.rowS {t : TypeId} {a : Addr} {cap : Nat} {T : TypeId} {sz i kk o k : Nat} {es : List (List Value)} {e ws : List Value} (hm : Item.row (some a) cap T sz es ∈ H) (hi : es[i]? = some e) (hkk : kk = i * sz) (hu : aggB P t = some true) (hz : xI P t = some k) (hv : Seg e o k ws) :
  Loads P w0 m H t ((a.add kk).add o) (.agg ws.toArray) := .agg hu hz hv.at_.1 (Cells.sub (Cells.row hm hi hkk) hv)
theorem Loads.prow {t : TypeId} {a : Addr} {len cap : Nat} {T : TypeId} {sz i kk k : Nat} {es : List (List Value)} {e : List Value} (hp : PRow m T sz (.slice (some a) len cap) es) (hi : es[i]? = some e) (hkk : kk = i * sz) (hu : aggB P t = some true) (hz : xI P t = some k) (hl : e.length = k) :
  Loads P w0 m H t (a.add kk) (.agg e.toArray) := .agg hu hz hl (Cells.prow hp hi hkk)
theorem Loads.prow1 {t : TypeId} {a : Addr} {len cap : Nat} {T : TypeId} {sz i kk : Nat} {es : List (List Value)} {v : Value} (hp : PRow m T sz (.slice (some a) len cap) es) (hi : es[i]? = some [v]) (hkk : kk = i * sz) (hu : aggB P t = some false) :
  Loads P w0 m H t (a.add kk) v := .one hu (Cells.cell (Cells.prow hp hi hkk))
theorem Loads.prowF {t : TypeId} {a : Addr} {len cap : Nat} {T : TypeId} {sz i kk o : Nat} {es : List (List Value)} {e : List Value} {v : Value} (hp : PRow m T sz (.slice (some a) len cap) es) (hi : es[i]? = some e) (hkk : kk = i * sz) (hu : aggB P t = some false) (hv : e[o]? = some v) :
  Loads P w0 m H t ((a.add kk).add o) v := .one hu (Cells.at_ (Cells.prow hp hi hkk) hv)
theorem WL.fieldAddrR {t u : TypeId} {x : Operand} {a : Addr} {kk o1 i o k q : Nat} (hx : r.ev x = some (.pointer (some ((a.add kk).add o1)))) (hf : fieldB P t i = some (o, u)) (hz : xI P u = some (k + 1)) (hd : Nat.blt d n = true) (hq : lit (o1 + o) = some q)
  (h : WL P ro n w0 ops Q l ((d, .pointer (some ((a.add kk).add q))) :: r) ds m H) : WL P ro n w0 ops Q (⟨some d, .fieldAddr t x i, ty, pos, after, none⟩ :: l) r ds m H :=
 .fieldAddr hx hf hz hd (by rw [kF] at hq; rw [addadd (a.add kk), Option.some.inj hq]; exact h)
theorem zIy : ∀ (vs A B C : List Value) (o : Nat), o + vs.length ≤ B.length → laid (A ++ B ++ C) (A.length + o) vs = A ++ laid B o vs ++ C
 | [], A, B, C, o, h => rfl
 | v :: vs, A, B, C, o, h => by
  simp only [List.length_cons] at h
  have e : (A ++ B ++ C).set (A.length + o) v = A ++ B.set o v ++ C := by
   rw [List.append_assoc, List.set_append_right _ _ (by omega), Nat.add_sub_cancel_left, List.set_append_left _ _ (by omega), List.append_assoc]
  rw [laid, e]
  have := zIy vs A (B.set o v) C (o + 1) (by simp; omega)
  rw [show A.length + o + 1 = A.length + (o + 1) by omega, this]
  rfl
theorem WL.storeRowF {u : TypeId} {x y : Operand} {a : Addr} {k o i cap sz kz : Nat} {T : TypeId} {es es' : List (List Value)} {v : Value} {vs e e' : List Value} {H' : SHeap} (hx : r.ev x = some (.pointer (some ((a.add k).add o)))) (hk : k = i * sz) (hy : r.ev y = some v)
  (hv : v.cells = vs.toArray) (hz : xI P u = some kz) (hvs : vs.length = kz) (ha : vs.all okCell = true) (hr : Repl (.row (some a) cap T sz es) (.row (some a) cap T sz es') H H') (hi : es[i]? = some e) (hnf : NF (laid e o vs) e') (hb : Nat.ble (o + kz) sz = true) (he : es' = es.set i e')
  (h : WL P ro n w0 ops Q l r ds m H') : WL P ro n w0 ops Q (⟨none, .store u x y, ty, pos, after, none⟩ :: l) r ds m H :=
 .act (fun m' H'' => m' = m ∧ H'' = H') rfl (fun _ h => by cases h)
  (fun tmps w ho hs => by
   subst hk; subst he
   have hnf := hnf.eq
   subst hnf
   have hb : o + kz ≤ sz := by simpa using hb
   obtain ⟨H1, p1, p2⟩ := hr.perm
   have hs1 := hs.perm p1
   obtain ⟨arr, fz, h1, h2, h3, h4, h5, h6, h9⟩ := hs1.own _ List.mem_cons_self
   have hil : i < es.length := (List.getElem?_eq_some_iff.1 hi).1
   obtain ⟨s, t, rfl, hsl⟩ : ∃ s t, es = s ++ e :: t ∧ s.length = i := ⟨es.take i, es.drop (i + 1), by
    have := List.getElem?_eq_some_iff.1 hi
    rw [← this.2, ← List.drop_eq_getElem_cons hil, List.take_append_drop], by rw [List.length_take]; omega⟩
   have hset : (s ++ e :: t).set i (laid e o vs) = s ++ laid e o vs :: t := by subst hsl; simp
   have hsf : s.flatten.length = i * sz := by rw [← hsl]; exact uW (fun q hq => h6 q (by simp [hq]))
   have he0 : e.length = sz := h6 e (by simp)
   have hll : (laid e o vs).length = sz := by rw [xY, he0]
   have harr : arr.toList = s.flatten ++ e ++ (t.flatten ++ arr.toList.drop ((s ++ e :: t).length * sz)) := by
    have := List.take_append_drop ((s ++ e :: t).length * sz) arr.toList
    rw [h5] at this
    rw [← List.append_assoc]
    simpa using this.symm
   have hlen : i * sz + sz ≤ arr.toList.length := by rw [harr]; simp only [List.length_append, hsf, he0]; omega
   have hs2 : Sat w0 m (.blk a.block (.cells arr.toList.toArray T fz) :: H1) w := ⟨hs1.os, hs1.tape, hs1.output, hs1.size, hs1.pers, fun q hq => by
    cases hq with
    | head => show w.heap[a.block]? = _; rw [h2]
    | tail _ hq => exact hs1.own q (List.mem_cons_of_mem _ hq), by simpa [SHeap.foot, Item.foot] using hs1.sep, by simpa [SHeap.foot, Item.foot] using hs1.free⟩
   obtain ⟨w', g1, g2⟩ := qP (P := P) vs 0 (i * sz + o) arr.toList H1 w (by omega) (by rcases h9.1 with h | h; exact .inl h; exact .inr (.inr (by simpa using h))) ha hs2
   rw [Nat.add_zero, ← hsf, harr, zIy vs s.flatten e _ o (by omega)] at g2
   have hb2 : w'.heap[a.block]? = _ := g2.own _ List.mem_cons_self
   have g3 : Sat w0 m (.row (some a) cap T sz (s ++ laid e o vs :: t) :: H1) w' := ⟨g2.os, g2.tape, g2.output, g2.size, g2.pers, fun q hq => by
    cases hq with
    | head =>
     refine ⟨_, fz, h1, hb2, ?_, by simpa using h4, ?_, ?_, ?_⟩
     rotate_left 3
     ·have h7 := congrArg List.length harr
      simp only [List.length_append, Array.length_toList] at h7
      refine ⟨?_, by simpa using h9.2⟩
      rcases h9.1 with h | h
      ·exact .inl h
      ·right; simp only [List.size_toArray, List.length_append]; omega
     ·have h7 : arr.toList.length = arr.size := Array.length_toList
      rw [← h3, List.size_toArray]
      have := congrArg List.length harr
      simp only [List.length_append] at this ⊢
      omega
     ·have e1 : (s ++ laid e o vs :: t).length * sz = (s.flatten ++ laid e o vs ++ t.flatten).length := by
       have e2 := uW h6
       simp only [List.flatten_append, List.flatten_cons, List.length_append, List.length_cons] at e2 ⊢
       omega
      rw [e1]
      simp [← List.append_assoc]
     ·intro q hq
      rcases List.mem_append.1 hq with hq | hq
      ·exact h6 q (by simp [hq])
      ·rcases List.mem_cons.1 hq with rfl | hq
       ·exact hll
       ·exact h6 q (by simp [hq])
    | tail _ hq => exact g2.own q (List.mem_cons_of_mem _ hq), by simpa [SHeap.foot, Item.foot] using g2.sep, by simpa [SHeap.foot, Item.foot] using g2.free⟩
   rw [hset] at p2
   refine ⟨m, H', w', ?_, g3.perm p2.symm, rfl, rfl⟩
   have hadd : (a.add (i * sz)).add o = ⟨a.block, i * sz + o, none⟩ := by rw [addadd, h1, xP]; simp
   simp only [execOp, Instr.storeAt, Instr.sureAddr, storeVar, ho.ev hx, ho.ev hy, hv, Sem.run_bind, Sem.run_pure, Result.andThen_ok, y8 hz, hadd]
   simp only [List.size_toArray, hvs, ne_eq, not_true_eq_false, if_false, g1, Result.andThen_ok])
  (by rintro _ _ ⟨rfl, rfl⟩; exact h)
theorem zBl (sz : Nat) : ∀ (es : List (List Value)) (k : Nat), (∀ e ∈ es, e.length = sz) → (es.drop k).flatten = es.flatten.drop (k * sz)
 | es, 0, _ => by simp
 | [], k + 1, _ => by simp
 | e :: es, k + 1, h => by
  have he := h e List.mem_cons_self
  rw [List.drop_succ_cons, List.flatten_cons, zBl sz es k (fun x hx => h x (List.mem_cons_of_mem _ hx)), Nat.succ_mul, List.drop_append, (List.drop_eq_nil_of_le (by omega) : e.drop (k * sz + sz) = []), List.nil_append, he, Nat.add_sub_cancel]
theorem zBx (sz : Nat) : ∀ (es : List (List Value)) (k : Nat), (∀ e ∈ es, e.length = sz) → (es.take k).flatten = es.flatten.take (k * sz)
 | es, 0, _ => by simp
 | [], k + 1, _ => by simp
 | e :: es, k + 1, h => by
  have he := h e List.mem_cons_self
  rw [List.take_succ_cons, List.flatten_cons, List.flatten_cons, zBx sz es k (fun x hx => h x (List.mem_cons_of_mem _ hx)), Nat.succ_mul, List.take_append, List.take_of_length_le (l := e) (by omega), he, Nat.add_sub_cancel]
def subSl (a : Option Addr) (cap lo hi sz : Nat) : Value := .slice (if cap = lo then a else a.map (·.add (lo * sz))) (hi - lo) (cap - lo)
theorem zAn {t e : TypeId} {sz : Nat} (hu : P.underlying t = some (.slice e)) (hz : xI P e = some sz) (lo hi : Option Value) (a : Option Addr) (len cap : Nat) (w : World) :
  (Instr.sliceAt t (.slice a len cap) lo hi none).run P w = ((Instr.sliceBounds true len cap lo hi none).run P w).andThen fun p w' => .ok (.slice (if p.2.2 = p.1 then a else a.map (·.add (p.1 * sz))) (p.2.1 - p.1) (p.2.2 - p.1)) w' := by
 simp only [Instr.sliceAt, Instr.slice, Sem.run_bind, run_underlying hu, Result.andThen_ok, y8 hz, Sem.run_pure]
theorem WL.slLH {t e : TypeId} {sz : Nat} {kl kh : IntKind} {x lo hi : Operand} {a : Option Addr} {len cap : Nat} {i j : Int} (hx : r.ev x = some (.slice a len cap)) (hl : r.ev lo = some (.int kl i)) (hh : r.ev hi = some (.int kh j)) {p q : Nat} (hia : i = (p : Int)) (hjb : j = (q : Int))
  (hu : P.underlying t = some (.slice e)) (hz : xI P e = some sz) (hd : Nat.blt d n = true) (hb : p ≤ q ∧ q ≤ cap) (h : WL P ro n w0 ops Q l ((d, subSl a cap p q sz) :: r) ds m H) :
  WL P ro n w0 ops Q (⟨some d, .slice t x (some lo) (some hi) none, ty, pos, after, none⟩ :: l) r ds m H :=
 .val hd (fun _ h => by cases h) (fun tmps w ho _ => by
  subst hia; subst hjb
  have e1 := v6 (P := P) (i := (p : Int)) (k := kl) (y := q) (by omega) (by omega) .sliceB w
  have e2 := v6 (P := P) (i := (q : Int)) (k := kh) (y := cap) (by omega) (by omega) .sliceAcap w
  simp only [execOp, Option.map_some, Option.map_none, Sem.run_bind, ho.ev hx, ho.ev hl, ho.ev hh, zAn hu hz, Instr.sliceBounds]
  simp [e1, e2, Result.andThen, subSl]) h
theorem WL.slH {t e : TypeId} {sz : Nat} {kh : IntKind} {x hi : Operand} {a : Option Addr} {len cap : Nat} {j : Int} (hx : r.ev x = some (.slice a len cap)) (hh : r.ev hi = some (.int kh j)) {q : Nat} (hjb : j = (q : Int))
  (hu : P.underlying t = some (.slice e)) (hz : xI P e = some sz) (hd : Nat.blt d n = true) (hb : q ≤ cap) (h : WL P ro n w0 ops Q l ((d, subSl a cap 0 q sz) :: r) ds m H) :
  WL P ro n w0 ops Q (⟨some d, .slice t x none (some hi) none, ty, pos, after, none⟩ :: l) r ds m H :=
 .val hd (fun _ h => by cases h) (fun tmps w ho _ => by
  subst hjb
  have e2 := v6 (P := P) (i := (q : Int)) (k := kh) (y := cap) (by omega) (by omega) .sliceAcap w
  simp only [execOp, Option.map_some, Option.map_none, Sem.run_bind, ho.ev hx, ho.ev hh, zAn hu hz, Instr.sliceBounds]
  simp [e2, Result.andThen, subSl]) h
theorem WL.slL {t e : TypeId} {sz : Nat} {kl : IntKind} {x lo : Operand} {a : Option Addr} {len cap : Nat} {i : Int} (hx : r.ev x = some (.slice a len cap)) (hl : r.ev lo = some (.int kl i)) {p : Nat} (hia : i = (p : Int))
  (hu : P.underlying t = some (.slice e)) (hz : xI P e = some sz) (hd : Nat.blt d n = true) (hb : p ≤ len) (h : WL P ro n w0 ops Q l ((d, subSl a cap p len sz) :: r) ds m H) :
  WL P ro n w0 ops Q (⟨some d, .slice t x (some lo) none none, ty, pos, after, none⟩ :: l) r ds m H :=
 .val hd (fun _ h => by cases h) (fun tmps w ho _ => by
  subst hia
  have e1 := v6 (P := P) (i := (p : Int)) (k := kl) (y := len) (by omega) (by omega) .sliceB w
  simp only [execOp, Option.map_some, Option.map_none, Sem.run_bind, ho.ev hx, ho.ev hl, zAn hu hz, Instr.sliceBounds]
  simp [e1, Result.andThen, subSl]) h
theorem PRow.sub {T : TypeId} {sz len cap lo hi : Nat} {a : Option Addr} {es : List (List Value)} (h : PRow m T sz (.slice a len cap) es) (hb : lo ≤ hi ∧ hi ≤ es.length) (hcap : len ≤ cap) : PRow m T sz (subSl a cap lo hi sz) ((es.take hi).drop lo) := by
 cases a with
 | none =>
  obtain ⟨rfl, rfl⟩ := h
  simp only [subSl, Option.map_none, ite_self]
  exact ⟨by simp, by simp at hb; omega⟩
 | some a =>
  obtain ⟨h1, h2, h3, arr, fz, h4, h5⟩ := h
  subst h2
  have hne : ∀ e ∈ (es.take hi).drop lo, e.length = sz := fun e he => h3 e (List.mem_of_mem_take (List.mem_of_mem_drop he))
  have hl : hi - lo = ((es.take hi).drop lo).length := by simp; omega
  by_cases hc : cap = lo
  ·have : (es.take hi).drop lo = [] := List.drop_eq_nil_of_le (by simp; omega)
   rw [this] at hl ⊢
   simp only [subSl, if_pos hc]
   exact ⟨h1, hl, by simp, arr, fz, h4, by simp⟩
  ·simp only [subSl, if_neg hc, Option.map_some]
   refine ⟨zJu h1 _, hl, hne, arr, fz, by rw [w9 h1]; exact h4, fun j v hj => ?_⟩
   rw [w9 h1]
   rw [zBl sz _ _ (fun e he => h3 e (List.mem_of_mem_take he)), zBx sz _ _ h3, List.getElem?_drop] at hj
   rw [List.getElem?_take] at hj
   split at hj
   ·have := h5 _ v hj
    rw [Nat.add_assoc]
    exact this
   ·cases hj
end
end Go.Eng
namespace Go.Eng
open Go
structure Pc where
 at_ : Nat
 w : Nat
 r : Nat
 b : Bool
 deriving DecidableEq
def Pc.cs (p : Pc) : List Value := [.int .i64 (p.at_ : Int), .int .i64 (p.w : Int), .int .i32 (p.r : Int), .bool p.b]
def Pc.v (p : Pc) : Value := .agg p.cs.toArray
def zK (l : List UInt8) (k : Nat) : Pc := if dl (l.drop k) = (65533, 1) then ⟨k, 1, 65533, true⟩ else ⟨k, (dl (l.drop k)).2, (dl (l.drop k)).1, false⟩
theorem vJ (l : List UInt8) (k : Nat) : (zK l k).at_ = k := by unfold zK; split <;> rfl
theorem qG (l : List UInt8) (k : Nat) : (zK l k).w = (dl (l.drop k)).2 := by
 unfold zK; split
 ·rename_i h; rw [h]
 ·rfl
theorem qD (l : List UInt8) (k : Nat) : (zK l k).r = (dl (l.drop k)).1 := by
 unfold zK; split
 ·rename_i h; rw [h]
 ·rfl
theorem wQ {l : List UInt8} {k : Nat} (hk : k < l.length) : 1 ≤ (zK l k).w ∧ (zK l k).w ≤ 4 ∧ k + (zK l k).w ≤ l.length := by
 unfold zK
 split
 ·exact ⟨Nat.le_refl _, by show 1 ≤ 4; omega, hk⟩
 ·rename_i h
  rcases vZ (l.drop k) (by simp; omega) with ⟨_, h2, h3⟩ | ⟨h2, _⟩
  ·have h4 := zBB (dl (l.drop k)).1
   have h5 := h3.1
   simp only [List.length_drop] at h5
   simp only [h2]
   omega
  ·exact absurd h2 h
theorem jZ {l : List UInt8} {k : Nat} (hk : k < l.length) : okr (zK l k).r := by
 rw [qD]
 rcases vZ (l.drop k) (by simp; omega) with ⟨h1, _, _⟩ | ⟨h1, _⟩
 ·exact h1
 ·rw [h1]; right; decide
theorem qZ {c : Nat} (h : okr c) : c ≤ 1114111 := by rcases h with h | h <;> omega
def pcs : Nat → List UInt8 → Nat → List Pc
 | 0, _, _ => []
 | f + 1, l, k => if k < l.length then zK l k :: pcs f l (k + (zK l k).w) else []
theorem zFv (l : List UInt8) : ∀ (f g k : Nat), l.length - k ≤ f → l.length - k ≤ g → pcs f l k = pcs g l k
 | 0, 0, _, _, _ => rfl
 | 0, g + 1, k, hf, _ => by
  have : ¬ k < l.length := by omega
  simp [pcs, this]
 | f + 1, 0, k, _, hg => by
  have : ¬ k < l.length := by omega
  simp [pcs, this]
 | f + 1, g + 1, k, hf, hg => by
  simp only [pcs]
  split
  ·rename_i hk
   have hw := wQ hk
   rw [zFv l f g _ (by omega) (by omega)]
  ·rfl
def xD (l : List UInt8) (k : Nat) : List Pc := pcs l.length l k
def zC (l : List UInt8) : List Pc := xD l 0
theorem yQ {l : List UInt8} {k : Nat} (hk : k < l.length) : xD l k = zK l k :: xD l (k + (zK l k).w) := by
 have hw := wQ hk
 unfold xD
 rw [zFv l l.length (l.length + 1) k (by omega) (by omega)]
 simp only [pcs, if_pos hk]
theorem xZ {l : List UInt8} {k : Nat} (hk : ¬ k < l.length) : xD l k = [] := by
 unfold xD
 cases hl : l.length with
 | zero => rfl
 | succ f => simp only [pcs]; rw [if_neg hk]
end Go.Eng
namespace Go.Eng
open Go Go.RowKit
section
variable {t : TypeId}
theorem WL.addS {t' : TypeId} {x y : Operand} {a b : List UInt8} (hx : r.ev x = some (str a)) (hy : r.ev y = some (str b)) (hd : Nat.blt d n = true) (hb : a.length + b.length ≤ 9223372036854775807)
  (h : WL P ro n w0 ops Q l ((d, str (a ++ b)) :: r) ds m H) : WL P ro n w0 ops Q (⟨some d, .binOp .add t x y t', ty, pos, after, none⟩ :: l) r ds m H :=
 .val hd (fun _ h => by cases h) (fun tmps w ho hs => by
  have e1 : ¬ ((((⟨a.toArray⟩ : ByteArray).size + (⟨b.toArray⟩ : ByteArray).size : Nat) : Int) > IntKind.i64.max) := by
   have : IntKind.i64.max = 9223372036854775807 := by decide
   rw [this, yJ, yJ]; omega
  have e2 : (⟨a.toArray⟩ : ByteArray) ++ ⟨b.toArray⟩ = ⟨(a ++ b).toArray⟩ := by apply ByteArray.ext; simp
  simp only [execOp, ho.ev hx, ho.ev hy, str, eqGuard, binOp, Op.stringOp, Sem.run_bind, Sem.run_pure, if_neg e1, e2]
  simp) h
def rV (k : Nat) : List Value := [.int .i32 (k : Int)]
theorem zAN (s : List UInt8) : ∀ (f i : Nat) (acc : Array Value), (Conv.runesFrom ⟨s.toArray⟩ f i acc).toList = acc.toList ++ ((pcs f s i).map fun p => Value.int .i32 (p.r : Int))
 | 0, i, acc => by simp [Conv.runesFrom, pcs]
 | f + 1, i, acc => by
  unfold Conv.runesFrom pcs
  rw [yJ]
  split
  ·rw [zDT]
   rw [zAN s f]
   simp only [List.map_cons, qG, qD]
   simp
  ·simp
theorem vS {α : Type} (f : α → Value) (l : List α) : (l.map fun x => [f x]).flatten = l.map f := by
 induction l with
 | nil => rfl
 | cons x l ih => simp [ih]
theorem WL.strRunes {src dst e : TypeId} {x : Operand} {s : List UInt8} (hx : r.ev x = some (str s)) (hs1 : (P.underlying src).isSome = true) (hs2 : P.underlying dst = some (.slice e)) (hs3 : P.underlying e = some (.int .i32)) (hd : Nat.blt d n = true)
  (h : ∀ b cap, WL P ro n w0 ops Q l ((d, .slice (some ⟨b, 0, none⟩) (zC s).length cap) :: r) ds m (.row (some ⟨b, 0, none⟩) cap e 1 ((zC s).map fun p => rV p.r) :: H)) :
  WL P ro n w0 ops Q (⟨some d, .convert src dst x, ty, pos, after, none⟩ :: l) r ds m H := by
 refine .gen (fun v m' H' => ∃ b cap, v = .slice (some ⟨b, 0, none⟩) (zC s).length cap ∧ m' = m ∧ H' = .row (some ⟨b, 0, none⟩) cap e 1 ((zC s).map fun p => rV p.r) :: H) hd (fun _ h => by cases h) (fun tmps w ho hs => ?_)
  (by rintro _ _ _ ⟨b, cap, rfl, rfl, rfl⟩; exact h b cap)
 obtain ⟨us, hus⟩ := Option.isSome_iff_exists.1 hs1
 have hl := zAN s s.length 0 #[]
 simp only [List.nil_append] at hl
 have hpl : pcs s.length s 0 = zC s := rfl
 rw [hpl] at hl
 have hsz : (Conv.runesFrom ⟨s.toArray⟩ s.length 0 #[]).size = (zC s).length := by rw [← Array.length_toList, hl]; simp
 generalize hE : Conv.runesFrom ⟨s.toArray⟩ s.length 0 #[] = E at hl hsz
 let q := Question.appendCap (zC s).length 0 e
 let c := q.cut (w.tape w.drawn q)
 have hc : (zC s).length ≤ c := Nat.le_add_right _ _
 have hs1' := (hs.drew).alloc (.cells (E ++ Array.replicate (c - (zC s).length) (.int .i32 0)) e (0, 0))
 refine ⟨_, m, _, World.alloc { w with drawn := w.drawn + 1 } (.cells (E ++ Array.replicate (c - (zC s).length) (.int .i32 0)) e (0, 0)), ?_, ?_, w.heap.size, c, rfl, rfl, rfl⟩
 rotate_left
 ·have hh := hs1'
  refine ⟨hh.os, hh.tape, hh.output, hh.size, hh.pers, fun i hi => ?_, hh.sep, hh.free⟩
  cases hi with
  | head =>
   have hb := hh.own _ List.mem_cons_self
   refine ⟨_, (0, 0), rfl, hb, by simp [hsz]; omega, by simpa using hc, ?_, by simp [rV], .inl rfl, fun hq => by simp only [List.length_map] at hq; exact zHx hq⟩
   have : ((zC s).map fun p => rV p.r).flatten = (zC s).map fun p => Value.int .i32 (p.r : Int) := vS (fun p : Pc => Value.int .i32 (p.r : Int)) (zC s)
   rw [this, Array.toList_append, hl]
   simp
  | tail _ hi => exact hh.own i (List.mem_cons_of_mem _ hi)
 ·simp only [execOp, ho.ev hx, convert, Sem.run_bind, run_underlying hus, run_underlying hs2, run_underlying hs3, Result.andThen_ok]
  cases us <;> (simp [str, run_underlying hs3, Conv.stringToRunes, yJ, hE, hsz, Question.forced, Go.newRow, run_newObj_alloc, q, c, run_choose_drew, Result.andThen])
  all_goals rfl
def RowR (w0 : World) (m : Mem) (H : SHeap) (sz : Nat) (a : Option Addr) (es : List (List Value)) : Prop :=
 ∀ w, Sat w0 m H w → (∀ e ∈ es, e.length = sz) ∧ match a with
  | none => es = []
  | some b => ∀ j v, es.flatten[j]? = some v → w.cell? (b.add j) = some v
theorem RowR.row {a : Option Addr} {cap : Nat} {T : TypeId} {sz : Nat} {es : List (List Value)} (hm : Item.row a cap T sz es ∈ H) : RowR w0 m H sz a es := by
 intro w hs
 have h := hs.own _ hm
 cases a with
 | none =>
  have h' : es = [] ∧ cap = 0 := h
  obtain ⟨rfl, _⟩ := h'
  exact ⟨fun _ h => (by cases h), rfl⟩
 | some a =>
  obtain ⟨arr, fz, h1, h2, h3, h4, h5, h6, _⟩ := h
  refine ⟨h6, fun j v hj => ?_⟩
  rw [w9 (by rw [h1])]
  have ho : a.off = 0 := by rw [h1]
  have hl := uW h6
  have hlt := (List.getElem?_eq_some_iff.1 hj).1
  have h8 : arr.toList[j]? = some v := by rw [← h5, List.getElem?_take_of_lt (by omega)] at hj; exact hj
  simp only [ho, Nat.zero_add, World.cell?, h2]
  rw [← Array.getElem?_toList]; exact h8
theorem RowR.prow {a : Option Addr} {len cap : Nat} {T : TypeId} {sz : Nat} {es : List (List Value)} (hp : PRow m T sz (.slice a len cap) es) : RowR w0 m H sz a es := by
 intro w hs
 cases a with
 | none =>
  obtain ⟨rfl, _⟩ := hp
  exact ⟨fun _ h => (by cases h), rfl⟩
 | some a =>
  obtain ⟨h1, _, h3, arr, fz, h4, h5⟩ := hp
  refine ⟨h3, fun j v hj => ?_⟩
  rw [w9 h1]
  simp [World.cell?, hs.pers _ _ h4, h5 j v hj]
theorem RowR.nil {sz : Nat} {a : Option Addr} : RowR w0 m H sz a [] := by
 intro w hs
 refine ⟨fun _ h => (by cases h), ?_⟩
 cases a with
 | none => rfl
 | some a => intro j v hj; cases hj
theorem RowR.weak {sz : Nat} {a : Option Addr} {es : List (List Value)} {m' : Mem} {H' : SHeap} (h : RowR w0 m H sz a es) (hh : ∀ w, Sat w0 m' H' w → Sat w0 m H w) : RowR w0 m' H' sz a es := fun w hs => h w (hh w hs)
theorem RowR.more {sz : Nat} {a : Option Addr} {es : List (List Value)} {i : Item} (h : RowR w0 m H sz a es) : RowR w0 m (i :: H) sz a es := fun w hs => h w hs.drop
theorem RowR.le {sz : Nat} {a : Option Addr} {es : List (List Value)} {m' : Mem} (h : RowR w0 m H sz a es) (hm : m.le m') : RowR w0 m' H sz a es := fun w hs => h w (hs.forget hm)
theorem Cells.rrow {a : Addr} {sz k i : Nat} {es : List (List Value)} {e : List Value} (hr : RowR w0 m H sz (some a) es) (hi : es[i]? = some e) (hk : k = i * sz) : Cells w0 m H (a.add k) e := by
 subst hk
 intro w hs j v hj
 rw [addadd]
 exact (hr w hs).2 _ v (uG (hr w hs).1 hi j v hj)
theorem RowR.some {sz : Nat} {a : Option Addr} {es : List (List Value)} {w : World} (h : RowR w0 m H sz a es) (hs : Sat w0 m H w) (hne : 0 < es.length) : ∃ a0, a = some a0 := by
 cases a with
 | none => have := (h w hs).2; subst this; simp at hne
 | some a => exact ⟨a, rfl⟩
theorem WC.rSome {c : Code} {sz : Nat} {a : Option Addr} {es : List (List Value)} (hr : RowR w0 m H sz a es) (hne : 0 < es.length) (h : ∀ a0, a = some a0 → WC P ro n w0 c Q r ds m H) : WC P ro n w0 c Q r ds m H := by
 intro tmps w ho hs
 obtain ⟨a0, e⟩ := hr.some hs hne
 exact h a0 e tmps w ho hs
theorem WL.rSome {sz : Nat} {a : Option Addr} {es : List (List Value)} (hr : RowR w0 m H sz a es) (hne : 0 < es.length) (h : ∀ a0, a = some a0 → WL P ro n w0 ops Q l r ds m H) : WL P ro n w0 ops Q l r ds m H := by
 intro tmps w ho hs
 obtain ⟨a0, e⟩ := hr.some hs hne
 exact h a0 e tmps w ho hs
theorem Loads.rrow {t : TypeId} {a : Addr} {sz i kk k : Nat} {es : List (List Value)} {e : List Value} (hr : RowR w0 m H sz (some a) es) (hi : es[i]? = some e) (hkk : kk = i * sz) (hu : aggB P t = some true) (hz : xI P t = some k) (hl : e.length = k) :
  Loads P w0 m H t (a.add kk) (.agg e.toArray) := .agg hu hz hl (Cells.rrow hr hi hkk)
theorem Loads.rrow1 {t : TypeId} {a : Addr} {sz i kk : Nat} {es : List (List Value)} {v : Value} (hr : RowR w0 m H sz (some a) es) (hi : es[i]? = some [v]) (hkk : kk = i * sz) (hu : aggB P t = some false) :
  Loads P w0 m H t (a.add kk) v := .one hu (Cells.cell (Cells.rrow hr hi hkk))
theorem Loads.rrowF {t : TypeId} {a : Addr} {sz i kk o : Nat} {es : List (List Value)} {e : List Value} {v : Value} (hr : RowR w0 m H sz (some a) es) (hi : es[i]? = some e) (hkk : kk = i * sz) (hu : aggB P t = some false) (hv : e[o]? = some v) :
  Loads P w0 m H t ((a.add kk).add o) v := .one hu (Cells.at_ (Cells.rrow hr hi hkk) hv)
theorem Source.rrow {sz cap : Nat} {tx e' : TypeId} {a : Option Addr} {es : List (List Value)} (hk : P.underlying tx = some (.slice e')) (hr : RowR w0 m H sz a es) (h1 : ∀ e ∈ es, e.all okCell = true) : Source P w0 m H sz tx (.slice a es.length cap) es.length es.flatten := by
 intro w hs
 cases a with
 | none => have := (hr w hs).2; subst this; exact Source.nil (w0 := w0) (m := m) (H := H) hk cap w hs
 | some a =>
  refine Src.ofSlice w hk a _ cap _ (zX (hr w hs).1) (fun j u hu => (hr w hs).2 j u hu) (fun u hu => ?_)
  obtain ⟨e, he, hu'⟩ := List.mem_flatten.1 hu
  exact List.all_eq_true.1 (h1 e he) u hu'
theorem RowR.sub {sz cap lo hi : Nat} {a : Option Addr} {es : List (List Value)} (h : RowR w0 m H sz a es) (hb : lo ≤ hi ∧ hi ≤ es.length) (hcap : es.length ≤ cap) : RowR w0 m H sz (if cap = lo then a else a.map (·.add (lo * sz))) ((es.take hi).drop lo) := by
 intro w hs
 obtain ⟨h1, h2⟩ := h w hs
 refine ⟨fun e he => h1 e (List.mem_of_mem_take (List.mem_of_mem_drop he)), ?_⟩
 by_cases hc : cap = lo
 ·have : (es.take hi).drop lo = [] := List.drop_eq_nil_of_le (by simp; omega)
  rw [this, if_pos hc]
  cases a with
  | none => rfl
  | some a => intro j v hj; cases hj
 ·rw [if_neg hc]
  cases a with
  | none => simp only at h2; subst h2; simp
  | some a =>
   intro j v hj
   rw [addadd]
   refine h2 _ v ?_
   rw [zBl sz _ _ (fun e he => h1 e (List.mem_of_mem_take he)), zBx sz _ _ h1, List.getElem?_drop, List.getElem?_take] at hj
   split at hj
   ·exact hj
   ·cases hj
theorem WL.appendS {t tx e : TypeId} {x y : Operand} {z : Value} {a : Option Addr} {cap len : Nat} {es : List (List Value)} {s : List UInt8} {H1 : SHeap} (hx : r.ev x = some (.slice a len cap)) (hy : r.ev y = some (str s))
  (hu : P.underlying t = some (.slice e)) (hux : P.underlying tx = some .string) (ho : Out (.row a cap e 1 es) H H1) (hz : zeroB P e = some z) (hsz : xI P e = some 1) (hby : bytesB P e = some 1) (hzs : z.cells.size = 1) (hlen : len = es.length)
  (hb : es.length + s.length ≤ 140737488355328) (hd : Nat.blt d n = true)
  (h : ∀ a' cap', WL P ro n w0 ops Q l ((d, .slice a' (es.length + s.length) cap') :: r) ds m (.row a' cap' e 1 (es ++ s.map fun b => [Value.int .u8 (b.toNat : Int)]) :: H1)) :
  WL P ro n w0 ops Q (⟨some d, .call ⟨.builtin .append, #[x, y], #[t, tx]⟩, ty, pos, after, none⟩ :: l) r ds m H := by
 refine .append (es' := s.map fun b => [Value.int .u8 (b.toNat : Int)]) (news := s.map fun b => Value.int .u8 (b.toNat : Int)) hx hy hlen ho hu hz hsz hby hzs (Source.str hux s) (by simp) (vS _ s).symm (by simp) (by simp; omega) (by simpa using hb) hd ?_
 intro a' cap'
 rw [List.length_append, List.length_map]
 exact h a' cap'
theorem WL.appendR {t tx e e' : TypeId} {x y : Operand} {sz by' : Nat} {z : Value} {a a2 : Option Addr} {cap len len2 cap2 : Nat} {es es' : List (List Value)} {H1 : SHeap} (hx : r.ev x = some (.slice a len cap)) (hy : r.ev y = some (.slice a2 len2 cap2))
  (hu : P.underlying t = some (.slice e)) (hux : P.underlying tx = some (.slice e')) (ho : Out (.row a cap e sz es) H H1) (hr : RowR w0 m H sz a2 es') (hok : ∀ q ∈ es', q.all okCell = true) (hq : ∀ q ∈ es', q.length = sz)
  (hz : zeroB P e = some z) (hsz : xI P e = some sz) (hby : bytesB P e = some by') (hzs : z.cells.size = sz) (hlen : len = es.length) (hlen2 : len2 = es'.length) (hb : (es.length + es'.length) * by' ≤ 140737488355328) (h0 : 0 < by') (hd : Nat.blt d n = true)
  (h : ∀ a' cap', WL P ro n w0 ops Q l ((d, .slice a' (es.length + es'.length) cap') :: r) ds m (.row a' cap' e sz (es ++ es') :: H1)) :
  WL P ro n w0 ops Q (⟨some d, .call ⟨.builtin .append, #[x, y], #[t, tx]⟩, ty, pos, after, none⟩ :: l) r ds m H := by
 subst hlen2
 have h63 : es.length + es'.length ≤ 9223372036854775807 := by
  have : (es.length + es'.length) * 1 ≤ (es.length + es'.length) * by' := Nat.mul_le_mul_left _ h0
  omega
 refine .append (es' := es') (news := es'.flatten) hx hy hlen ho hu hz hsz hby hzs (Source.rrow hux hr hok) rfl rfl hq h63 hb hd ?_
 intro a' cap'
 rw [List.length_append]
 exact h a' cap'
theorem WL.makeRoom {e : TypeId} {lo hi : Operand} {kl kh : IntKind} {i j : Int} {k sz by' : Nat} {z : Value} (hl : r.ev lo = some (.int kl i)) (hh : r.ev hi = some (.int kh j)) (ei : i = 0) (ej : j = (k : Int))
  (hu : P.underlying t = some (.slice e)) (hz : zeroB P e = some z) (hsz : xI P e = some sz) (hby : bytesB P e = some by') (hb : k * by' ≤ 140737488355328) (h63 : k ≤ 9223372036854775807)
  (hd : Nat.blt d n = true) (h : ∀ b, WL P ro n w0 ops Q l ((d, .slice (some ⟨b, 0, none⟩) 0 k) :: r) ds m (.row (some ⟨b, 0, none⟩) k e sz [] :: H)) :
  WL P ro n w0 ops Q (⟨some d, .makeSlice t lo hi, ty, pos, after, none⟩ :: l) r ds m H := by
 subst ei; subst ej
 refine .gen (fun v m' H' => ∃ b, v = .slice (some ⟨b, 0, none⟩) 0 k ∧ m' = m ∧ H' = .row (some ⟨b, 0, none⟩) k e sz [] :: H) hd (fun _ h => by cases h) (fun tmps w ho hs => ?_)
  (by rintro _ _ _ ⟨b, rfl, rfl, rfl⟩; exact h b)
 obtain ⟨inf, hinf, hbe, hrun⟩ := zAU hby w
 have wl : IntKind.i64.wrap (k : Int) = (k : Int) := by rw [IntKind.wrap_i64]; omega
 have w00 : IntKind.i64.wrap 0 = 0 := by rw [IntKind.wrap_i64]; rfl
 have n2 : ¬ (281474976710656 < (by' : Int) * (k : Int)) := by
  have : (by' : Int) * (k : Int) = ((k * by' : Nat) : Int) := by push_cast; rw [Int.mul_comm]
  omega
 have n5 : ¬ (140737488355328 < k * by') := by omega
 have hrow : ∀ (arr : Array Value), arr.size = k * sz → Sat w0 m (.row (some ⟨w.heap.size, 0, none⟩) k e sz [] :: H) (w.alloc (.cells arr e (0, 0))) := fun arr ha => by
  have hh := hs.alloc (.cells arr e (0, 0))
  refine ⟨hh.os, hh.tape, hh.output, hh.size, hh.pers, fun i hi => ?_, hh.sep, hh.free⟩
  cases hi with
  | head => exact ⟨arr, (0, 0), rfl, hh.own _ List.mem_cons_self, ha, Nat.zero_le _, by simp, (fun _ h => (by cases h)), .inl rfl, fun _ => h63⟩
  | tail _ hi => exact hh.own i (List.mem_cons_of_mem _ hi)
 have n1 : ¬ (k : Int) < 0 := by omega
 by_cases hn : k * sz = 0
 ·refine ⟨_, m, _, w.alloc (.cells #[] e (0, 0)), ?_, hrow _ (by simp [hn]), w.heap.size, rfl, rfl, rfl⟩
  rcases Nat.mul_eq_zero.1 hn with rfl | rfl
  ·simp [execOp, ho.ev hl, ho.ev hh, Instr.makeSlice, run_underlying hu, asInt, asIntOf, hrun, w00, y8 hsz, askRoom, roomBytes, Go.newRow, run_newObj_alloc]
   exact congrArg (fun q => w.alloc (.cells q e (0, 0))) (Array.eq_empty_of_size_eq_zero (by simp))
  ·simp [execOp, ho.ev hl, ho.ev hh, Instr.makeSlice, run_underlying hu, asInt, asIntOf, hrun, wl, w00, y8 hsz, hbe, n1, n2, n5, askRoom, roomBytes, Go.newRow, run_newObj_alloc]
   exact congrArg (fun q => w.alloc (.cells q e (0, 0))) (Array.eq_empty_of_size_eq_zero (by simp))
 ·refine ⟨_, m, _, w.alloc (.cells ((Array.range (k * sz)).map fun x => z.cells[x % z.cells.size]!) e (0, 0)), ?_, hrow _ (by simp), w.heap.size, rfl, rfl, rfl⟩
  simp [execOp, ho.ev hl, ho.ev hh, Instr.makeSlice, run_underlying hu, asInt, asIntOf, hrun, wl, w00, y8 hsz, hbe, n1, n2, n5, askRoom, roomBytes, Go.newRow, run_newObj_alloc, hn, xG hz]
theorem WL.remu64 {t t' : TypeId} {x y : Operand} {a b : Int} (hx : r.ev x = some (.int .u64 a)) (hy : r.ev y = some (.int .u64 b)) (hd : Nat.blt d n = true) (ha : 0 ≤ a ∧ a ≤ 18446744073709551615) (hb : 1 ≤ b)
  (h : WL P ro n w0 ops Q l ((d, .int .u64 (a % b)) :: r) ds m H) : WL P ro n w0 ops Q (⟨some d, .binOp .rem t x y t', ty, pos, after, none⟩ :: l) r ds m H := by
 refine .rem hx hy hd (by omega) ?_
 rw [Int.tmod_eq_emod_of_nonneg ha.1]
 exact h
theorem WL.convu64mod {src dst : TypeId} {k : IntKind} {a : Int} {x : Operand} (hx : r.ev x = some (.int k a)) (hs : (P.underlying src).isSome = true) (hu : P.underlying dst = some (.int .u64)) (hd : Nat.blt d n = true)
  (h : WL P ro n w0 ops Q l ((d, .int .u64 (a % 18446744073709551616)) :: r) ds m H) : WL P ro n w0 ops Q (⟨some d, .convert src dst x, ty, pos, after, none⟩ :: l) r ds m H :=
 .conv hx hs hu hd (by
  have : IntKind.u64.wrap a = a % 18446744073709551616 := by simp [IntKind.wrap, IntKind.signed, IntKind.bits]
  rw [this]; exact h)
theorem zBj {α : Type} {xs : List α} {f : α → List Value} {i : Nat} (h : i < xs.length) : ∃ x, xs[i]? = some x ∧ (xs.map f)[i]? = some (f x) ∧ xs.take (i + 1) = xs.take i ++ [x] ∧ x ∈ xs ∧ xs.drop i = x :: xs.drop (i + 1) := by
 refine ⟨xs[i], List.getElem?_eq_getElem h, by rw [List.getElem?_map, List.getElem?_eq_getElem h]; rfl, List.take_succ_eq_append_getElem h, List.getElem_mem h, List.drop_eq_getElem_cons h⟩
end
end Go.Eng
namespace Go.Eng
open Go Go.RowKit
section
theorem WC.loopH {c : Code} {H0 : SHeap} (r0 : Env) (hr : Env.Sub r0 r) (hh : ∀ w, Sat w0 m H w → Sat w0 m H0 w) (I : Nat → Env → List Dfr → Mem → SHeap → Prop) (j : Nat) (h0 : I j r0 ds m H0)
  (round : ∀ j r ds m H, I j r ds m H → WC P ro n w0 c (zJ n w0 I j Q) r ds m H) : WC P ro n w0 (.loop c) Q r ds m H :=
 fun tmps w ho hs => WC.loopW (H := H0) r0 hr I j h0 round tmps w ho (hh w hs)
theorem zE2 {w : World} {a : Option Addr} {cap : Nat} {T : TypeId} {sz : Nat} {es : List (List Value)} (hs : Sat w0 m H w) (hm : Item.row a cap T sz es ∈ H) : es.length ≤ cap := by
 have h := hs.own _ hm
 cases a with
 | none =>
  have h' : es = [] ∧ cap = 0 := h
  rw [h'.1]; exact Nat.zero_le _
 | some a => exact h.choose_spec.choose_spec.2.2.2.1
theorem WL.rowCap {ops : Array Oper} {l : List Oper} {a : Option Addr} {cap : Nat} {T : TypeId} {sz : Nat} {es : List (List Value)} (hm : Item.row a cap T sz es ∈ H) (h : es.length ≤ cap → WL P ro n w0 ops Q l r ds m H) : WL P ro n w0 ops Q l r ds m H :=
 fun tmps w ho hs => h (zE2 hs hm) tmps w ho hs
theorem WC.rowCap {c : Code} {a : Option Addr} {cap : Nat} {T : TypeId} {sz : Nat} {es : List (List Value)} (hm : Item.row a cap T sz es ∈ H) (h : es.length ≤ cap → WC P ro n w0 c Q r ds m H) : WC P ro n w0 c Q r ds m H :=
 fun tmps w ho hs => h (zE2 hs hm) tmps w ho hs
theorem WQ.marks {fn : Func} {Post : Value → Mem → SHeap → Prop} : ∀ {ds : List Nat} {H H1 : SHeap}, List.Perm H ((ds.map fun D => Item.blk D (.deferred (some []))) ++ H1) → WQ n w0 (QFun P fn w0 Post) .ret r [] m H1 → WQ n w0 (QFun P fn w0 Post) .ret r (ds.map Dfr.mark) m H
 | [], _, _, hp, h => fun tmps w ho hs => h tmps w ho (hs.perm hp)
 | _ :: _, _, _, hp, h => WQ.mark hp (WQ.marks (List.Perm.refl _) h)
section
variable {t : TypeId}
theorem WL.pickIsT {c x y : Operand} {v : Value} {b : Bool} (hc : r.ev c = some (.bool b)) (hb : b = true) (hx : r.ev x = some v) (hd : Nat.blt d n = true) (h : WL P ro n w0 ops Q l ((d, v) :: r) ds m H) :
  WL P ro n w0 ops Q (⟨some d, .pick c x y, ty, pos, after, none⟩ :: l) r ds m H := .pick_t (by rw [hc, hb]) hx hd h
theorem WL.pickIsF {c x y : Operand} {v : Value} {b : Bool} (hc : r.ev c = some (.bool b)) (hb : b = false) (hx : r.ev y = some v) (hd : Nat.blt d n = true) (h : WL P ro n w0 ops Q l ((d, v) :: r) ds m H) :
  WL P ro n w0 ops Q (⟨some d, .pick c x y, ty, pos, after, none⟩ :: l) r ds m H := .pick_f (by rw [hc, hb]) hx hd h
end
end
inductive Pick : SHeap → SHeap → Prop
 | all {A : SHeap} : Pick A A
 | take {i : Item} {A A' B : SHeap} : Out i A A' → Pick A' B → Pick A (i :: B)
 | drop {i : Item} {A B : SHeap} : Pick A B → Pick (i :: A) B
theorem Pick.sat {w0 : World} {m : Mem} {A B : SHeap} (h : Pick A B) : ∀ {w : World}, Sat w0 m A w → Sat w0 m B w := by
 induction h with
 | all => exact fun h => h
 | @take i A A' B ho _ ih =>
  intro w hs
  have h1 := hs.perm ho.perm
  have h2 := ih h1.drop
  have hsub : ∀ b ∈ SHeap.foot B, b ∈ SHeap.foot A' := by
   rename_i hp
   clear ih h2
   intro b hb
   have key : ∀ {A B : SHeap}, Pick A B → ∀ b ∈ SHeap.foot B, b ∈ SHeap.foot A := by
    intro A B hp
    induction hp with
    | all => exact fun _ h => h
    | take ho _ ih =>
     intro b hb
     have hf := List.Perm.flatMap_right Item.foot ho.perm
     refine hf.mem_iff.2 ?_
     simp only [List.flatMap_cons, List.mem_append, SHeap.foot] at hb ⊢
     rcases hb with hb | hb
     ·exact .inl hb
     ·exact .inr (ih b hb)
    | drop _ ih =>
     intro b hb
     simp only [SHeap.foot, List.flatMap_cons, List.mem_append]
     exact .inr (ih b hb)
   exact key hp b hb
  have hsep := h1.sep
  simp only [SHeap.foot, List.flatMap_cons, List.nodup_append] at hsep
  refine ⟨h2.os, h2.tape, h2.output, h2.size, h2.pers, ?_, ?_, ?_⟩
  ·intro x hx
   cases hx with
   | head => exact h1.own _ List.mem_cons_self
   | tail _ hx => exact h2.own x hx
  ·simp only [SHeap.foot, List.flatMap_cons, List.nodup_append]
   exact ⟨hsep.1, h2.sep, fun a ha b hb => hsep.2.2 a ha b (hsub b hb)⟩
  ·intro b hb
   simp only [SHeap.foot, List.flatMap_cons, List.mem_append] at hb
   rcases hb with hb | hb
   ·exact h1.free b (by simp only [SHeap.foot, List.flatMap_cons, List.mem_append]; exact .inl hb)
   ·exact h2.free b hb
 | drop _ ih => exact fun hs => ih hs.drop
theorem Does.callsW {P : Program} {f : FuncId} {args : Array Value} {w : World} {v : Value} (h : Does P f args w (memOf w) [] (fun v' m' _ => v' = v ∧ (memOf w).le m')) :
  Calls P f args w fun e w' => e = .returned v ∧ Below w.heap.size w w' := by
 have h1 := h w (Sat.start w)
 have h2 : CallsIn Fence.wide 0 P f args w fun e w' => e = .returned v ∧ Below w.heap.size w w' := h1.mono fun e w' ⟨v', m', H', he, hg, hs⟩ => by
  obtain ⟨rfl, hm⟩ := hg
  exact ⟨he, (hs.forget hm).below⟩
 exact callsIn_wide.1 h2
end Go.Eng
namespace Go.Eng
open Go Go.RowKit
section
variable {t t' : TypeId} {x y : Operand}
theorem WL.eqlNilF {c : Fn} {a b : Array Value} {ps rs : Array TypeId} {va : Bool} (hx : r.ev x = some (.func c a b)) (hy : r.ev y = some .nilFunc) (hu : P.underlying t = some (.func ps rs va)) (hd : Nat.blt d n = true)
  (h : WL P ro n w0 ops Q l ((d, .bool false) :: r) ds m H) : WL P ro n w0 ops Q (⟨some d, .binOp .eql t x y t', ty, pos, after, none⟩ :: l) r ds m H :=
 .val hd (fun _ h => by cases h) (fun tmps w ho _ => by
  have h2 : (eqGuard .eql t x y (.func c a b) .nilFunc) = pure () := rfl
  have h3 : ∀ e, (Op.equalIn (e + 1) t (.func c a b) .nilFunc).run P w = .ok false w := fun e => by simp [Op.equalIn, run_underlying hu]
  have h4 := h3 9999
  simp [execOp, ho.ev hx, ho.ev hy, h2, binOp, Op.equal, show Op.maxDepth = 9999 + 1 from rfl, h4]) h
theorem WL.eqNil {op : BinOp} {vx vy : Value} {b : Bool} (hop : op = .eql ∨ op = .neq) (hg : ∀ op, eqGuard op t x y vx vy = pure ()) (hx : r.ev x = some vx) (hy : r.ev y = some vy)
  (hk : ∀ (d : Nat) (w : World), (Op.equalIn (d + 1) t vx vy).run P w = .ok b w) (hb : ∀ op, op = .eql ∨ op = .neq → binOp op t vx vy = (do let c ← Op.equal t vx vy; pure (.bool (if op = .eql then c else !c)))) (hd : Nat.blt d n = true)
  (h : WL P ro n w0 ops Q l ((d, .bool (if op = .eql then b else !b)) :: r) ds m H) : WL P ro n w0 ops Q (⟨some d, .binOp op t x y t', ty, pos, after, none⟩ :: l) r ds m H :=
 .val hd (fun _ h => by cases h) (fun tmps w ho _ => by
  have h4 := hk 9999 w
  simp [execOp, ho.ev hx, ho.ev hy, hg, hb op hop, Op.equal, show Op.maxDepth = 9999 + 1 from rfl, h4]) h
theorem WL.eqlNilP {a : Option Addr} {e : TypeId} (hx : r.ev x = some (.pointer a)) (hy : r.ev y = some (.pointer none)) (hu : P.underlying t = some (.pointer e)) (hd : Nat.blt d n = true)
  (h : WL P ro n w0 ops Q l ((d, .bool a.isNone) :: r) ds m H) : WL P ro n w0 ops Q (⟨some d, .binOp .eql t x y t', ty, pos, after, none⟩ :: l) r ds m H :=
 .eqNil (op := .eql) (b := a.isNone) (.inl rfl) (fun _ => by unfold eqGuard; split <;> rfl) hx hy (fun d w => by cases a <;> simp [Op.equalIn, run_underlying hu]) (by rintro _ (rfl | rfl) <;> rfl) hd h
theorem WL.neqNilP {a : Option Addr} {e : TypeId} (hx : r.ev x = some (.pointer a)) (hy : r.ev y = some (.pointer none)) (hu : P.underlying t = some (.pointer e)) (hd : Nat.blt d n = true)
  (h : WL P ro n w0 ops Q l ((d, .bool (!a.isNone)) :: r) ds m H) : WL P ro n w0 ops Q (⟨some d, .binOp .neq t x y t', ty, pos, after, none⟩ :: l) r ds m H :=
 .eqNil (op := .neq) (b := a.isNone) (.inr rfl) (fun _ => by unfold eqGuard; split <;> rfl) hx hy (fun d w => by cases a <;> simp [Op.equalIn, run_underlying hu]) (by rintro _ (rfl | rfl) <;> rfl) hd h
theorem WL.eqlNilSl {a : Option Addr} {len cap : Nat} {e : TypeId} (hx : r.ev x = some (.slice a len cap)) (hy : r.ev y = some (.slice none 0 0)) (hu : P.underlying t = some (.slice e)) (hd : Nat.blt d n = true)
  (h : WL P ro n w0 ops Q l ((d, .bool a.isNone) :: r) ds m H) : WL P ro n w0 ops Q (⟨some d, .binOp .eql t x y t', ty, pos, after, none⟩ :: l) r ds m H :=
 .eqNil (op := .eql) (b := a.isNone) (.inl rfl) (fun _ => by unfold eqGuard; split <;> rfl) hx hy (fun d w => by cases a <;> simp [Op.equalIn, run_underlying hu]) (by rintro _ (rfl | rfl) <;> rfl) hd h
theorem WL.neqNilSl {a : Option Addr} {len cap : Nat} {e : TypeId} (hx : r.ev x = some (.slice a len cap)) (hy : r.ev y = some (.slice none 0 0)) (hu : P.underlying t = some (.slice e)) (hd : Nat.blt d n = true)
  (h : WL P ro n w0 ops Q l ((d, .bool (!a.isNone)) :: r) ds m H) : WL P ro n w0 ops Q (⟨some d, .binOp .neq t x y t', ty, pos, after, none⟩ :: l) r ds m H :=
 .eqNil (op := .neq) (b := a.isNone) (.inr rfl) (fun _ => by unfold eqGuard; split <;> rfl) hx hy (fun d w => by cases a <;> simp [Op.equalIn, run_underlying hu]) (by rintro _ (rfl | rfl) <;> rfl) hd h
theorem WL.strBytes {src dst e : TypeId} {s : List UInt8} (hx : r.ev x = some (str s)) (hs1 : (P.underlying src).isSome = true) (hs2 : P.underlying dst = some (.slice e)) (hs3 : P.underlying e = some (.int .u8)) (hd : Nat.blt d n = true)
  (h : ∀ b cap, WL P ro n w0 ops Q l ((d, .slice (some ⟨b, 0, none⟩) s.length cap) :: r) ds m (.row (some ⟨b, 0, none⟩) cap e 1 (s.map fun b => [Value.int .u8 (b.toNat : Int)]) :: H)) :
  WL P ro n w0 ops Q (⟨some d, .convert src dst x, ty, pos, after, none⟩ :: l) r ds m H := by
 refine .gen (fun v m' H' => ∃ b cap, v = .slice (some ⟨b, 0, none⟩) s.length cap ∧ m' = m ∧ H' = .row (some ⟨b, 0, none⟩) cap e 1 (s.map fun b => [Value.int .u8 (b.toNat : Int)]) :: H) hd (fun _ h => by cases h) (fun tmps w ho hs => ?_)
  (by rintro _ _ _ ⟨b, cap, rfl, rfl, rfl⟩; exact h b cap)
 obtain ⟨us, hus⟩ := Option.isSome_iff_exists.1 hs1
 have hrun := Go.Lib.run_convert_string_bytes (P := P) w src dst e ⟨s.toArray⟩ hus hs2 hs3
 have hsz : (⟨s.toArray⟩ : ByteArray).size = s.length := yJ s
 rw [hsz] at hrun
 have hge : s.length ≤ grownCap w s.length 0 e := grownCap_ge w s.length 0 e
 have hcs : (Go.Lib.bytesCells w e ⟨s.toArray⟩).size = grownCap w s.length 0 e := by
  simp only [Go.Lib.bytesCells, hsz, Array.size_append, Array.size_map, List.size_toArray, Array.size_replicate]; omega
 have hk : Sat w0 m H (Go.Lib.bytesWorld w e ⟨s.toArray⟩) := hs.keep rfl rfl rfl (by rw [Go.Lib.bytesWorld_size]; omega) (fun b hb => Go.Lib.bytesWorld_at_old w e _ b hb)
 refine ⟨.slice (some ⟨w.heap.size, 0, none⟩) s.length (grownCap w s.length 0 e), m, _, Go.Lib.bytesWorld w e ⟨s.toArray⟩, ?_, ?_, w.heap.size, grownCap w s.length 0 e, rfl, rfl, rfl⟩
 ·show (execOp _ _).run P w = _
  simp only [execOp, ho.ev hx, Sem.run_bind]
  rw [show (str s) = Value.string ⟨s.toArray⟩ from rfl, hrun]
  rfl
 ·refine ⟨hk.os, hk.tape, hk.output, hk.size, hk.pers, fun i hi => ?_, ?_, fun b hb => ?_⟩
  ·cases hi with
   | head =>
    refine ⟨_, _, rfl, Go.Lib.bytesWorld_at_new w e _, by simpa using hcs, by simpa using hge, ?_, by simp, .inr (Nat.le_refl _), fun hq => kO w (by simpa using hq) 0 e⟩
    have : (s.map fun b => [Value.int .u8 (b.toNat : Int)]).flatten = s.map fun b => Value.int .u8 (b.toNat : Int) := vS _ s
    rw [this]
    simp [Go.Lib.bytesCells]
   | tail _ hi => exact hk.own i hi
  ·simp only [SHeap.foot, List.flatMap_cons, Item.foot, List.singleton_append, List.nodup_cons]
   exact ⟨fun hb => absurd (hs.foot_lt _ hb) (Nat.lt_irrefl _), hs.sep⟩
  ·simp only [SHeap.foot, List.flatMap_cons, Item.foot, List.singleton_append, List.mem_cons] at hb
   rcases hb with rfl | hb
   ·cases hm : m w.heap.size with
    | none => rfl
    | some o' => exact absurd (Array.getElem?_eq_some_iff.1 (hs.pers _ _ hm)).1 (Nat.lt_irrefl _)
   ·exact hs.free b hb
section scope
variable {b : Frame} {a : Act} {k : List Go.Item} {cs : List Frame} {w : World}
theorem zBI {c : Code} : step P (lone (b.atR a (.code (.scope c) :: k)) cs w) = .next (lone (b.atR a (.code c :: .inScope c :: k)) cs w) :=
 step_lone_go (by simp [stepG, stepG.exec, Frame.atR])
theorem zC0 {c : Code} : step P (lone (b.atR a (.inScope c :: k)) cs w) = .next (lone (b.atR a k) cs w) :=
 step_lone_go (by simp [stepG, stepG.exec, Frame.atR])
theorem zEe {F : Fence} {n : Nat} {c : Code} {M : Machine} {e : Exit} {a₁ : Act} {w₁ : World} (hb : F.fn b.fn) (hr : F.room (cs.length + 1 + n)) (hq : Exit.noGoto Q e a₁ w₁)
  (harr : ArrivesIn (Machine.fenced P F) P M b (.inScope c :: k) cs e a₁ w₁) : Q e a₁ w₁ ∧ ArrivesIn (Machine.fenced P F) P M b k cs e a₁ w₁ := by
 cases e with
 | normal => exact ⟨hq, StepsIn.trans harr (.one (fenced_calm hb hr rfl) zC0)⟩
 | exit id =>
  have hx : exitTo id (.inScope c :: k) = exitTo id k := by simp [exitTo]
  exact ⟨hq, fun k' hk => harr.1 k' (by rw [hx]; exact hk), fun hr' hk => harr.2 hr' (by rw [hx]; exact hk)⟩
 | goto l => exact hq.elim
 | ret => exact ⟨hq, harr⟩
 | panic ch => exact ⟨hq, harr⟩
 | outgrown => exact ⟨hq, harr⟩
def Exit.labels (F : Fence) (n : Nat) (P : Program) (c : Code) (Q : Exit → Act → World → Prop) : Exit → Act → World → Prop
 | .goto l, a, w => ∃ rest, findLabel c l = some rest ∧ rest.wpIn F n P (Exit.noGoto Q) a w
 | e, a, w => Q e a w
theorem zGW {F : Fence} {n : Nat} {c : Code} (h : c.wpIn F n P (Exit.labels F n P c Q) a w) : (Code.scope c).wpIn F n P Q a w := by
 intro b k cs hro hb hr
 have h0 : (lone (b.atR a (.code (.scope c) :: k)) cs w).fenced P F := fenced_calm hb hr rfl
 obtain ⟨e, a₁, w₁, hq, harr⟩ := h b (.inScope c :: k) cs hro hb hr
 have plain : Exit.noGoto Q e a₁ w₁ → ∃ e a' w', Q e a' w' ∧ ArrivesIn (Machine.fenced P F) P (lone (b.atR a (.code (.scope c) :: k)) cs w) b k cs e a' w' := fun hq => by
  obtain ⟨h1, h2⟩ := zEe hb hr hq harr
  exact ⟨_, _, _, h1, .of_steps (.one h0 zBI) h2⟩
 cases e with
 | goto l =>
  obtain ⟨rest, hf, hw⟩ := hq
  have hg : gotoIn l (.inScope c :: k) = some (.code rest :: .inScope c :: k) := by simp [gotoIn, hf]
  have h1 := harr.1 _ hg
  obtain ⟨e2, a2, w2, hq2, harr2⟩ := hw b (.inScope c :: k) cs hro hb hr
  obtain ⟨g1, g2⟩ := zEe hb hr hq2 harr2
  exact ⟨_, _, _, g1, .of_steps (.one h0 zBI) (.of_steps h1 g2)⟩
 | normal => exact plain hq
 | exit id => exact plain hq
 | ret => exact plain hq
 | panic ch => exact plain hq
 | outgrown => exact plain hq
end scope
theorem WC.scope {c : Code} (h : WC P ro n w0 c (Exit.labels (FW ro) 0 P c Q) r ds m H) : WC P ro n w0 (.scope c) Q r ds m H := fun tmps w ho hs => zGW (h tmps w ho hs)
theorem WC.label {id : Nat} (h : WQ n w0 Q .normal r ds m H) : WC P ro n w0 (.label id) Q r ds m H := fun tmps w ho hs => wpIn_label (h tmps w ho hs)
theorem WC.goto {id : Nat} (h : WQ n w0 Q (.goto id) r ds m H) : WC P ro n w0 (.goto id) Q r ds m H := fun tmps w ho hs => wpIn_goto (h tmps w ho hs)
theorem WQ.thenGoto {K : Act → World → Prop} {id : Nat} (h : WQ n w0 Q (.goto id) r ds m H) : WQ n w0 (Exit.then K Q) (.goto id) r ds m H := h
theorem WQ.blockGoto {i id : Nat} (h : WQ n w0 Q (.goto id) r ds m H) : WQ n w0 (Exit.inBlock i Q) (.goto id) r ds m H := h
theorem WQ.labNorm {c : Code} (h : WQ n w0 Q .normal r ds m H) : WQ n w0 (Exit.labels (FW ro) 0 P c Q) .normal r ds m H := h
theorem WQ.labRet {c : Code} (h : WQ n w0 Q .ret r ds m H) : WQ n w0 (Exit.labels (FW ro) 0 P c Q) .ret r ds m H := h
theorem WQ.labExit {c : Code} {id : Nat} (h : WQ n w0 Q (.exit id) r ds m H) : WQ n w0 (Exit.labels (FW ro) 0 P c Q) (.exit id) r ds m H := h
theorem WQ.labGoto {c rest : Code} {id : Nat} (hf : findLabel c id = some rest) (h : WC P ro n w0 rest (Exit.noGoto Q) r ds m H) : WQ n w0 (Exit.labels (FW ro) 0 P c Q) (.goto id) r ds m H := fun tmps w ho hs => ⟨rest, hf, h tmps w ho hs⟩
theorem WQ.scopeNorm (h : WQ n w0 Q .normal r ds m H) : WQ n w0 (Exit.noGoto Q) .normal r ds m H := h
theorem WQ.scopeRet (h : WQ n w0 Q .ret r ds m H) : WQ n w0 (Exit.noGoto Q) .ret r ds m H := h
theorem WQ.scopeExit {id : Nat} (h : WQ n w0 Q (.exit id) r ds m H) : WQ n w0 (Exit.noGoto Q) (.exit id) r ds m H := h
end
end Go.Eng
