/-
  Parts of a walk, joined. No condition.
-/
import Derived.Test.YtgckeelnhafgaaaGreatDoorP6
import Derived.ChangeMaps5
import Derived.ReadAgain
import Derived.ChangeBook
import Derived.Deep.Slices
import Derived.WalkKit
import Derived.ProofKit
import Derived.OpenShut
import Derived.JoinedCond
import Derived.Shelf.Small.Strs
import Derived.Shelf.Strconv.Atoi
import Derived.Shelf.Strconv.Itoa0
import Derived.Shelf.Strconv.Itoa1
import Derived.Shelf.LaysM
import Derived.Shelf.Strconv.Itoa2
import Derived.Shelf.Strconv.Itoa3
import Derived.Shelf.Strconv.Itoa4
import Derived.Shelf.Strconv.AtoiErrFast
import Derived.Shelf.Strconv.ParseIntEmpty
import Derived.Shelf.Strconv.AtoiFail
import Derived.Shelf.Strconv.Clone
import Derived.Shelf.Strconv.SyntaxError
import Derived.Shelf.LaysC
import Derived.Shelf.Strconv.ToError
import Derived.Shelf.Strconv.Lower
import Derived.Shelf.Strconv.ParseUint10
import Derived.Shelf.Strconv.ParseUint10Empty
import Derived.Shelf.Strconv.ParseUint10Any
import Derived.Shelf.Strconv.ParseInt10
import Derived.Shelf.Strconv.AtoiLong
import Derived.Shelf.Strconv.AtoiInnerAll
import Derived.Shelf.Strconv.RangeError
import Derived.Shelf.Strconv.ToErrorRange
import Derived.Shelf.Strconv.AtoiAll
import Derived.Shelf.Strconv.ErrVarAll
import Derived.Shelf.Strings.Search1
import Derived.Shelf.Strings.Prefix
set_option linter.all false
set_option maxRecDepth 100000
set_option maxHeartbeats 4000000
open Go.Proofs Go.Proofs.YtgckeelnhafgaaaGreatDoor
open Tryz
open Go Go.Eng
variable {P : Program} {ro : Option Nat} {n : Nat} {w0 : World} {Q : Exit → Act → World → Prop} {r : Env} {ds : List Dfr} {m : Mem} {H : SHeap} {ops : Array Oper} {l : List Oper} {d : Nat} {ty : TypeId} {pos : String} {after : Array Edge}
namespace Go.Eng
open Go
def Og.cs (x : Og) : List Value := [.int .i64 (x.a : Int), .int .i64 (x.z : Int), .int .i64 (x.d : Int)]
def ogs (G : Gp) : List (List Value) := (ogL 0 G).map Og.cs
end Go.Eng
namespace ZP
open Go Go.Eng
attribute [local irreducible] WL WC WQ QFun zJ Does Q1 zD zB Go.Addr.add
attribute [local irreducible] orgK toks orgZ gOf ogs
end ZP
namespace Go.Eng
open Go Go.RowKit
def SeqR {α : Type} (P : Program) (gf : FuncId) (lb : List Value) (encs : α → List Value) (xs : List α) (R : List α → Mem → SHeap → Prop) : Prop :=
 ∀ (w0 : World) (l : Nat) (J Jx : List α → Mem → SHeap → Prop) (m : Mem) (H : SHeap), (∀ pre m m' H, J pre m H → m.le m' → J pre m' H) → (∀ pre m m' H, Jx pre m H → m.le m' → Jx pre m' H) →
  (∀ pre m H, J pre m H → R pre m H) → J [] m H →
  (∀ pre x post, xs = pre ++ x :: post → ∀ m1 H1 Hit, J pre m1 H1 → m.le m1 →
   YieldOK P w0 l (encs x).toArray m1 (Hit ++ H1) (fun m' H' => ∃ H2, H' = Hit ++ H2 ∧ J (pre ++ [x]) m' H2 ∧ m1.le m') (fun m' H' => ∃ H2, H' = Hit ++ H2 ∧ Jx (pre ++ [x]) m' H2 ∧ m1.le m')) →
  Does P gf (.func (.yield l) #[] #[] :: lb).toArray w0 m H (fun _ m' H' => m.le m' ∧ (J xs m' H' ∨ ∃ pre, pre <+: xs ∧ Jx pre m' H'))
section
theorem zEY {α : Type} {gf : FuncId} {lb : List Value} {encs : α → List Value} {xs : List α} {R : List α → Mem → SHeap → Prop} {ps : List Nat} {assign body : Code} {fnd : FuncId} {tmps : Array Value} {L D : Nat} {Hb : SHeap}
  (hseq : SeqR P gf lb encs xs R) (hps : ∀ x, (encs x).length = ps.length) (hpn : ∀ p ∈ ps, p < n) (hok : r.ok n tmps)
  (J : List α → Mem → SHeap → Prop) (Jx : Code → List α → Mem → SHeap → Prop) (hmJ : ∀ pre m m' Hl, J pre m Hl → m.le m' → J pre m' Hl) (hRJ : ∀ pre m Hl i, J pre m Hl → R pre m (i :: (Hl ++ Hb))) (hmX : ∀ c pre m m' Hl, Jx c pre m Hl → m.le m' → Jx c pre m' Hl) {Hl0 : SHeap} (h0 : J [] m Hl0)
  (hround : ∀ lp pre x post, xs = pre ++ x :: post → ∀ m1 Hl, J pre m1 Hl → m.le m1 → ∀ Hfr, (∃ rec, Item.blk lp (.loop rec) ∈ Hfr ∧ rec.defers = D) → WC P (some lp) n w0 assign (zB P n w0 lp body J Jx (pre ++ [x]) m1 Hfr) (Env.given ps (encs x) r) [] m1 (Hl ++ Hfr))
  {w : World} (hs : Sat w0 m (.blk L (.loop { state := .ready, pending := none, fn := fnd, tmps := tmps, params := ps.toArray, assign := assign, body := body, defers := D }) :: (Hl0 ++ Hb)) w) :
  CallsIn (FW none) 0 P gf (.func (.yield L) #[] #[] :: lb).toArray w fun e w' => ∃ v m', e = .returned v ∧ m.le m' ∧
   ((∃ Hl, J xs m' Hl ∧ Sat w0 m' (.blk L (.loop { state := .ready, pending := none, fn := fnd, tmps := tmps, params := ps.toArray, assign := assign, body := body, defers := D }) :: (Hl ++ Hb)) w') ∨
    (∃ c pre Hl, pre <+: xs ∧ Jx c pre m' Hl ∧ Sat w0 m' (.blk L (.loop { state := .done, pending := some c, fn := fnd, tmps := tmps, params := ps.toArray, assign := assign, body := body, defers := D }) :: (Hl ++ Hb)) w')) := by
 obtain ⟨rec, hrec⟩ : ∃ rec : LoopState → Option Code → Loop, rec = fun st pe => { state := st, pending := pe, fn := fnd, tmps := tmps, params := ps.toArray, assign := assign, body := body, defers := D } := ⟨_, rfl⟩
 have hs1 : Sat w0 m (.blk L (.loop (rec .ready none)) :: (Hl0 ++ Hb)) w := by rw [hrec]; exact hs
 have := hseq w0 L (fun pre m H => ∃ Hl, H = .blk L (.loop (rec .ready none)) :: (Hl ++ Hb) ∧ J pre m Hl)
  (fun pre m H => ∃ c Hl, H = .blk L (.loop (rec .done (some c))) :: (Hl ++ Hb) ∧ Jx c pre m Hl) m _ (fun _ _ _ _ ⟨Hl, e, h⟩ hm => ⟨Hl, e, hmJ _ _ _ _ h hm⟩) (fun _ _ _ _ ⟨c, Hl, e, h⟩ hm => ⟨c, Hl, e, hmX _ _ _ _ _ h hm⟩) (fun pre m H ⟨Hl, e, h⟩ => by rw [e]; exact hRJ _ _ _ _ h) ⟨Hl0, rfl, h0⟩ ?_ w hs1
 ·refine this.mono ?_
  rintro e w' ⟨v, m', H', rfl, ⟨hle, hP⟩, hs'⟩
  refine ⟨v, m', rfl, hle, ?_⟩
  rcases hP with ⟨Hl, rfl, hJ⟩ | ⟨pre, hpre, c, Hl, rfl, hJ⟩
  ·exact .inl ⟨Hl, hJ, by rw [hrec] at hs'; exact hs'⟩
  ·exact .inr ⟨c, pre, Hl, hpre, hJ, by rw [hrec] at hs'; exact hs'⟩
 ·rintro pre x post hx m1 H1 Hit ⟨Hl, rfl, hJ⟩ hle W hW
  have hL : W.heap[L]? = some (.loop (rec .ready none)) := hW.own (.blk L _) (by simp)
  have hy := run_yield (P := P) (args := (encs x).toArray) hL (by rw [hrec]; simp [hps x])
  refine ⟨fnd, (ps.zip (encs x)).foldl (fun t (p : Nat × Value) => t.setIfInBounds p.1 p.2) tmps, assign, body, ?_, roundIn_of_wpIn (jA none fnd) ?_⟩
  ·rw [hy, hrec]
   congr 2
   simp
  ·have hsat1 := hW.perm (vA Hit (.blk L (.loop (rec .ready none))) Hl Hb)
   have hr := hround L pre x post hx m1 Hl hJ hle (.blk L (.loop (rec .ready none)) :: (Hb ++ Hit)) ⟨_, List.mem_cons_self, by rw [hrec]⟩ _ W (hok.given ps (encs x) hpn) hsat1
   refine wpIn_mono hr ?_
   intro e a1 W1 hq
   cases e with
   | normal =>
    obtain ⟨r1, m2, Hl1, hok1, hdf, hs2, hle2, hbody⟩ := hq
    have hs2' := hs2.perm (List.perm_middle (a := Item.blk L (.loop (rec .ready none))) (l₁ := Hl1) (l₂ := Hb ++ Hit))
    have hL1 : W1.heap[L]? = some (.loop (rec .ready none)) := hs2'.own _ List.mem_cons_self
    refine ⟨_, run_beginRound hL1 (by rw [hrec]), ?_⟩
    have hs3 := (hs2'.putObj (o' := .loop { rec .ready none with state := .busy })).perm (List.perm_middle (a := Item.blk L (.loop { rec .ready none with state := .busy })) (l₁ := Hl1) (l₂ := Hb ++ Hit)).symm
    obtain ⟨tm1, df1⟩ := a1
    simp only at hdf
    subst hdf
    refine wpIn_mono (hbody (.blk L (.loop { rec .ready none with state := .busy }) :: (Hb ++ Hit)) ⟨_, List.mem_cons_self⟩ tm1 _ hok1 hs3) ?_
    have fin : ∀ (jump : Option Code) (m3 : Mem) (Hl3 : SHeap) (W3 : World), Sat w0 m3 (Hl3 ++ (.blk L (.loop { rec .ready none with state := .busy }) :: (Hb ++ Hit))) W3 →
      ∃ w4, (Instr.endRound L jump).run P W3 = .ok (.bool jump.isNone) w4 ∧ Sat w0 m3 (Hit ++ (.blk L (.loop (rec (if jump.isNone then .ready else .done) jump)) :: (Hl3 ++ Hb))) w4 := by
     intro jump m3 Hl3 W3 hs4
     have hs5 := hs4.perm (List.perm_middle (a := Item.blk L (.loop { rec .ready none with state := .busy })) (l₁ := Hl3) (l₂ := Hb ++ Hit))
     have hL3 : W3.heap[L]? = some (.loop { rec .ready none with state := .busy }) := hs5.own _ List.mem_cons_self
     refine ⟨_, run_endRound jump hL3, ?_⟩
     have hs6 := hs5.putObj (o' := .loop { { rec .ready none with state := .busy } with state := if jump.isNone then .ready else .done, pending := jump })
     have e1 : ({ { rec .ready none with state := .busy } with state := if jump.isNone then .ready else .done, pending := jump } : Loop) = rec (if jump.isNone then .ready else .done) jump := by rw [hrec]
     rw [e1] at hs6
     rw [e1]
     exact hs6.perm ((List.perm_middle (a := Item.blk L (.loop (rec (if jump.isNone then .ready else .done) jump))) (l₁ := Hl3) (l₂ := Hb ++ Hit)).symm.trans (vA Hit _ Hl3 Hb).symm)
    intro e3 a3 W3 hq3
    cases e3 with
    | normal =>
     obtain ⟨m3, Hl3, hJ3, hle3, hs4⟩ := hq3
     obtain ⟨w4, h4, hs5⟩ := fin none m3 Hl3 W3 hs4
     exact ⟨_, w4, h4, .inl ⟨rfl, m3, _, ⟨_, rfl, ⟨Hl3, rfl, hJ3⟩, hle3⟩, hs5⟩⟩
    | ret =>
     obtain ⟨m3, Hl3, hJ3, hle3, hs4⟩ := hq3
     obtain ⟨w4, h4, hs5⟩ := fin (some .ret) m3 Hl3 W3 hs4
     exact ⟨_, w4, h4, .inr ⟨rfl, m3, _, ⟨_, rfl, ⟨.ret, Hl3, rfl, hJ3⟩, hle3⟩, hs5⟩⟩
    | exit id =>
     obtain ⟨m3, Hl3, hJ3, hle3, hs4⟩ := hq3
     obtain ⟨w4, h4, hs5⟩ := fin (some (.exit id)) m3 Hl3 W3 hs4
     exact ⟨_, w4, h4, .inr ⟨rfl, m3, _, ⟨_, rfl, ⟨.exit id, Hl3, rfl, hJ3⟩, hle3⟩, hs5⟩⟩
    | goto t =>
     obtain ⟨m3, Hl3, hJ3, hle3, hs4⟩ := hq3
     obtain ⟨w4, h4, hs5⟩ := fin (some (.goto t)) m3 Hl3 W3 hs4
     exact ⟨_, w4, h4, .inr ⟨rfl, m3, _, ⟨_, rfl, ⟨.goto t, Hl3, rfl, hJ3⟩, hle3⟩, hs5⟩⟩
    | panic ch => exact hq3.elim
    | outgrown => exact hq3.elim
   | _ => exact hq.elim
theorem WC.rangeFuncR {α : Type} {g : Operand} {gf : FuncId} {fn : Func} {cb : Code} {lb : List Value} {encs : α → List Value} {xs : List α} {R : List α → Mem → SHeap → Prop} {ps : List Nat} {assign body : Code} {Hl0 Hc : SHeap}
  (hg : r.ev g = some (.func (.func gf) #[] lb.toArray)) (hf : P.funcs[gf]? = some fn) (hname : (fn.name == "runtime.NumGoroutine") = false) (hb : fn.body = some cb)
  (hseq : SeqR P gf lb encs xs R) (hps : ∀ x, (encs x).length = ps.length) (hpn : ps.all (fun p => Nat.blt p n) = true)
  (J : List α → Mem → SHeap → Prop) (Jx : Code → List α → Mem → SHeap → Prop) (hmJ : ∀ pre m m' Hl, J pre m Hl → m.le m' → J pre m' Hl) (hRJ : ∀ pre m Hl i j, J pre m Hl → R pre m (i :: (Hl ++ (j :: Hc)))) (hmX : ∀ c pre m m' Hl, Jx c pre m Hl → m.le m' → Jx c pre m' Hl) (ht : Tail Hc H Hl0) (h0 : J [] m Hl0)
  (hround : ∀ lp pre x post, xs = pre ++ x :: post → ∀ m1 Hl, J pre m1 Hl → m.le m1 → ∀ Hfr, (∃ rec, Item.blk lp (.loop rec) ∈ Hfr) → WC P (some lp) n w0 assign (zB P n w0 lp body J Jx (pre ++ [x]) m1 Hfr) (Env.given ps (encs x) r) [] m1 (Hl ++ Hfr))
  (hdone : ∀ (D : Nat) m' Hl, J xs m' Hl → m.le m' → WQ n w0 Q .normal r (D :: ds) m' (Hl ++ (.blk D (.deferred (some [])) :: Hc)))
  (hstop : ∀ (D : Nat) c pre m' Hl, pre <+: xs → Jx c pre m' Hl → m.le m' → WC P none n w0 c Q r (D :: ds) m' (Hl ++ (.blk D (.deferred (some [])) :: Hc))) :
  WC P none n w0 (.rangeFunc g ps.toArray assign body) Q r ds m H := by
 intro tmps w ho hs
 rw [ht.eq] at hs
 have hpn' : ∀ p ∈ ps, p < n := fun p hp => by have := List.all_eq_true.1 hpn p hp; simpa [Nat.blt_eq] using this
 have h1 : fn.name ≠ "runtime.NumGoroutine" := by simpa using hname
 have h2 : ∀ (a : Array Value) (w : World), (callFunc gf a).run P w = .ok (.enter gf a) w := fun a w => by simp [callFunc, hf, h1, hb]
 refine wpIn_rangeFunc (fun fnd _ => ?_)
 have hs1 := (hs.alloc (.deferred (some []))).alloc (.loop { state := .ready, pending := none, fn := fnd, tmps := tmps, params := ps.toArray, assign := assign, body := body, defers := w.heap.size })
 rw [World.size_alloc] at hs1
 have hs2 := hs1.perm (List.Perm.cons _ (List.perm_middle (a := Item.blk w.heap.size (.deferred (some []))) (l₁ := Hl0) (l₂ := Hc)).symm)
 have hcall := zEY (P := P) hseq hps hpn' ho J Jx hmJ (fun pre m Hl i h => hRJ pre m Hl i _ h) hmX h0 (fun lp pre x post hx m1 Hl hJ hle Hfr ⟨rec, hr, _⟩ => hround lp pre x post hx m1 Hl hJ hle Hfr ⟨rec, hr⟩) hs2
 have henter := run_enterLoop_outer (P := P) (w := w) fnd tmps ps.toArray assign body
 generalize (w.alloc (.deferred (some []))).alloc (.loop { state := .ready, pending := none, fn := fnd, tmps := tmps, params := ps.toArray, assign := assign, body := body, defers := w.heap.size }) = W1 at henter hcall
 refine ⟨w.heap.size + 1, [{ target := .collected w.heap.size, args := #[] }], W1, { target := .fn (.func gf) lb.toArray, args := #[.func (.yield (w.heap.size + 1)) #[] #[]] }, W1, gf, (.func (.yield (w.heap.size + 1)) #[] #[] :: lb).toArray, W1,
  henter, ?_, fun f _ => jA none f, ?_, jV none, ?_⟩
 ·have e0 : ∀ v, (Act.mk tmps (marks ds)).eval (.const v) = v := fun _ => rfl
  simp [resolve, ho.ev hg, e0, Deferred.ofValue]
 ·simp [invoke, h2]
 ·have hc : CallsIn (FW none) (0 - 1) P gf (.func (.yield (w.heap.size + 1)) #[] #[] :: lb).toArray _ _ := hcall
  refine hc.mono ?_
  rintro e w' ⟨v, m', rfl, hle, (⟨Hl, hJ, hs3⟩ | ⟨c, pre, Hl, hpre, hJ, hs3⟩)⟩
  ·obtain ⟨w4, h4, hs4⟩ := uT (P := P) hs3 (by simp)
   exact ⟨none, w4, h4, hdone _ m' Hl hJ hle tmps w4 ho hs4⟩
  ·obtain ⟨w4, h4, hs4⟩ := uT (P := P) hs3 (by simp)
   exact ⟨some c, w4, h4, hstop _ c pre m' Hl hpre hJ hle tmps w4 ho hs4⟩
end
end Go.Eng
namespace Go.Eng
open Go Go.RowKit
def logGo (S : List Nat) : Nat → List Nat
 | 0 => []
 | n + 1 => if n ∈ S then n :: logGo S n else logGo S n
def logK (L : List Dr) (k : Nat) : List Nat := logGo (lineK L k) (k + 1)
end Go.Eng
namespace ZP
open Go Go.Eng
attribute [local irreducible] WL WC WQ QFun zJ Does Q1 zD zB Go.Addr.add
def HistIn (bh bm cap : Nat) (a : Option Addr) (L : List Dr) (m : Mem) (H : SHeap) : Prop :=
 Eng.Item.bl bh [.slice a L.length cap, .map (some bm)] 90 ∈ H ∧ Eng.Item.row a cap 97 3 (drs L) ∈ H ∧ ∀ d ∈ L, PsAt m d
attribute [local irreducible] lnM mapO lineK
end ZP
namespace Go.Eng
open Go Go.RowKit
def leT (x y : List UInt8) : Bool := decide (x ≤ y)
theorem zIA (Y : List Tx) : ∀ e ∈ strs Y, e.length = 1 := by
 intro e he
 obtain ⟨x, _, rfl⟩ := List.mem_map.1 he
 rfl
end Go.Eng
namespace ZP
open Go Go.Eng Go.RowKit Go.Sort
theorem zFr (X : List Tx) (hl : X.length ≤ 1000000) {a : Option Addr} {c cap : Nat} (w0 : World) (m : Mem) (H : SHeap) :
  Does Tryz.prog 72 #[.slice a X.length c] w0 m (.row a cap 9 1 (strs X) :: H) (fun v m' H' => v = .tuple #[] ∧ m' = m ∧ H' = .row a cap 9 1 (strs (X.mergeSort leT)) :: H) := by
 intro w hs
 have hh := hs.own _ List.mem_cons_self
 by_cases hX : X = []
 ·subst hX
  refine (callsIn_wide.2 (uP a c w)).mono ?_
  rintro e w' ⟨rfl, rfl⟩
  exact ⟨_, m, _, rfl, ⟨rfl, rfl, rfl⟩, by simpa using hs⟩
 ·cases a with
  | none =>
   have h' : strs X = [] ∧ cap = 0 := hh
   exact absurd (List.map_eq_nil_iff.1 h'.1) hX
  | some a =>
   obtain ⟨arr, fz, h1, h2, h3, h4, h5, h6, h7, h8⟩ := hh
   have hfl := zBf X
   have hflS := zBf (X.mergeSort leT)
   have hsl : (strs X).length = X.length := by simp [strs]
   rw [hsl] at h4 h5
   rw [Nat.mul_one] at h3 h5
   have hSl : (X.mergeSort leT).length = X.length := List.length_mergeSort X
   obtain ⟨ab, ao, ap⟩ := a
   obtain ⟨rfl, rfl⟩ : ao = 0 ∧ ap = none := by simpa using h1
   simp only at h2
   have hlt : ab < w.heap.size := (Array.getElem?_eq_some_iff.1 h2).1
   have hH : Holds encStr w ab 0 X.toArray := by
    intro j hj
    have hj' : j < X.length := by simpa using hj
    constructor
    ·have h9 : arr.toList[j]? = some (str X[j]) := by
      rw [← List.getElem?_take_of_lt (l := arr.toList) hj', h5, hfl, List.getElem?_map, List.getElem?_eq_getElem hj']; rfl
     simp only [World.cell?, h2, Nat.zero_add]
     rw [← Array.getElem?_toList, h9, getElem!_pos _ j hj]
     simp [encStr, str]
    ·simp only [World.frozen?, h2, Nat.zero_add]
     obtain ⟨f1, f2⟩ := fz
     simp only at h7
     rcases h7 with h7 | h7
     ·subst h7
      simp only [Bool.and_eq_false_iff, decide_eq_false_iff_not]
      omega
     ·simp only [Bool.and_eq_false_iff, decide_eq_false_iff_not]
      omega
   refine (callsIn_wide.2 (zK6 ab 0 c X w hH hlt (by omega))).mono ?_
   rintro e w' ⟨rfl, n, os, rfl⟩
   refine ⟨_, m, _, rfl, ⟨rfl, rfl, rfl⟩, ?_⟩
   have s1 : Sat w0 m (.row (some ⟨ab, 0, none⟩) cap 9 1 (strs X) :: H) (Sort.ahead w n) := hs.keep rfl rfl rfl (Nat.le_refl _) (fun _ _ => rfl)
   have s2 : Sat w0 m (.row (some ⟨ab, 0, none⟩) cap 9 1 (strs (X.mergeSort leT)) :: H) (putRow encStr (Sort.ahead w n) ab 0 (X.mergeSort leT).toArray) := by
    refine s1.turn rfl rfl rfl (by simp [putRow, mapBlock]) (fun b _ hb => ?_) ?_ (fun b hb => .inl (by simpa [Item.foot] using hb)) (by simp [Item.foot])
    ·have : ab ≠ b := fun e => hb (by simp [Item.foot, e])
     simp [putRow, mapBlock, Array.getElem?_modify, this]
    ·refine ⟨putCells encStr 0 (X.mergeSort leT).toArray arr, fz, rfl, ?_, ?_, ?_, ?_, ?_, ?_, ?_⟩
     ·have : (Sort.ahead w n).heap[ab]? = some (.cells arr 9 fz) := h2
      simp only [putRow, mapBlock, Array.getElem?_modify, if_true, this]
      rfl
     ·rw [Nat.mul_one]
      simp [putCells, h3]
     ·rw [zY, hSl]; exact h4
     ·rw [zY, hSl, Nat.mul_one, hflS]
      refine List.ext_getElem? fun j => ?_
      by_cases hj : j < X.length
      ·have hj2 : j < (X.mergeSort leT).length := by omega
       have hja : j < arr.size := by omega
       rw [List.getElem?_take_of_lt hj, Array.getElem?_toList, List.getElem?_map, List.getElem?_eq_getElem hj2]
       simp only [putCells, Array.getElem?_mapIdx, Array.getElem?_eq_getElem hja, Option.map_some, Nat.zero_le, true_and, Nat.zero_add, Nat.sub_zero, List.size_toArray]
       rw [if_pos hj2, getElem!_pos _ j (by simpa using hj2)]
       simp [encStr, str]
      ·rw [List.getElem?_eq_none (by rw [List.length_take]; omega), List.getElem?_eq_none (by rw [List.length_map, hSl]; omega)]
     ·exact zIA _
     ·simpa [putCells] using h7
     ·rw [zY, hSl, ← hsl]; exact h8
   have e9 : (X.mergeSort fun x y => decide (x ≤ y)) = X.mergeSort leT := rfl
   rw [e9]
   exact s2.keep rfl rfl rfl (by simp [grow]) (fun b hb => by simp [grow, Array.getElem?_append_left hb])
end ZP
namespace Go.Eng
open Go Go.RowKit
def SeqD {α : Type} (P : Program) (gf : FuncId) (lb : List Value) (encs : α → List Value) (Nx : List α → α → Prop) (Dn : List α → Prop) (R : List α → Mem → SHeap → Prop) : Prop :=
 ∀ (w0 : World) (l : Nat) (J Jx : List α → Mem → SHeap → Prop) (m : Mem) (H : SHeap), (∀ pre m m' H, J pre m H → m.le m' → J pre m' H) → (∀ pre m m' H, Jx pre m H → m.le m' → Jx pre m' H) →
  (∀ pre m H, J pre m H → R pre m H) → J [] m H →
  (∀ pre x, Nx pre x → ∀ m1 H1 Hit, J pre m1 H1 → m.le m1 →
   YieldOK P w0 l (encs x).toArray m1 (Hit ++ H1) (fun m' H' => ∃ H2, H' = Hit ++ H2 ∧ J (pre ++ [x]) m' H2 ∧ m1.le m') (fun m' H' => ∃ H2, H' = Hit ++ H2 ∧ Jx (pre ++ [x]) m' H2 ∧ m1.le m')) →
  Does P gf (.func (.yield l) #[] #[] :: lb).toArray w0 m H (fun _ m' H' => m.le m' ∧ ((∃ xs, Dn xs ∧ J xs m' H') ∨ ∃ pre, Jx pre m' H'))
section
theorem zE6 {α : Type} {gf : FuncId} {lb : List Value} {encs : α → List Value} {Nx : List α → α → Prop} {Dn : List α → Prop} {R : List α → Mem → SHeap → Prop} {ps : List Nat} {assign body : Code} {fnd : FuncId} {tmps : Array Value} {L D : Nat} {Hb : SHeap}
  (hseq : SeqD P gf lb encs Nx Dn R) (hps : ∀ x, (encs x).length = ps.length) (hpn : ∀ p ∈ ps, p < n) (hok : r.ok n tmps)
  (J : List α → Mem → SHeap → Prop) (Jx : Code → List α → Mem → SHeap → Prop) (hmJ : ∀ pre m m' Hl, J pre m Hl → m.le m' → J pre m' Hl) (hRJ : ∀ pre m Hl i, J pre m Hl → R pre m (i :: (Hl ++ Hb))) (hmX : ∀ c pre m m' Hl, Jx c pre m Hl → m.le m' → Jx c pre m' Hl) {Hl0 : SHeap} (h0 : J [] m Hl0)
  (hround : ∀ lp pre x, Nx pre x → ∀ m1 Hl, J pre m1 Hl → m.le m1 → ∀ Hfr, (∃ rec, Item.blk lp (.loop rec) ∈ Hfr ∧ rec.defers = D) → WC P (some lp) n w0 assign (zB P n w0 lp body J Jx (pre ++ [x]) m1 Hfr) (Env.given ps (encs x) r) [] m1 (Hl ++ Hfr))
  {w : World} (hs : Sat w0 m (.blk L (.loop { state := .ready, pending := none, fn := fnd, tmps := tmps, params := ps.toArray, assign := assign, body := body, defers := D }) :: (Hl0 ++ Hb)) w) :
  CallsIn (FW none) 0 P gf (.func (.yield L) #[] #[] :: lb).toArray w fun e w' => ∃ v m', e = .returned v ∧ m.le m' ∧
   ((∃ xs Hl, Dn xs ∧ J xs m' Hl ∧ Sat w0 m' (.blk L (.loop { state := .ready, pending := none, fn := fnd, tmps := tmps, params := ps.toArray, assign := assign, body := body, defers := D }) :: (Hl ++ Hb)) w') ∨
    (∃ c pre Hl, Jx c pre m' Hl ∧ Sat w0 m' (.blk L (.loop { state := .done, pending := some c, fn := fnd, tmps := tmps, params := ps.toArray, assign := assign, body := body, defers := D }) :: (Hl ++ Hb)) w')) := by
 obtain ⟨rec, hrec⟩ : ∃ rec : LoopState → Option Code → Loop, rec = fun st pe => { state := st, pending := pe, fn := fnd, tmps := tmps, params := ps.toArray, assign := assign, body := body, defers := D } := ⟨_, rfl⟩
 have hs1 : Sat w0 m (.blk L (.loop (rec .ready none)) :: (Hl0 ++ Hb)) w := by rw [hrec]; exact hs
 have := hseq w0 L (fun pre m H => ∃ Hl, H = .blk L (.loop (rec .ready none)) :: (Hl ++ Hb) ∧ J pre m Hl)
  (fun pre m H => ∃ c Hl, H = .blk L (.loop (rec .done (some c))) :: (Hl ++ Hb) ∧ Jx c pre m Hl) m _ (fun _ _ _ _ ⟨Hl, e, h⟩ hm => ⟨Hl, e, hmJ _ _ _ _ h hm⟩) (fun _ _ _ _ ⟨c, Hl, e, h⟩ hm => ⟨c, Hl, e, hmX _ _ _ _ _ h hm⟩) (fun pre m H ⟨Hl, e, h⟩ => by rw [e]; exact hRJ _ _ _ _ h) ⟨Hl0, rfl, h0⟩ ?_ w hs1
 ·refine this.mono ?_
  rintro e w' ⟨v, m', H', rfl, ⟨hle, hP⟩, hs'⟩
  refine ⟨v, m', rfl, hle, ?_⟩
  rcases hP with ⟨xs, hD, Hl, rfl, hJ⟩ | ⟨pre, c, Hl, rfl, hJ⟩
  ·exact .inl ⟨xs, Hl, hD, hJ, by rw [hrec] at hs'; exact hs'⟩
  ·exact .inr ⟨c, pre, Hl, hJ, by rw [hrec] at hs'; exact hs'⟩
 ·rintro pre x hx m1 H1 Hit ⟨Hl, rfl, hJ⟩ hle W hW
  have hL : W.heap[L]? = some (.loop (rec .ready none)) := hW.own (.blk L _) (by simp)
  have hy := run_yield (P := P) (args := (encs x).toArray) hL (by rw [hrec]; simp [hps x])
  refine ⟨fnd, (ps.zip (encs x)).foldl (fun t (p : Nat × Value) => t.setIfInBounds p.1 p.2) tmps, assign, body, ?_, roundIn_of_wpIn (jA none fnd) ?_⟩
  ·rw [hy, hrec]
   congr 2
   simp
  ·have hsat1 := hW.perm (vA Hit (.blk L (.loop (rec .ready none))) Hl Hb)
   have hr := hround L pre x hx m1 Hl hJ hle (.blk L (.loop (rec .ready none)) :: (Hb ++ Hit)) ⟨_, List.mem_cons_self, by rw [hrec]⟩ _ W (hok.given ps (encs x) hpn) hsat1
   refine wpIn_mono hr ?_
   intro e a1 W1 hq
   cases e with
   | normal =>
    obtain ⟨r1, m2, Hl1, hok1, hdf, hs2, hle2, hbody⟩ := hq
    have hs2' := hs2.perm (List.perm_middle (a := Item.blk L (.loop (rec .ready none))) (l₁ := Hl1) (l₂ := Hb ++ Hit))
    have hL1 : W1.heap[L]? = some (.loop (rec .ready none)) := hs2'.own _ List.mem_cons_self
    refine ⟨_, run_beginRound hL1 (by rw [hrec]), ?_⟩
    have hs3 := (hs2'.putObj (o' := .loop { rec .ready none with state := .busy })).perm (List.perm_middle (a := Item.blk L (.loop { rec .ready none with state := .busy })) (l₁ := Hl1) (l₂ := Hb ++ Hit)).symm
    obtain ⟨tm1, df1⟩ := a1
    simp only at hdf
    subst hdf
    refine wpIn_mono (hbody (.blk L (.loop { rec .ready none with state := .busy }) :: (Hb ++ Hit)) ⟨_, List.mem_cons_self⟩ tm1 _ hok1 hs3) ?_
    have fin : ∀ (jump : Option Code) (m3 : Mem) (Hl3 : SHeap) (W3 : World), Sat w0 m3 (Hl3 ++ (.blk L (.loop { rec .ready none with state := .busy }) :: (Hb ++ Hit))) W3 →
      ∃ w4, (Instr.endRound L jump).run P W3 = .ok (.bool jump.isNone) w4 ∧ Sat w0 m3 (Hit ++ (.blk L (.loop (rec (if jump.isNone then .ready else .done) jump)) :: (Hl3 ++ Hb))) w4 := by
     intro jump m3 Hl3 W3 hs4
     have hs5 := hs4.perm (List.perm_middle (a := Item.blk L (.loop { rec .ready none with state := .busy })) (l₁ := Hl3) (l₂ := Hb ++ Hit))
     have hL3 : W3.heap[L]? = some (.loop { rec .ready none with state := .busy }) := hs5.own _ List.mem_cons_self
     refine ⟨_, run_endRound jump hL3, ?_⟩
     have hs6 := hs5.putObj (o' := .loop { { rec .ready none with state := .busy } with state := if jump.isNone then .ready else .done, pending := jump })
     have e1 : ({ { rec .ready none with state := .busy } with state := if jump.isNone then .ready else .done, pending := jump } : Loop) = rec (if jump.isNone then .ready else .done) jump := by rw [hrec]
     rw [e1] at hs6
     rw [e1]
     exact hs6.perm ((List.perm_middle (a := Item.blk L (.loop (rec (if jump.isNone then .ready else .done) jump))) (l₁ := Hl3) (l₂ := Hb ++ Hit)).symm.trans (vA Hit _ Hl3 Hb).symm)
    intro e3 a3 W3 hq3
    cases e3 with
    | normal =>
     obtain ⟨m3, Hl3, hJ3, hle3, hs4⟩ := hq3
     obtain ⟨w4, h4, hs5⟩ := fin none m3 Hl3 W3 hs4
     exact ⟨_, w4, h4, .inl ⟨rfl, m3, _, ⟨_, rfl, ⟨Hl3, rfl, hJ3⟩, hle3⟩, hs5⟩⟩
    | ret =>
     obtain ⟨m3, Hl3, hJ3, hle3, hs4⟩ := hq3
     obtain ⟨w4, h4, hs5⟩ := fin (some .ret) m3 Hl3 W3 hs4
     exact ⟨_, w4, h4, .inr ⟨rfl, m3, _, ⟨_, rfl, ⟨.ret, Hl3, rfl, hJ3⟩, hle3⟩, hs5⟩⟩
    | exit id =>
     obtain ⟨m3, Hl3, hJ3, hle3, hs4⟩ := hq3
     obtain ⟨w4, h4, hs5⟩ := fin (some (.exit id)) m3 Hl3 W3 hs4
     exact ⟨_, w4, h4, .inr ⟨rfl, m3, _, ⟨_, rfl, ⟨.exit id, Hl3, rfl, hJ3⟩, hle3⟩, hs5⟩⟩
    | goto t =>
     obtain ⟨m3, Hl3, hJ3, hle3, hs4⟩ := hq3
     obtain ⟨w4, h4, hs5⟩ := fin (some (.goto t)) m3 Hl3 W3 hs4
     exact ⟨_, w4, h4, .inr ⟨rfl, m3, _, ⟨_, rfl, ⟨.goto t, Hl3, rfl, hJ3⟩, hle3⟩, hs5⟩⟩
    | panic ch => exact hq3.elim
    | outgrown => exact hq3.elim
   | _ => exact hq.elim
theorem WC.rangeFuncD {α : Type} {g : Operand} {gf : FuncId} {fn : Func} {cb : Code} {lb : List Value} {encs : α → List Value} {Nx : List α → α → Prop} {Dn : List α → Prop} {R : List α → Mem → SHeap → Prop} {ps : List Nat} {assign body : Code} {Hl0 Hc : SHeap}
  (hg : r.ev g = some (.func (.func gf) #[] lb.toArray)) (hf : P.funcs[gf]? = some fn) (hname : (fn.name == "runtime.NumGoroutine") = false) (hb : fn.body = some cb)
  (hseq : SeqD P gf lb encs Nx Dn R) (hps : ∀ x, (encs x).length = ps.length) (hpn : ps.all (fun p => Nat.blt p n) = true)
  (J : List α → Mem → SHeap → Prop) (Jx : Code → List α → Mem → SHeap → Prop) (hmJ : ∀ pre m m' Hl, J pre m Hl → m.le m' → J pre m' Hl) (hRJ : ∀ pre m Hl i j, J pre m Hl → R pre m (i :: (Hl ++ (j :: Hc)))) (hmX : ∀ c pre m m' Hl, Jx c pre m Hl → m.le m' → Jx c pre m' Hl) (ht : Tail Hc H Hl0) (h0 : J [] m Hl0)
  (hround : ∀ lp pre x, Nx pre x → ∀ m1 Hl, J pre m1 Hl → m.le m1 → ∀ Hfr, (∃ rec, Item.blk lp (.loop rec) ∈ Hfr) → WC P (some lp) n w0 assign (zB P n w0 lp body J Jx (pre ++ [x]) m1 Hfr) (Env.given ps (encs x) r) [] m1 (Hl ++ Hfr))
  (hdone : ∀ (D : Nat) xs m' Hl, Dn xs → J xs m' Hl → m.le m' → WQ n w0 Q .normal r (D :: ds) m' (Hl ++ (.blk D (.deferred (some [])) :: Hc)))
  (hstop : ∀ (D : Nat) c pre m' Hl, Jx c pre m' Hl → m.le m' → WC P none n w0 c Q r (D :: ds) m' (Hl ++ (.blk D (.deferred (some [])) :: Hc))) :
  WC P none n w0 (.rangeFunc g ps.toArray assign body) Q r ds m H := by
 intro tmps w ho hs
 rw [ht.eq] at hs
 have hpn' : ∀ p ∈ ps, p < n := fun p hp => by have := List.all_eq_true.1 hpn p hp; simpa [Nat.blt_eq] using this
 have h1 : fn.name ≠ "runtime.NumGoroutine" := by simpa using hname
 have h2 : ∀ (a : Array Value) (w : World), (callFunc gf a).run P w = .ok (.enter gf a) w := fun a w => by simp [callFunc, hf, h1, hb]
 refine wpIn_rangeFunc (fun fnd _ => ?_)
 have hs1 := (hs.alloc (.deferred (some []))).alloc (.loop { state := .ready, pending := none, fn := fnd, tmps := tmps, params := ps.toArray, assign := assign, body := body, defers := w.heap.size })
 rw [World.size_alloc] at hs1
 have hs2 := hs1.perm (List.Perm.cons _ (List.perm_middle (a := Item.blk w.heap.size (.deferred (some []))) (l₁ := Hl0) (l₂ := Hc)).symm)
 have hcall := zE6 (P := P) hseq hps hpn' ho J Jx hmJ (fun pre m Hl i h => hRJ pre m Hl i _ h) hmX h0 (fun lp pre x hx m1 Hl hJ hle Hfr ⟨rec, hr, _⟩ => hround lp pre x hx m1 Hl hJ hle Hfr ⟨rec, hr⟩) hs2
 have henter := run_enterLoop_outer (P := P) (w := w) fnd tmps ps.toArray assign body
 generalize (w.alloc (.deferred (some []))).alloc (.loop { state := .ready, pending := none, fn := fnd, tmps := tmps, params := ps.toArray, assign := assign, body := body, defers := w.heap.size }) = W1 at henter hcall
 refine ⟨w.heap.size + 1, [{ target := .collected w.heap.size, args := #[] }], W1, { target := .fn (.func gf) lb.toArray, args := #[.func (.yield (w.heap.size + 1)) #[] #[]] }, W1, gf, (.func (.yield (w.heap.size + 1)) #[] #[] :: lb).toArray, W1,
  henter, ?_, fun f _ => jA none f, ?_, jV none, ?_⟩
 ·have e0 : ∀ v, (Act.mk tmps (marks ds)).eval (.const v) = v := fun _ => rfl
  simp [resolve, ho.ev hg, e0, Deferred.ofValue]
 ·simp [invoke, h2]
 ·have hc : CallsIn (FW none) (0 - 1) P gf (.func (.yield (w.heap.size + 1)) #[] #[] :: lb).toArray _ _ := hcall
  refine hc.mono ?_
  rintro e w' ⟨v, m', rfl, hle, (⟨xs, Hl, hD, hJ, hs3⟩ | ⟨c, pre, Hl, hJ, hs3⟩)⟩
  ·obtain ⟨w4, h4, hs4⟩ := uT (P := P) hs3 (by simp)
   exact ⟨none, w4, h4, hdone _ xs m' Hl hD hJ hle tmps w4 ho hs4⟩
  ·obtain ⟨w4, h4, hs4⟩ := uT (P := P) hs3 (by simp)
   exact ⟨some c, w4, h4, hstop _ c pre m' Hl hJ hle tmps w4 ho hs4⟩
end
end Go.Eng
namespace Go.Eng
open Go Go.RowKit
theorem Repl.perms {i j : Item} {H H' : SHeap} (h : Repl i j H H') : ∃ X, List.Perm H (i :: X) ∧ List.Perm H' (j :: X) := by
 induction h with
 | here => exact ⟨_, List.Perm.refl _, List.Perm.refl _⟩
 | there _ ih =>
  obtain ⟨X, h1, h2⟩ := ih
  exact ⟨_ :: X, (List.Perm.cons _ h1).trans (List.Perm.swap _ _ _), (List.Perm.cons _ h2).trans (List.Perm.swap _ _ _)⟩
theorem Repl.head {i j : Item} {H2 H' : SHeap} (h : Repl i j (i :: H2) H') : List.Perm H' (j :: H2) := by
 obtain ⟨X, h1, h2⟩ := h.perms
 exact h2.trans (List.Perm.cons _ ((List.Perm.cons_inv h1).symm))
theorem zCb {X Y : List (List UInt8)} (h : X.Perm Y) : X.mergeSort leT = Y.mergeSort leT := by
 have ht : ∀ a b c : List UInt8, leT a b = true → leT b c = true → leT a c = true := by
  intro a b c h1 h2
  exact decide_eq_true (List.le_trans (of_decide_eq_true h1) (of_decide_eq_true h2))
 have hto : ∀ a b : List UInt8, (leT a b || leT b a) = true := by
  intro a b
  rcases List.le_total a b with h | h
  ·simp [leT, h]
  ·simp [leT, h]
 refine List.Perm.eq_of_pairwise (le := fun a b => leT a b = true) (fun a b _ _ h1 h2 => List.le_antisymm (of_decide_eq_true h1) (of_decide_eq_true h2)) (List.pairwise_mergeSort ht hto X) (List.pairwise_mergeSort ht hto Y) ?_
 exact (List.mergeSort_perm X leT).trans (h.trans (List.mergeSort_perm Y leT).symm)
end Go.Eng
namespace ZP
open Go Go.Eng
attribute [local irreducible] WL WC WQ QFun zJ Does Q1 zD zB Go.Addr.add
attribute [local irreducible] mapT
theorem zJd {bm c : Nat} {es : List EntT} (hold : ∀ e ∈ es, e.1 < c) (hn : (es.map (·.1)).Nodup) (bk : Nat) : SeqD Tryz.prog 73 [.pp bk] (fun e : EntT => [str e.2.1]) (fun pre e => ∃ rest, ((pre ++ [e]) ++ rest).Perm es) (fun xs => xs.Perm es)
  (fun _ m H => Eng.Item.blk bm (mapT es c) ∈ H ∧ m bk = some (.cells [.map (some bm)].toArray 67 (0, 0))) := by
 intro w0 lp J Jx m H mJ mX hR h0 hY
 obtain ⟨hh, hbk⟩ := hR _ _ _ h0
 refine Does.of_body func73 rfl ntmps73 rfl ?_
 try (refine st ?_; intros)
 refine WL.rangeT rfl hh rfl rfl ?_
 intro bi
 try (refine st ?_; intros)
 refine lpz (fun j r ds m' H' => ∃ (mm : Mem) (H2 : SHeap) (pre : List EntT) (rest : List EntT), j = 2 * rest.length ∧ r = [(5, .pp bi), (0, .func (.yield lp) #[] #[])] ∧ ds = [] ∧ mm = m' ∧ H' = .blk bi (.mapIter (some bm) c (pre.map (·.1)).toArray c) :: H2 ∧ (m.le mm) ∧ (J pre mm H2) ∧ ((pre ++ rest).Perm es)) (2 * (es).length) ⟨m, H, [], es, rfl, rfl, rfl, rfl, rfl, Mem.le.refl _, h0, List.Perm.refl _⟩ ?_
 rintro j r ds m' H' ⟨mm, H2, pre, rest, rfl, rfl, rfl, rfl, rfl, hle, hJ, hp⟩
 have hh2 := (hR _ _ _ hJ).1
 have hnd : ((pre ++ rest).map (·.1)).Nodup := (hp.map _).nodup_iff.2 hn
 try (refine st ?_; intros)
 refine WL.nextT (es := es) (c := c) rfl List.mem_cons_self (List.mem_cons_of_mem _ hh2) hold (Nat.le_refl _) rfl ?_ ?_
 ·intro hall
  have hrest : rest = [] := by
   cases rest with
   | nil => rfl
   | cons e rest =>
    have h1 : e ∈ es := hp.mem_iff.1 (by simp)
    have h2 := hall e h1
    rw [List.map_append, List.map_cons, List.nodup_append] at hnd
    have h3 : e.1 ∈ pre.map (·.1) := by simpa using h2
    exact absurd rfl (hnd.2.2 _ h3 _ List.mem_cons_self)
  subst hrest
  rw [List.append_nil] at hp
  try (refine st ?_; intros)
  exact q_nz (H0 := H2) ⟨hle, .inl ⟨pre, hp, hJ⟩⟩
 ·intro e he hne H3 hrep
  refine WL.heap (H' := .blk bi (.mapIter (some bm) c ((pre.map (·.1)).toArray.push e.1) c) :: H2) (fun w hw => hw.perm hrep.head) ?_
  have hne' : e.1 ∉ pre.map (·.1) := by simpa using hne
  have her : e ∈ rest := by
   rcases List.mem_append.1 (hp.mem_iff.2 he) with h | h
   ·exact absurd (List.mem_map.2 ⟨e, h, rfl⟩) hne'
   ·exact h
  obtain ⟨r1, r2, hr⟩ := List.append_of_mem her
  have hpn : ((pre ++ [e]) ++ (r1 ++ r2)).Perm es := by
   refine List.Perm.trans ?_ hp
   rw [hr, List.append_assoc]
   exact List.Perm.append_left pre (List.perm_middle (a := e) (l₁ := r1) (l₂ := r2)).symm
  have hrl : rest.length = (r1 ++ r2).length + 1 := by rw [hr]; simp; omega
  have hsn : (pre.map (·.1)).toArray.push e.1 = ((pre ++ [e]).map (·.1)).toArray := by simp
  try (refine st ?_; intros)
  refine WL.entryT (seen := (pre.map (·.1)).toArray) (es := es) (c := c) (c0 := c) rfl List.mem_cons_self (List.mem_cons_of_mem _ hh2) he hn rfl ?_
  rw [hsn]
  try (refine st ?_; intros)
  refine WL.yield (vs := [str e.2.1]) rfl rfl rfl (hY pre e ⟨_, hpn⟩ mm H2 [.blk bi (.mapIter (some bm) c ((pre ++ [e]).map (fun x : EntT => x.1)).toArray c)] hJ hle) ?_ ?_
  ·rintro m2 H9 ⟨H3, rfl, hJ2, hle2⟩
   try (refine st ?_; intros)
   refine nxz (2 * (r1 ++ r2).length) ⟨m2, H3, pre ++ [e], r1 ++ r2, rfl, rfl, rfl, rfl, rfl, ?_, ?_, ?_⟩
   ·exact hle.trans hle2
   ·exact hJ2
   ·exact hpn
  ·rintro m2 H9 ⟨H3, rfl, hJ2, hle2⟩
   try (refine st ?_; intros)
   exact q_fz (H0 := H3) ⟨hle.trans hle2, .inr ⟨pre ++ [e], hJ2⟩⟩
theorem zDf {bm bk c : Nat} {es : List EntT} (hold : ∀ e ∈ es, e.1 < c) (hn : (es.map (·.1)).Nodup) (hl : es.length ≤ 1000000) (w0 : World) (m : Mem) (H : SHeap) (hbk : m bk = some (.cells [.map (some bm)].toArray 67 (0, 0))) :
  Does Tryz.prog 103 #[.slice none 0 0, .func (.func 73) #[] #[.pp bk]] w0 m (.blk bm (mapT es c) :: H)
   (fun v m' H' => m.le m' ∧ ∃ (xs : List EntT) (a : Option Addr) (cp : Nat), xs.Perm es ∧ v = .slice a xs.length cp ∧ H' = .row a cp 9 1 (strs (xs.map (·.2.1))) :: .blk bm (mapT es c) :: H) := by
 refine Does.of_body func103 rfl ntmps103 rfl ?_
 refine st ?_; intros; rename_i b2
 refine WC.newRow (T := 9) (sz := 1) ?_
 refine WC.rangeFuncD (encs := fun e : EntT => [str e.2.1]) (Nx := fun pre e => ∃ rest, ((pre ++ [e]) ++ rest).Perm es) (Dn := fun xs => xs.Perm es) (lb := [.pp bk]) (ps := [7]) (Hc := H)
  (J := fun pre m' Hl => m.le m' ∧ ∃ a cp, Hl = [.row a cp 9 1 (strs (pre.map (·.2.1))), .bl b2 [.slice a pre.length cp] 83, .blk bm (mapT es c)]) (Jx := fun _ _ _ _ => False)
  rfl func73 rfl rfl (zJd hold hn bk) (fun _ => rfl) rfl (fun _ _ _ _ h hm => ⟨h.1.trans hm, h.2⟩)
  (fun pre m' Hl i j h => by
   obtain ⟨h1, a, cp, rfl⟩ := h
   exact ⟨by simp, h1 _ _ hbk⟩) (fun _ _ _ _ _ h _ => h) (.cons (.cons (.cons .nil))) ⟨Mem.le.refl _, none, 0, rfl⟩ ?_ ?_ ?_
 ·rintro lp pre e ⟨rest, hp⟩ m2 Hl ⟨hle2, a, cp, rfl⟩ hm2 Hfr hfr
  have hpl : pre.length + 1 ≤ es.length := by
   have := hp.length_eq
   simp only [List.length_append, List.length_singleton] at this
   omega
  have hsl : (strs (pre.map (·.2.1))).length = pre.length := by simp [strs]
  have hsn : strs (pre.map (·.2.1)) ++ [[str e.2.1]] = strs ((pre ++ [e]).map (·.2.1)) := by simp [strs]
  try (refine st ?_; intros)
  refine WQ.assigned (.cons (.cons (.cons .nil))) zml ?_
  intro Hfr2
  refine st ?_; intros; rename_i b9 a2 cp2
  rw [hsl, hsn]
  exact WQ.roundOn (Hl := [.row a2 cp2 9 1 (strs ((pre ++ [e]).map (·.2.1))), .bl b2 [.slice a2 (pre.length + 1) cp2] 83, .blk bm (mapT es c)]) zpk zml ⟨hle2, a2, cp2, by simp⟩
 ·rintro D xs m2 Hl hxs ⟨hle2, a, cp, rfl⟩ hm2
  try (refine st ?_; intros)
  refine WQ.mark (H1 := [.row a cp 9 1 (strs (xs.map (·.2.1))), .bl b2 [.slice a xs.length cp] 83, .blk bm (mapT es c)] ++ H) (List.perm_middle) ?_
  exact q_fz ⟨hle2, xs, a, cp, hxs, rfl, rfl⟩
 ·rintro D c2 pre m2 Hl h hm2
  exact h.elim
theorem zEG {bm bk c : Nat} {es : List EntT} (hold : ∀ e ∈ es, e.1 < c) (hn : (es.map (·.1)).Nodup) (hl : es.length ≤ 1000000) (w0 : World) (m : Mem) (H : SHeap) (hbk : m bk = some (.cells [.map (some bm)].toArray 67 (0, 0))) :
  Does Tryz.prog 71 #[.func (.func 73) #[] #[.pp bk]] w0 m (.blk bm (mapT es c) :: H)
   (fun v m' H' => m.le m' ∧ ∃ (xs : List EntT) (a : Option Addr) (cp : Nat), xs.Perm es ∧ v = .slice a xs.length cp ∧ H' = .row a cp 9 1 (strs (xs.map (·.2.1))) :: .blk bm (mapT es c) :: H) := by
 refine Does.of_body func71 rfl ntmps71 rfl ?_
 try (refine st ?_; intros)
 refine zA func103 ?_ (hs := zDf hold hn hl _ _ _ hbk)
 rintro v m2 H2 ⟨hle, xs, a, cp, hxs, rfl, rfl⟩
 try (refine st ?_; intros)
 exact q_fz ⟨hle, xs, a, cp, hxs, rfl, rfl⟩
theorem zGo {bm bk c : Nat} {es : List EntT} (hold : ∀ e ∈ es, e.1 < c) (hn : (es.map (·.1)).Nodup) (hl : es.length ≤ 1000000) (w0 : World) (m : Mem) (H : SHeap) (hbk : m bk = some (.cells [.map (some bm)].toArray 67 (0, 0))) :
  Does Tryz.prog 35 #[.func (.func 73) #[] #[.pp bk]] w0 m (.blk bm (mapT es c) :: H)
   (fun v m' H' => m.le m' ∧ ∃ (a : Option Addr) (cp : Nat), v = .slice a es.length cp ∧ H' = .row a cp 9 1 (strs ((es.map (·.2.1)).mergeSort leT)) :: .blk bm (mapT es c) :: H) := by
 refine Does.of_body func35 rfl ntmps35 rfl ?_
 try (refine st ?_; intros)
 refine zA func71 ?_ (hs := zEG hold hn hl _ _ _ hbk)
 rintro v m2 H2 ⟨hle, xs, a, cp, hxs, rfl, rfl⟩
 have hxl : xs.length = (xs.map (·.2.1)).length := (List.length_map _).symm
 have hpe := hxs.length_eq
 try (refine st ?_; intros)
 rw [hxl]
 refine zA func72 ?_ (hs := zFr (xs.map (·.2.1)) (by omega) _ _ _)
 rintro v m3 H3 ⟨rfl, rfl, rfl⟩
 rw [zCb (hxs.map (·.2.1)), ← hxl, hpe]
 try (refine st ?_; intros)
 exact q_fz ⟨hle, a, cp, rfl, rfl⟩
end ZP
namespace Go.Eng
open Go Go.RowKit
theorem zHB {i : Item} {H : SHeap} (hi : i ∈ H) : ∃ H1, List.Perm H (i :: H1) := by
 obtain ⟨A, C, rfl⟩ := List.append_of_mem hi
 exact ⟨_, List.perm_middle⟩
theorem zHI {i k : Item} {H : SHeap} (hi : i ∈ H) (hk : k ∈ H) (hne : i ≠ k) : ∃ H1, List.Perm H (i :: k :: H1) := by
 obtain ⟨H1, h1⟩ := zHB hi
 have hk1 : k ∈ H1 := by
  rcases List.mem_cons.1 (h1.mem_iff.1 hk) with e | e
  ·exact absurd e.symm hne
  ·exact e
 obtain ⟨H2, h2⟩ := zHB hk1
 exact ⟨H2, h1.trans (List.Perm.cons _ h2)⟩
def brN (B : Br) : List (List UInt8) := (B.map (·.2.1)).mergeSort leT
def brL (B : Br) : List (List UInt8 × Nat) := (brN B).map fun n => (n, (yP B n).getD 0)
theorem j7 (B : Br) : (brN B).length = B.length := by unfold brN; rw [List.length_mergeSort, List.length_map]
theorem j5 (B : Br) : (brL B).length = B.length := by unfold brL; rw [List.length_map, j7]
theorem brN_mem {B : Br} {n : List UInt8} : n ∈ brN B ↔ n ∈ B.map (·.2.1) := (List.mergeSort_perm _ _).mem_iff
theorem zG7 {B : Br} (h : (B.map (·.2.1)).Nodup) : (brN B).Nodup := (List.mergeSort_perm _ _).nodup_iff.2 h
theorem zEp (B : Br) : (brL B).map (·.1) = brN B := by unfold brL; rw [List.map_map]; exact (List.map_congr_left fun _ _ => rfl).trans (List.map_id _)
theorem zCu {s : List UInt8} : ∀ {B : Br}, s ∈ B.map (·.2.1) → ∃ k, yP B s = some k
 | e :: B, h => by
  rw [yP]
  by_cases hs : s = e.2.1
  ·exact ⟨_, if_pos hs⟩
  ·rw [if_neg hs]
   rw [List.map_cons] at h
   rcases List.mem_cons.1 h with h | h
   ·exact absurd h hs
   ·exact zCu h
theorem zEl (B : Br) : (brE B).map (·.2.1) = B.map (·.2.1) := by unfold brE; rw [List.map_map]; rfl
theorem zEo (B : Br) : (brE B).map (·.1) = B.map (·.1) := by unfold brE; rw [List.map_map]; rfl
theorem zAT {B : Br} {i : Nat} {x : List UInt8 × Nat} (hn : (B.map (·.2.1)).Nodup) (h : (brL B)[i]? = some x) :
  yP B x.1 = some x.2 ∧ x.1 ∉ ((brL B).take i).map (·.1) ∧ brL B = (brL B).take i ++ x :: (brL B).drop (i + 1) ∧ (brN B)[i]? = some x.1 := by
 obtain ⟨hi, hx⟩ := List.getElem?_eq_some_iff.1 h
 have hN : (brN B)[i]? = some x.1 := by rw [← zEp, List.getElem?_map, h]; rfl
 have hsp : brL B = (brL B).take i ++ x :: (brL B).drop (i + 1) := by rw [← hx, ← List.drop_eq_getElem_cons hi, List.take_append_drop]
 have hxe : x = (x.1, (yP B x.1).getD 0) := by
  have hm : x ∈ brL B := List.mem_of_getElem? h
  unfold brL at hm
  obtain ⟨n, _, hn2⟩ := List.mem_map.1 hm
  subst hn2
  rfl
 refine ⟨?_, ?_, hsp, hN⟩
 ·obtain ⟨k, hk⟩ := zCu (brN_mem.1 (List.mem_of_getElem? hN))
  have := congrArg Prod.snd hxe
  rw [hk] at this ⊢
  simp at this
  rw [this]
 ·have hnd := zG7 hn
  rw [← zEp, hsp, List.map_append, List.map_cons, List.nodup_append] at hnd
  exact fun hin => hnd.2.2 _ hin _ List.mem_cons_self rfl
end Go.Eng
namespace ZP
open Go Go.Eng
attribute [local irreducible] WL WC WQ QFun zJ Does Q1 zD zB Go.Addr.add
theorem zHg {b b2 c : Nat} {L : List Value} {T : TypeId} {es : List EntT} : Eng.Item.blk b (.cells L.toArray T (0, 0)) ≠ Eng.Item.blk b2 (mapT es c) := fun h => by cases h
theorem zJD {bm : Nat} (w0 : World) (m : Mem) (H : SHeap) : Does Tryz.prog 36 #[.map (some bm)] w0 m H (fun v m' H' => m' = m ∧ ∃ bk, v = .func (.func 73) #[] #[.pp bk] ∧
  H' = .bl bk [.map (some bm)] 67 :: H) := by
 refine Does.of_body func36 rfl ntmps36 rfl ?_
 refine st ?_; intros; rename_i bk
 exact q_fz ⟨rfl, bk, rfl, rfl⟩
theorem zAL {bh : Nat} (w0 : World) (m : Mem) (H : SHeap) : Does Tryz.prog 8 #[.pp bh] w0 m H (fun v m' H' => m' = m ∧ ∃ b1, v = .func (.func 34) #[] #[.pp b1] ∧
  H' = .bl b1 [.pp bh] 23 :: H) := by
 refine Does.of_body func8 rfl ntmps8 rfl ?_
 refine st ?_; intros; rename_i b1
 exact q_fz ⟨rfl, b1, rfl, rfl⟩
attribute [local irreducible] mapT brN brL
def BrIn (bh bm c b1 : Nat) (B : Br) (pre : List (Tx × Nat)) (m : Mem) (H : SHeap) : Prop :=
 (∃ sa sn sc, Eng.Item.bl bh [.slice sa sn sc, .map (some bm)] 90 ∈ H) ∧ (∃ B' c', Eng.Item.blk bm (mapT (brE B') c') ∈ H ∧ (∀ n, n ∉ pre.map (·.1) → yP B' n = yP B n) ∧ (pre = [] → B' = B ∧ c' = c)) ∧
  m b1 = some (.cells [.pp bh].toArray 23 (0, 0))
theorem jF {bh bm c : Nat} {B : Br} (hold : ∀ e ∈ B, e.1 < c) (hn : (B.map (·.1)).Nodup) (hN : (B.map (·.2.1)).Nodup) (hl : B.length ≤ 1000000) (b1 : Nat) :
  SeqR Tryz.prog 34 [.pp b1] (fun x : Tx × Nat => [str x.1, .int .i64 (x.2 : Int)]) (brL B) (BrIn bh bm c b1 B) := by
 intro w0 lp J Jx m H mJ mX hR h0 hY
 obtain ⟨⟨sa, sn, sc, hb⟩, ⟨B', c', hm, _, hB⟩, hb1⟩ := hR _ _ _ h0
 obtain ⟨rfl, rfl⟩ := hB rfl
 refine Does.of_body func34 rfl ntmps34 rfl ?_
 obtain ⟨H1, hp1⟩ := zHI hb hm zHg
 refine WC.heap (H' := .bl bh [.slice sa sn sc, .map (some bm)] 90 :: .blk bm (mapT (brE B') c') :: H1) (fun w hw => hw.perm hp1) ?_
 try (refine st ?_; intros)
 refine zA func36 ?_ (hs := zJD _ _ _)
 rintro v m H9 ⟨rfl, bk, rfl, rfl⟩
 refine WL.persist (b := bk) (by (repeat (first | exact Out.here | apply Out.there))) ?_
 intro m1 hle1 hbk
 try (refine st ?_; intros)
 refine WL.heap (H' := .blk bm (mapT (brE B') c') :: .bl bh [.slice sa sn sc, .map (some bm)] 90 :: H1) zpk ?_
 have hel := uF B'
 refine zA func35 ?_ (hs := zGo (es := brE B') (fun e he => by
  obtain ⟨x, hx, rfl⟩ := List.mem_map.1 he
  exact hold x hx) (by rw [zEo]; exact hn) (by omega) _ _ _ hbk)
 rintro v m2 H9 ⟨hle2, a, cp, rfl, rfl⟩
 rw [hel, zEl]
 have hNm : (B'.map (·.2.1)).mergeSort leT = brN B' := by unfold brN; rfl
 rw [hNm]
 try (refine st ?_; intros)
 refine WC.heap (H' := .row a cp 9 1 (strs (brN B')) :: H) (fun w hw => hw.perm (List.Perm.cons _ ((List.Perm.swap _ _ _).trans hp1.symm))) ?_
 have hLl := j5 B'
 have hNl := j7 B'
 have hsl : (strs (brN B')).length = B'.length := by rw [zY, hNl]
 have hle02 : m.le m2 := hle1.trans hle2
 refine lpz (fun j r ds m' H' => ∃ (i : Nat) (mm : Mem) (H2 : SHeap), j = B'.length - i ∧ r = [(14, .int .i64 (i : Int)), (13, .int .i64 (B'.length : Int)), (12, .slice a B'.length cp), (1, .pp b1), (0, .func (.yield lp) #[] #[])] ∧ ds = [] ∧ mm = m' ∧ H' = .row a cp 9 1 (strs (brN B')) :: H2 ∧ (i ≤ B'.length) ∧ (m.le mm) ∧ (J ((brL B').take i) mm H2)) (B'.length - (0)) ⟨0, m2, H, rfl, rfl, rfl, rfl, rfl, by omega, hle02, mJ _ _ _ _ h0 hle02⟩ ?_
 rintro j r ds m' H' ⟨i, mm, H2, rfl, rfl, rfl, rfl, rfl, hi, hle, hJ⟩
 by_cases hlt : i < B'.length
 ·obtain ⟨x, hx⟩ : ∃ x, (brL B')[i]? = some x := ⟨_, List.getElem?_eq_getElem (by omega)⟩
  obtain ⟨x1, x2, x3, x4⟩ := zAT hN hx
  obtain ⟨⟨sa2, sn2, sc2, hb2⟩, ⟨B2, c2, hm2, hd2, _⟩, hb12⟩ := hR _ _ _ hJ
  have hd3 := hd2 _ x2
  have hgx : (strs (brN B'))[i]? = some [str x.1] := by unfold strs; rw [List.getElem?_map, x4]; rfl
  have htk : (brL B').take (i + 1) = (brL B').take i ++ [x] := by rw [List.take_succ, hx]; rfl
  obtain ⟨H3, hp3⟩ := zHI hb2 hm2 zHg
  generalize strs (brN B') = SN at *
  refine WC.heap (H' := .row a cp 9 1 SN :: .bl bh [.slice sa2 sn2 sc2, .map (some bm)] 90 :: .blk bm (mapT (brE B2) c2) :: H3) (fun w hw => hw.perm (List.Perm.cons _ hp3)) ?_
  refine WC.rowSome (a := a) zhs (by omega) ?_
  rintro a rfl
  try (refine st ?_; intros)
  refine WL.lookT1 (es := brE B2) (k := x.1) (z := .int .i64 0) rfl rfl zhs rfl rfl (fun _ => rfl) rfl ?_
  rw [wD, hd3, x1]
  simp only [Option.map_some, Option.getD_some]
  try (refine st ?_; intros)
  refine WL.heap (H' := [.row (some a) cp 9 1 SN] ++ H2) (fun w hw => hw.perm (List.Perm.cons _ hp3.symm)) ?_
  refine WL.yield (vs := [str x.1, .int .i64 (x.2 : Int)]) rfl rfl rfl (hY _ x _ x3 mm H2 [.row (some a) cp 9 1 SN] hJ hle) ?_ ?_
  ·rintro m3 H9 ⟨H4, rfl, hJ2, hle3⟩
   try (refine st ?_; intros)
   refine nxz (B'.length - (i + 1)) ⟨i + 1, m3, H4, rfl, rfl, rfl, rfl, rfl, ?_, ?_, ?_⟩
   ·omega
   ·exact hle.trans hle3
   ·rw [htk]; exact hJ2
  ·rintro m3 H9 ⟨H4, rfl, hJ2, hle3⟩
   try (refine st ?_; intros)
   exact q_fz (H0 := H4) ⟨hle.trans hle3, .inr ⟨(brL B').take i ++ [x], ⟨(brL B').drop (i + 1), by rw [List.append_assoc]; exact x3.symm⟩, hJ2⟩⟩
 ·rw [List.take_of_length_le (by omega)] at hJ
  try (refine st ?_; intros)
  exact q_nz (H0 := H2) ⟨hle, .inl hJ⟩
end ZP
namespace Go.Eng
open Go
structure Hop where
 kind : Int
 br : List UInt8
 fr : List UInt8
 hand : Int
 at_ : Int
 text : List UInt8
instance : Inhabited Hop := ⟨⟨0, [], [], 0, 0, []⟩⟩
def Hop.cs (x : Hop) : List Value := [.int .i64 x.kind, str x.br, str x.fr, .int .i64 x.hand, .int .i64 x.at_, str x.text]
def Hop.Ok (x : Hop) : Prop := (-9223372036854775808 ≤ x.kind ∧ x.kind ≤ 9223372036854775807) ∧ (-9223372036854775808 ≤ x.hand ∧ x.hand ≤ 9223372036854775807) ∧ (-9223372036854775808 ≤ x.at_ ∧ x.at_ ≤ 9223372036854775807) ∧ x.br.length ≤ 9223372036854775807 ∧ x.fr.length ≤ 9223372036854775807 ∧ x.text.length ≤ 9223372036854775807
end Go.Eng
namespace Go.Eng
open Go
def cutO (o : Hop) : Hop := if o.text.length ≤ 65536 then { o with text := o.text.take 600 } else o
def scr (S : List Hop) : List Hop := (S.take 40).map cutO
end Go.Eng
namespace ZP
open Go Go.Eng
attribute [local irreducible] WL WC WQ QFun zJ Does Q1 zD zB Go.Addr.add
namespace ZD65a
theorem zal {G G' : Prop} (next : G') (h : Bx G' → G := by intro zzn; (first | (refine WL.append1 (by':=72) rfl rfl rfl rfl (by (repeat (first | exact Out.here | apply Out.there))) zhs (by exact rfl) (by exact rfl) (by exact rfl) (by exact rfl) (by exact rfl) (by exact rfl) (by first | exact rfl | omega) (by first | omega | (simp; omega)) (by decide) (by exact rfl) ?_; intro zzf zzf)); (repeat revert zzf); exact zzn.out) : G := h ⟨next⟩
end ZD65a
open ZD65a in
theorem zGd {S : List Hop} {a : Option Addr} {cap : Nat} (hx : ∀ x ∈ S, x.Ok) (w0 : World) (m : Mem) (H : SHeap) (hr : ∀ w1 H1, RowR w1 m H1 6 a (S.map Hop.cs)) :
  Does Tryz.prog 23 #[.slice a S.length cap] w0 m H (fun v m' H' => m' = m ∧ ∃ a2 c2, v = .slice a2 (scr S).length c2 ∧ H' = .row a2 c2 64 6 ((scr S).map Hop.cs) :: H) := by
 refine Does.of_body func23 rfl ntmps23 rfl ?_
 have hsl : (S.map Hop.cs).length = S.length := List.length_map _
 try (refine stg ?_; intros)
 refine WC.newRow (T := 64) (sz := 6) ?_
 refine lpz (fun j r ds m' H' => ∃ (i : Nat) (al : Option Addr) (cl : Nat) (g : Nat) (E : List (List Value)), j = S.length - i ∧ r = [(8, .int .i64 (i : Int)), (7, .int .i64 (S.length : Int)), (6, .slice a S.length cap), (3, .slice al g cl)] ∧ ds = [] ∧ m = m' ∧ H' = .row al cl 64 6 E :: H ∧ (i ≤ S.length ∧ i ≤ 40) ∧ (E = ((S.take i).map cutO).map Hop.cs) ∧ (g = i)) (S.length - (0)) ⟨0, none, 0, 0, [], rfl, rfl, rfl, rfl, rfl, by omega, rfl, rfl⟩ ?_
 rintro j r ds m' H' ⟨i, al, cl, g, E, rfl, rfl, rfl, rfl, rfl, hi, hE, hg⟩
 subst hg
 have hEl : E.length = g := by rw [hE, List.length_map, List.length_map, List.length_take]; omega
 by_cases hlt : g < S.length
 ·obtain ⟨x, hgx⟩ : ∃ x, S[g]? = some x := ⟨_, List.getElem?_eq_getElem hlt⟩
  have hxo := hx x (List.mem_of_getElem? hgx)
  have hgc : (S.map Hop.cs)[g]? = some x.cs := by rw [List.getElem?_map, hgx]; rfl
  have hr1 := hr w0 (.row al cl 64 6 E :: H)
  generalize S.map Hop.cs = SC at *
  unfold Hop.cs at hgc
  refine WC.rSome hr1 (by omega) ?_
  rintro a rfl
  have htk : (S.take (g + 1)).map cutO = (S.take g).map cutO ++ [cutO x] := by rw [List.take_succ, hgx, List.map_append]; rfl
  have hEn : ∀ y : Hop, y = cutO x → E ++ [y.cs] = ((S.take (g + 1)).map cutO).map Hop.cs := by
   rintro y rfl
   rw [htk, List.map_append, hE]; rfl
  by_cases h40 : g = 40
  ·subst h40
   have hscr : scr S = (S.take 40).map cutO := rfl
   have hsl2 : (scr S).length = 40 := by rw [hscr, List.length_map, List.length_take]; omega
   refine stg ?_; intros; rename_i b5
   rw [hE, ← hscr]
   exact q_fz ⟨rfl, al, cl, by rw [hsl2], rfl⟩
  ·obtain ⟨x0, x1, x2, x3, x4, x5⟩ := x
   unfold Hop.Ok at hxo
   simp only at hgc hxo hEn
   by_cases hlen : x5.length ≤ 65536
   ·have hn : E ++ [[Value.int .i64 x0, str x1, str x2, .int .i64 x3, .int .i64 x4, str (x5.take 600)]] = ((S.take (g + 1)).map cutO).map Hop.cs := hEn ⟨x0, x1, x2, x3, x4, x5.take 600⟩ (by unfold cutO; rw [if_pos hlen])
    have htk6 : x5.take (min (x5.length : Int) 600).toNat = x5.take 600 := by
     by_cases h6 : x5.length ≤ 600
     ·rw [List.take_of_length_le (by omega), List.take_of_length_le h6]
     ·congr 1; omega
    refine stg ?_; intros; rename_i b5 b9 a2 c2
    rw [htk6, hn]
    refine nxz (S.length - (g + 1)) ⟨g + 1, a2, c2, E.length + 1, ((S.take (g + 1)).map cutO).map Hop.cs, rfl, rfl, rfl, rfl, rfl, ?_, ?_, ?_⟩
    ·omega
    ·rfl
    ·omega
   ·have hn : E ++ [[Value.int .i64 x0, str x1, str x2, .int .i64 x3, .int .i64 x4, str x5]] = ((S.take (g + 1)).map cutO).map Hop.cs := hEn ⟨x0, x1, x2, x3, x4, x5⟩ (by unfold cutO; rw [if_neg hlen])
    refine stg ?_; intros; rename_i b5 b9 a2 c2
    rw [hn]
    refine nxz (S.length - (g + 1)) ⟨g + 1, a2, c2, E.length + 1, ((S.take (g + 1)).map cutO).map Hop.cs, rfl, rfl, rfl, rfl, rfl, ?_, ?_, ?_⟩
    ·omega
    ·rfl
    ·omega
 ·have hscr : scr S = (S.take 40).map cutO := rfl
  have hsl2 : (scr S).length = g := by rw [hscr, List.length_map, List.length_take]; omega
  have hE2 : E = (scr S).map Hop.cs := by rw [hE, hscr, List.take_of_length_le (by omega), List.take_of_length_le (by omega)]
  rw [hE2]
  try (refine stg ?_; intros)
  exact q_fz ⟨rfl, al, cl, by rw [hsl2], rfl⟩
end ZP
namespace Go.Eng
open Go
theorem HsOk.branch {m : Mem} {L : List Dr} {B : Br} {c : Nat} (h : HsOk m L B c) (s : List UInt8) (k : Int) (e : Nat) (he : e = 0 → yP B s = none ∧ 0 ≤ k ∧ k < (L.length : Int) ∧ B.length ≠ 32) :
  HsOk m L (if e = 0 then putB B c s k.toNat else B) (if e = 0 then clkB B c s else c) := by
 by_cases h0 : e = 0
 ·obtain ⟨h1, h2, h3, h4⟩ := he h0
  rw [if_pos h0, if_pos h0]
  have := h.most
  exact h.put (by omega) (.inr (by omega))
 ·rw [if_neg h0, if_neg h0]
  exact h
theorem HsOk.add {m : Mem} {L : List Dr} {B : Br} {c k : Nat} (h : HsOk m L B c) {s : List UInt8} {d : Dr} (hl : L.length < 256) (hp : ∀ p ∈ d.ps, p < L.length) (h0 : d.ps ≠ []) (h2 : d.ps.length ≤ 2) (ht : d.t.length ≤ 65536) (hh : d.h ≤ 999999999999999999) (hd : PsAt m d)
  (hk : yP B s = some k) : HsOk m (L ++ [d]) (putB B c s L.length) (clkB B c s) :=
 (h.more hl hp h0 h2 ht hh hd).put (by rw [List.length_append, List.length_singleton]; omega) (.inl (by rw [hk]; rfl))
theorem HsOk.fresh {m : Mem} {t : List UInt8} (ht : t.length ≤ 65536) : HsOk m [⟨0, [], .slice none 0 0, t⟩] [(0, mainN, 0)] 1 where
 some_ := by simp
 few := by simp
 par := fun i d h => by
  cases i with
  | zero =>
   simp at h
   subst h
   exact ⟨fun p hp => (by cases hp), fun h0 => absurd h0 (Nat.lt_irrefl _), by simp, ht, by simp⟩
  | succ i => simp at h
 at_ := fun d hd => by
  rw [List.mem_singleton] at hd
  subst hd
  exact PsAt.nil
 heads := fun e he => by rw [List.mem_singleton] at he; subst he; simp
 names := by simp
 borns := by simp
 old := fun e he => by rw [List.mem_singleton] at he; subst he; simp
 most := by simp
end Go.Eng
namespace ZP
open Go Go.Eng
attribute [local irreducible] WL WC WQ QFun zJ Does Q1 zD zB Go.Addr.add
theorem zNQ (s t u : List UInt8) : (wres s t u).1.length ≤ 65536 := by
 unfold wres
 split
 ·simp
 ·split
  ·simp
  ·simp only; omega
theorem zMs (s : Tx) {S : List Hop} {sa : Option Addr} {sc : Nat} (hs : s.length ≤ 9223372036854775807) (hx : ∀ x ∈ S, x.Ok) (w0 : World) (m : Mem) (H : SHeap) (hr : ∀ w1 H1, RowR w1 m H1 6 sa (S.map Hop.cs)) :
  Does Tryz.prog 30 #[str s, .slice sa S.length sc] w0 m H (fun v m' H' => m.le m' ∧ ∃ (bh bm cap c : Nat) (a : Option Addr) (L : List Dr) (B : Br), v = .pp bh ∧ HsOk m' L B c ∧ NamesOk B ∧ H' = .bl bh [.slice a L.length cap, .map (some bm)] 90 :: .row a cap 97 3 (drs L) :: .blk bm (mapT (brE B) c) :: H) := by
 refine Does.of_body func30 rfl ntmps30 rfl ?_
 have hm6 : (s.take (min (s.length : Int) 600).toNat).length ≤ 65536 := by rw [List.length_take]; omega
 try (refine st ?_; intros)
 generalize s.take (min (s.length : Int) 600).toNat = t at *
 refine zA func21 ?_ (hs := zFD t hm6 _ _ _)
 rintro v m H1 ⟨rfl, bh, bm, bd, rfl, rfl⟩
 try (refine st ?_; intros)
 refine zA func23 ?_ (hs := zGd hx _ _ _ hr)
 rintro v m H1 ⟨rfl, a2, c2, rfl, rfl⟩
 try (refine st ?_; intros)
 have hscl : (scr S).length ≤ 40 := by unfold scr; rw [List.length_map, List.length_take]; omega
 have hml : ((scr S).map Hop.cs).length = (scr S).length := List.length_map _
 have hzo : ∀ x ∈ scr S, x.Ok := by
  intro x hxm
  unfold scr at hxm
  obtain ⟨y, hy, rfl⟩ := List.mem_map.1 hxm
  have hyo := hx y (List.mem_of_mem_take hy)
  unfold cutO
  split
  ·unfold Hop.Ok at hyo ⊢
   refine ⟨hyo.1, hyo.2.1, hyo.2.2.1, hyo.2.2.2.1, hyo.2.2.2.2.1, ?_⟩
   rw [List.length_take]; omega
  ·exact hyo
 generalize scr S = Z at *
 have hok0 : HsOk m [⟨0, [], .slice none 0 0, t⟩] [(0, mainN, 0)] 1 := HsOk.fresh hm6
 refine lpz (fun j r ds m' H' => ∃ (i : Nat) (mm : Mem) (a : Option Addr) (cap : Nat) (c : Nat) (L : List Dr) (B : Br), j = Z.length - i ∧ r = [(21, .int .i64 (i : Int)), (20, .int .i64 (Z.length : Int)), (19, .slice a2 Z.length c2), (5, .pp bh)] ∧ ds = [] ∧ mm = m' ∧ H' = .bl bh [.slice a L.length cap, .map (some bm)] 90 :: .row a cap 97 3 (drs L) :: .blk bm (mapT (brE B) c) :: .row a2 c2 64 6 (Z.map Hop.cs) :: H ∧ (i ≤ Z.length) ∧ (m.le mm) ∧ (HsOk mm L B c) ∧ (NamesOk B)) (Z.length - (0)) ⟨0, m, some ⟨bd, 0, none⟩, 1, 1, [⟨0, [], .slice none 0 0, t⟩], [(0, mainN, 0)], rfl, rfl, rfl, rfl, rfl, by omega, Mem.le.refl _, hok0, NamesOk.fresh⟩ ?_
 rintro j r ds m' H' ⟨i, mm, a, cap, c, L, B, rfl, rfl, rfl, rfl, rfl, hi, hle, hok, hnm⟩
 by_cases hlt : i < Z.length
 ·obtain ⟨x, hgx⟩ : ∃ x, Z[i]? = some x := ⟨_, List.getElem?_eq_getElem hlt⟩
  have hgc : (Z.map Hop.cs)[i]? = some x.cs := by rw [List.getElem?_map, hgx]; rfl
  have hxo : x.Ok := hzo x (List.mem_of_getElem? hgx)
  unfold Hop.Ok at hxo
  have hLf := hok.few
  have hBm := hok.most
  generalize Z.map Hop.cs = ZC at *
  unfold Hop.cs at hgc
  refine WC.rowSome (a := a2) zhs (by omega) ?_
  rintro a2 rfl
  refine st ?_; intros; rename_i b8
  obtain ⟨q, hq⟩ : ∃ q, q = x.kind % 18446744073709551616 % 6 := ⟨_, rfl⟩
  rw [← hq]
  have hq6 : 0 ≤ q ∧ q < 6 := by omega
  obtain h | h | h | h | h : q = 0 ∨ q = 1 ∨ q = 2 ∨ q = 3 ∨ 4 ≤ q := by omega
  ·try (refine st ?_; intros)
   refine WL.heap (H' := .bl bh [.slice a L.length cap, .map (some bm)] 90 :: .row a cap 97 3 (drs L) :: .blk bm (mapT (brE B) c) :: .row (some a2) c2 64 6 ZC :: H) zpk ?_
   refine zA func17 ?_ (hs := zGK x.br (by omega) x.at_ hBm hLf _ _ _)
   rintro v m5 H5 ⟨rfl, rfl, rfl⟩
   try (refine st ?_; intros)
   refine nxz (Z.length - (i + 1)) ⟨i + 1, m5, a, cap, _, L, _, rfl, rfl, rfl, rfl, rfl, ?_, ?_, ?_, ?_⟩
   ·omega
   ·exact hle
   ·refine hok.branch x.br x.at_ _ ?_
    intro h0
    unfold brErr at h0
    by_cases g1 : (yP B x.br).isSome ∨ ¬ x6 x.br
    ·rw [if_pos g1] at h0; omega
    ·rw [if_neg g1] at h0
     by_cases g2 : ¬ (0 ≤ x.at_ ∧ x.at_ < (L.length : Int))
     ·rw [if_pos g2] at h0; omega
     ·rw [if_neg g2] at h0
      by_cases g3 : B.length = 32
      ·rw [if_pos g3] at h0; omega
      ·have g4 : ¬ (yP B x.br).isSome := fun h => g1 (.inl h)
       exact ⟨by simpa using g4, by omega, by omega, g3⟩
   ·split
    ·rename_i h0
     refine hnm.put (.inr ?_)
     unfold brErr at h0
     by_cases g1 : (yP B x.br).isSome ∨ ¬ x6 x.br
     ·rw [if_pos g1] at h0; omega
     ·exact Classical.byContradiction fun h => g1 (.inr h)
    ·exact hnm
  ·try (refine st ?_; intros)
   refine zN func18 ?_ (hs := zIX x.br _ _ _)
   rintro v m5 H5 ⟨rfl, rfl, rfl⟩
   try (refine st ?_; intros)
   refine nxz (Z.length - (i + 1)) ⟨i + 1, m5, a, cap, c, L, eraseB B x.br, rfl, rfl, rfl, rfl, rfl, ?_, ?_, ?_, ?_⟩
   ·omega
   ·exact hle
   ·exact hok.erase _
   ·exact hnm.erase _
  ·try (refine st ?_; intros)
   refine zN func10 ?_ (hs := zGf x.br x.hand x.text hLf _ _ _)
   rintro v m5 H5 ⟨hle5, (⟨e, he, hne, rfl, rfl, rfl⟩ | ⟨k, d, a', cap', he, rfl, hk, hps, ht, hh, hpa, rfl⟩)⟩
   ·try (refine st ?_; intros)
    refine nxz (Z.length - (i + 1)) ⟨i + 1, m5, a, cap, c, L, B, rfl, rfl, rfl, rfl, rfl, ?_, ?_, ?_, ?_⟩
    ·omega
    ·exact hle.trans hle5
    ·exact hok
    ·exact hnm
   ·try (refine st ?_; intros)
    refine nxz (Z.length - (i + 1)) ⟨i + 1, m5, a', cap', clkB B c x.br, L ++ [d], putB B c x.br L.length, rfl, rfl, rfl, rfl, rfl, ?_, ?_, ?_, ?_⟩
    ·omega
    ·exact hle.trans hle5
    ·have hkl := hok.head hk
     have hcom : ¬ (x.hand < 0 ∨ 999999999999999999 < x.hand) ∧ ¬ (65536 < x.text.length ∨ L.length = 256) := by
      unfold comErr at he
      rw [if_neg (by rw [hk]; simp)] at he
      by_cases g1 : x.hand < 0 ∨ 999999999999999999 < x.hand
      ·rw [if_pos g1] at he; omega
      ·rw [if_neg g1] at he
       by_cases g2 : 65536 < x.text.length ∨ L.length = 256
       ·rw [if_pos g2] at he; omega
       ·exact ⟨g1, g2⟩
     exact (hok.le hle5).add (by omega) (by rw [hps]; intro p hp; rw [List.mem_singleton] at hp; subst hp; exact hkl) (by rw [hps]; simp) (by rw [hps]; simp) (by rw [ht]; omega) (by omega) hpa hk
    ·exact hnm.put (.inl (by rw [hk]; rfl))
  ·try (refine st ?_; intros)
   refine zN func11 ?_ (hs := zHV x.br x.fr x.hand _ _ _ hok)
   rintro v m5 H5 ⟨hle5, al, cl, (⟨e, he, hne, rfl, rfl⟩ | ⟨k, k2, d, a', cap', he, hk, hk2, hres, rfl, hps, ht, hh, hpa, rfl⟩)⟩
   ·try (refine st ?_; intros)
    refine nxz (Z.length - (i + 1)) ⟨i + 1, m5, a, cap, c, L, B, rfl, rfl, rfl, rfl, rfl, ?_, ?_, ?_, ?_⟩
    ·omega
    ·exact hle.trans hle5
    ·exact hok.le hle5
    ·exact hnm
   ·try (refine st ?_; intros)
    refine nxz (Z.length - (i + 1)) ⟨i + 1, m5, a', cap', clkB B c x.br, L ++ [d], putB B c x.br L.length, rfl, rfl, rfl, rfl, rfl, ?_, ?_, ?_, ?_⟩
    ·omega
    ·exact hle.trans hle5
    ·have hkl := hok.head hk
     have hkl2 := hok.head hk2
     have hmer : ¬ (x.hand < 0 ∨ 999999999999999999 < x.hand) ∧ ¬ (L.length = 256) := by
      unfold merErr at he
      rw [hk, hk2] at he
      simp only at he
      by_cases g1 : x.hand < 0 ∨ 999999999999999999 < x.hand
      ·rw [if_pos g1] at he; omega
      ·rw [if_neg g1] at he
       by_cases g2 : L.length = 256
       ·rw [if_pos g2] at he; omega
       ·exact ⟨g1, g2⟩
     exact (hok.le hle5).add (by omega) (by rw [hps]; intro p hp; simp at hp; omega) (by rw [hps]; simp) (by rw [hps]; simp) (by rw [ht]; exact zNQ _ _ _) (by omega) hpa hk
    ·exact hnm.put (.inl (by rw [hk]; rfl))
  ·try (refine st ?_; intros)
   refine nxz (Z.length - (i + 1)) ⟨i + 1, mm, a, cap, c, L, B, rfl, rfl, rfl, rfl, rfl, ?_, ?_, ?_, ?_⟩
   ·omega
   ·exact hle
   ·exact hok
   ·exact hnm
 ·try (refine st ?_; intros)
  exact q_fz ⟨hle, bh, bm, cap, c, a, L, B, rfl, hok, hnm, rfl⟩
end ZP
namespace Go.Eng
open Go
def rdE (d : Dr) : List Value := [str d.t, .int .i64 (d.h : Int), d.v]
def rdrs (L : List Dr) : List (List Value) := L.map rdE
def SameD (L M : List Dr) : Prop := L.map (fun d => (d.h, d.ps, d.t)) = M.map (fun d => (d.h, d.ps, d.t))
theorem SameD.length {L M : List Dr} (h : SameD L M) : L.length = M.length := by
 have := congrArg List.length h
 simpa using this
theorem SameD.get {L M : List Dr} (h : SameD L M) (i : Nat) : (L[i]?).map (fun d => (d.h, d.ps, d.t)) = (M[i]?).map (fun d => (d.h, d.ps, d.t)) := by
 rw [← List.getElem?_map, ← List.getElem?_map, h]
theorem SameD.at_ {L M : List Dr} (h : SameD L M) {i : Nat} {d : Dr} (hd : L[i]? = some d) : ∃ e, M[i]? = some e ∧ e.h = d.h ∧ e.ps = d.ps ∧ e.t = d.t := by
 have := h.get i
 rw [hd] at this
 cases he : M[i]? with
 | none => rw [he] at this; cases this
 | some e =>
  rw [he] at this
  simp at this
  exact ⟨e, rfl, this.1.symm, this.2.1.symm, this.2.2.symm⟩
theorem SameD.pars {L M : List Dr} (h : SameD L M) (i : Nat) : parsOf L i = parsOf M i := by
 have := h.get i
 unfold parsOf
 cases hl : L[i]? with
 | none => rw [hl] at this; cases hm : M[i]? with
  | none => rfl
  | some e => rw [hm] at this; cases this
 | some d => rw [hl] at this; cases hm : M[i]? with
  | none => rw [hm] at this; cases this
  | some e => rw [hm] at this; simp at this; exact this.2.1
theorem SameD.tx {L M : List Dr} (h : SameD L M) (i : Nat) : txOf L i = txOf M i := by
 have := h.get i
 unfold txOf
 cases hl : L[i]? with
 | none => rw [hl] at this; cases hm : M[i]? with
  | none => rfl
  | some e => rw [hm] at this; cases this
 | some d => rw [hl] at this; cases hm : M[i]? with
  | none => rw [hm] at this; cases this
  | some e => rw [hm] at this; simp at this; exact this.2.2
theorem SameD.snoc {L M : List Dr} (h : SameD L M) {d e : Dr} (h1 : d.h = e.h) (h2 : d.ps = e.ps) (h3 : d.t = e.t) : SameD (L ++ [d]) (M ++ [e]) := by
 unfold SameD at *
 rw [List.map_append, List.map_append, h]
 simp [h1, h2, h3]
theorem SameD.lnGo {L M : List Dr} (h : SameD L M) : ∀ (n : Nat) (ks : List Nat), lnGo L n ks = Go.Eng.lnGo M n ks
 | 0, _ => rfl
 | n + 1, ks => by
  show Go.Eng.lnGo L n (lnStep L ks n) = Go.Eng.lnGo M n (lnStep M ks n)
  have : lnStep L ks n = lnStep M ks n := by unfold lnStep; rw [h.pars]
  rw [this, SameD.lnGo h n]
theorem SameD.line {L M : List Dr} (h : SameD L M) (k : Nat) : lineK L k = lineK M k := h.lnGo _ _
theorem SameD.base {L M : List Dr} (h : SameD L M) (a b : Nat) : baseK L a b = baseK M a b := by unfold baseK; rw [h.line, h.line]
theorem SameD.orgAll {L M : List Dr} (h : SameD L M) : ∀ n, orgAll L n = Go.Eng.orgAll M n
 | 0 => rfl
 | n + 1 => by
  have e : orgRow L (fun p => (Go.Eng.orgAll L n).getD p []) n = orgRow M (fun p => (Go.Eng.orgAll M n).getD p []) n := by
   unfold orgRow
   rw [h.pars, h.tx, SameD.orgAll h n]
   refine j0 fun a p _ => ?_
   unfold orgStep
   rw [h.tx, h.tx]
  show Go.Eng.orgAll L n ++ _ = Go.Eng.orgAll M n ++ _
  rw [SameD.orgAll h n] at e ⊢
  rw [e]
theorem SameD.org {L M : List Dr} (h : SameD L M) (n : Nat) : orgK L n = orgK M n := by
 show orgRow L (fun p => (Go.Eng.orgAll L n).getD p []) n = orgRow M (fun p => (Go.Eng.orgAll M n).getD p []) n
 unfold orgRow
 rw [h.pars, h.tx, h.orgAll n]
 refine j0 fun a p _ => ?_
 unfold orgStep
 rw [h.tx, h.tx]
theorem SameD.orgG {L M : List Dr} (h : SameD L M) (n : Nat) : orgG L n = Go.Eng.orgG M n := by
 unfold Go.Eng.orgG orgZ
 rw [h.tx, h.org]
end Go.Eng
namespace Go.Eng
open Go
def decB (n : Nat) : UInt8 := UInt8.ofNat (48 + n)
def hexs : List UInt8 := [48, 49, 50, 51, 52, 53, 54, 55, 56, 57, 97, 98, 99, 100, 101, 102]
def hexB (n : Nat) : UInt8 := hexs.getD n 0
def decL (n : Nat) : List UInt8 := if n < 10 then [decB n] else decL (n / 10) ++ [decB (n % 10)]
termination_by n
def hexL (n : Nat) : List UInt8 := if n < 16 then [hexB n] else hexL (n / 16) ++ [hexB (n % 16)]
termination_by n
def decHi (n : Nat) : List UInt8 := if 9 < n then decL (n / 10) else []
def hexHi (n : Nat) : List UInt8 := if 15 < n then hexL (n / 16) else []
theorem zHX (n : Nat) : decHi n ++ [decB (n % 10)] = decL n := by
 rw [decL, decHi]
 by_cases h : n < 10
 ·rw [if_pos h, if_neg (by omega), Nat.mod_eq_of_lt h]; rfl
 ·rw [if_neg h, if_pos (by omega)]
theorem zII (n : Nat) : hexHi n ++ [hexB (n % 16)] = hexL n := by
 rw [hexL, hexHi]
 by_cases h : n < 16
 ·rw [if_pos h, if_neg (by omega), Nat.mod_eq_of_lt h]; rfl
 ·rw [if_neg h, if_pos (by omega)]
theorem zFF {n : Nat} (h : n < 10) : (48 + (n : Int)) = ((decB n).toNat : Int) := by
 have : (decB n).toNat = 48 + n := by
  unfold decB
  rw [UInt8.toNat_ofNat']
  omega
 rw [this]; omega
def hexV (c : UInt8) : Int := if 48 ≤ c.toNat ∧ c.toNat ≤ 57 then (c.toNat : Int) - 48 else if 97 ≤ c.toNat ∧ c.toNat ≤ 102 then (c.toNat : Int) - 87 else -1
theorem zKa {c : UInt8} {k : Nat} (h : k < 16) (e : gb hexs k = c.toNat) : hexV c = (k : Int) := by
 have all : ∀ i : Fin 16, (gb hexs i.1 < 58 → gb hexs i.1 = 48 + i.1) ∧ (¬ gb hexs i.1 < 58 → gb hexs i.1 = 87 + i.1 ∧ 10 ≤ i.1) ∧ 48 ≤ gb hexs i.1 := by decide
 obtain ⟨a1, a2, a3⟩ := all ⟨k, h⟩
 simp only at a1 a2 a3
 rw [e] at a1 a2 a3
 unfold hexV
 by_cases hc : c.toNat < 58
 ·have := a1 hc
  rw [if_pos (by omega)]; omega
 ·obtain ⟨a4, a5⟩ := a2 hc
  rw [if_neg (by omega), if_pos (by omega)]; omega
theorem zKj {c : UInt8} (h : ∀ i < 16, gb hexs i ≠ c.toNat) : hexV c = -1 := by
 have all : ∀ i : Fin 16, (i.1 < 10 → gb hexs i.1 = 48 + i.1) ∧ (¬ i.1 < 10 → gb hexs i.1 = 87 + i.1) := by decide
 unfold hexV
 by_cases h1 : 48 ≤ c.toNat ∧ c.toNat ≤ 57
 ·have h2 := (all ⟨c.toNat - 48, by omega⟩).1 (by simp only; omega)
  simp only at h2
  exact absurd (by omega) (h (c.toNat - 48) (by omega))
 ·rw [if_neg h1]
  by_cases h3 : 97 ≤ c.toNat ∧ c.toNat ≤ 102
  ·have h2 := (all ⟨c.toNat - 87, by omega⟩).2 (by simp only; omega)
   simp only at h2
   exact absurd (by omega) (h (c.toNat - 87) (by omega))
  ·rw [if_neg h3]
def zL (s : List UInt8) (p : Pc) : List UInt8 :=
 if p.b = true then [92, 120, hexB (gb s p.at_ / 16), hexB (gb s p.at_ % 16)]
 else if p.r = 34 ∨ p.r = 92 then [92, UInt8.ofNat p.r]
 else if 32 ≤ p.r ∧ p.r ≤ 126 then [UInt8.ofNat p.r]
 else [92, 123] ++ hexL p.r ++ [125]
def xX (s : List UInt8) (l : List Pc) : List UInt8 := l.flatMap (zL s)
def yG (s : List UInt8) : List UInt8 := [34] ++ xX s (zC s) ++ [34]
def stpW (x : Stp) : List UInt8 := if 0 < x.k then 61 :: decL x.k.toNat else if x.d ≠ [] then 45 :: yG x.d else 43 :: yG x.p
def yM : List Stp → List UInt8
 | [] => []
 | [x] => stpW x
 | x :: y :: l => stpW x ++ [32] ++ yM (y :: l)
end Go.Eng
namespace Go.Eng
open Go Go.RowKit Go.ChangeShapes Go.WideShapes Go.ChangeMaps
section
variable {H : Type} {enc : TypeId × Value → H}
theorem zGI {W W' : World} (hb : Below W.heap.size W W') {p : MemPlace} (hp : p.block < W.heap.size) : W.sameAt W' p := by
 cases p with
 | cell b off =>
  have h := hb.block b hp
  show W'.cell? ⟨b, off, none⟩ = W.cell? ⟨b, off, none⟩
  simp only [World.cell?, h]
 | map b => exact hb.block b hp
theorem zGC {W W' : World} {sp : Nat → Bool} {t : TypeId} {v : Value} {d : DataW H} {p : List MemPlace} (hl : laidOutB P = true) (ht : t < P.types.size) (hr : P.readableRec t = true)
  (h : DataW.Trod enc P W 0 (fun _ => true) true t v d p) (hlt : ∀ q ∈ p, q.block < W.heap.size) (hb : Below W.heap.size W W') (hs : ∀ q ∈ p, sp q.block = true) : DataW.Trod enc P W' 0 sp true t v d p := by
 obtain ⟨n, hn⟩ := h
 have h1 := DataW.trod_carry (w' := W') n _ _ _ hn (fun q hq => zGI hb (hlt q hq))
 exact ⟨n, DataW.trod_respare (kids_book hl hr) (fun t e hT hu => book_sized hr hT hu) n _ _ _ ⟨ht, book_self t⟩ h1 hs⟩
theorem zCa {W W' : World} {sp : Nat → Bool} (hl : laidOutB P = true) (hb : Below W.heap.size W W') : ∀ {ts : List TypeId} {vs : List Value} {ds : List (DataW H)} {p : List MemPlace},
  (∀ t ∈ ts, t < P.types.size ∧ P.readableRec t = true) → DataW.TrodAll enc P W 0 (fun _ => true) true ts vs ds p → (∀ q ∈ p, sp q.block = true) → DataW.TrodAll enc P W' 0 sp true ts vs ds p
 | [], [], [], _, _, h, _ => h
 | t :: ts, v :: vs, d :: ds, p, hts, h, hs => by
  have hlt := DataW.TrodAll.lt h
  obtain ⟨a, b, h1, h2, e⟩ := h
  subst e
  obtain ⟨g1, g2⟩ := hts t List.mem_cons_self
  exact ⟨a, b, zGC hl g1 g2 h1 (fun q hq => hlt q (List.mem_append_left _ hq)) hb (fun q hq => hs q (List.mem_append_left _ hq)),
   zCa hl hb (fun t ht => hts t (List.mem_cons_of_mem _ ht)) h2 (fun q hq => hs q (List.mem_append_right _ hq)), rfl⟩
theorem zHf {f : Func} {s : ChangeSpec} {apart fresh handsOn again : Bool} {W W' : World} {args : Array Value} {ds gs : List (DataW H)} {before : List MemPlace} {tb : TypeId}
  (hW : DataW.Whole enc P f.params.toList s.vars apart W args.toList ds gs before) (hvars : s.vars = []) (hfn : s.fn H (ds ++ gs) = { results := [.lit (.bool true)], args := ds })
  (hres : f.resultTypes = #[tb]) (htb : P.underlying tb = some .bool) (hl : laidOutB P = true) (hts : (f.params.toList.all fun t => decide (t < P.types.size) && P.readableRec t) = true) (hb : Below W.heap.size W W') :
  s.post enc P f apart fresh handsOn again W args (.bool true) W' := by
 have hW2 := hW
 obtain ⟨p, q, hA, hV, e, _, _⟩ := hW
 rw [hvars] at hV
 obtain ⟨rfl, rfl⟩ := trodVars_none hV
 rw [List.append_nil] at e
 subst e
 have hts' : ∀ t ∈ f.params.toList, t < P.types.size ∧ P.readableRec t = true := fun t ht => by simpa using List.all_eq_true.1 hts t ht
 refine zGN (pa := before) (pv := []) hW2 (fun _ _ _ => ?_) (fun sp hs => ?_) (fun _ _ => ?_) (by simp) hb ?_
 ·rw [hfn, hres]; exact trodAll_cons_mk (shut_bool htb _) trodAll_mk0
 ·rw [hfn]; exact zCa hl hb hts' hA hs
 ·rw [hfn, hvars]; rfl
 ·intro j t r h1 h2
  rw [hres] at h1 h2
  match j, h1 with
  | 0, h1 =>
   simp at h1; subst h1
   simp [Value.resultList] at h2
   subst h2
   exact okWide_bool_mk htb _
theorem RowR.came {w0 W : World} {Hp : SHeap} {sz : Nat} {a : Option Addr} {es : List (List Value)} (h1 : ∀ e ∈ es, e.length = sz)
  (h2 : match a with | .none => es = [] | .some b => ∀ j v, es.flatten[j]? = .some v → W.cell? (b.add j) = .some v) : RowR w0 (memOf W) Hp sz a es := by
 intro w hs
 refine ⟨h1, ?_⟩
 cases a with
 | none => exact h2
 | some b =>
  intro j v hj
  have hc := h2 j v hj
  generalize b.add j = c at hc ⊢
  obtain ⟨b, o, s⟩ := c
  cases hh : W.heap[b]? with
  | none => cases s <;> simp [World.cell?, hh] at hc
  | some ob =>
   have := hs.pers b ob hh
   cases s <;> simpa [World.cell?, this, hh] using hc
end
end Go.Eng
namespace ZP
open Go Go.Eng
attribute [local irreducible] WL WC WQ QFun zJ Does Q1 zD zB Go.Addr.add
theorem zEZ (n : Nat) (hn : n ≤ 1000000000) (w0 : World) (m : Mem) (H : SHeap) :
  Does Tryz.prog 122 #[.int .i64 (n : Int)] w0 m H (Gives (str (decL n)) m H) := by
 refine Does.of_body func122 rfl ntmps122 rfl ?_
 have e0 : (48 + (n : Int) % 10) = ((decB (n % 10)).toNat : Int) := by rw [← zFF (show n % 10 < 10 by omega)]; omega
 refine st ?_; intros; rename_i q
 rw [e0]
 refine WL.blkStr (s := [decB (n % 10)]) rfl zhs rfl rfl rfl rfl rfl rfl rfl ?_
 try (refine st ?_; intros)
 refine lpz (fun j r ds m' H' => ∃ (u : Nat) (d : List UInt8), j = 2 * u ∧ r = [(0, .int .i64 (u : Int)), (3, str d)] ∧ ds = [] ∧ m = m' ∧ H' = H ∧ (decHi u ++ d = decL n) ∧ (u ≤ n ∧ d.length + u ≤ n + 1)) (2 * (n)) ⟨n, [decB (n % 10)], rfl, rfl, rfl, rfl, rfl, zHX n, ⟨Nat.le_refl _, by simp; omega⟩⟩ ?_
 rintro j r ds m' H' ⟨u, d, rfl, rfl, rfl, rfl, rfl, hd, hv⟩
 generalize H' = H
 by_cases h9 : 9 < u
 ·have e1 : (48 + (u : Int) / 10 % 10) = ((decB (u / 10 % 10)).toNat : Int) := by rw [← zFF (show u / 10 % 10 < 10 by omega)]; omega
  have e2 : (u : Int) / 10 = ((u / 10 : Nat) : Int) := by omega
  have hl1 : ([decB (u / 10 % 10)] : List UInt8).length = 1 := rfl
  refine st ?_; intros; rename_i q
  rw [e1]
  refine WL.blkStr (s := [decB (u / 10 % 10)]) rfl zhs rfl rfl rfl rfl rfl rfl rfl ?_
  try (refine st ?_; intros)
  rw [e2]
  refine nxz (2 * (u / 10)) ⟨u / 10, [decB (u / 10 % 10)] ++ d, rfl, rfl, rfl, rfl, rfl, ?_, ?_⟩
  ·rw [← hd, ← List.append_assoc, zHX, decHi, if_pos h9]
  ·rw [List.length_append, List.length_singleton]; omega
 ·have e : d = decL n := by rw [← hd, decHi, if_neg h9]; rfl
  subst e
  try (refine st ?_; intros)
  exact q_fz zgm
theorem zKc (c : UInt8) (w0 : World) (m : Mem) (H : SHeap) : Does Tryz.prog 246 #[.int .u8 (c.toNat : Int)] w0 m H (Gives (.int .i64 (hexV c)) m H) := by
 refine Does.of_body func246 rfl ntmps246 rfl ?_
 have hl : ([48, 49, 50, 51, 52, 53, 54, 55, 56, 57, 97, 98, 99, 100, 101, 102] : List UInt8).length = 16 := rfl
 try (refine st ?_; intros)
 refine lpz (fun j r ds m' H' => ∃ (k : Nat), j = 16 - k ∧ r = [(3, .int .i64 (k : Int)), (0, .int .u8 (c.toNat : Int))] ∧ ds = [] ∧ m = m' ∧ H' = H ∧ (k ≤ 16) ∧ (∀ i < k, gb hexs i ≠ c.toNat)) (16 - (0)) ⟨0, rfl, rfl, rfl, rfl, rfl, Nat.zero_le _, fun i h => absurd h (Nat.not_lt_zero _)⟩ ?_
 rintro j r ds m' H' ⟨k, rfl, rfl, rfl, rfl, rfl, hk, hn⟩
 generalize H' = H
 by_cases h1 : k < 16
 ·by_cases h2 : gb hexs k = c.toNat
  ·have e : hexV c = (k : Int) := zKa h1 h2
   rw [e]
   have h3 : (gb [48, 49, 50, 51, 52, 53, 54, 55, 56, 57, 97, 98, 99, 100, 101, 102] k : Int) = (c.toNat : Int) := by rw [← h2]; rfl
   try (refine st ?_; intros)
   exact q_fz zgm
  ·have h3 : ¬ (gb [48, 49, 50, 51, 52, 53, 54, 55, 56, 57, 97, 98, 99, 100, 101, 102] k : Int) = (c.toNat : Int) := by intro h; exact h2 (Int.ofNat.inj h)
   try (refine st ?_; intros)
   refine nxz (16 - (k + 1)) ⟨k + 1, rfl, rfl, rfl, rfl, rfl, ?_, ?_⟩
   ·omega
   ·intro i hi
    by_cases h : i = k
    ·subst h; exact h2
    ·exact hn i (by omega)
 ·have e : hexV c = -1 := zKj fun i hi => hn i (by omega)
  rw [e]
  try (refine st ?_; intros)
  exact q_fz zgm
end ZP
namespace Go.Eng
def Stp.cs (s : Stp) : List Value := [.int .i64 s.k, str s.d, str s.p]
def refN : List Stp → Nat → Int → Bool
 | [], _, _ => true
 | s :: l, i, n =>
  let n' := n + ((s.d.length : Int) + (s.p.length : Int)) + (if 0 < s.k ∧ s.k ≤ 65536 then s.k / 8 else 0)
  if 5000 < n' ∨ 5000 < i then false else refN l (i + 1) n'
def smallOf (l : List Stp) : Bool := refN l 0 0
structure Fit (l : List Stp) : Prop where
 len : l.length ≤ 1048576
 k : ∀ s ∈ l, -9223372036854775808 ≤ s.k ∧ s.k ≤ 9223372036854775807
 d : ∀ s ∈ l, s.d.length ≤ 1048576
 p : ∀ s ∈ l, s.p.length ≤ 1048576
theorem wI {x : Stp} {l : List Stp} {f t : Int} (h1 : yL x) (h2 : x.k ≤ 65536) (h3 : f + x.k + x.d.length ≤ 65536) (h4 : t + x.k + x.p.length ≤ 65536) : xQ (x :: l) f t = xQ l (f + x.k + x.d.length) (t + x.k + x.p.length) := if_pos ⟨h1, h2, h3, h4⟩
theorem zW {x : Stp} {l : List Stp} {f t : Int} (h : ¬ (yL x ∧ x.k ≤ 65536 ∧ f + x.k + x.d.length ≤ 65536 ∧ t + x.k + x.p.length ≤ 65536)) : xQ (x :: l) f t = none := if_neg h
def szR : Option (Int × Int) → Value
 | some (a, b) => .tuple #[.int .i64 a, .int .i64 b, .bool true]
 | none => .tuple #[.int .i64 0, .int .i64 0, .bool false]
def szP : Option (Int × Int) → Value
 | some (a, b) => .tuple #[.int .i64 a, .int .i64 b, .int .i64 0]
 | none => .tuple #[.int .i64 0, .int .i64 0, .int .i64 2]
end Go.Eng
namespace ZP
open Go Go.Eng
attribute [local irreducible] WL WC WQ QFun zJ Does Q1 zD zB Go.Addr.add
end ZP
namespace Go.Eng
open Go Go.RowKit
def ListP (T : TypeId) (r : Int ⊕ List Stp) (k : IntKind) (m : Mem) (H : SHeap) : Value → Mem → SHeap → Prop := fun v m' H' => m' = m ∧ match r with
 | .inl e => v = .tuple #[.slice none 0 0, .int k e] ∧ H' = H
 | .inr l => ∃ c cp, v = .tuple #[.slice c l.length cp, .int k 0] ∧ H' = .row c cp T 3 (l.map Stp.cs) :: H
end Go.Eng
namespace Go.Eng
open Go
def cN (s : List UInt8) (at_ : Nat) (wr : Int) : Nat := if wr < 0 ∧ at_ < s.length then gb s at_ else 0
theorem Does.gives_at {P : Program} {w0 : World} {m : Mem} {H : SHeap} {f : FuncId} {args : Array Value} {v : Value} {i : Item} (hm : i ∈ H) (h : ∀ H1, Does P f args w0 m (i :: H1) (Gives v m (i :: H1))) : Does P f args w0 m H (Gives v m H) := by
 intro w hs
 obtain ⟨H1, hp⟩ := hs.at_ hm
 refine (h H1 w (hs.perm hp)).mono ?_
 rintro e w' ⟨v', m', H', he, ⟨rfl, rfl, rfl⟩, hs'⟩
 exact ⟨_, _, _, he, ⟨rfl, rfl, rfl⟩, hs'.perm hp.symm⟩
end Go.Eng
namespace ZP
open Go Go.Eng
attribute [local irreducible] WL WC WQ QFun zJ Does Q1 zD zB Go.Addr.add
theorem zJx (b : Nat) (s : List UInt8) (at_ : Nat) (wr : Int) (hs : s.length ≤ 1000000000) (ha : at_ ≤ 1000000001) (w0 : World) (m : Mem) (H : SHeap) :
  Does Tryz.prog 186 #[.pp b] w0 m (.bl b [str s, .int .i64 (at_ : Int), .int .i64 wr] 285 :: H) (Gives (.int .u8 (cN s at_ wr : Int)) m (.bl b [str s, .int .i64 (at_ : Int), .int .i64 wr] 285 :: H)) := by
 refine Does.of_body func186 rfl ntmps186 rfl ?_
 by_cases h1 : wr < 0
 ·by_cases h2 : at_ < s.length
  ·have e : cN s at_ wr = gb s at_ := by unfold cN; rw [if_pos ⟨h1, h2⟩]
   rw [e]
   try (refine st ?_; intros)
   exact q_fz zgm
  ·have e : cN s at_ wr = 0 := by unfold cN; rw [if_neg (by omega)]
   rw [e]
   try (refine st ?_; intros)
   exact q_fz zgm
 ·have e : cN s at_ wr = 0 := by unfold cN; rw [if_neg (by omega)]
  rw [e]
  try (refine st ?_; intros)
  exact q_fz zgm
end ZP
namespace Go.Eng
open Go
def digF (s : List UInt8) : Nat → Nat → Nat → Nat × Nat × Nat
 | 0, n, a => (0, n, a)
 | f + 1, n, a => if a < s.length ∧ 0 ≤ hexV (UInt8.ofNat (gb s a)) then
   ((digF s f (16 * n + (hexV (UInt8.ofNat (gb s a))).toNat) (a + 1)).1 + 1, (digF s f (16 * n + (hexV (UInt8.ofNat (gb s a))).toNat) (a + 1)).2) else (0, n, a)
theorem zL0 (c : UInt8) : -1 ≤ hexV c ∧ hexV c ≤ 15 := by
 unfold hexV
 split
 ·omega
 ·split <;> omega
end Go.Eng
namespace ZP
open Go Go.Eng
attribute [local irreducible] WL WC WQ QFun zJ Does Q1 zD zB Go.Addr.add
attribute [local irreducible] cN hexV
theorem zJg (k : Nat) (hk : k ≤ 255) (w0 : World) (m : Mem) (H : SHeap) : Does Tryz.prog 246 #[.int .u8 (k : Int)] w0 m H (Gives (.int .i64 (hexV (UInt8.ofNat k))) m H) := by
 have e : (k : Int) = ((UInt8.ofNat k).toNat : Int) := by rw [UInt8.toNat_ofNat']; omega
 rw [e]
 have := zKc (UInt8.ofNat k) w0 m H
 exact this
namespace ZEP6a
theorem zal {G G' : Prop} (next : G') (h : Bx G' → G := by intro zzn; (first | (refine iF 186 rfl ?_; refine zU func186 ?_ (hs := zJx _ _ _ _ (by omega) (by omega) _ _ _)) | (refine iF 246 rfl ?_; refine zU func246 ?_ (hs := zJg _ (by assumption) _ _ _))); (repeat revert zzf); exact zzn.out) : G := h ⟨next⟩
end ZEP6a
end ZP
namespace Go.Eng
open Go
inductive Got (α : Type)
 | yes (a : Nat) (v : α)
 | no (w : Nat)
theorem zK1 (s : List UInt8) : ∀ (f n a : Nat), a ≤ s.length → a ≤ (digF s f n a).2.2 ∧ (digF s f n a).2.2 ≤ s.length ∧ (digF s f n a).2.2 = a + (digF s f n a).1
 | 0, n, a, h => ⟨Nat.le_refl _, h, rfl⟩
 | f + 1, n, a, h => by
  rw [digF]
  split
  ·next h1 =>
   have := zK1 s f (16 * n + (hexV (UInt8.ofNat (gb s a))).toNat) (a + 1) h1.1
   simp only
   omega
  ·exact ⟨Nat.le_refl _, h, rfl⟩
def partF (s : List UInt8) (a : Nat) : Got (List UInt8) :=
 if a < s.length ∧ (gb s a = 34 ∨ gb s a = 92) then .yes (a + 1) [UInt8.ofNat (gb s a)]
 else if a < s.length ∧ gb s a = 120 then
  if (digF s 2 0 (a + 1)).1 < 2 then .no (digF s 2 0 (a + 1)).2.2 else .yes (digF s 2 0 (a + 1)).2.2 [UInt8.ofNat (digF s 2 0 (a + 1)).2.1]
 else if a < s.length ∧ gb s a = 123 then
  if (digF s 6 0 (a + 1)).1 = 0 ∨ ¬ ((digF s 6 0 (a + 1)).2.2 < s.length ∧ gb s (digF s 6 0 (a + 1)).2.2 = 125) then .no (digF s 6 0 (a + 1)).2.2
  else .yes ((digF s 6 0 (a + 1)).2.2 + 1) (fmb (rn ((digF s 6 0 (a + 1)).2.1 : Int)))
 else .no a
theorem zLB {s : List UInt8} {a e : Nat} {t : List UInt8} (h : partF s a = .yes e t) : a < e ∧ e ≤ s.length ∧ t.length ≤ 4 ∧ a < s.length := by
 unfold partF at h
 split at h
 ·next h1 => cases h; exact ⟨Nat.lt_succ_self _, h1.1, by simp, h1.1⟩
 ·split at h
  ·next h1 =>
   have h2 := zK1 s 2 0 (a + 1) h1.1
   split at h
   ·cases h
   ·cases h; exact ⟨by omega, h2.2.1, by simp, h1.1⟩
  ·split at h
   ·next h1 =>
    have h2 := zK1 s 6 0 (a + 1) h1.1
    split at h
    ·cases h
    ·next h3 =>
     cases h
     have h4 : (digF s 6 0 (a + 1)).2.2 < s.length := by
      rcases Nat.lt_or_ge (digF s 6 0 (a + 1)).2.2 s.length with h5 | h5
      ·exact h5
      ·exact absurd (Or.inr (fun h6 => absurd h6.1 (by omega))) h3
     have h7 := zBB (rn ((digF s 6 0 (a + 1)).2.1 : Int))
     have h8 := xS (rn ((digF s 6 0 (a + 1)).2.1 : Int))
     exact ⟨by omega, h4, by omega, h1.1⟩
   ·cases h
theorem zNK {s : List UInt8} {a w : Nat} (h : partF s a = .no w) (ha : a ≤ s.length) : w ≤ s.length := by
 unfold partF at h
 split at h
 ·cases h
 ·split at h
  ·next h1 =>
   have h2 := zK1 s 2 0 (a + 1) h1.1
   split at h
   ·cases h; omega
   ·cases h
  ·split at h
   ·next h1 =>
    have h2 := zK1 s 6 0 (a + 1) h1.1
    split at h
    ·cases h; omega
    ·cases h
   ·cases h; exact ha
def quoF (s : List UInt8) : Nat → Nat → List UInt8 → Got (List UInt8)
 | 0, a, _ => .no a
 | f + 1, a, o =>
  if a < s.length ∧ gb s a = 34 then .yes (a + 1) o
  else if a < s.length ∧ gb s a = 92 then
   match partF s (a + 1) with
   | .no w => .no w
   | .yes e t => quoF s f e (o ++ t)
  else if a < s.length ∧ 32 ≤ gb s a ∧ gb s a ≤ 126 then quoF s f (a + 1) (o ++ [UInt8.ofNat (gb s a)])
  else .no a
theorem zL3 (s : List UInt8) : ∀ (f a : Nat) (o : List UInt8) (e : Nat) (t : List UInt8), quoF s f a o = .yes e t → a < e ∧ e ≤ s.length ∧ t.length ≤ o.length + 4 * (e - a)
 | 0, a, o, e, t, h => by cases h
 | f + 1, a, o, e, t, h => by
  rw [quoF] at h
  split at h
  ·next h1 => cases h; exact ⟨Nat.lt_succ_self _, h1.1, by omega⟩
  ·split at h
   ·cases hp : partF s (a + 1) with
    | no w => rw [hp] at h; cases h
    | yes e1 t1 =>
     rw [hp] at h
     have h1 := zLB hp
     have h2 := zL3 s f e1 (o ++ t1) e t h
     rw [List.length_append] at h2
     omega
   ·split at h
    ·have h2 := zL3 s f (a + 1) _ e t h
     rw [List.length_append, List.length_singleton] at h2
     omega
    ·cases h
def quotF (s : List UInt8) (a : Nat) : Got (List UInt8) := if a < s.length ∧ gb s a = 34 then quoF s (s.length + 1) (a + 1) [] else .no a
theorem zNv {s : List UInt8} {a e : Nat} {t : List UInt8} (h : quotF s a = .yes e t) : a < e ∧ e ≤ s.length ∧ t.length ≤ 4 * s.length := by
 unfold quotF at h
 split at h
 ·have := zL3 s _ _ _ _ _ h
  rw [List.length_nil] at this; omega
 ·cases h
def sub (s : List UInt8) (a e : Nat) : List UInt8 := (s.drop a).take (e - a)
def qokF (s : List UInt8) (a room : Nat) : Got (List UInt8) :=
 match quotF s a with
 | .no w => .no w
 | .yes e t => if t = [] ∨ yG t ≠ sub s a e ∨ room < t.length then .no a else .yes e t
def numE (s : List UInt8) : Nat → Nat → Nat
 | 0, a => a
 | f + 1, a => if a < s.length ∧ 48 ≤ gb s a ∧ gb s a ≤ 57 then numE s f (a + 1) else a
theorem zLh (s : List UInt8) : ∀ (f a : Nat), a ≤ s.length → a ≤ numE s f a ∧ numE s f a ≤ s.length
 | 0, a, h => ⟨Nat.le_refl _, h⟩
 | f + 1, a, h => by
  rw [numE]
  split
  ·next h1 => have := zLh s f (a + 1) h1.1; omega
  ·exact ⟨Nat.le_refl _, h⟩
def decV (l : List UInt8) : Nat := l.foldl (fun n c => 10 * n + (c.toNat - 48)) 0
def capV (l : List UInt8) : Nat := l.foldl (fun n c => if n < 1099511627776 then 10 * n + (c.toNat - 48) else n) 0
theorem zNh (l : List UInt8) (c : UInt8) : decV (l ++ [c]) = 10 * decV l + (c.toNat - 48) := by unfold decV; rw [List.foldl_append]; rfl
theorem zNC (s : List UInt8) (a : Nat) : sub s a a = [] := by unfold sub; rw [Nat.sub_self, List.take_zero]
theorem zLW {s : List UInt8} {a e : Nat} (he : e ≤ s.length) : (sub s a e).length = e - a := by unfold sub; rw [List.length_take, List.length_drop]; omega
def numF (s : List UInt8) (a fr to : Nat) : Got Nat :=
 if a < s.length ∧ 49 ≤ gb s a ∧ gb s a ≤ 57 then
  if 65536 - fr < decV (sub s a (numE s (s.length + 1) a)) ∨ 65536 - to < decV (sub s a (numE s (s.length + 1) a)) then .no a
  else .yes (numE s (s.length + 1) a) (decV (sub s a (numE s (s.length + 1) a)))
 else .no a
def stepF (s : List UInt8) (a fr to : Nat) : Got Stp :=
 if a < s.length ∧ gb s a = 61 then
  match numF s (a + 1) fr to with
  | .no w => .no w
  | .yes e n => .yes e ⟨(n : Int), [], []⟩
 else if a < s.length ∧ gb s a = 45 then
  match qokF s (a + 1) (65536 - fr) with
  | .no w => .no w
  | .yes e t => .yes e ⟨0, t, []⟩
 else if a < s.length ∧ gb s a = 43 then
  match qokF s (a + 1) (65536 - to) with
  | .no w => .no w
  | .yes e t => .yes e ⟨0, [], t⟩
 else .no a
theorem zLt {s : List UInt8} {a room e : Nat} {t : List UInt8} (h : qokF s a room = .yes e t) : a < e ∧ e ≤ s.length ∧ t.length ≤ room ∧ t ≠ [] ∧ yG t = sub s a e ∧ quotF s a = .yes e t := by
 unfold qokF at h
 cases hq : quotF s a with
 | no w => rw [hq] at h; cases h
 | yes e1 t1 =>
  rw [hq] at h
  simp only at h
  split at h
  ·cases h
  ·next h1 =>
   cases h
   simp only [not_or, Decidable.not_not] at h1
   have := zNv hq
   exact ⟨this.1, this.2.1, by omega, h1.1, h1.2.1, rfl⟩
theorem zMJ {s : List UInt8} {a fr to e n : Nat} (h : numF s a fr to = .yes e n) : a < e ∧ e ≤ s.length ∧ n ≤ 65536 - fr ∧ n ≤ 65536 - to := by
 unfold numF at h
 split at h
 ·next h1 =>
  split at h
  ·cases h
  ·next h2 =>
   cases h
   have h3 := zLh s s.length (a + 1) h1.1
   rw [numE, if_pos ⟨h1.1, by omega, by omega⟩] at h2 ⊢
   omega
 ·cases h
theorem zLj {s : List UInt8} {a fr to e : Nat} {x : Stp} (h : stepF s a fr to = .yes e x) (hf : fr ≤ 65536) (ht : to ≤ 65536) :
  a < e ∧ e ≤ s.length ∧ 0 ≤ x.k ∧ fr + x.k.toNat + x.d.length ≤ 65536 ∧ to + x.k.toNat + x.p.length ≤ 65536 := by
 unfold stepF at h
 split at h
 ·cases hq : numF s (a + 1) fr to with
  | no w => rw [hq] at h; cases h
  | yes e1 n =>
   rw [hq] at h
   cases h
   have := zMJ hq
   simp only [List.length_nil, Int.toNat_natCast]
   omega
 ·split at h
  ·cases hq : qokF s (a + 1) (65536 - fr) with
   | no w => rw [hq] at h; cases h
   | yes e1 n =>
    rw [hq] at h
    cases h
    have := zLt hq
    simp only [List.length_nil, Int.toNat_zero]
    omega
  ·split at h
   ·cases hq : qokF s (a + 1) (65536 - to) with
    | no w => rw [hq] at h; cases h
    | yes e1 n =>
     rw [hq] at h
     cases h
     have := zLt hq
     simp only [List.length_nil, Int.toNat_zero]
     omega
   ·cases h
def readF (s : List UInt8) : Nat → Nat → Nat → Nat → List Stp → Got (List Stp)
 | 0, a, _, _, _ => .no a
 | f + 1, a, fr, to, l =>
  if a < s.length then
   if l ≠ [] ∧ gb s a ≠ 32 then .no a
   else match stepF s (if l = [] then a else a + 1) fr to with
    | .no w => .no w
    | .yes e x => readF s f e (fr + x.k.toNat + x.d.length) (to + x.k.toNat + x.p.length) (l ++ [x])
  else .yes a l
end Go.Eng
namespace Go.Eng
open Go
def Pc.nb (p : Pc) : List Value := [.int .i64 (p.at_ : Int), .int .i64 (p.w : Int), .int .i32 (p.r : Int), .bool false]
def Pc.nz (p : Pc) : List Value := [.int .i64 (p.at_ : Int), .int .i64 0, .int .i32 (p.r : Int), .bool false]
theorem uS (l : List UInt8) : ∀ (d k : Nat), l.length - k ≤ d → (xD l k).length ≤ l.length - k
 | d, k, h => by
  by_cases hk : k < l.length
  ·have hw := wQ hk
   rw [yQ hk, List.length_cons]
   cases d with
   | zero => omega
   | succ d =>
    have := uS l d (k + (zK l k).w) (by omega)
    omega
  ·rw [xZ hk]; exact Nat.zero_le _
end Go.Eng
namespace ZP
open Go Go.Eng
attribute [local irreducible] WL WC WQ QFun zJ Does Q1 zD zB Go.Addr.add
attribute [local irreducible] zK zC dl xD
theorem zKT (l : List UInt8) (hl : l.length ≤ 1000000) (w0 : World) (m : Mem) (H : SHeap) :
  Does Tryz.prog 167 #[str l] w0 m H (fun v m' H' => m' = m ∧ ∃ c cp, v = .slice c (zC l).length cp ∧ H' = .row c cp 267 4 ((zC l).map Pc.cs) :: H) := by
 refine Does.of_body func167 rfl ntmps167 rfl ?_
 have hcnt := uS l _ 0 (Nat.le_refl _)
 have hp0 : zC l = xD l 0 := by unfold zC; rfl
 refine st ?_; intros; rename_i it
 refine WC.newRow (T := 267) (sz := 4) ?_
 refine lpz (fun j r ds m' H' => ∃ (k : Nat) (c : Option Addr) (cp : Nat) (es : List (List Value)) (pre : List Pc), j = l.length - k ∧ r = [(8, .pp it), (3, .slice c pre.length cp), (0, str l)] ∧ ds = [] ∧ m = m' ∧ H' = .row c cp 267 4 es :: .blk it (.stringIter ⟨l.toArray⟩ k) :: H ∧ (zC l = pre ++ xD l k) ∧ ((pre = [] ∧ es = []) ∨ ∃ ps p, pre = ps ++ [p] ∧ es = ps.map Pc.nb ++ [p.nz] ∧ p.at_ + p.w = k) ∧ (k ≤ l.length)) (l.length - (0)) ⟨0, none, 0, ([] : List (List Value)), ([] : List Pc), rfl, rfl, rfl, rfl, rfl, hp0, .inl ⟨rfl, rfl⟩, Nat.zero_le _⟩ ?_
 rintro j r ds m' H' ⟨k, c, cp, es, pre, rfl, rfl, rfl, rfl, rfl, hp, hes, hkl⟩
 have hpl : pre.length ≤ l.length := by have := congrArg List.length hp; rw [List.length_append] at this; rw [hp0] at this; omega
 have hel : es.length = pre.length := by
  rcases hes with ⟨rfl, rfl⟩ | ⟨ps, p, rfl, rfl, _⟩
  ·rfl
  ·simp
 by_cases hk : k < l.length
 ·have hw := wQ hk
  have hwe := qG l k
  have hre := qD l k
  have em : [Value.int .i64 (k : Int), .int .i64 0, .int .i32 ((dl (l.drop k)).1 : Int), .bool false] = (zK l k).nz := by unfold Pc.nz; rw [vJ, qD]
  rw [yQ hk] at hp
  rcases hes with ⟨rfl, rfl⟩ | ⟨ps, p, rfl, rfl, hpk⟩
  ·have h0 : ([] : List Pc).length = 0 := rfl
   refine st ?_; intros; rename_i q c2 cp2
   rw [List.nil_append, em]
   refine nxz (l.length - (k + (dl (l.drop k)).2)) ⟨k + (dl (l.drop k)).2, c2, cp2, [(zK l k).nz], [zK l k], rfl, rfl, rfl, rfl, rfl, ?_, ?_, ?_⟩
   ·rw [hp, hwe]; rfl
   ·refine .inr ⟨[], zK l k, rfl, rfl, ?_⟩
    rw [vJ, hwe]
   ·omega
  ·have h1 : (ps ++ [p]).length = ps.length + 1 := by simp
   have hget : (ps.map Pc.nb ++ [p.nz])[(ps ++ [p]).length - 1]? = some p.nz := by rw [h1]; simp
   have hset : ∀ e, (ps.map Pc.nb ++ [p.nz]).set ((ps ++ [p]).length - 1) e = ps.map Pc.nb ++ [e] := fun e => by rw [h1]; simp
   have hwp : (k : Int) - (p.at_ : Int) = (p.w : Int) := by omega
   refine WC.rowSome (a := c) (es := ps.map Pc.nb ++ [p.nz]) zhs (by simp) ?_
   rintro c0 rfl
   generalize hE : ps.map Pc.nb ++ [p.nz] = E at *
   have e : [Value.int .i64 (p.at_ : Int), .int .i64 ((k : Int) - (p.at_ : Int)), .int .i32 (p.r : Int), .bool false] = p.nb := by rw [hwp]; rfl
   have hFl : (ps.map Pc.nb ++ [p.nb]).length = (ps ++ [p]).length := by simp
   have en : (ps ++ [p]).length + 1 = (ps ++ [p] ++ [zK l k]).length := by simp
   refine st ?_; intros; rename_i q
   rw [hset, e]
   generalize hF : ps.map Pc.nb ++ [p.nb] = F at *
   refine st ?_; intros; rename_i c2 cp2
   rw [em, hFl, en]
   refine nxz (l.length - (k + (dl (l.drop k)).2)) ⟨k + (dl (l.drop k)).2, c2, cp2, F ++ [(zK l k).nz], ps ++ [p] ++ [zK l k], rfl, rfl, rfl, rfl, rfl, ?_, ?_, ?_⟩
   ·rw [hp, hwe]; simp
   ·refine .inr ⟨ps ++ [p], zK l k, rfl, ?_, ?_⟩
    ·rw [← hF]; simp
    ·rw [vJ, hwe]
   ·omega
 ·obtain rfl : k = l.length := by omega
  rw [xZ hk, List.append_nil] at hp
  rw [hp]
  rcases hes with ⟨rfl, rfl⟩ | ⟨ps, p, rfl, rfl, hpk⟩
  ·have h0 : ([] : List Pc).length = 0 := rfl
   try (refine st ?_; intros)
   refine lpz (fun j r ds m' H' => ∃ (u : Nat), j = 2 * u ∧ r = [(6, .int .i64 0), (3, .slice c ([] : List Pc).length cp)] ∧ ds = [] ∧ m = m' ∧ H' = .row c cp 267 4 [] :: H) (2 * (0)) ⟨0, rfl, rfl, rfl, rfl, rfl⟩ ?_
   rintro j r ds m' H' ⟨u, rfl, rfl, rfl, rfl, rfl⟩
   try (refine st ?_; intros)
   exact q_fz ⟨rfl, c, cp, rfl, rfl⟩
  ·have h1 : (ps ++ [p]).length = ps.length + 1 := by simp
   have hget : (ps.map Pc.nb ++ [p.nz])[(ps ++ [p]).length - 1]? = some p.nz := by rw [h1]; simp
   have hset : ∀ e, (ps.map Pc.nb ++ [p.nz]).set ((ps ++ [p]).length - 1) e = ps.map Pc.nb ++ [e] := fun e => by rw [h1]; simp
   have hwp : (l.length : Int) - (p.at_ : Int) = (p.w : Int) := by omega
   refine WC.rowSome (a := c) (es := ps.map Pc.nb ++ [p.nz]) zhs (by simp) ?_
   rintro c0 rfl
   generalize hE : ps.map Pc.nb ++ [p.nz] = E at *
   have e : [Value.int .i64 (p.at_ : Int), .int .i64 ((l.length : Int) - (p.at_ : Int)), .int .i32 (p.r : Int), .bool false] = p.nb := by rw [hwp]; rfl
   have hps : ps ++ [p] = zC l := hp.symm
   have hE2 : ps.map Pc.nb ++ [p.nb] = (zC l).map Pc.nb := by rw [hp]; simp
   have hcn : (zC l).length ≤ 1000000 := by rw [hp0]; omega
   try (refine st ?_; intros)
   rw [hset, e, hE2]
   rw [hps] at h1 hel ⊢
   refine lpz (fun j r ds m' H' => ∃ (i : Nat) (es : List (List Value)), j = (zC l).length - i ∧ r = [(6, .int .i64 (i : Int)), (3, .slice (some c0) (zC l).length cp)] ∧ ds = [] ∧ m = m' ∧ H' = .row (some c0) cp 267 4 es :: H ∧ (i ≤ (zC l).length) ∧ (es = ((zC l).take i).map Pc.cs ++ ((zC l).drop i).map Pc.nb)) ((zC l).length - (0)) ⟨0, (zC l).map Pc.nb, rfl, rfl, rfl, rfl, rfl, Nat.zero_le _, by simp⟩ ?_
   rintro j r ds m' H' ⟨i, es, rfl, rfl, rfl, rfl, rfl, hi, hes⟩
   have hel2 : es.length = (zC l).length := by rw [hes]; simp; omega
   by_cases hlt : i < (zC l).length
   ·have hmem : (zC l)[i] ∈ zC l := List.getElem_mem hlt
    have hbr := zG9 hmem
    generalize hpi : (zC l)[i] = pi at *
    have hget : es[i]? = some pi.nb := by
     rw [hes, List.getElem?_append_right (by simp; omega)]
     simp only [List.length_map, List.length_take, Nat.min_eq_left (Nat.le_of_lt hlt), Nat.sub_self]
     rw [List.drop_eq_getElem_cons hlt, hpi]; rfl
    have hset2 : es.set i pi.cs = ((zC l).take (i + 1)).map Pc.cs ++ ((zC l).drop (i + 1)).map Pc.nb := by
     rw [hes, List.set_append_right _ _ (by simp; omega)]
     simp only [List.length_map, List.length_take, Nat.min_eq_left (Nat.le_of_lt hlt), Nat.sub_self]
     rw [List.drop_eq_getElem_cons hlt, hpi, List.take_succ_eq_append_getElem hlt, hpi]
     simp
    by_cases hr : pi.r = 65533
    ·by_cases hw1 : pi.w = 1
     ·have hb : pi.b = true := hbr.2 ⟨hr, hw1⟩
      have ec : [Value.int .i64 (pi.at_ : Int), .int .i64 (pi.w : Int), .int .i32 (pi.r : Int), .bool (dcd ((pi.w : Int) = 1))] = pi.cs := by unfold Pc.cs; rw [hb, zE (by omega)]
      try (refine st ?_; intros)
      rw [ec, hset2]
      refine nxz ((zC l).length - (i + 1)) ⟨i + 1, ((zC l).take (i + 1)).map Pc.cs ++ ((zC l).drop (i + 1)).map Pc.nb, rfl, rfl, rfl, rfl, rfl, ?_, ?_⟩
      ·omega
      ·rfl
     ·have hb : pi.b = false := by
       cases hh : pi.b with
       | false => rfl
       | true => exact absurd (hbr.1 hh).2 hw1
      have ec : [Value.int .i64 (pi.at_ : Int), .int .i64 (pi.w : Int), .int .i32 (pi.r : Int), .bool (dcd ((pi.w : Int) = 1))] = pi.cs := by unfold Pc.cs; rw [hb, zH (by omega)]
      try (refine st ?_; intros)
      rw [ec, hset2]
      refine nxz ((zC l).length - (i + 1)) ⟨i + 1, ((zC l).take (i + 1)).map Pc.cs ++ ((zC l).drop (i + 1)).map Pc.nb, rfl, rfl, rfl, rfl, rfl, ?_, ?_⟩
      ·omega
      ·rfl
    ·have hb : pi.b = false := by
      cases hh : pi.b with
      | false => rfl
      | true => exact absurd (hbr.1 hh).1 hr
     have ec : [Value.int .i64 (pi.at_ : Int), .int .i64 (pi.w : Int), .int .i32 (pi.r : Int), .bool false] = pi.cs := by unfold Pc.cs; rw [hb]
     try (refine st ?_; intros)
     rw [ec, hset2]
     refine nxz ((zC l).length - (i + 1)) ⟨i + 1, ((zC l).take (i + 1)).map Pc.cs ++ ((zC l).drop (i + 1)).map Pc.nb, rfl, rfl, rfl, rfl, rfl, ?_, ?_⟩
     ·omega
     ·rfl
   ·obtain rfl : i = (zC l).length := by omega
    rw [List.take_length, List.drop_length, List.map_nil, List.append_nil] at hes
    subst hes
    try (refine st ?_; intros)
    exact q_fz ⟨rfl, some c0, cp, rfl, rfl⟩
end ZP
namespace Go.Eng
open Go Go.RowKit
section
variable {x y : Operand} {t t' : TypeId} {a b : Int}
theorem WL.quo8 (hx : r.ev x = some (.int .u8 a)) (hy : r.ev y = some (.int .u8 b)) (hd : Nat.blt d n = true) (ha : 0 ≤ a ∧ a ≤ 255) (hb : 1 ≤ b)
  (h : WL P ro n w0 ops Q l ((d, .int .u8 (a / b)) :: r) ds m H) : WL P ro n w0 ops Q (⟨some d, .binOp .quo t x y t', ty, pos, after, none⟩ :: l) r ds m H := by
 refine .quo hx hy hd (by omega) ?_
 have h1 : a.tdiv b = a / b := Int.tdiv_eq_ediv_of_nonneg ha.1
 have h2 : a / b ≤ a := Int.ediv_le_self _ ha.1
 have h3 : 0 ≤ a / b := Int.ediv_nonneg ha.1 (by omega)
 rw [h1, qH ⟨h3, by omega⟩]
 exact h
theorem WL.rem8 (hx : r.ev x = some (.int .u8 a)) (hy : r.ev y = some (.int .u8 b)) (hd : Nat.blt d n = true) (ha : 0 ≤ a) (hb : 1 ≤ b)
  (h : WL P ro n w0 ops Q l ((d, .int .u8 (a % b)) :: r) ds m H) : WL P ro n w0 ops Q (⟨some d, .binOp .rem t x y t', ty, pos, after, none⟩ :: l) r ds m H := by
 refine .rem hx hy hd (by omega) ?_
 rw [Int.tmod_eq_emod_of_nonneg ha]
 exact h
end
theorem qT (s t : List UInt8) : bCs s ++ bCs t = bCs (s ++ t) := by simp [bCs]
theorem zHo (s : List UInt8) : ∀ q ∈ bCs s, q.all okCell = true := fun q hq => by
 obtain ⟨c, _, rfl⟩ := List.mem_map.1 hq; rfl
theorem zAV (s : List UInt8) : ∀ q ∈ bCs s, q.length = 1 := fun q hq => by
 obtain ⟨c, _, rfl⟩ := List.mem_map.1 hq; rfl
theorem uM : ∀ (k n : Nat), n < 16 ^ (k + 1) → (hexL n).length ≤ k + 1
 | 0, n, h => by
  rw [hexL, if_pos (by simpa using h)]; exact Nat.le_refl _
 | k + 1, n, h => by
  rw [hexL]
  by_cases h1 : n < 16
  ·rw [if_pos h1]; simp
  ·rw [if_neg h1, List.length_append, List.length_singleton]
   have := uM k (n / 16) (by rw [Nat.div_lt_iff_lt_mul (by omega)]; rw [Nat.pow_succ] at h; exact h)
   omega
theorem qJ (s : List UInt8) (p : Pc) (h : p.r ≤ 1114111) : (zL s p).length ≤ 12 := by
 have := uM 5 p.r (by omega)
 unfold zL
 split
 ·simp
 ·split
  ·simp
  ·split
   ·simp
   ·simp only [List.length_append, List.length_cons, List.length_nil]; omega
end Go.Eng
namespace ZP
open Go Go.Eng
attribute [local irreducible] WL WC WQ QFun zJ Does Q1 zD zB Go.Addr.add
namespace ZEP3a
theorem zal {G G' : Prop} (next : G') (h : Bx G' → G := by intro zzn; (first | (refine WL.quo8 rfl rfl rfl (by omega) (by omega) ?_) | (refine WL.rem8 rfl rfl rfl (by omega) (by omega) ?_)); (repeat revert zzf); exact zzn.out) : G := h ⟨next⟩
end ZEP3a
attribute [local irreducible] zK zC dl xD zL hexHi
open ZEP3a in
theorem zDn (s : List UInt8) (hs : s.length ≤ 1000000) (w0 : World) (m : Mem) (H : SHeap) :
  Does Tryz.prog 123 #[str s] w0 m H (Gives (str (yG s)) m H) := by
 refine Does.of_body func123 rfl ntmps123 rfl ?_
 refine WC.newRow (T := 5) (sz := 1) ?_
 have eG : ∀ (z : Int) (k : Nat), z = (k : Int) → (gb [48, 49, 50, 51, 52, 53, 54, 55, 56, 57, 97, 98, 99, 100, 101, 102] z.toNat : Int) = ((hexB k).toNat : Int) := by rintro z k rfl; rfl
 have hp0 : zC s = xD s 0 := by unfold zC; rfl
 have hpl : (zC s).length ≤ s.length := by have := uS s _ 0 (Nat.le_refl _); rw [hp0]; omega
 have h0 : ([] : List (List Value)).length = 0 := rfl
 refine stg ?_; intros; rename_i a1 a2 c1
 refine zA func167 ?_ (hs := zKT s hs _ _ _)
 rintro v m H1 ⟨rfl, cp0, kp, rfl, rfl⟩
 rw [List.nil_append, show ([[Value.int .u8 34]] : List (List Value)) = bCs [34] from rfl]
 try (refine stg ?_; intros)
 refine lpz (fun j r ds m' H' => ∃ (i : Nat) (a9 : Option Addr) (c9 : Nat) (n9 : Nat) (O : List UInt8), j = (zC s).length - i ∧ r = [(5, .int .i64 (i : Int)), (4, .slice cp0 (zC s).length kp), (0, str s), (3, .slice a9 n9 c9)] ∧ ds = [] ∧ m = m' ∧ H' = .row a9 c9 5 1 (bCs O) :: .row cp0 kp 267 4 ((zC s).map Pc.cs) :: H ∧ (i ≤ (zC s).length) ∧ (n9 = O.length) ∧ (O = [34] ++ xX s ((zC s).take i)) ∧ (O.length ≤ 1 + 12 * i)) ((zC s).length - (0)) ⟨0, a2, c1, 1, [34], rfl, rfl, rfl, rfl, rfl, Nat.zero_le _, rfl, rfl, by simp⟩ ?_
 rintro j r ds m' H' ⟨i, a9, c9, n9, O, rfl, rfl, rfl, rfl, rfl, hi, hn9, hO, hOl⟩
 subst hn9
 have hbl := zS O
 by_cases hlt : i < (zC s).length
 ·obtain ⟨x, hx, hget, htk, hmem, hdr⟩ := zBj (f := Pc.cs) hlt
  refine WC.rowSome (a := cp0) (es := (zC s).map Pc.cs) zhs (by simp; omega) ?_
  rintro p0 rfl
  obtain ⟨_, hax, hrx⟩ := vT hmem
  have hrl : x.r ≤ 1114111 := by have := qZ (jZ hax); rw [← hrx] at this; exact this
  have hW := qJ s x hrl
  have hnext : O ++ zL s x = [34] ++ xX s ((zC s).take (i + 1)) := by
   rw [hO, htk]; unfold xX; rw [List.flatMap_append]; simp
  have e0 : (x.cs)[0]? = some (.int .i64 (x.at_ : Int)) := rfl
  have e2 : (x.cs)[2]? = some (.int .i32 (x.r : Int)) := rfl
  have e3 : (x.cs)[3]? = some (.bool x.b) := rfl
  generalize hE : (zC s).map Pc.cs = E at *
  have h256 : x.r < 256 → (x.r : Int) = ((UInt8.ofNat x.r).toNat : Int) := fun h => by rw [UInt8.toNat_ofNat']; omega
  have hOn : O.length + (zL s x).length ≤ 1 + 12 * (i + 1) := by omega
  cases hb : x.b with
  | true =>
   rw [hb] at e3
   have hg : gb s x.at_ < 256 := zIz s x.at_
   have hw : zL s x = [92, 120, hexB (gb s x.at_ / 16), hexB (gb s x.at_ % 16)] := by unfold zL; rw [if_pos hb]
   have hl16 : ([48, 49, 50, 51, 52, 53, 54, 55, 56, 57, 97, 98, 99, 100, 101, 102] : List UInt8).length = 16 := rfl
   have hwl : (bCs (zL s x)).length = 4 := by rw [hw]; rfl
   have eL : [Value.int .u8 92, .int .u8 120, .int .u8 ((hexB (gb s x.at_ / 16)).toNat : Int), .int .u8 ((hexB (gb s x.at_ % 16)).toNat : Int)] = (bCs (zL s x)).flatten := by rw [hw]; rfl
   have el : (bCs O).length + (bCs (zL s x)).length = (O ++ zL s x).length := by rw [zS, zS, List.length_append]
   try (refine stg ?_; intros)
   refine wdw 9 ([]) ?_
   refine cmg ?_
   refine wa1 7 ?_
   refine stg ?_; intros; rename_i q
   rw [eG ((gb s x.at_ : Int) / 16) (gb s x.at_ / 16) (by omega), eG ((gb s x.at_ : Int) % 16) (gb s x.at_ % 16) (by omega)]
   refine waz [.bl q [.int .u8 92, .int .u8 120, .int .u8 ((hexB (gb s x.at_ / 16)).toNat : Int), .int .u8 ((hexB (gb s x.at_ % 16)).toNat : Int)] 5] zml ?_
   refine wa1 8 ?_
   refine WL.appendR (es := bCs O) (es' := bCs (zL s x)) (by' := 1) rfl rfl rfl rfl (by (repeat (first | exact Out.here | apply Out.there))) (yZ (T := 5) (fz := (0, 0)) (L := [.int .u8 92, .int .u8 120, .int .u8 ((hexB (gb s x.at_ / 16)).toNat : Int), .int .u8 ((hexB (gb s x.at_ % 16)).toNat : Int)]) zhs eL (zAV _)) (zHo _) (zAV _) rfl rfl rfl rfl hbl.symm hwl.symm (by rw [hbl, hwl]; omega) (by omega) rfl ?_
   intro a8 c8
   rw [qT, el]
   try (refine stg ?_; intros)
   refine waz [] zml ?_
   refine wdz ?_
   try (refine stg ?_; intros)
   refine nxz ((zC s).length - (i + 1)) ⟨i + 1, a8, c8, (O ++ zL s x).length, O ++ zL s x, rfl, rfl, rfl, rfl, rfl, ?_, ?_, ?_, ?_⟩
   ·omega
   ·rfl
   ·exact hnext
   ·rw [List.length_append]; omega
  | false =>
   rw [hb] at e3
   by_cases h34 : x.r = 34 ∨ x.r = 92
   ·have hw : zL s x = [92, UInt8.ofNat x.r] := by unfold zL; rw [if_neg (by rw [hb]; decide), if_pos h34]
    have hwl : (bCs (zL s x)).length = 2 := by rw [hw]; rfl
    have eL : [Value.int .u8 92, .int .u8 (x.r : Int)] = (bCs (zL s x)).flatten := by rw [h256 (by omega), hw]; rfl
    have el : (bCs O).length + (bCs (zL s x)).length = (O ++ zL s x).length := by rw [zS, zS, List.length_append]
    rcases h34 with h34 | h34
    all_goals
     refine stg ?_; intros; rename_i q
     refine WL.appendR (es := bCs O) (es' := bCs (zL s x)) (by' := 1) rfl rfl rfl rfl (by (repeat (first | exact Out.here | apply Out.there))) (yZ (T := 5) (fz := (0, 0)) (L := [.int .u8 92, .int .u8 (x.r : Int)]) zhs eL (zAV _)) (zHo _) (zAV _) rfl rfl rfl rfl hbl.symm hwl.symm (by rw [hbl, hwl]; omega) (by omega) rfl ?_
     intro a8 c8
     rw [qT, el]
     try (refine stg ?_; intros)
     refine nxz ((zC s).length - (i + 1)) ⟨i + 1, a8, c8, (O ++ zL s x).length, O ++ zL s x, rfl, rfl, rfl, rfl, rfl, ?_, ?_, ?_, ?_⟩
     ·omega
     ·rfl
     ·exact hnext
     ·rw [List.length_append]; omega
   ·by_cases h32 : 32 ≤ x.r ∧ x.r ≤ 126
    ·have hw : zL s x = [UInt8.ofNat x.r] := by unfold zL; rw [if_neg (by rw [hb]; decide), if_neg h34, if_pos h32]
     have ea : bCs O ++ [[Value.int .u8 (x.r : Int)]] = bCs (O ++ zL s x) := by rw [h256 (by omega), hw, ← qT]; rfl
     have el : (bCs O).length + 1 = (O ++ zL s x).length := by rw [hbl, hw]; simp
     refine stg ?_; intros; rename_i q a8 c8
     rw [ea, el]
     refine nxz ((zC s).length - (i + 1)) ⟨i + 1, a8, c8, (O ++ zL s x).length, O ++ zL s x, rfl, rfl, rfl, rfl, rfl, ?_, ?_, ?_, ?_⟩
     ·omega
     ·rfl
     ·exact hnext
     ·rw [List.length_append]; omega
    ·have hw : zL s x = [92, 123] ++ hexL x.r ++ [125] := by unfold zL; rw [if_neg (by rw [hb]; decide), if_neg h34, if_neg h32]
     have hl16 : ([48, 49, 50, 51, 52, 53, 54, 55, 56, 57, 97, 98, 99, 100, 101, 102] : List UInt8).length = 16 := rfl
     rcases (show x.r < 32 ∨ (32 ≤ x.r ∧ 126 < x.r) by omega) with h33 | h33
     all_goals
      refine stg ?_; intros; rename_i q
      rw [eG _ (x.r % 16) (by omega)]
      refine WL.blkStr (s := [hexB (x.r % 16)]) rfl zhs rfl rfl rfl rfl rfl rfl rfl ?_
      try (refine stg ?_; intros)
      refine lpz (fun j r ds m' H' => ∃ (u : Nat) (d : List UInt8), j = 2 * u ∧ r = [(6, .int .i32 (u : Int)), (8, str d), (5, .int .i64 (i : Int)), (4, .slice (some p0) (zC s).length kp), (0, str s), (3, .slice a9 O.length c9)] ∧ ds = [] ∧ m = m' ∧ H' = .row a9 c9 5 1 (bCs O) :: .row (some p0) kp 267 4 E :: H ∧ (hexHi u ++ d = hexL x.r) ∧ (u ≤ x.r ∧ d.length + u ≤ x.r + 1)) (2 * (x.r)) ⟨x.r, [hexB (x.r % 16)], rfl, rfl, rfl, rfl, rfl, zII x.r, ⟨Nat.le_refl _, by simp; omega⟩⟩ ?_
      rintro j r ds m' H' ⟨u, d, rfl, rfl, rfl, rfl, rfl, hd, hv⟩
      by_cases h9 : 15 < u
      ·have e2 : (u : Int) / 16 = ((u / 16 : Nat) : Int) := by omega
       have hl1 : ([hexB (u / 16 % 16)] : List UInt8).length = 1 := rfl
       refine stg ?_; intros; rename_i q2
       rw [eG _ (u / 16 % 16) (by omega)]
       refine WL.blkStr (s := [hexB (u / 16 % 16)]) rfl zhs rfl rfl rfl rfl rfl rfl rfl ?_
       try (refine stg ?_; intros)
       rw [e2]
       refine nxz (2 * (u / 16)) ⟨u / 16, [hexB (u / 16 % 16)] ++ d, rfl, rfl, rfl, rfl, rfl, ?_, ?_⟩
       ·rw [← hd, ← List.append_assoc, zII, hexHi, if_pos h9]
       ·rw [List.length_append, List.length_singleton]; omega
      ·have ed : d = hexL x.r := by rw [← hd, hexHi, if_neg h9]; rfl
       subst ed
       have hx5 := uM 5 x.r (by omega)
       have l2 : ([92, 123] : List UInt8).length = 2 := rfl
       have l3 : ([92, 123] ++ hexL x.r).length = 2 + (hexL x.r).length := by rw [List.length_append]; rfl
       have l1 : ([125] : List UInt8).length = 1 := rfl
       have l4 : ([92, 123] ++ hexL x.r ++ [125]).length = (zL s x).length := by rw [hw]
       have el : (bCs O).length + (zL s x).length = (O ++ zL s x).length := by rw [zS, List.length_append]
       have em : (bCs O ++ List.map (fun b => [Value.int .u8 (b.toNat : Int)]) ([92, 123] ++ hexL x.r ++ [125])) = bCs (O ++ zL s x) := by rw [← hw, ← qT]; rfl
       refine stg ?_; intros; rename_i a8 c8
       rw [em, l4, el]
       refine nxz ((zC s).length - (i + 1)) ⟨i + 1, a8, c8, (O ++ zL s x).length, O ++ zL s x, rfl, rfl, rfl, rfl, rfl, ?_, ?_, ?_, ?_⟩
       ·omega
       ·rfl
       ·exact hnext
       ·rw [List.length_append]; omega
 ·obtain rfl : i = (zC s).length := by omega
  rw [List.take_length] at hO
  have hq : O ++ [34] = yG s := by rw [hO]; rfl
  have ea : bCs O ++ [[Value.int .u8 34]] = bCs (O ++ [34]) := by rw [← qT]; rfl
  have el : (bCs O).length + 1 = (O ++ [34]).length := by rw [hbl]; simp
  try (refine stg ?_; intros)
  rw [ea, el]
  refine WL.rowStr (s := O ++ [34]) rfl rfl zhs rfl rfl rfl rfl rfl ?_
  rw [hq]
  try (refine stg ?_; intros)
  exact q_fz zgm
end ZP
namespace Go.Eng
open Go Go.RowKit
theorem yN : ∀ (k n : Nat), n < 10 ^ (k + 1) → (decL n).length ≤ k + 1
 | 0, n, h => by
  rw [decL, if_pos (by simpa using h)]; exact Nat.le_refl _
 | k + 1, n, h => by
  rw [decL]
  by_cases h1 : n < 10
  ·rw [if_pos h1]; simp
  ·rw [if_neg h1, List.length_append, List.length_singleton]
   have := yN k (n / 10) (by rw [Nat.div_lt_iff_lt_mul (by omega)]; rw [Nat.pow_succ] at h; exact h)
   omega
theorem kH (s : List UInt8) : ∀ (l : List Pc), (∀ p ∈ l, p.r ≤ 1114111) → (xX s l).length ≤ 12 * l.length
 | [], _ => Nat.le_refl _
 | p :: l, h => by
  have h1 := qJ s p (h p List.mem_cons_self)
  have h2 := kH s l fun q hq => h q (List.mem_cons_of_mem _ hq)
  unfold xX at h2 ⊢
  rw [List.flatMap_cons, List.length_append, List.length_cons]; omega
theorem wS (s : List UInt8) : (yG s).length ≤ 2 + 12 * s.length := by
 have h1 := kH s (zC s) fun p hp => by
  obtain ⟨_, h2, h3⟩ := vT hp
  have := qZ (jZ h2)
  rw [← h3] at this; exact this
 have h2 : (zC s).length ≤ s.length := by have := uS s _ 0 (Nat.le_refl _); rw [show zC s = xD s 0 by unfold zC; rfl]; omega
 unfold yG
 simp only [List.length_append, List.length_cons, List.length_nil]; omega
end Go.Eng
namespace ZP
open Go Go.Eng
attribute [local irreducible] WL WC WQ QFun zJ Does Q1 zD zB Go.Addr.add
attribute [local irreducible] yG stpW yM
theorem zEA (z : Int) (hz : 0 ≤ z ∧ z ≤ 1000000000) (w0 : World) (m : Mem) (H : SHeap) : Does Tryz.prog 122 #[.int .i64 z] w0 m H (Gives (str (decL z.toNat)) m H) := by
 obtain ⟨n, rfl⟩ : ∃ n : Nat, z = n := ⟨z.toNat, by omega⟩
 exact zEZ n (by omega) w0 m H
namespace ZEP4a
theorem zal {G G' : Prop} (next : G') (h : Bx G' → G := by intro zzn; (first | (refine iF 122 rfl ?_; refine zU func122 ?_ (hs := zEA _ (by omega) _ _ _)) | (refine iF 123 rfl ?_; refine zU func123 ?_ (hs := zDn _ (by omega) _ _ _))); (repeat revert zzf); exact zzn.out) : G := h ⟨next⟩
end ZEP4a
end ZP
namespace Go.Eng
open Go
theorem z8 {s : List UInt8} {a : Nat} {c : UInt8} {r : List UInt8} (h : s.drop a = c :: r) : a < s.length ∧ gb s a = c.toNat ∧ s.drop (a + 1) = r := by
 have h1 : a < s.length := by
  rcases Nat.lt_or_ge a s.length with h1 | h1
  ·exact h1
  ·rw [List.drop_eq_nil_of_le h1] at h; cases h
 rw [List.drop_eq_getElem_cons h1] at h
 injection h with h2 h3
 refine ⟨h1, ?_, h3⟩
 unfold gb
 rw [List.getD_eq_getElem?_getD, List.getElem?_eq_getElem h1, Option.getD_some, h2]
theorem zLY {s X B : List UInt8} {a : Nat} (h : s.drop a = X ++ B) : s.drop (a + X.length) = B := by
 rw [← List.drop_drop, h, List.drop_left]
theorem zNB {s X B : List UInt8} {a : Nat} (h : s.drop a = X ++ B) : sub s a (a + X.length) = X := by
 unfold sub
 rw [h, show a + X.length - a = X.length by omega, List.take_left]
theorem zMd {s X B : List UInt8} {a : Nat} (ha : a ≤ s.length) (h : s.drop a = X ++ B) : a + X.length ≤ s.length := by
 have := congrArg List.length h
 rw [List.length_drop, List.length_append] at this; omega
theorem zMD {s : List UInt8} : ∀ (X B : List UInt8) (f n a : Nat), s.drop a = X ++ B → (∀ c ∈ X, 0 ≤ hexV c) → X.length ≤ f → (∀ c, B.head? = some c → hexV c < 0) →
  digF s f n a = (X.length, X.foldl (fun n c => 16 * n + (hexV c).toNat) n, a + X.length)
 | [], B, 0, n, a, h, _, _, _ => rfl
 | [], B, f + 1, n, a, h, _, _, hB => by
  rw [digF, if_neg]
  ·rfl
  ·rintro ⟨h1, h2⟩
   rw [List.nil_append, List.drop_eq_getElem_cons h1] at h
   have h3 := hB (s[a]) (by rw [← h]; rfl)
   have : UInt8.ofNat (gb s a) = s[a] := by unfold gb; rw [List.getD_eq_getElem?_getD, List.getElem?_eq_getElem h1]; simp
   rw [this] at h2
   omega
 | c :: X, B, 0, n, a, h, _, hf, _ => by simp at hf
 | c :: X, B, f + 1, n, a, h, hX, hf, hB => by
  obtain ⟨h1, h2, h3⟩ := z8 h
  have e : UInt8.ofNat (gb s a) = c := by rw [h2]; simp
  have hc := hX c List.mem_cons_self
  rw [digF, e, if_pos ⟨h1, hc⟩, zMD X B f _ (a + 1) h3 (fun q hq => hX q (List.mem_cons_of_mem _ hq)) (by simpa using hf) hB]
  have e2 : a + 1 + X.length = a + (c :: X).length := by rw [List.length_cons]; omega
  rw [e2]; rfl
theorem zDU {d : Nat} (h : d < 16) : hexV (hexB d) = (d : Int) := by
 have all : ∀ i : Fin 16, hexV (hexB i.1) = (i.1 : Int) := by decide
 exact all ⟨d, h⟩
theorem zE4 (n : Nat) : (∀ c ∈ hexL n, 0 ≤ hexV c) ∧ (hexL n).foldl (fun n c => 16 * n + (hexV c).toNat) 0 = n ∧ 1 ≤ (hexL n).length := by
 rw [hexL]
 by_cases h : n < 16
 ·rw [if_pos h]
  have e := zDU h
  refine ⟨fun c hc => ?_, ?_, Nat.le_refl _⟩
  ·rw [List.mem_singleton] at hc; subst hc; omega
  ·simp [e]
 ·rw [if_neg h]
  have e := zDU (show n % 16 < 16 by omega)
  obtain ⟨i1, i2, i3⟩ := zE4 (n / 16)
  refine ⟨fun c hc => ?_, ?_, by rw [List.length_append]; omega⟩
  ·rcases List.mem_append.1 hc with hc | hc
   ·exact i1 c hc
   ·rw [List.mem_singleton] at hc; subst hc; omega
  ·rw [List.foldl_append, i2]
   simp only [List.foldl_cons, List.foldl_nil, e]
   omega
termination_by n
theorem zMI {s : List UInt8} : ∀ (X B : List UInt8) (f a : Nat), s.drop a = X ++ B → (∀ c ∈ X, 48 ≤ c.toNat ∧ c.toNat ≤ 57) → X.length < f → (∀ c, B.head? = some c → ¬ (48 ≤ c.toNat ∧ c.toNat ≤ 57)) → numE s f a = a + X.length
 | _, B, 0, a, _, _, hf, _ => absurd hf (Nat.not_lt_zero _)
 | [], B, f + 1, a, h, _, _, hB => by
  rw [numE, if_neg]
  ·rfl
  ·rintro ⟨h1, h2⟩
   rw [List.nil_append, List.drop_eq_getElem_cons h1] at h
   have h3 := hB (s[a]) (by rw [← h]; rfl)
   have : gb s a = (s[a]).toNat := by unfold gb; rw [List.getD_eq_getElem?_getD, List.getElem?_eq_getElem h1]; rfl
   rw [this] at h2
   exact h3 h2
 | c :: X, B, f + 1, a, h, hX, hf, hB => by
  obtain ⟨h1, h2, h3⟩ := z8 h
  have hc := hX c List.mem_cons_self
  rw [numE, if_pos ⟨h1, by rw [h2]; exact hc⟩, zMI X B f (a + 1) h3 (fun q hq => hX q (List.mem_cons_of_mem _ hq)) (by simpa using hf) hB, List.length_cons]
  omega
theorem zMC {d : Nat} (h : d < 10) : (decB d).toNat = 48 + d := by
 have := zFF h; omega
theorem zK4 (n : Nat) : (∀ c ∈ decL n, 48 ≤ c.toNat ∧ c.toNat ≤ 57) ∧ decV (decL n) = n ∧ (0 < n → ∃ c r, decL n = c :: r ∧ 49 ≤ c.toNat ∧ c.toNat ≤ 57) := by
 rw [decL]
 by_cases h : n < 10
 ·rw [if_pos h]
  have e := zMC h
  refine ⟨fun c hc => ?_, ?_, fun h0 => ⟨_, _, rfl, by omega, by omega⟩⟩
  ·rw [List.mem_singleton] at hc; subst hc; omega
  ·simp only [decV, List.foldl_cons, List.foldl_nil, e]; omega
 ·rw [if_neg h]
  have e := zMC (show n % 10 < 10 by omega)
  obtain ⟨i1, i2, i3⟩ := zK4 (n / 10)
  refine ⟨fun c hc => ?_, ?_, fun _ => ?_⟩
  ·rcases List.mem_append.1 hc with hc | hc
   ·exact i1 c hc
   ·rw [List.mem_singleton] at hc; subst hc; omega
  ·rw [zNh, i2, e]; omega
  ·obtain ⟨c, r, hr, h1, h2⟩ := i3 (by omega)
   exact ⟨c, r ++ _, by rw [hr]; rfl, h1, h2⟩
termination_by n
theorem zNs {s B : List UInt8} {a n fr to : Nat} (ha : a ≤ s.length) (h : s.drop a = decL n ++ B) (hn : 0 < n) (hB : ∀ c, B.head? = some c → ¬ (48 ≤ c.toNat ∧ c.toNat ≤ 57)) (h1 : n ≤ 65536 - fr) (h2 : n ≤ 65536 - to) :
  numF s a fr to = .yes (a + (decL n).length) n := by
 obtain ⟨i1, i2, i3⟩ := zK4 n
 obtain ⟨c, r, hr, h3, h4⟩ := i3 hn
 have hle := zMd ha h
 have hE := zMI (decL n) B (s.length + 1) a h i1 (by omega) hB
 have h5 := h
 rw [hr] at h5
 obtain ⟨h6, h7, _⟩ := z8 h5
 unfold numF
 rw [if_pos ⟨h6, by omega, by omega⟩, hE, zNB h, i2, if_neg (by omega)]
theorem zM3 {s t B : List UInt8} {f a i : Nat} (hi : i < t.length) (h : s.drop a = zL t (zK t i) ++ B) :
  quoF s (f + 1) a (t.take i) = quoF s f (a + (zL t (zK t i)).length) (t.take (i + (zK t i).w)) := by
 have hw := wQ hi
 have hok := jZ hi
 have hat := vJ t i
 have hrl := qZ hok
 have htk : t.take (i + (zK t i).w) = t.take i ++ (t.drop i).take (zK t i).w := by rw [List.take_add]
 rcases uO hi with ⟨e1, e2, e3⟩ | ⟨e1, e2, e3⟩
 ·-- a broken byte
  generalize zK t i = p at *
  have hp : zL t p = [92, 120, hexB (gb t i / 16), hexB (gb t i % 16)] := by unfold zL; rw [if_pos e1, hat]
  have hg := zIz t i
  have v1 := zDU (show gb t i / 16 < 16 by omega)
  have v2 := zDU (show gb t i % 16 < 16 by omega)
  rw [hp] at h ⊢
  obtain ⟨q1, q2, q3⟩ := z8 h
  obtain ⟨q4, q5, q6⟩ := z8 q3
  have hD : digF s 2 0 (a + 1 + 1) = (2, gb t i, a + 1 + 1 + 2) := by
   obtain ⟨q7, q8, q9⟩ := z8 q6
   obtain ⟨q10, q11, q12⟩ := z8 q9
   have c1 : UInt8.ofNat (gb s (a + 1 + 1)) = hexB (gb t i / 16) := by rw [q8]; simp
   have c2 : UInt8.ofNat (gb s (a + 1 + 1 + 1)) = hexB (gb t i % 16) := by rw [q11]; simp
   have e3 : 16 * (16 * 0 + ((gb t i / 16 : Nat) : Int).toNat) + ((gb t i % 16 : Nat) : Int).toNat = gb t i := by omega
   rw [digF, c1, if_pos ⟨q7, by omega⟩, digF, c2, if_pos ⟨q10, by omega⟩, digF, v1, v2, e3]
  have c92 : gb s a = 92 := q2
  have c120 : gb s (a + 1) = 120 := q5
  have hP : partF s (a + 1) = .yes (a + 1 + 1 + 2) [UInt8.ofNat (gb t i)] := by
   unfold partF
   rw [if_neg (by rintro ⟨_, h | h⟩ <;> omega), if_pos ⟨q4, c120⟩, hD]; rfl
  have et : (t.drop i).take 1 = [UInt8.ofNat (gb t i)] := by
   rw [List.drop_eq_getElem_cons hi]
   have : UInt8.ofNat (gb t i) = t[i] := by unfold gb; rw [List.getD_eq_getElem?_getD, List.getElem?_eq_getElem hi]; simp
   rw [this]; rfl
  rw [quoF, if_neg (by rintro ⟨_, h⟩; omega), if_pos ⟨q1, c92⟩, hP, htk, e2, et]
  rfl
 ·have hform : (t.drop i).take (zK t i).w = fmb (zK t i).r := by
   have hb : dl (t.drop i) = ((zK t i).r, (zK t i).w) := by rw [qG, qD]
   rcases vZ (t.drop i) (by simp; omega) with ⟨_, h2, h3⟩ | ⟨h2, _⟩
   ·rw [hb] at h3 h2
    rw [e2]
    exact (qI _ _ hrl).1 h3
   ·exfalso
    unfold zK at e1
    rw [if_pos h2] at e1
    cases e1
  generalize zK t i = p at *
  have hrn : rn (p.r : Int) = p.r := zHQ hok
  rw [htk, hform]
  by_cases h34 : p.r = 34 ∨ p.r = 92
  ·have hp : zL t p = [92, UInt8.ofNat p.r] := by unfold zL; rw [if_neg (by rw [e1]; decide), if_pos h34]
   rw [hp] at h ⊢
   obtain ⟨q1, q2, q3⟩ := z8 h
   obtain ⟨q4, q5, q6⟩ := z8 q3
   have c92 : gb s a = 92 := q2
   have c2 : gb s (a + 1) = p.r := by rw [q5, UInt8.toNat_ofNat']; omega
   have hP : partF s (a + 1) = .yes (a + 1 + 1) [UInt8.ofNat p.r] := by
    unfold partF
    rw [if_pos ⟨q4, by rw [c2]; exact h34⟩, c2]
   have ef : fmb p.r = [UInt8.ofNat p.r] := by unfold fmb fm; rw [if_pos (by omega)]; rfl
   rw [quoF, if_neg (by rintro ⟨_, h⟩; omega), if_pos ⟨q1, c92⟩, hP, ef]
   rfl
  ·by_cases h32 : 32 ≤ p.r ∧ p.r ≤ 126
   ·have hp : zL t p = [UInt8.ofNat p.r] := by unfold zL; rw [if_neg (by rw [e1]; decide), if_neg h34, if_pos h32]
    rw [hp] at h ⊢
    obtain ⟨q1, q2, q3⟩ := z8 h
    have c2 : gb s a = p.r := by rw [q2, UInt8.toNat_ofNat']; omega
    have ef : fmb p.r = [UInt8.ofNat p.r] := by unfold fmb fm; rw [if_pos (by omega)]; rfl
    rw [quoF, if_neg (by rintro ⟨_, h⟩; exact h34 (.inl (by omega))), if_neg (by rintro ⟨_, h⟩; exact h34 (.inr (by omega))), if_pos ⟨q1, by omega⟩, c2, ef]
    rfl
   ·have hp : zL t p = [92, 123] ++ hexL p.r ++ [125] := by unfold zL; rw [if_neg (by rw [e1]; decide), if_neg h34, if_neg h32]
    rw [hp] at h ⊢
    have h' : s.drop a = 92 :: 123 :: (hexL p.r ++ (125 :: B)) := by rw [h]; simp
    obtain ⟨q1, q2, q3⟩ := z8 h'
    obtain ⟨q4, q5, q6⟩ := z8 q3
    obtain ⟨x1, x2, x3⟩ := zE4 p.r
    have x4 := uM 5 p.r (by omega)
    have hD := zMD (hexL p.r) (125 :: B) 6 0 (a + 1 + 1) q6 x1 x4 (fun c hc => by cases hc; decide)
    rw [x2] at hD
    obtain ⟨q7, q8, q9⟩ := z8 (zLY q6)
    have c92 : gb s a = 92 := q2
    have c123 : gb s (a + 1) = 123 := q5
    have c125 : gb s (a + 1 + 1 + (hexL p.r).length) = 125 := q8
    have hP : partF s (a + 1) = .yes (a + 1 + 1 + (hexL p.r).length + 1) (fmb p.r) := by
     unfold partF
     rw [if_neg (by rintro ⟨_, h | h⟩ <;> omega), if_neg (by rintro ⟨_, h⟩; omega), if_pos ⟨q4, c123⟩, hD, if_neg, hrn]
     rintro (h | h)
     ·simp only at h; omega
     ·exact h ⟨q7, c125⟩
    have ee : a + 1 + 1 + (hexL p.r).length + 1 = a + ([92, 123] ++ hexL p.r ++ [125]).length := by simp only [List.length_append, List.length_cons, List.length_nil]; omega
    rw [quoF, if_neg (by rintro ⟨_, h⟩; omega), if_pos ⟨q1, c92⟩, hP, ee]
theorem zLE {s t B : List UInt8} : ∀ (d f a i : Nat), t.length - i ≤ d → d < f → i ≤ t.length → s.drop a = xX t (xD t i) ++ (34 :: B) →
  quoF s f a (t.take i) = .yes (a + (xX t (xD t i)).length + 1) t
 | d, 0, a, i, _, hf, _, _ => absurd hf (Nat.not_lt_zero _)
 | d, f + 1, a, i, hd, hf, hi, h => by
  by_cases hlt : i < t.length
  ·have hw := wQ hlt
   rw [yQ hlt] at h ⊢
   have e : xX t (zK t i :: xD t (i + (zK t i).w)) = zL t (zK t i) ++ xX t (xD t (i + (zK t i).w)) := by unfold xX; rw [List.flatMap_cons]
   rw [e] at h ⊢
   rw [List.append_assoc] at h
   cases d with
   | zero => omega
   | succ d =>
    rw [zM3 hlt h, zLE d f _ (i + (zK t i).w) (by omega) (by omega) hw.2.2 (zLY h), List.length_append]
    congr 1
    omega
  ·obtain rfl : i = t.length := by omega
   rw [xZ hlt] at h ⊢
   have h' : s.drop a = 34 :: B := h
   obtain ⟨q1, q2, q3⟩ := z8 h'
   have c34 : gb s a = 34 := q2
   rw [quoF, if_pos ⟨q1, c34⟩, List.take_length]
   rfl
theorem zLp {s t B : List UInt8} {a room : Nat} (ha : a ≤ s.length) (h : s.drop a = yG t ++ B) (ht : t ≠ []) (hr : t.length ≤ room) (hl : t.length ≤ s.length) :
  qokF s a room = .yes (a + (yG t).length) t := by
 have hs := zNB h
 have h' : s.drop a = 34 :: (xX t (zC t) ++ (34 :: B)) := by rw [h]; unfold yG; simp
 obtain ⟨q1, q2, q3⟩ := z8 h'
 have c34 : gb s a = 34 := q2
 have hq : quotF s a = .yes (a + (yG t).length) t := by
  unfold quotF
  rw [if_pos ⟨q1, c34⟩]
  have := zLE (s := s) (t := t) (B := B) t.length (s.length + 1) (a + 1) 0 (by omega) (by omega) (Nat.zero_le _) q3
  rw [List.take_zero] at this
  rw [this]
  have e : (yG t).length = (xX t (zC t)).length + 2 := by unfold yG; simp only [List.length_append, List.length_cons, List.length_nil]; omega
  rw [e]
  congr 1
  show a + 1 + (xX t (zC t)).length + 1 = _
  omega
 unfold qokF
 rw [hq]
 simp only
 rw [if_neg]
 rintro (h1 | h1 | h1)
 ·exact ht h1
 ·exact h1 hs.symm
 ·omega
theorem zCx (t : List UInt8) : ∀ (d i : Nat), t.length - i ≤ d → t.length - i ≤ (xX t (xD t i)).length
 | d, i, hd => by
  by_cases hi : i < t.length
  ·have hw := wQ hi
   rw [yQ hi]
   have e : xX t (zK t i :: xD t (i + (zK t i).w)) = zL t (zK t i) ++ xX t (xD t (i + (zK t i).w)) := by unfold xX; rw [List.flatMap_cons]
   rw [e, List.length_append]
   cases d with
   | zero => omega
   | succ d =>
    have h1 := zCx t d (i + (zK t i).w) (by omega)
    have h2 : (zK t i).w ≤ (zL t (zK t i)).length := by
     have hok := jZ hi
     rcases uO hi with ⟨e1, e2, e3⟩ | ⟨e1, e2, e3⟩
     ·rw [e2]; unfold zL; rw [if_pos e1]; simp
     ·rw [e2]
      unfold zL
      rw [if_neg (by rw [e1]; decide)]
      have hwd := zBB (zK t i).r
      split
      ·next h => unfold wd; rw [if_pos (by omega)]; simp
      ·split
       ·next h => unfold wd; rw [if_pos (by omega)]; simp
       ·have := (zE4 (zK t i).r).2.2
        simp only [List.length_append, List.length_cons, List.length_nil]; omega
    omega
  ·omega
theorem zBb (t : List UInt8) : t.length + 2 ≤ (yG t).length := by
 have := zCx t t.length 0 (by omega)
 unfold yG
 simp only [List.length_append, List.length_cons, List.length_nil]
 have e : xX t (xD t 0) = xX t (zC t) := rfl
 rw [e] at this
 omega
theorem zNc {s B : List UInt8} {a fr to : Nat} {x : Stp} (ha : a ≤ s.length) (h : s.drop a = stpW x ++ B) (hx : yL x) (hB : B = [] ∨ ∃ r, B = 32 :: r) (h1 : fr + x.k.toNat + x.d.length ≤ 65536) (h2 : to + x.k.toNat + x.p.length ≤ 65536) :
  stepF s a fr to = .yes (a + (stpW x).length) x := by
 have hB2 : ∀ c, B.head? = some c → ¬ (48 ≤ c.toNat ∧ c.toNat ≤ 57) := by
  rcases hB with rfl | ⟨r, rfl⟩
  ·intro c hc; cases hc
  ·intro c hc; cases hc; decide
 obtain ⟨k, d, p⟩ := x
 rcases hx with ⟨g1, g2, g3⟩ | ⟨g1, g2, g3⟩ | ⟨g1, g2, g3⟩
 ·simp only at g1 g2 g3 h1 h2
  subst g2 g3
  have e : stpW ⟨k, [], []⟩ = 61 :: decL k.toNat := by unfold stpW; rw [if_pos g1]
  rw [e] at h ⊢
  obtain ⟨q1, q2, q3⟩ := z8 (show s.drop a = 61 :: (decL k.toNat ++ B) from h)
  have c61 : gb s a = 61 := q2
  simp only [List.length_nil] at h1 h2
  have := zNs (fr := fr) (to := to) q1 q3 (by omega) hB2 (by omega) (by omega)
  unfold stepF
  rw [if_pos ⟨q1, c61⟩, this, List.length_cons]
  simp only
  rw [Int.toNat_of_nonneg (by omega)]
  congr 1; omega
 ·simp only at g1 g2 g3 h1 h2
  subst g1 g3
  have e : stpW ⟨0, d, []⟩ = 45 :: yG d := by unfold stpW; rw [if_neg (Int.lt_irrefl 0), if_pos g2]
  have hlen := zMd ha h
  have hql := zBb d
  rw [e] at h hlen ⊢
  rw [List.length_cons] at hlen
  obtain ⟨q1, q2, q3⟩ := z8 (show s.drop a = 45 :: (yG d ++ B) from h)
  have c45 : gb s a = 45 := q2
  simp only [List.length_nil] at h1 h2
  have := zLp (room := 65536 - fr) q1 q3 g2 (by simp only [Int.toNat_zero] at h1; omega) (by omega)
  unfold stepF
  rw [if_neg (by rintro ⟨_, h⟩; omega), if_pos ⟨q1, c45⟩, this, List.length_cons]
  simp only
  congr 1; omega
 ·simp only at g1 g2 g3 h1 h2
  subst g1 g2
  have e : stpW ⟨0, [], p⟩ = 43 :: yG p := by unfold stpW; rw [if_neg (Int.lt_irrefl 0), if_neg (fun h => h rfl)]
  have hlen := zMd ha h
  have hql := zBb p
  rw [e] at h hlen ⊢
  rw [List.length_cons] at hlen
  obtain ⟨q1, q2, q3⟩ := z8 (show s.drop a = 43 :: (yG p ++ B) from h)
  have c43 : gb s a = 43 := q2
  simp only [List.length_nil] at h1 h2
  have := zLp (room := 65536 - to) q1 q3 g3 (by simp only [Int.toNat_zero] at h2; omega) (by omega)
  unfold stepF
  rw [if_neg (by rintro ⟨_, h⟩; omega), if_neg (by rintro ⟨_, h⟩; omega), if_pos ⟨q1, c43⟩, this, List.length_cons]
  simp only
  congr 1; omega
theorem zMR (x : Stp) : 1 ≤ (stpW x).length := by
 unfold stpW
 split
 ·simp
 ·split <;> simp
def frS (l : List Stp) : Nat := (l.map fun x => x.k.toNat + x.d.length).sum
def toS (l : List Stp) : Nat := (l.map fun x => x.k.toNat + x.p.length).sum
theorem zK2 (x : Stp) (l : List Stp) : yM (x :: l) = stpW x ++ (if l = [] then [] else 32 :: yM l) := by
 cases l with
 | nil => rw [if_pos rfl, List.append_nil]; rfl
 | cons y l => rw [if_neg (by simp), yM]; simp
theorem zLF {s : List UInt8} : ∀ (l done : List Stp) (f a fr to : Nat), (∀ x ∈ l, yL x) → l.length < f → fr + frS l ≤ 65536 → to + toS l ≤ 65536 → a ≤ s.length →
  s.drop a = (if done = [] ∨ l = [] then [] else [32]) ++ yM l → readF s f a fr to done = .yes s.length (done ++ l)
 | _, done, 0, a, fr, to, _, hf, _, _, _, _ => absurd hf (Nat.not_lt_zero _)
 | [], done, f + 1, a, fr, to, _, _, _, _, ha, h => by
  rw [if_pos (.inr rfl)] at h
  have : a = s.length := by
   have h2 := congrArg List.length h
   rw [List.length_drop] at h2
   simp [yM] at h2
   omega
  subst this
  rw [readF, if_neg (Nat.lt_irrefl _), List.append_nil]
 | x :: l, done, f + 1, a, fr, to, hok, hf, h1, h2, ha, h => by
  simp only [frS, toS, List.map_cons, List.sum_cons] at h1 h2
  have hB : (if l = [] then ([] : List UInt8) else 32 :: yM l) = [] ∨ ∃ r, (if l = [] then ([] : List UInt8) else 32 :: yM l) = 32 :: r := by
   by_cases hl : l = []
   ·exact .inl (if_pos hl)
   ·exact .inr ⟨_, if_neg hl⟩
  have hp := zMR x
  have key : ∃ a1, a1 = (if done = [] then a else a + 1) ∧ a1 ≤ s.length ∧ a < s.length ∧ ¬ (done ≠ [] ∧ gb s a ≠ 32) ∧ s.drop a1 = stpW x ++ (if l = [] then [] else 32 :: yM l) := by
   by_cases hd : done = []
   ·rw [if_pos (.inl hd), List.nil_append, zK2] at h
    refine ⟨a, (if_pos hd).symm, ha, ?_, fun h => h.1 hd, h⟩
    have := zMd ha h
    omega
   ·rw [if_neg (by simp [hd]), zK2] at h
    obtain ⟨q1, q2, q3⟩ := z8 (show s.drop a = 32 :: (stpW x ++ _) from h)
    exact ⟨a + 1, (if_neg hd).symm, q1, q1, fun h => h.2 q2, q3⟩
  obtain ⟨a1, e1, g1, g2, g3, g4⟩ := key
  have hst := zNc g1 g4 (hok x List.mem_cons_self) hB (fr := fr) (to := to) (by omega) (by omega)
  rw [readF, if_pos g2, if_neg g3, ← e1, hst]
  simp only
  have := zLF (s := s) l (done ++ [x]) f (a1 + (stpW x).length) (fr + x.k.toNat + x.d.length) (to + x.k.toNat + x.p.length) (fun y hy => hok y (List.mem_cons_of_mem _ hy)) (by simpa using hf) (by rw [frS]; omega) (by rw [toS]; omega) (zMd g1 g4) (by
   rw [zLY g4]
   by_cases hl : l = []
   ·rw [if_pos hl, if_pos (.inr hl), hl]; simp [yM]
   ·rw [if_neg hl, if_neg (by simp [hl])]; rfl)
  rw [this, List.append_assoc]; rfl
end Go.Eng
namespace ZP
open Go Go.Shelf Go.Proofs
def zIJ : Go.Shelf.Ren := ⟨fun | 137 => 244 | 217 => 174 | 266 => 210 | n => n, fun | 9 => 9 | 5 => 5 | 3 => 3 | n => n, fun | n => n⟩
theorem zM9 : Go.Proofs.Lays.n137 Tryz.prog zIJ := {
 mixed := by kernel_rfl
 f137 := func244.trans (congrArg some (by kernel_rfl))
 f217 := func174.trans (congrArg some (by kernel_rfl))
 f266 := func210.trans (congrArg some (by kernel_rfl))
 t3 := underlying3
 a3 := Tryz.isAgg3
 z3 := Tryz.sizeOf3
 v3 := Tryz.zeroValue3
 t5 := underlying5
 a5 := Tryz.isAgg5
 z5 := Tryz.sizeOf5
 v5 := Tryz.zeroValue5
 t9 := underlying9
 a9 := Tryz.isAgg9
 z9 := Tryz.sizeOf9
 v9 := Tryz.zeroValue9 }
open Go.RowKit in
theorem zK9 (s : ByteArray) (c : Int) (w : World) :
  Calls Tryz.prog 244 #[.string s, .int .u8 c] w fun e w' => e = .returned (.int .i64 (Lib.indexByte s.data.toList c.toNat.toUInt8)) ∧ w' = w := Any.strings_IndexByte zM9 s c w
def zBJ : Go.Shelf.Ren := ⟨fun | 171 => 49 | 243 => 80 | 246 => 115 | 283 => 158 | 284 => 159 | 285 => 160 | 286 => 161 | 129 => 149 | 317 => 200 | 318 => 201 | 319 => 202 | 320 => 203 | 337 => 224 | 338 => 225 | n => n, fun | 3 => 3 | 9 => 9 | 2 => 2 | 4 => 4 | 171 => 257 | 0 => 0 | 53 => 243 | 37 => 109 | 5 => 5 | 173 => 259 | 212 => 298 | 51 => 241 | 20 => 20 | 213 => 299 | 46 => 119 | 232 => 335 | 233 => 336 | n => n, fun | 17 => 1 | 18 => 6 | 19 => 7 | n => n⟩
theorem zET : Go.Proofs.LaysM.n171 Tryz.prog zBJ := {
 mixed := by kernel_rfl
 f129 := func149.trans (congrArg some (by kernel_rfl))
 f171 := func49.trans (congrArg some (by kernel_rfl))
 f243 := func80.trans (congrArg some (by kernel_rfl))
 f246 := func115.trans (congrArg some (by kernel_rfl))
 f283 := func158.trans (congrArg some (by kernel_rfl))
 f284 := func159.trans (congrArg some (by kernel_rfl))
 f285 := func160.trans (congrArg some (by kernel_rfl))
 f286 := func161.trans (congrArg some (by kernel_rfl))
 f317 := func200.trans (congrArg some (by kernel_rfl))
 f318 := func201.trans (congrArg some (by kernel_rfl))
 f319 := func202.trans (congrArg some (by kernel_rfl))
 f320 := func203.trans (congrArg some (by kernel_rfl))
 f337 := func224.trans (congrArg some (by kernel_rfl))
 f338 := func225.trans (congrArg some (by kernel_rfl))
 t0 := underlying0
 a0 := Tryz.isAgg0
 z0 := Tryz.sizeOf0
 v0 := Tryz.zeroValue0
 t2 := underlying2
 a2 := Tryz.isAgg2
 z2 := Tryz.sizeOf2
 v2 := Tryz.zeroValue2
 t3 := underlying3
 a3 := Tryz.isAgg3
 z3 := Tryz.sizeOf3
 v3 := Tryz.zeroValue3
 t4 := underlying4
 a4 := Tryz.isAgg4
 z4 := Tryz.sizeOf4
 v4 := Tryz.zeroValue4
 t5 := underlying5
 a5 := Tryz.isAgg5
 z5 := Tryz.sizeOf5
 v5 := Tryz.zeroValue5
 t9 := underlying9
 a9 := Tryz.isAgg9
 z9 := Tryz.sizeOf9
 v9 := Tryz.zeroValue9
 t20 := underlying20
 a20 := Tryz.isAgg20
 z20 := Tryz.sizeOf20
 v20 := Tryz.zeroValue20
 t37 := underlying109
 a37 := Tryz.isAgg109
 z37 := Tryz.sizeOf109
 v37 := Tryz.zeroValue109
 t46 := underlying119
 a46 := Tryz.isAgg119
 z46 := Tryz.sizeOf119
 v46 := Tryz.zeroValue119
 t51 := underlying241
 a51 := Tryz.isAgg241
 z51 := Tryz.sizeOf241
 v51 := Tryz.zeroValue241
 t53 := underlying243
 a53 := Tryz.isAgg243
 z53 := Tryz.sizeOf243
 v53 := Tryz.zeroValue243
 t171 := underlying257
 a171 := Tryz.isAgg257
 z171 := Tryz.sizeOf257
 v171 := Tryz.zeroValue257
 t173 := underlying259
 a173 := Tryz.isAgg259
 z173 := Tryz.sizeOf259
 v173 := Tryz.zeroValue259
 t212 := underlying298
 a212 := Tryz.isAgg298
 z212 := Tryz.sizeOf298
 v212 := Tryz.zeroValue298
 t213 := underlying299
 a213 := Tryz.isAgg299
 z213 := Tryz.sizeOf299
 t232 := underlying335
 a232 := Tryz.isAgg335
 z232 := Tryz.sizeOf335
 v232 := Tryz.zeroValue335
 t233 := underlying336
 a233 := Tryz.isAgg336
 z233 := Tryz.sizeOf336
 v233 := Tryz.zeroValue336
 g17 := by kernel_rfl
 g18 := by kernel_rfl
 g19 := by kernel_rfl
 i0 := by kernel_rfl
 i2 := by kernel_rfl
 i3 := by kernel_rfl
 i4 := by kernel_rfl
 i5 := by kernel_rfl
 i9 := by kernel_rfl
 i20 := by kernel_rfl
 i37 := by kernel_rfl
 i46 := by kernel_rfl
 i51 := by kernel_rfl
 i53 := by kernel_rfl
 i171 := by kernel_rfl
 i173 := by kernel_rfl
 i212 := by kernel_rfl
 i232 := by kernel_rfl
 i233 := by kernel_rfl
 m17 := by kernel_rfl
 m18 := by kernel_rfl
 m19 := by kernel_rfl }
open Go.RowKit Go.Sort Go.Lib in
theorem zBv (n : Int) (h0 : -9223372036854775808 ≤ n) (h1 : n ≤ 9223372036854775807) (w : World) (htab : Lib.TabIs Tryz.prog w "internal/strconv.uint64pow10" .u64 Lib.pow10Tab) :
  Calls Tryz.prog 49 #[.int .i64 n] w fun e w' => e = .returned (.string ⟨(Lib.itoa n).toArray⟩) ∧ ∃ k os, w' = grow (w.drewN k) os := Any.strconv_Itoa zET n h0 h1 w htab
def zH7 : Go.Shelf.Ren := ⟨fun | 172 => 129 | 244 => 178 | 245 => 179 | 247 => 212 | 279 => 213 | 280 => 214 | 281 => 215 | 282 => 216 | 287 => 233 | 316 => 234 | 171 => 49 | 205 => 235 | 321 => 242 | 322 => 243 | 243 => 80 | 246 => 115 | 283 => 158 | 284 => 159 | 285 => 160 | 286 => 161 | 129 => 149 | 317 => 200 | 318 => 201 | 319 => 202 | 320 => 203 | 337 => 224 | 338 => 225 | n => n, fun | 9 => 9 | 3 => 3 | 75 => 113 | 76 => 114 | 4 => 4 | 5 => 5 | 167 => 312 | 37 => 109 | 0 => 0 | 85 => 313 | 2 => 2 | 168 => 315 | 53 => 243 | 175 => 325 | 46 => 119 | 210 => 328 | 127 => 157 | 145 => 341 | 143 => 339 | 21 => 21 | 171 => 257 | 173 => 259 | 212 => 298 | 51 => 241 | 20 => 20 | 213 => 299 | 232 => 335 | 233 => 336 | 80 => 52 | n => n, fun | 15 => 2 | 16 => 3 | 17 => 1 | 18 => 6 | 19 => 7 | n => n⟩
theorem zLc : Go.Proofs.LaysC.n172 Tryz.prog zH7 := {
 mixed := by kernel_rfl
 f129 := func149.trans (congrArg some (by kernel_rfl))
 f171 := func49.trans (congrArg some (by kernel_rfl))
 f172 := func129.trans (congrArg some (by kernel_rfl))
 f205 := func235.trans (congrArg some (by kernel_rfl))
 f243 := func80.trans (congrArg some (by kernel_rfl))
 f244 := func178.trans (congrArg some (by kernel_rfl))
 f245 := func179.trans (congrArg some (by kernel_rfl))
 f246 := func115.trans (congrArg some (by kernel_rfl))
 f247 := func212.trans (congrArg some (by kernel_rfl))
 f279 := func213.trans (congrArg some (by kernel_rfl))
 f280 := func214.trans (congrArg some (by kernel_rfl))
 f281 := func215.trans (congrArg some (by kernel_rfl))
 f282 := func216.trans (congrArg some (by kernel_rfl))
 f283 := func158.trans (congrArg some (by kernel_rfl))
 f284 := func159.trans (congrArg some (by kernel_rfl))
 f285 := func160.trans (congrArg some (by kernel_rfl))
 f286 := func161.trans (congrArg some (by kernel_rfl))
 f287 := func233.trans (congrArg some (by kernel_rfl))
 f316 := func234.trans (congrArg some (by kernel_rfl))
 f317 := func200.trans (congrArg some (by kernel_rfl))
 f318 := func201.trans (congrArg some (by kernel_rfl))
 f319 := func202.trans (congrArg some (by kernel_rfl))
 f320 := func203.trans (congrArg some (by kernel_rfl))
 f321 := func242.trans (congrArg some (by kernel_rfl))
 f322 := func243.trans (congrArg some (by kernel_rfl))
 f337 := func224.trans (congrArg some (by kernel_rfl))
 f338 := func225.trans (congrArg some (by kernel_rfl))
 t0 := underlying0
 a0 := Tryz.isAgg0
 z0 := Tryz.sizeOf0
 v0 := Tryz.zeroValue0
 t2 := underlying2
 a2 := Tryz.isAgg2
 z2 := Tryz.sizeOf2
 v2 := Tryz.zeroValue2
 t3 := underlying3
 a3 := Tryz.isAgg3
 z3 := Tryz.sizeOf3
 v3 := Tryz.zeroValue3
 t4 := underlying4
 a4 := Tryz.isAgg4
 z4 := Tryz.sizeOf4
 v4 := Tryz.zeroValue4
 t5 := underlying5
 a5 := Tryz.isAgg5
 z5 := Tryz.sizeOf5
 v5 := Tryz.zeroValue5
 t9 := underlying9
 a9 := Tryz.isAgg9
 z9 := Tryz.sizeOf9
 v9 := Tryz.zeroValue9
 t20 := underlying20
 a20 := Tryz.isAgg20
 z20 := Tryz.sizeOf20
 v20 := Tryz.zeroValue20
 t21 := underlying21
 a21 := Tryz.isAgg21
 z21 := Tryz.sizeOf21
 v21 := Tryz.zeroValue21
 t37 := underlying109
 a37 := Tryz.isAgg109
 z37 := Tryz.sizeOf109
 v37 := Tryz.zeroValue109
 t46 := underlying119
 a46 := Tryz.isAgg119
 z46 := Tryz.sizeOf119
 v46 := Tryz.zeroValue119
 t51 := underlying241
 a51 := Tryz.isAgg241
 z51 := Tryz.sizeOf241
 v51 := Tryz.zeroValue241
 t53 := underlying243
 a53 := Tryz.isAgg243
 z53 := Tryz.sizeOf243
 v53 := Tryz.zeroValue243
 t75 := underlying113
 a75 := Tryz.isAgg113
 z75 := Tryz.sizeOf113
 v75 := Tryz.zeroValue113
 t76 := underlying114
 a76 := Tryz.isAgg114
 z76 := Tryz.sizeOf114
 v76 := Tryz.zeroValue114
 t85 := underlying313
 a85 := Tryz.isAgg313
 z85 := Tryz.sizeOf313
 v85 := Tryz.zeroValue313
 t127 := underlying157
 a127 := Tryz.isAgg157
 z127 := Tryz.sizeOf157
 v127 := Tryz.zeroValue157
 t143 := underlying339
 a143 := Tryz.isAgg339
 z143 := Tryz.sizeOf339
 v143 := Tryz.zeroValue339
 t145 := underlying341
 a145 := Tryz.isAgg341
 z145 := Tryz.sizeOf341
 v145 := Tryz.zeroValue341
 t167 := underlying312
 a167 := Tryz.isAgg312
 z167 := Tryz.sizeOf312
 v167 := Tryz.zeroValue312
 t168 := underlying315
 a168 := Tryz.isAgg315
 z168 := Tryz.sizeOf315
 v168 := Tryz.zeroValue315
 t171 := underlying257
 a171 := Tryz.isAgg257
 z171 := Tryz.sizeOf257
 v171 := Tryz.zeroValue257
 t173 := underlying259
 a173 := Tryz.isAgg259
 z173 := Tryz.sizeOf259
 v173 := Tryz.zeroValue259
 t175 := underlying325
 a175 := Tryz.isAgg325
 z175 := Tryz.sizeOf325
 v175 := Tryz.zeroValue325
 t210 := underlying328
 a210 := Tryz.isAgg328
 z210 := Tryz.sizeOf328
 v210 := Tryz.zeroValue328
 t212 := underlying298
 a212 := Tryz.isAgg298
 z212 := Tryz.sizeOf298
 v212 := Tryz.zeroValue298
 t213 := underlying299
 a213 := Tryz.isAgg299
 z213 := Tryz.sizeOf299
 t232 := underlying335
 a232 := Tryz.isAgg335
 z232 := Tryz.sizeOf335
 v232 := Tryz.zeroValue335
 t233 := underlying336
 a233 := Tryz.isAgg336
 z233 := Tryz.sizeOf336
 v233 := Tryz.zeroValue336
 g15 := by kernel_rfl
 g16 := by kernel_rfl
 g17 := by kernel_rfl
 g18 := by kernel_rfl
 g19 := by kernel_rfl
 t80 := underlying52
 a80 := Tryz.isAgg52
 z80 := Tryz.sizeOf52
 v80 := Tryz.zeroValue52
 i0 := by kernel_rfl
 i2 := by kernel_rfl
 i3 := by kernel_rfl
 i4 := by kernel_rfl
 i5 := by kernel_rfl
 i9 := by kernel_rfl
 i20 := by kernel_rfl
 i21 := by kernel_rfl
 i37 := by kernel_rfl
 i46 := by kernel_rfl
 i51 := by kernel_rfl
 i53 := by kernel_rfl
 i75 := by kernel_rfl
 i76 := by kernel_rfl
 i80 := by kernel_rfl
 i85 := by kernel_rfl
 i127 := by kernel_rfl
 i143 := by kernel_rfl
 i145 := by kernel_rfl
 i167 := by kernel_rfl
 i168 := by kernel_rfl
 i171 := by kernel_rfl
 i173 := by kernel_rfl
 i175 := by kernel_rfl
 i210 := by kernel_rfl
 i212 := by kernel_rfl
 i232 := by kernel_rfl
 i233 := by kernel_rfl
 m15 := by kernel_rfl
 m16 := by kernel_rfl
 m17 := by kernel_rfl
 m18 := by kernel_rfl
 m19 := by kernel_rfl
 c0 := by kernel_rfl
 c2 := by kernel_rfl
 c3 := by kernel_rfl
 c4 := by kernel_rfl
 c5 := by kernel_rfl
 c9 := by kernel_rfl
 c20 := by kernel_rfl
 c21 := by kernel_rfl
 c37 := by kernel_rfl
 c46 := by kernel_rfl
 c51 := by kernel_rfl
 c53 := by kernel_rfl
 c75 := by kernel_rfl
 c76 := by kernel_rfl
 c80 := by kernel_rfl
 c85 := by kernel_rfl
 c127 := by kernel_rfl
 c143 := by kernel_rfl
 c145 := by kernel_rfl
 c167 := by kernel_rfl
 c168 := by kernel_rfl
 c171 := by kernel_rfl
 c173 := by kernel_rfl
 c175 := by kernel_rfl
 c210 := by kernel_rfl
 c212 := by kernel_rfl
 c213 := by kernel_rfl
 c232 := by kernel_rfl
 c233 := by kernel_rfl }
open Go.RowKit in
theorem u5 (s : ByteArray) (hmax : s.size ≤ 9223372036854775806) (v : Int) (h : Lib.atoiAll s.data.toList = .ok v) (w : World) :
  Calls Tryz.prog 129 #[.string s] w fun e w' => e = .returned (.tuple #[.int .i64 v, .nilIface]) ∧ (w' = w ∨ ∃ t, w' = Lib.bytesWorld w 5 t) := Any.strconv_Atoi_ok zLc s hmax v h w
open Go.RowKit in
theorem u2 (s : ByteArray) (hlim : s.size ≤ 281474976710656) (h : Lib.atoiAll s.data.toList = .range) (tp : TypeId) (p : Value) (w : World) (hvar : w.var? Tryz.prog "strconv.ErrRange" = some #[.iface tp p]) :
  Calls Tryz.prog 129 #[.string s] w fun e w' => ∃ N, e = .returned (.tuple #[.int .i64 (Lib.atoiSat s.data.toList), .iface 315 (.pp N)]) ∧ w.heap.size ≤ N ∧ w'.heap[N]? = some (.cells #[.string ⟨#[65, 116, 111, 105]⟩, .string s, .iface tp p] 328 (0, 0)) ∧ Below w.heap.size w w' := Any.strconv_Atoi_range_var zLc s hlim h tp p w hvar
def zDg : Go.Shelf.Ren := ⟨fun | 99 => 61 | 206 => 92 | n => n, fun | 9 => 9 | 4 => 4 | 3 => 3 | n => n, fun | n => n⟩
theorem zHu : Go.Proofs.Lays.n99 Tryz.prog zDg := {
 mixed := by kernel_rfl
 f99 := func61.trans (congrArg some (by kernel_rfl))
 f206 := func92.trans (congrArg some (by kernel_rfl))
 t3 := underlying3
 a3 := Tryz.isAgg3
 z3 := Tryz.sizeOf3
 v3 := Tryz.zeroValue3
 t4 := underlying4
 a4 := Tryz.isAgg4
 z4 := Tryz.sizeOf4
 v4 := Tryz.zeroValue4
 t9 := underlying9
 a9 := Tryz.isAgg9
 z9 := Tryz.sizeOf9
 v9 := Tryz.zeroValue9 }
open Go.RowKit Go.Lib in
theorem kD (s p : ByteArray) (w : World) :
  Calls Tryz.prog 61 #[.string s, .string p] w fun e w' => e = .returned (.bool (Lib.hasPrefix s.data.toList p.data.toList)) ∧ w' = w := Any.strings_HasPrefix zHu s p w
end ZP
