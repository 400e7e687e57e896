/-
  Parts of a walk, joined: EngZC O9 O10 OT3 O14 O15 OT4 O17 OT5 O11 O16 O19 EngZD. No condition.
-/
import Derived.Test.YtljfncpecpkhhaaP4
import Derived.Test.YtljfncpecpkhhaaP6
set_option linter.all false
/-
  A walk's engine: iterators that may let memory grow between their calls of yield: what a loop over them keeps must hold in memory that has grown. No condition.
-/
set_option linter.all false
namespace Go.Eng
open Go Go.RowKit
/-- an iterator whose own memory may grow: it hands over xs, one after the other, as long as it is told to go on -/
def SeqM {α : Type} (P : Program) (gf : FuncId) (lb : List Value) (encs : α → List Value) (xs : List α) (Cap : Mem → Prop) : Prop :=
  ∀ (w0 : World) (l : Nat) (J Jx : List α → Mem → SHeap → Prop) (m : Mem) (H : SHeap), (∀ pre m m' H, J pre m H → m.le m' → J pre m' H) → (∀ pre m m' H, Jx pre m H → m.le m' → Jx pre m' H) → Cap m → J [] m H →
    (∀ pre x post, xs = pre ++ x :: post → ∀ m1 H1 Hit, J pre m1 H1 → m.le m1 →
      YieldOK P w0 l (encs x).toArray m1 (Hit ++ H1) (fun m' H' => ∃ H2, H' = Hit ++ H2 ∧ J (pre ++ [x]) m' H2 ∧ m1.le m') (fun m' H' => ∃ H2, H' = Hit ++ H2 ∧ Jx (pre ++ [x]) m' H2 ∧ m1.le m')) →
    Does P gf (.func (.yield l) #[] #[] :: lb).toArray w0 m H (fun _ m' H' => m.le m' ∧ (J xs m' H' ∨ ∃ pre, pre <+: xs ∧ Jx pre m' H'))
theorem SeqC.m {α : Type} {P : Program} {gf : FuncId} {lb : List Value} {encs : α → List Value} {xs : List α} {Cap : Mem → Prop} (h : SeqC P gf lb encs xs Cap) : SeqM P gf lb encs xs Cap :=
  fun w0 l J Jx m H _ _ hc h0 hy => h w0 l J Jx m H hc h0 hy
section
variable {P : Program} {ro : Option Nat} {n : Nat} {w0 : World} {Q : Exit → Act → World → Prop} {r : Env} {ds : List Nat} {m : Mem} {H : SHeap}
  {ops : Array Oper} {l : List Oper} {d : Nat} {ty : TypeId} {pos : String} {after : Array Edge}
theorem range_coreM {α : Type} {gf : FuncId} {lb : List Value} {encs : α → List Value} {xs : List α} {Cap : Mem → Prop} {ps : List Nat} {assign body : Code} {fnd : FuncId} {tmps : Array Value} {L D : Nat} {Hb : SHeap}
    (hseq : SeqM P gf lb encs xs Cap) (hcap : Cap m) (hps : ∀ x, (encs x).length = ps.length) (hpn : ∀ p ∈ ps, p < n) (hok : r.ok n tmps)
    (J : List α → Mem → SHeap → Prop) (Jx : Code → List α → Mem → SHeap → Prop) (hmJ : ∀ pre m m' Hl, J pre m Hl → m.le m' → J pre m' Hl) (hmX : ∀ c pre m m' Hl, Jx c pre m Hl → m.le m' → Jx c pre m' Hl) {Hl0 : SHeap} (h0 : J [] m Hl0)
    (hround : ∀ lp pre x post, xs = pre ++ x :: post → ∀ m1 Hl, J pre m1 Hl → m.le m1 → ∀ Hfr, (∃ rec, Item.blk lp (.loop rec) ∈ Hfr ∧ rec.defers = D) → WC P (some lp) n w0 assign (QAssign P n w0 lp body J Jx (pre ++ [x]) m1 Hfr) (Env.given ps (encs x) r) [] m1 (Hl ++ Hfr))
    {w : World} (hs : Sat w0 m (.blk L (.loop { state := .ready, pending := none, fn := fnd, tmps := tmps, params := ps.toArray, assign := assign, body := body, defers := D }) :: (Hl0 ++ Hb)) w) :
    CallsIn (FW none) 0 P gf (.func (.yield L) #[] #[] :: lb).toArray w fun e w' => ∃ v m', e = .returned v ∧ m.le m' ∧
      ((∃ Hl, J xs m' Hl ∧ Sat w0 m' (.blk L (.loop { state := .ready, pending := none, fn := fnd, tmps := tmps, params := ps.toArray, assign := assign, body := body, defers := D }) :: (Hl ++ Hb)) w') ∨
       (∃ c pre Hl, pre <+: xs ∧ Jx c pre m' Hl ∧ Sat w0 m' (.blk L (.loop { state := .done, pending := some c, fn := fnd, tmps := tmps, params := ps.toArray, assign := assign, body := body, defers := D }) :: (Hl ++ Hb)) w')) := by
  obtain ⟨rec, hrec⟩ : ∃ rec : LoopState → Option Code → Loop, rec = fun st pe => { state := st, pending := pe, fn := fnd, tmps := tmps, params := ps.toArray, assign := assign, body := body, defers := D } := ⟨_, rfl⟩
  have hs1 : Sat w0 m (.blk L (.loop (rec .ready none)) :: (Hl0 ++ Hb)) w := by rw [hrec]; exact hs
  have := hseq w0 L (fun pre m H => ∃ Hl, H = .blk L (.loop (rec .ready none)) :: (Hl ++ Hb) ∧ J pre m Hl)
    (fun pre m H => ∃ c Hl, H = .blk L (.loop (rec .done (some c))) :: (Hl ++ Hb) ∧ Jx c pre m Hl) m _ (fun _ _ _ _ ⟨Hl, e, h⟩ hm => ⟨Hl, e, hmJ _ _ _ _ h hm⟩) (fun _ _ _ _ ⟨c, Hl, e, h⟩ hm => ⟨c, Hl, e, hmX _ _ _ _ _ h hm⟩) hcap ⟨Hl0, rfl, h0⟩ ?_ w hs1
  · refine this.mono ?_
    rintro e w' ⟨v, m', H', rfl, ⟨hle, hP⟩, hs'⟩
    refine ⟨v, m', rfl, hle, ?_⟩
    rcases hP with ⟨Hl, rfl, hJ⟩ | ⟨pre, hpre, c, Hl, rfl, hJ⟩
    · exact .inl ⟨Hl, hJ, by rw [hrec] at hs'; exact hs'⟩
    · exact .inr ⟨c, pre, Hl, hpre, hJ, by rw [hrec] at hs'; exact hs'⟩
  · rintro pre x post hx m1 H1 Hit ⟨Hl, rfl, hJ⟩ hle W hW
    have hL : W.heap[L]? = some (.loop (rec .ready none)) := hW.own (.blk L _) (by simp)
    have hy := run_yield (P := P) (args := (encs x).toArray) hL (by rw [hrec]; simp [hps x])
    refine ⟨fnd, (ps.zip (encs x)).foldl (fun t (p : Nat × Value) => t.setIfInBounds p.1 p.2) tmps, assign, body, ?_, roundIn_of_wpIn (FW_fn none fnd) ?_⟩
    · rw [hy, hrec]
      congr 2
      simp
    · have hsat1 := hW.perm (perm_round Hit (.blk L (.loop (rec .ready none))) Hl Hb)
      have hr := hround L pre x post hx m1 Hl hJ hle (.blk L (.loop (rec .ready none)) :: (Hb ++ Hit)) ⟨_, List.mem_cons_self, by rw [hrec]⟩ _ W (hok.given ps (encs x) hpn) hsat1
      refine wpIn_mono hr ?_
      intro e a1 W1 hq
      cases e with
      | normal =>
        obtain ⟨r1, m2, Hl1, hok1, hdf, hs2, hle2, hbody⟩ := hq
        have hs2' := hs2.perm (List.perm_middle (a := Item.blk L (.loop (rec .ready none))) (l₁ := Hl1) (l₂ := Hb ++ Hit))
        have hL1 : W1.heap[L]? = some (.loop (rec .ready none)) := hs2'.own _ List.mem_cons_self
        refine ⟨_, run_beginRound hL1 (by rw [hrec]), ?_⟩
        have hs3 := (hs2'.putObj (o' := .loop { rec .ready none with state := .busy })).perm (List.perm_middle (a := Item.blk L (.loop { rec .ready none with state := .busy })) (l₁ := Hl1) (l₂ := Hb ++ Hit)).symm
        obtain ⟨tm1, df1⟩ := a1
        simp only at hdf
        subst hdf
        refine wpIn_mono (hbody (.blk L (.loop { rec .ready none with state := .busy }) :: (Hb ++ Hit)) ⟨_, List.mem_cons_self⟩ tm1 _ hok1 hs3) ?_
        have fin : ∀ (jump : Option Code) (m3 : Mem) (Hl3 : SHeap) (W3 : World), Sat w0 m3 (Hl3 ++ (.blk L (.loop { rec .ready none with state := .busy }) :: (Hb ++ Hit))) W3 →
            ∃ w4, (Instr.endRound L jump).run P W3 = .ok (.bool jump.isNone) w4 ∧ Sat w0 m3 (Hit ++ (.blk L (.loop (rec (if jump.isNone then .ready else .done) jump)) :: (Hl3 ++ Hb))) w4 := by
          intro jump m3 Hl3 W3 hs4
          have hs5 := hs4.perm (List.perm_middle (a := Item.blk L (.loop { rec .ready none with state := .busy })) (l₁ := Hl3) (l₂ := Hb ++ Hit))
          have hL3 : W3.heap[L]? = some (.loop { rec .ready none with state := .busy }) := hs5.own _ List.mem_cons_self
          refine ⟨_, run_endRound jump hL3, ?_⟩
          have hs6 := hs5.putObj (o' := .loop { { rec .ready none with state := .busy } with state := if jump.isNone then .ready else .done, pending := jump })
          have e1 : ({ { rec .ready none with state := .busy } with state := if jump.isNone then .ready else .done, pending := jump } : Loop) = rec (if jump.isNone then .ready else .done) jump := by rw [hrec]
          rw [e1] at hs6
          rw [e1]
          exact hs6.perm ((List.perm_middle (a := Item.blk L (.loop (rec (if jump.isNone then .ready else .done) jump))) (l₁ := Hl3) (l₂ := Hb ++ Hit)).symm.trans (perm_round Hit _ Hl3 Hb).symm)
        intro e3 a3 W3 hq3
        cases e3 with
        | normal =>
          obtain ⟨m3, Hl3, hJ3, hle3, hs4⟩ := hq3
          obtain ⟨w4, h4, hs5⟩ := fin none m3 Hl3 W3 hs4
          exact ⟨_, w4, h4, .inl ⟨rfl, m3, _, ⟨_, rfl, ⟨Hl3, rfl, hJ3⟩, hle3⟩, hs5⟩⟩
        | ret =>
          obtain ⟨m3, Hl3, hJ3, hle3, hs4⟩ := hq3
          obtain ⟨w4, h4, hs5⟩ := fin (some .ret) m3 Hl3 W3 hs4
          exact ⟨_, w4, h4, .inr ⟨rfl, m3, _, ⟨_, rfl, ⟨.ret, Hl3, rfl, hJ3⟩, hle3⟩, hs5⟩⟩
        | exit id =>
          obtain ⟨m3, Hl3, hJ3, hle3, hs4⟩ := hq3
          obtain ⟨w4, h4, hs5⟩ := fin (some (.exit id)) m3 Hl3 W3 hs4
          exact ⟨_, w4, h4, .inr ⟨rfl, m3, _, ⟨_, rfl, ⟨.exit id, Hl3, rfl, hJ3⟩, hle3⟩, hs5⟩⟩
        | goto t =>
          obtain ⟨m3, Hl3, hJ3, hle3, hs4⟩ := hq3
          obtain ⟨w4, h4, hs5⟩ := fin (some (.goto t)) m3 Hl3 W3 hs4
          exact ⟨_, w4, h4, .inr ⟨rfl, m3, _, ⟨_, rfl, ⟨.goto t, Hl3, rfl, hJ3⟩, hle3⟩, hs5⟩⟩
        | panic ch => exact hq3.elim
        | outgrown => exact hq3.elim
      | _ => exact hq.elim
theorem WC.rangeFuncM {α : Type} {g : Operand} {gf : FuncId} {fn : Func} {cb : Code} {lb : List Value} {encs : α → List Value} {xs : List α} {Cap : Mem → Prop} {ps : List Nat} {assign body : Code} {Hl0 Hc : SHeap}
    (hg : r.ev g = some (.func (.func gf) #[] lb.toArray)) (hf : P.funcs[gf]? = some fn) (hname : (fn.name == "runtime.NumGoroutine") = false) (hb : fn.body = some cb)
    (hseq : SeqM P gf lb encs xs Cap) (hcap : Cap m) (hps : ∀ x, (encs x).length = ps.length) (hpn : ps.all (fun p => Nat.blt p n) = true)
    (J : List α → Mem → SHeap → Prop) (Jx : Code → List α → Mem → SHeap → Prop) (hmJ : ∀ pre m m' Hl, J pre m Hl → m.le m' → J pre m' Hl) (hmX : ∀ c pre m m' Hl, Jx c pre m Hl → m.le m' → Jx c pre m' Hl) (ht : Tail Hc H Hl0) (h0 : J [] m Hl0)
    (hround : ∀ lp pre x post, xs = pre ++ x :: post → ∀ m1 Hl, J pre m1 Hl → m.le m1 → ∀ Hfr, (∃ rec, Item.blk lp (.loop rec) ∈ Hfr) → WC P (some lp) n w0 assign (QAssign P n w0 lp body J Jx (pre ++ [x]) m1 Hfr) (Env.given ps (encs x) r) [] m1 (Hl ++ Hfr))
    (hdone : ∀ D m' Hl, J xs m' Hl → m.le m' → WQ n w0 Q .normal r (D :: ds) m' (Hl ++ (.blk D (.deferred (some [])) :: Hc)))
    (hstop : ∀ D c pre m' Hl, pre <+: xs → Jx c pre m' Hl → m.le m' → WC P none n w0 c Q r (D :: ds) m' (Hl ++ (.blk D (.deferred (some [])) :: Hc))) :
    WC P none n w0 (.rangeFunc g ps.toArray assign body) Q r ds m H := by
  intro tmps w ho hs
  rw [ht.eq] at hs
  have hpn' : ∀ p ∈ ps, p < n := fun p hp => by have := List.all_eq_true.1 hpn p hp; simpa [Nat.blt_eq] using this
  have h1 : fn.name ≠ "runtime.NumGoroutine" := by simpa using hname
  have h2 : ∀ (a : Array Value) (w : World), (callFunc gf a).run P w = .ok (.enter gf a) w := fun a w => by simp [callFunc, hf, h1, hb]
  refine wpIn_rangeFunc (fun fnd _ => ?_)
  have hs1 := (hs.alloc (.deferred (some []))).alloc (.loop { state := .ready, pending := none, fn := fnd, tmps := tmps, params := ps.toArray, assign := assign, body := body, defers := w.heap.size })
  rw [World.size_alloc] at hs1
  have hs2 := hs1.perm (List.Perm.cons _ (List.perm_middle (a := Item.blk w.heap.size (.deferred (some []))) (l₁ := Hl0) (l₂ := Hc)).symm)
  have hcall := range_coreM (P := P) hseq hcap hps hpn' ho J Jx hmJ hmX h0 (fun lp pre x post hx m1 Hl hJ hle Hfr ⟨rec, hr, _⟩ => hround lp pre x post hx m1 Hl hJ hle Hfr ⟨rec, hr⟩) hs2
  have henter := run_enterLoop_outer (P := P) (w := w) fnd tmps ps.toArray assign body
  generalize (w.alloc (.deferred (some []))).alloc (.loop { state := .ready, pending := none, fn := fnd, tmps := tmps, params := ps.toArray, assign := assign, body := body, defers := w.heap.size }) = W1 at henter hcall
  refine ⟨w.heap.size + 1, [{ target := .collected w.heap.size, args := #[] }], W1, { target := .fn (.func gf) lb.toArray, args := #[.func (.yield (w.heap.size + 1)) #[] #[]] }, W1, gf, (.func (.yield (w.heap.size + 1)) #[] #[] :: lb).toArray, W1,
    henter, ?_, fun f _ => FW_fn none f, ?_, FW_depth none, ?_⟩
  · have e0 : ∀ v, (Act.mk tmps (marks ds)).eval (.const v) = v := fun _ => rfl
    simp [resolve, ho.ev hg, e0, Deferred.ofValue]
  · simp [invoke, h2]
  · have hc : CallsIn (FW none) (0 - 1) P gf (.func (.yield (w.heap.size + 1)) #[] #[] :: lb).toArray _ _ := hcall
    refine hc.mono ?_
    rintro e w' ⟨v, m', rfl, hle, (⟨Hl, hJ, hs3⟩ | ⟨c, pre, Hl, hpre, hJ, hs3⟩)⟩
    · obtain ⟨w4, h4, hs4⟩ := end_loop (P := P) hs3 (by simp)
      exact ⟨none, w4, h4, hdone _ m' Hl hJ hle tmps w4 ho hs4⟩
    · obtain ⟨w4, h4, hs4⟩ := end_loop (P := P) hs3 (by simp)
      exact ⟨some c, w4, h4, hstop _ c pre m' Hl hpre hJ hle tmps w4 ho hs4⟩
end
end Go.Eng

/-
  The walk of ropes' iterator Pieces. No condition.
-/
namespace Go.Eng
open Go Go.RowKit
theorem Tail.app {Hfr : SHeap} : ∀ {H : SHeap}, Tail Hfr (H ++ Hfr) H
  | [] => .nil
  | _ :: _ => .cons Tail.app
theorem Tail.all {H : SHeap} : Tail [] H H := by
  have := Tail.app (Hfr := []) (H := H)
  rwa [List.append_nil] at this
theorem drops_app {w0 w : World} {m : Mem} : ∀ {X H : SHeap}, Sat w0 m (X ++ H) w → Sat w0 m H w
  | [], _, h => h
  | _ :: _, _, h => drops_app (h.drop)
theorem perm_frame (X H1 F : SHeap) : List.Perm (X ++ (H1 ++ F)) ((X ++ F) ++ H1) := by
  rw [List.append_assoc]
  exact List.Perm.append_left X List.perm_append_comm
end Go.Eng
namespace Go.Proofs.Ytljfncpecpkhhaa
open Go Go.Eng
set_option maxRecDepth 100000
set_option maxHeartbeats 4000000
set_option linter.all false
attribute [local irreducible] WL WC WQ QFun QLoop Does Q1 QRound QAssign Go.Addr.add
attribute [local irreducible] begunK lackOf begunOf cutAt
/-- where the iterator stands behind some parts -/
def AtP (L : List UInt8) (b3 b4 b5 by_ lp : Nat) (J : List Pc → Mem → SHeap → Prop) (A : List UInt8) (m' : Mem) (Hl : SHeap) : Prop :=
  ∃ (x y z : Int) (n c : Nat) (told : List Pc) (H1 : SHeap), n = A.length - c ∧ c = cutAt A ∧ [Value.int .u8 x, .int .u8 y, .int .u8 z].take n = (A.drop c).map (fun b => Value.int .u8 (b.toNat : Int)) ∧ pieces L = told ++ from_ L c ∧ Hl = [.blk b5 (.cells [.int .i64 (c : Int)].toArray 3 (0, 0)), .blk b4 (.cells [.int .i64 (n : Int)].toArray 3 (0, 0)), .blk b3 (.cells [.int .u8 x, .int .u8 y, .int .u8 z].toArray 89 (0, 0)), .blk by_ (.cells [.func (.yield lp) #[] #[]].toArray 88 (0, 0))] ++ H1 ∧ J told m' H1
/-- where it was left -/
def LeftP (L : List UInt8) (b3 b4 b5 by_ lp : Nat) (Jx : List Pc → Mem → SHeap → Prop) (cd : Code) (m' : Mem) (Hl : SHeap) : Prop :=
  cd = .ret ∧ ∃ (X H1 : SHeap) (told : List Pc), Hl = X ++ H1 ∧ told <+: pieces L ∧ Jx told m' H1
theorem sq_O9_1 {G : Prop} (h : G := by (repeat (first | (refine sp ?_; (repeat intro zzc)) | (refine WL.slArrH rfl rfl (by (first | with_reducible exact natz _ | with_reducible exact natz0 | with_reducible exact natz1 | with_reducible exact natz2 | with_reducible exact natz3 | with_reducible exact natz4 | with_reducible exact natz8 | (apply natz_add; (· first | with_reducible exact natz _ | with_reducible exact natz0 | with_reducible exact natz1 | with_reducible exact natz2 | with_reducible exact natz3 | with_reducible exact natz4 | with_reducible exact natz8); (· first | with_reducible exact natz _ | with_reducible exact natz0 | with_reducible exact natz1 | with_reducible exact natz2 | with_reducible exact natz3 | with_reducible exact natz4 | with_reducible exact natz8)) | (apply natz_sub; (· first | with_reducible exact natz _ | with_reducible exact natz0 | with_reducible exact natz1 | with_reducible exact natz2 | with_reducible exact natz3 | with_reducible exact natz4 | with_reducible exact natz8); (· first | with_reducible exact natz _ | with_reducible exact natz0 | with_reducible exact natz1 | with_reducible exact natz2 | with_reducible exact natz3 | with_reducible exact natz4 | with_reducible exact natz8); (· omega)) | exact (Int.toNat_of_nonneg (by omega)).symm)) rfl rfl rfl (by omega) ?_) | (refine WL.slArr rfl rfl rfl rfl ?_) | (refine iConv rfl ?_; refine WL.bytesBlk rfl zhs (by assumption) (by assumption) rfl rfl rfl rfl rfl ?_))); exact WQ.q1 rfl) : G := h
theorem cm_O9_1 {G G' : Prop} (next : G') (h : Bx G' → G := by intro zzn; (try (refine wcal 0 ?_ (hwl := by intro zm zF zle; exact sq_O9_1))); (try (refine wcal 1 ?_ (hwl := by intro zm zF zle; exact sq_O9_1))); (try (refine wcal 2 ?_ (hwl := by intro zm zF zle; exact sq_O9_1))); (try (refine wcal 3 ?_ (hwl := by intro zm zF zle; exact sq_O9_1))); (try (refine wcal 4 ?_ (hwl := by intro zm zF zle; exact sq_O9_1))); (try (refine wcal 5 ?_ (hwl := by intro zm zF zle; exact sq_O9_1))); (try (refine wcal 6 ?_ (hwl := by intro zm zF zle; exact sq_O9_1))); (try (refine wcal 7 ?_ (hwl := by intro zm zF zle; exact sq_O9_1))); (try (refine wcal 8 ?_ (hwl := by intro zm zF zle; exact sq_O9_1))); (try (refine wcal 9 ?_ (hwl := by intro zm zF zle; exact sq_O9_1))); (try (refine wcal 10 ?_ (hwl := by intro zm zF zle; exact sq_O9_1))); (try (refine wcal 11 ?_ (hwl := by intro zm zF zle; exact sq_O9_1))); (try (refine wcal 12 ?_ (hwl := by intro zm zF zle; exact sq_O9_1))); (try (refine wcal 13 ?_ (hwl := by intro zm zF zle; exact sq_O9_1))); (try (refine wcal 14 ?_ (hwl := by intro zm zF zle; exact sq_O9_1))); (try (refine wcal 15 ?_ (hwl := by intro zm zF zle; exact sq_O9_1))); (try (refine wcal 16 ?_ (hwl := by intro zm zF zle; exact sq_O9_1))); (try (refine wcal 17 ?_ (hwl := by intro zm zF zle; exact sq_O9_1))); (try (refine wcal 18 ?_ (hwl := by intro zm zF zle; exact sq_O9_1))); (try (refine wcal 19 ?_ (hwl := by intro zm zF zle; exact sq_O9_1))); (try (refine wcal 20 ?_ (hwl := by intro zm zF zle; exact sq_O9_1))); (try (refine wcal 21 ?_ (hwl := by intro zm zF zle; exact sq_O9_1))); (try (refine wcal 22 ?_ (hwl := by intro zm zF zle; exact sq_O9_1))); (try (refine wcal 23 ?_ (hwl := by intro zm zF zle; exact sq_O9_1))); (try (refine wcal 24 ?_ (hwl := by intro zm zF zle; exact sq_O9_1))); (try (refine wcal 25 ?_ (hwl := by intro zm zF zle; exact sq_O9_1))); (try (refine wcal 26 ?_ (hwl := by intro zm zF zle; exact sq_O9_1))); (try (refine wcal 27 ?_ (hwl := by intro zm zF zle; exact sq_O9_1))); (try (refine wcal 28 ?_ (hwl := by intro zm zF zle; exact sq_O9_1))); (try (refine wcal 29 ?_ (hwl := by intro zm zF zle; exact sq_O9_1))); (try (refine wcal 30 ?_ (hwl := by intro zm zF zle; exact sq_O9_1))); (try (refine wcal 31 ?_ (hwl := by intro zm zF zle; exact sq_O9_1))); (try (refine wcal 32 ?_ (hwl := by intro zm zF zle; exact sq_O9_1))); (try (refine wcal 33 ?_ (hwl := by intro zm zF zle; exact sq_O9_1))); (try (refine wcal 34 ?_ (hwl := by intro zm zF zle; exact sq_O9_1))); (try (refine wcal 35 ?_ (hwl := by intro zm zF zle; exact sq_O9_1))); (try (refine wcal 36 ?_ (hwl := by intro zm zF zle; exact sq_O9_1))); (try (refine wcal 37 ?_ (hwl := by intro zm zF zle; exact sq_O9_1))); (try (refine wcal 38 ?_ (hwl := by intro zm zF zle; exact sq_O9_1))); (try (refine wcal 39 ?_ (hwl := by intro zm zF zle; exact sq_O9_1))); (try (refine wcal 40 ?_ (hwl := by intro zm zF zle; exact sq_O9_1))); (try (refine wcal 41 ?_ (hwl := by intro zm zF zle; exact sq_O9_1))); exact zzn.out) : G := h ⟨next⟩
theorem st_O9_1 {G G' : Prop} (next : G') (h : Bx G' → G := by intro zzn; (first | ((refine st ?_; (repeat intro zzc)); (try ((first | (refine WL.slArrH rfl rfl (by (first | with_reducible exact natz _ | with_reducible exact natz0 | with_reducible exact natz1 | with_reducible exact natz2 | with_reducible exact natz3 | with_reducible exact natz4 | with_reducible exact natz8 | (apply natz_add; (· first | with_reducible exact natz _ | with_reducible exact natz0 | with_reducible exact natz1 | with_reducible exact natz2 | with_reducible exact natz3 | with_reducible exact natz4 | with_reducible exact natz8); (· first | with_reducible exact natz _ | with_reducible exact natz0 | with_reducible exact natz1 | with_reducible exact natz2 | with_reducible exact natz3 | with_reducible exact natz4 | with_reducible exact natz8)) | (apply natz_sub; (· first | with_reducible exact natz _ | with_reducible exact natz0 | with_reducible exact natz1 | with_reducible exact natz2 | with_reducible exact natz3 | with_reducible exact natz4 | with_reducible exact natz8); (· first | with_reducible exact natz _ | with_reducible exact natz0 | with_reducible exact natz1 | with_reducible exact natz2 | with_reducible exact natz3 | with_reducible exact natz4 | with_reducible exact natz8); (· omega)) | exact (Int.toNat_of_nonneg (by omega)).symm)) rfl rfl rfl (by omega) ?_) | (refine WL.slArr rfl rfl rfl rfl ?_) | (refine iConv rfl ?_; refine WL.bytesBlk rfl zhs (by assumption) (by assumption) rfl rfl rfl rfl rfl ?_) | ((refine iDraw ?_; (first | refine WC.drawAll rfl (by decide +kernel) ?_ | refine WC.draw 1 rfl (by decide +kernel) ?_ | refine WC.draw 2 rfl (by decide +kernel) ?_ | refine WC.draw 3 rfl (by decide +kernel) ?_ | refine WC.draw 4 rfl (by decide +kernel) ?_ | refine WC.draw 5 rfl (by decide +kernel) ?_ | refine WC.draw 6 rfl (by decide +kernel) ?_ | refine WC.draw 7 rfl (by decide +kernel) ?_ | refine WC.draw 8 rfl (by decide +kernel) ?_ | refine WC.draw 9 rfl (by decide +kernel) ?_ | refine WC.draw 10 rfl (by decide +kernel) ?_ | refine WC.draw 11 rfl (by decide +kernel) ?_ | refine WC.draw 12 rfl (by decide +kernel) ?_ | refine WC.draw 13 rfl (by decide +kernel) ?_ | refine WC.draw 14 rfl (by decide +kernel) ?_ | refine WC.draw 15 rfl (by decide +kernel) ?_ | refine WC.draw 16 rfl (by decide +kernel) ?_ | refine WC.draw 17 rfl (by decide +kernel) ?_ | refine WC.draw 18 rfl (by decide +kernel) ?_ | refine WC.draw 19 rfl (by decide +kernel) ?_ | refine WC.draw 20 rfl (by decide +kernel) ?_ | refine WC.draw 21 rfl (by decide +kernel) ?_ | refine WC.draw 22 rfl (by decide +kernel) ?_ | refine WC.draw 23 rfl (by decide +kernel) ?_ | refine WC.draw 24 rfl (by decide +kernel) ?_)); (repeat (refine WD.cons rfl (fun c h => by cases h) sq_O9_1 ?_)); refine WD.nil ?_)); (try (refine st ?_; (repeat intro zzc)))))) | ((first | (refine WL.slArrH rfl rfl (by (first | with_reducible exact natz _ | with_reducible exact natz0 | with_reducible exact natz1 | with_reducible exact natz2 | with_reducible exact natz3 | with_reducible exact natz4 | with_reducible exact natz8 | (apply natz_add; (· first | with_reducible exact natz _ | with_reducible exact natz0 | with_reducible exact natz1 | with_reducible exact natz2 | with_reducible exact natz3 | with_reducible exact natz4 | with_reducible exact natz8); (· first | with_reducible exact natz _ | with_reducible exact natz0 | with_reducible exact natz1 | with_reducible exact natz2 | with_reducible exact natz3 | with_reducible exact natz4 | with_reducible exact natz8)) | (apply natz_sub; (· first | with_reducible exact natz _ | with_reducible exact natz0 | with_reducible exact natz1 | with_reducible exact natz2 | with_reducible exact natz3 | with_reducible exact natz4 | with_reducible exact natz8); (· first | with_reducible exact natz _ | with_reducible exact natz0 | with_reducible exact natz1 | with_reducible exact natz2 | with_reducible exact natz3 | with_reducible exact natz4 | with_reducible exact natz8); (· omega)) | exact (Int.toNat_of_nonneg (by omega)).symm)) rfl rfl rfl (by omega) ?_) | (refine WL.slArr rfl rfl rfl rfl ?_) | (refine iConv rfl ?_; refine WL.bytesBlk rfl zhs (by assumption) (by assumption) rfl rfl rfl rfl rfl ?_) | ((refine iDraw ?_; (first | refine WC.drawAll rfl (by decide +kernel) ?_ | refine WC.draw 1 rfl (by decide +kernel) ?_ | refine WC.draw 2 rfl (by decide +kernel) ?_ | refine WC.draw 3 rfl (by decide +kernel) ?_ | refine WC.draw 4 rfl (by decide +kernel) ?_ | refine WC.draw 5 rfl (by decide +kernel) ?_ | refine WC.draw 6 rfl (by decide +kernel) ?_ | refine WC.draw 7 rfl (by decide +kernel) ?_ | refine WC.draw 8 rfl (by decide +kernel) ?_ | refine WC.draw 9 rfl (by decide +kernel) ?_ | refine WC.draw 10 rfl (by decide +kernel) ?_ | refine WC.draw 11 rfl (by decide +kernel) ?_ | refine WC.draw 12 rfl (by decide +kernel) ?_ | refine WC.draw 13 rfl (by decide +kernel) ?_ | refine WC.draw 14 rfl (by decide +kernel) ?_ | refine WC.draw 15 rfl (by decide +kernel) ?_ | refine WC.draw 16 rfl (by decide +kernel) ?_ | refine WC.draw 17 rfl (by decide +kernel) ?_ | refine WC.draw 18 rfl (by decide +kernel) ?_ | refine WC.draw 19 rfl (by decide +kernel) ?_ | refine WC.draw 20 rfl (by decide +kernel) ?_ | refine WC.draw 21 rfl (by decide +kernel) ?_ | refine WC.draw 22 rfl (by decide +kernel) ?_ | refine WC.draw 23 rfl (by decide +kernel) ?_ | refine WC.draw 24 rfl (by decide +kernel) ?_)); (repeat (refine WD.cons rfl (fun c h => by cases h) sq_O9_1 ?_)); refine WD.nil ?_)); (try (refine st ?_; (repeat intro zzc))))); (repeat ((first | (refine WL.slArrH rfl rfl (by (first | with_reducible exact natz _ | with_reducible exact natz0 | with_reducible exact natz1 | with_reducible exact natz2 | with_reducible exact natz3 | with_reducible exact natz4 | with_reducible exact natz8 | (apply natz_add; (· first | with_reducible exact natz _ | with_reducible exact natz0 | with_reducible exact natz1 | with_reducible exact natz2 | with_reducible exact natz3 | with_reducible exact natz4 | with_reducible exact natz8); (· first | with_reducible exact natz _ | with_reducible exact natz0 | with_reducible exact natz1 | with_reducible exact natz2 | with_reducible exact natz3 | with_reducible exact natz4 | with_reducible exact natz8)) | (apply natz_sub; (· first | with_reducible exact natz _ | with_reducible exact natz0 | with_reducible exact natz1 | with_reducible exact natz2 | with_reducible exact natz3 | with_reducible exact natz4 | with_reducible exact natz8); (· first | with_reducible exact natz _ | with_reducible exact natz0 | with_reducible exact natz1 | with_reducible exact natz2 | with_reducible exact natz3 | with_reducible exact natz4 | with_reducible exact natz8); (· omega)) | exact (Int.toNat_of_nonneg (by omega)).symm)) rfl rfl rfl (by omega) ?_) | (refine WL.slArr rfl rfl rfl rfl ?_) | (refine iConv rfl ?_; refine WL.bytesBlk rfl zhs (by assumption) (by assumption) rfl rfl rfl rfl rfl ?_) | ((refine iDraw ?_; (first | refine WC.drawAll rfl (by decide +kernel) ?_ | refine WC.draw 1 rfl (by decide +kernel) ?_ | refine WC.draw 2 rfl (by decide +kernel) ?_ | refine WC.draw 3 rfl (by decide +kernel) ?_ | refine WC.draw 4 rfl (by decide +kernel) ?_ | refine WC.draw 5 rfl (by decide +kernel) ?_ | refine WC.draw 6 rfl (by decide +kernel) ?_ | refine WC.draw 7 rfl (by decide +kernel) ?_ | refine WC.draw 8 rfl (by decide +kernel) ?_ | refine WC.draw 9 rfl (by decide +kernel) ?_ | refine WC.draw 10 rfl (by decide +kernel) ?_ | refine WC.draw 11 rfl (by decide +kernel) ?_ | refine WC.draw 12 rfl (by decide +kernel) ?_ | refine WC.draw 13 rfl (by decide +kernel) ?_ | refine WC.draw 14 rfl (by decide +kernel) ?_ | refine WC.draw 15 rfl (by decide +kernel) ?_ | refine WC.draw 16 rfl (by decide +kernel) ?_ | refine WC.draw 17 rfl (by decide +kernel) ?_ | refine WC.draw 18 rfl (by decide +kernel) ?_ | refine WC.draw 19 rfl (by decide +kernel) ?_ | refine WC.draw 20 rfl (by decide +kernel) ?_ | refine WC.draw 21 rfl (by decide +kernel) ?_ | refine WC.draw 22 rfl (by decide +kernel) ?_ | refine WC.draw 23 rfl (by decide +kernel) ?_ | refine WC.draw 24 rfl (by decide +kernel) ?_)); (repeat (refine WD.cons rfl (fun c h => by cases h) sq_O9_1 ?_)); refine WD.nil ?_)); (try (refine st ?_; (repeat intro zzc))))); (repeat revert zzc); exact zzn.out) : G := h ⟨next⟩
/-- what a rope's iterators lean on, whatever the rope's own parts lean on -/
def InP (b : Nat) (q : Option Addr) (C : Mem → Prop) (m : Mem) : Prop := m b = some (.cells [.pointer q].toArray 23 (0, 0)) ∧ C m
theorem ropePieces_gen {b : Nat} {q : Option Addr} {C : Mem → Prop} {parts : List (List UInt8)} {L : List UInt8} (hCm : ∀ m m', C m → m.le m' → C m') (hps : ∀ bq, SeqC Try.prog 53 [.pointer (some ⟨bq, 0, none⟩)] (fun s : List UInt8 => [str s]) parts (InP bq q C)) (hfl : parts.flatten = L) (hl : L.length ≤ 16777216) :
    SeqM Try.prog 45 [.pointer (some ⟨b, 0, none⟩)] (fun p : Pc => [p.v]) (pieces L) (InP b q C) := by
  intro w0 lp J Jx m H mJ mX hcap h0 hY
  obtain ⟨hb, hC⟩ := hcap
  refine Does.of_body Try.func45 rfl Try.ntmps45 rfl ?_
  (refine st_O9_1 ?_; intros; rename_i by_ b3 b4 b5)
  refine w_callF Try.func27 ?_ (hs := partsIt_any _ _ _)
  rintro v0 m H0 ⟨bq, rfl, rfl, rfl⟩
  refine WL.persist (b := bq) (by (repeat (first | exact Out.here | apply Out.there))) ?_
  intro m1 hle1 hbq
  (try (refine st_O9_1 ?_; intros))
  have hcap : InP bq q C m1 := ⟨hbq, hCm _ _ hC hle1⟩
  refine WC.rangeFunc (encs := fun s : List UInt8 => [str s]) (xs := parts) (Cap := InP bq q C) (lb := [.pointer (some ⟨bq, 0, none⟩)]) (ps := [13]) (Hc := [])
    (J := fun pre m' Hl => m.le m' ∧ AtP L b3 b4 b5 by_ lp J pre.flatten m' Hl) (Jx := fun cd _ m' Hl => LeftP L b3 b4 b5 by_ lp Jx cd m' Hl)
    rfl Try.func53 rfl rfl (hps bq) hcap (fun _ => rfl) rfl Tail.all ?_ ?_ ?_ ?_
  · refine ⟨hle1, 0, 0, 0, 0, 0, [], H, ?_, ?_, rfl, ?_, rfl, ?_⟩
    · rfl
    · exact cut_nil.symm
    · rfl
    · exact mJ _ _ _ _ h0 hle1
  · rintro lp2 pre s post hx m2 Hl ⟨hle2, x, y, z, n, c, told, H1, hn, hc, hhh, htold, rfl, hJ⟩ hm2 Hfr hfr
    simp only [List.cons_append, List.nil_append, List.append_assoc]
    (try (refine st_O9_1 ?_; intros))
    refine WQ.assignedIn (.cons (.cons (.cons (.cons Tail.app)))) (Mem.le.refl _) ?_
    intro Hfr2 hfr2
    simp only [List.cons_append]
    have hA : cutAt pre.flatten ≤ pre.flatten.length := cut_le _
    obtain ⟨h, hh⟩ : ∃ h, pre.flatten.drop c = h := ⟨_, rfl⟩
    have hhl : n = h.length := by rw [← hh, List.length_drop]; omega
    rw [hh] at hhh
    have hLx : L = pre.flatten ++ s ++ post.flatten := by rw [← hfl, hx]; simp
    have hLl : L.length = pre.flatten.length + s.length + post.flatten.length := by rw [hLx, List.length_append, List.length_append]
    have hn3 : n ≤ 3 := by have := held_le pre.flatten; rw [← hc, hh] at this; omega
    have htold0 := htold
    rw [hc] at htold
    obtain ⟨f1, f2, f3⟩ := part_told hLx htold (h := h) (by rw [← hh, hc])
    obtain ⟨S, hS⟩ : ∃ S, h ++ s = S := ⟨_, rfl⟩
    have hSl : S.length = n + s.length := by rw [← hS, List.length_append, ← hhl]
    (try (refine st_O9_1 ?_; intros))
    rw [hS] at f1 f2 f3 ⊢
    have hk3 : (begunOf S).1 ≤ 3 := (begun_le S).1
    have hkl : (begunOf S).1 ≤ S.length := (begun_le S).2
    refine w_callF Try.func46 ?_ (hs := open_any (by omega) _ _ _)
    rintro v1 m2 H9 ⟨rfl, rfl, rfl⟩
    generalize (begunOf S).1 = k at *
    (try (refine st_O9_1 ?_; intros))
    obtain ⟨U, hU⟩ : ∃ U, S.take (S.length - k) = U := ⟨_, rfl⟩
    have htl : U.length = S.length - k := by rw [← hU]; simp
    rw [hU] at f3 ⊢
    refine w_callF Try.func47 ?_ (hs := pieces_any _ _ _ _)
    rintro v1 m2 H9 ⟨bs, rfl, rfl, rfl⟩
    refine WL.persist (b := bs) (by (repeat (first | exact Out.here | apply Out.there))) ?_
    intro m3 hle3 hbs
    (try (refine st_O9_1 ?_; intros))
    have hkc : S.length - (S.length - k) = k := by omega
    refine WC.rangeFuncIn (lo := lp2) (Hc := Hfr2) hfr2 (encs := fun p : Pc => [p.v]) (xs := pieces (U)) (Cap := TextAt bs (U)) (lb := [.pointer (some ⟨bs, 0, none⟩)]) (ps := [29])
      (J := fun pre2 m' Hl => m.le m' ∧ ∃ H1, Hl = [.blk b5 (.cells [.int .i64 (c : Int)].toArray 3 (0, 0)), .blk b4 (.cells [.int .i64 (k : Int)].toArray 3 (0, 0)), .blk b3 (.cells [.int .u8 x, .int .u8 y, .int .u8 z].toArray 89 (0, 0)), .blk by_ (.cells [.func (.yield lp) #[] #[]].toArray 88 (0, 0))] ++ H1 ∧ J (told ++ pre2.map (Pc.sh c)) m' H1)
      (Jx := fun cd _ m' Hl => LeftP L b3 b4 b5 by_ lp Jx cd m' Hl)
      rfl Try.func75 rfl rfl (pieces_seq _ (by omega) bs) hbs (fun _ => rfl) rfl (.cons (.cons (.cons (.cons Tail.app)))) ?_ ?_ ?_ ?_
    · exact ⟨hle2.trans hle3, H1, rfl, by rw [List.map_nil, List.append_nil]; exact mJ _ _ _ _ hJ hle3⟩
    · rintro lp4 pre2 p2 post2 hx2 m4 Hl ⟨hle4, H4, rfl, hJ4⟩ hm4 Hfr4 hfr4
      simp only [List.cons_append, List.nil_append, List.append_assoc]
      have hmw := mem_w (l := U) (p := p2) (by rw [hx2]; simp)
      have hcl := cut_le (pre.flatten ++ s)
      have hal : (pre.flatten ++ s).length = pre.flatten.length + s.length := List.length_append
      (refine st_O9_1 ?_; intros; rename_i b9)
      refine WQ.assignedIn (.cons (.cons (.cons (.cons (.cons Tail.app))))) (Mem.le.refl _) ?_
      intro Hfr5 hfr5
      simp only [List.cons_append]
      (try (refine st_O9_1 ?_; intros))
      rw [show (p2.at_ : Int) + (c : Int) = ((p2.at_ + c : Nat) : Int) by omega]
      have hpc : pieces L = (told ++ pre2.map (Pc.sh c)) ++ p2.sh c :: (post2.map (Pc.sh c) ++ from_ L (cutAt (pre.flatten ++ s))) := by rw [f3, ← hc, hx2]; simp
      refine WL.heap (fun w h => h.perm (perm_frame [_, _, _, _, _] H4 Hfr5)) ?_
      refine WL.yield (vs := [(p2.sh c).v]) rfl rfl rfl (hY _ _ _ hpc m4 H4 _ hJ4 hle4) ?_ ?_
      · rintro m5 H9 ⟨H5, rfl, hJ5, hle5⟩
        refine WL.heap (fun w h => h.perm (perm_frame [_, _, _, _, _] H5 Hfr5).symm) ?_
        simp only [List.cons_append, List.nil_append]
        (try (refine st_O9_1 ?_; intros))
        refine WQ.roundOn (Hl := [_, _, _, _] ++ H5) (fun w h => by have := h.drop; simpa using this) hle5 ⟨hle4.trans hle5, H5, rfl, by simpa using hJ5⟩
      · rintro m5 H9 ⟨H5, rfl, hJ5, hle5⟩
        refine WL.heap (fun w h => h.perm (perm_frame [_, _, _, _, _] H5 Hfr5).symm) ?_
        simp only [List.cons_append, List.nil_append]
        (try (refine st_O9_1 ?_; intros))
        refine WQ.roundRet (Hl := [.blk b5 (.cells [.int .i64 (c : Int)].toArray 3 (0, 0)), .blk b4 (.cells [.int .i64 (k : Int)].toArray 3 (0, 0)), .blk b3 (.cells [.int .u8 x, .int .u8 y, .int .u8 z].toArray 89 (0, 0)), .blk by_ (.cells [.func (.yield lp) #[] #[]].toArray 88 (0, 0))] ++ H5) (fun w h => by have := h.drop; simpa using this) hle5 ⟨rfl, _, H5, _, rfl, ⟨_, by rw [hpc, List.append_assoc]; rfl⟩, hJ5⟩
    · rintro m4 Hl ⟨hle4, H4, rfl, hJ4⟩ hm4
      simp only [List.cons_append, List.nil_append, List.append_assoc]
      have hcl := cut_le (pre.flatten ++ s)
      have hal : (pre.flatten ++ s).length = pre.flatten.length + s.length := List.length_append
      (try (refine st_O9_1 ?_; intros))
      rw [show (c : Int) + (U.length : Int) = ((cutAt (pre.flatten ++ s) : Nat) : Int) by omega]
      have hdl : (S.drop U.length).length = k := by rw [List.length_drop]; omega
      obtain ⟨x', y', z', hlaid, htake⟩ := held3 (x := x) (y := y) (z := z) (S.drop U.length) (by omega)
      rw [hdl] at htake
      refine WC.drawE 6 ([.blk b5 (.cells [.int .i64 ((cutAt (pre.flatten ++ s) : Nat) : Int)].toArray 3 (0, 0)), .blk b4 (.cells [.int .i64 (k : Int)].toArray 3 (0, 0)), .blk by_ (.cells [.func (.yield lp) #[] #[]].toArray 88 (0, 0))]) (.blk b3 (.cells [.int .u8 x, .int .u8 y, .int .u8 z].toArray 89 (0, 0)) :: (H4 ++ Hfr2)) rfl (by decide +kernel) zpk ?_
      (refine cm_O9_1 ?_)
      refine WE.act1 5 (by decide +kernel) rfl rfl (fun c h => by cases h) ?_
      refine WL.copyS (L := [.int .u8 x, .int .u8 y, .int .u8 z]) (L' := [.int .u8 x', .int .u8 y', .int .u8 z']) rfl rfl (by omega) rfl rfl rfl (by (repeat (first | exact Repl.here | apply Repl.there))) (by simp; omega) hlaid rfl ?_
      (try (refine st_O9_1 ?_; intros))
      refine WQ.acted (B := []) (U := .blk b3 (.cells [.int .u8 x', .int .u8 y', .int .u8 z'].toArray 89 (0, 0)) :: (H4 ++ Hfr2)) rfl (Mem.le.refl _) zpk ?_
      refine WE.done (by decide +kernel) ?_
      (try (refine st_O9_1 ?_; intros))
      have hfl2 : (pre ++ [s]).flatten = pre.flatten ++ s := by simp
      refine WQ.roundOn (Hl := [.blk b5 (.cells [.int .i64 ((cutAt (pre.flatten ++ s) : Nat) : Int)].toArray 3 (0, 0)), .blk b4 (.cells [.int .i64 (k : Int)].toArray 3 (0, 0)), .blk b3 (.cells [.int .u8 x', .int .u8 y', .int .u8 z'].toArray 89 (0, 0)), .blk by_ (.cells [.func (.yield lp) #[] #[]].toArray 88 (0, 0))] ++ H4) ?_ (hle3.trans hm4) ⟨hle4, ?_⟩
      · intro w h
        have h2 := h.perm (List.Perm.cons _ (List.Perm.cons _ (List.Perm.swap _ _ _)))
        simpa using h2
      · rw [hfl2]
        exact ⟨x', y', z', k, _, _, H4, by omega, rfl, by rw [htake, htl, f2], by rw [f3, ← hc], rfl, hJ4⟩
    · rintro cd pre2 m4 Hl _ ⟨rfl, X, H4, told', rfl, hpre, hJ4⟩ hm4
      (try (refine st_O9_1 ?_; intros))
      exact WQ.roundRet (Hl := X ++ H4) (fun w h => h) (hle3.trans hm4) ⟨rfl, X, H4, told', rfl, hpre, hJ4⟩
  · rintro D m2 Hl ⟨hle2, x, y, z, n, c, told, H1, hn, hc, hhh, htold, rfl, hJ⟩ hm2
    rw [hfl] at hn hc hhh
    simp only [List.cons_append, List.nil_append, List.append_assoc]
    have hA : cutAt L ≤ L.length := cut_le _
    obtain ⟨h, hh⟩ : ∃ h, L.drop c = h := ⟨_, rfl⟩
    have hhl : n = h.length := by rw [← hh, List.length_drop]; omega
    have hn3 : n ≤ 3 := by have := held_le L; rw [← hc, hh] at this; omega
    rw [hh] at hhh
    have hend := rest_told (by rw [← hc]; exact htold)
    rw [← hc, hh] at hend
    (try (refine st_O9_1 ?_; intros))
    refine w_callF Try.func47 ?_ (hs := pieces_any _ _ _ _)
    rintro v1 m2 H9 ⟨bs, rfl, rfl, rfl⟩
    refine WL.persist (b := bs) (by (repeat (first | exact Out.here | apply Out.there))) ?_
    intro m3 hle3 hbs
    (try (refine st_O9_1 ?_; intros))
    refine WC.rangeFunc (Hc := []) (encs := fun p : Pc => [p.v]) (xs := pieces h) (Cap := TextAt bs h) (lb := [.pointer (some ⟨bs, 0, none⟩)]) (ps := [53])
      (J := fun pre2 m' Hl => m.le m' ∧ ∃ H1, Hl = [.blk b5 (.cells [.int .i64 (c : Int)].toArray 3 (0, 0)), .blk b4 (.cells [.int .i64 (n : Int)].toArray 3 (0, 0)), .blk b3 (.cells [.int .u8 x, .int .u8 y, .int .u8 z].toArray 89 (0, 0)), .blk by_ (.cells [.func (.yield lp) #[] #[]].toArray 88 (0, 0))] ++ (H1 ++ [.blk D (.deferred (some []))]) ∧ J (told ++ pre2.map (Pc.sh c)) m' H1)
      (Jx := fun cd _ m' Hl => m.le m' ∧ cd = .ret ∧ ∃ (X H1 : SHeap) (told : List Pc), Hl = X ++ (H1 ++ [.blk D (.deferred (some []))]) ∧ told <+: pieces L ∧ Jx told m' H1)
      rfl Try.func75 rfl rfl (pieces_seq _ (by omega) bs) hbs (fun _ => rfl) rfl Tail.all ?_ ?_ ?_ ?_
    · exact ⟨hle2.trans hle3, H1, rfl, by rw [List.map_nil, List.append_nil]; exact mJ _ _ _ _ hJ hle3⟩
    · rintro lp4 pre2 p2 post2 hx2 m4 Hl ⟨hle4, H4, rfl, hJ4⟩ hm4 Hfr4 hfr4
      simp only [List.cons_append, List.nil_append, List.append_assoc]
      have hmw := mem_w (l := h) (p := p2) (by rw [hx2]; simp)
      (refine st_O9_1 ?_; intros; rename_i b9)
      refine WQ.assignedIn (Hl := _ :: _ :: _ :: _ :: _ :: (H4 ++ [.blk D (.deferred (some []))])) (.cons (.cons (.cons (.cons (.cons (by have := Tail.app (Hfr := Hfr4) (H := H4 ++ [.blk D (.deferred (some []))]); simpa using this)))))) (Mem.le.refl _) ?_
      intro Hfr5 hfr5
      simp only [List.cons_append, List.append_assoc, List.nil_append]
      (try (refine st_O9_1 ?_; intros))
      rw [show (p2.at_ : Int) + (c : Int) = ((p2.at_ + c : Nat) : Int) by omega]
      have hpc : pieces L = (told ++ pre2.map (Pc.sh c)) ++ p2.sh c :: post2.map (Pc.sh c) := by rw [hend, hx2]; simp
      refine WL.heap (fun w h => h.perm (perm_frame [_, _, _, _, _] H4 (.blk D (.deferred (some [])) :: Hfr5))) ?_
      refine WL.yield (vs := [(p2.sh c).v]) rfl rfl rfl (hY _ _ _ hpc m4 H4 _ hJ4 hle4) ?_ ?_
      · rintro m5 H9 ⟨H5, rfl, hJ5, hle5⟩
        refine WL.heap (fun w h => h.perm (perm_frame [_, _, _, _, _] H5 (.blk D (.deferred (some [])) :: Hfr5)).symm) ?_
        simp only [List.cons_append, List.nil_append]
        (try (refine st_O9_1 ?_; intros))
        refine WQ.roundOn (Hl := [_, _, _, _] ++ (H5 ++ [.blk D (.deferred (some []))])) (fun w h => by have := h.drop; simpa using this) hle5 ⟨hle4.trans hle5, H5, rfl, by simpa using hJ5⟩
      · rintro m5 H9 ⟨H5, rfl, hJ5, hle5⟩
        refine WL.heap (fun w h => h.perm (perm_frame [_, _, _, _, _] H5 (.blk D (.deferred (some [])) :: Hfr5)).symm) ?_
        simp only [List.cons_append, List.nil_append]
        (try (refine st_O9_1 ?_; intros))
        refine WQ.roundRet (Hl := [] ++ (H5 ++ [.blk D (.deferred (some []))])) (fun w h => by have := h.drop.drop.drop.drop.drop; simpa using this) hle5 ⟨hle4.trans hle5, rfl, [], H5, _, rfl, ⟨_, by rw [hpc, List.append_assoc]; rfl⟩, hJ5⟩
    · rintro D2 m4 Hl ⟨hle4, H4, rfl, hJ4⟩ hm4
      rw [← hend] at hJ4
      (try (refine st_O9_1 ?_; intros))
      refine WQ.markNorm (H1 := [_, _, _, _] ++ (H4 ++ [.blk D (.deferred (some []))])) List.perm_append_comm ?_
      refine WQ.markNorm (H1 := [_, _, _, _] ++ H4) (by rw [← List.append_assoc]; exact List.perm_append_comm) ?_
      exact q_finNorm0 (H0 := H4) ⟨hle4, .inl hJ4⟩ (hd := fun w h => h.drop.drop.drop.drop)
    · rintro D2 cd pre2 m4 Hl _ ⟨hle4, rfl, X, H4, told', rfl, hpre, hJ4⟩ hm4
      (try (refine st_O9_1 ?_; intros))
      refine WQ.mark (H1 := X ++ (H4 ++ [.blk D (.deferred (some []))])) List.perm_append_comm ?_
      refine WQ.mark (H1 := X ++ H4) (by rw [← List.append_assoc]; exact List.perm_append_comm) ?_
      exact q_fin0 (H0 := H4) ⟨hle4, .inr ⟨told', hpre, hJ4⟩⟩ (hd := fun w h => drops_app h)
  · rintro D cd pre2 m4 Hl _ ⟨rfl, X, H4, told', rfl, hpre, hJ4⟩ hm4
    (try (refine st_O9_1 ?_; intros))
    refine WQ.mark (H1 := X ++ H4) List.perm_append_comm ?_
    exact q_fin0 (H0 := H4) ⟨hle1.trans hm4, .inr ⟨told', hpre, hJ4⟩⟩ (hd := fun w h => drops_app h)
theorem ropePieces_seq {b : Nat} {p : Value} {o : Option Nd} : SeqM Try.prog 45 [.pointer (some ⟨b, 0, none⟩)] (fun p : Pc => [p.v]) (pieces (rtxt o)) (RopeIn b p o) := by
  intro w0 lp J Jx m H mJ mX hcap h0 hY
  obtain ⟨hb, hT⟩ := hcap
  have hT0 := hT
  obtain ⟨a, v, rfl, ha, hv, ok, hl⟩ := hT
  exact ropePieces_gen (q := some ⟨a, 0, none⟩) (C := fun m => RopeT m (.pointer (some ⟨a, 0, none⟩)) o) (parts := partsR o) (fun m m' h hm => h.le hm) (fun bq => parts_seq) (partsR_txt o) hl w0 lp J Jx m H mJ mX ⟨hb, hT0⟩ h0 hY
end Go.Proofs.Ytljfncpecpkhhaa

/-
  The walks of ropes' Count and of the laws' works. No condition.
-/
namespace Go.Eng
def nBrk (ps : List Pc) : Nat := (ps.filter fun p => p.b).length
theorem nBrk_snoc (pre : List Pc) (x : Pc) : nBrk (pre ++ [x]) = nBrk pre + (if x.b then 1 else 0) := by
  unfold nBrk; rw [List.filter_append, List.length_append]; cases hx : x.b <;> simp [hx]
theorem nBrk_le (pre : List Pc) : nBrk pre ≤ pre.length := List.length_filter_le _ _
def tee : List UInt8 := [97, 195, 169, 10, 240, 159, 152, 128]
theorem tee_a : (pieces [97, 195]).length = 2 ∧ nBrk (pieces [97, 195]) = 1 := by decide
theorem tee_b : (pieces tee).length = 4 ∧ nBrk (pieces tee) = 0 := by decide
end Go.Eng
namespace Go.Proofs.Ytljfncpecpkhhaa
open Go Go.Eng
set_option maxRecDepth 100000
set_option maxHeartbeats 4000000
set_option linter.all false
attribute [local irreducible] WL WC WQ QFun QLoop Does Q1 QRound QAssign Go.Addr.add
attribute [local irreducible] nBrk
theorem count_any {p : Value} {s : List UInt8} (w0 : World) (m : Mem) (H : SHeap) (hp : RopeAt m p s) :
    Does Try.prog 25 #[p] w0 m H (fun v m' H' => m.le m' ∧ H' = H ∧ v = .tuple #[.int .i64 ((pieces s).length : Int), .int .i64 (nBrk (pieces s) : Int)]) := by
  obtain ⟨b, rfl⟩ := ropes_ptr hp
  obtain ⟨o, hT, ho⟩ := hp.node
  have hl := hp.len
  refine Does.of_body (args := [.pointer (some ⟨b, 0, none⟩)]) Try.func25 rfl Try.ntmps25 rfl ?_
  have hpl := pieces_length s
  (refine st ?_; intros; rename_i b4 b5)
  refine w_callF Try.func23 ?_ (hs := piecesIt_any _ _ _)
  rintro v0 m H0 ⟨bi, rfl, rfl, rfl⟩
  refine WL.persist (b := bi) (by (repeat (first | exact Out.here | apply Out.there))) ?_
  intro m1 hle1 hbi
  (try (refine st ?_; intros))
  have hin : RopeIn bi (.pointer (some ⟨b, 0, none⟩)) o m1 := ⟨hbi, hT.le hle1⟩
  have hseq := ropePieces_seq (b := bi) (p := .pointer (some ⟨b, 0, none⟩)) (o := o)
  rw [ho] at hseq
  refine WC.rangeFuncM (Hc := H) (encs := fun p : Pc => [p.v]) (xs := pieces s) (Cap := RopeIn bi (.pointer (some ⟨b, 0, none⟩)) o) (lb := [.pointer (some ⟨bi, 0, none⟩)]) (ps := [9])
    (J := fun pre _ Hl => Hl = [.blk b5 (.cells [.int .i64 (nBrk pre : Int)].toArray 3 (0, 0)), .blk b4 (.cells [.int .i64 (pre.length : Int)].toArray 3 (0, 0))]) (Jx := fun _ _ _ _ => False)
    rfl Try.func45 rfl rfl hseq hin (fun _ => rfl) rfl (fun _ _ _ _ h _ => h) (fun _ _ _ _ _ h _ => h) (.cons (.cons .nil)) ?_ ?_ ?_ ?_
  · rw [show nBrk [] = 0 from by unfold nBrk; rfl]; rfl
  · rintro lp pre x post hxs m2 Hl rfl hm2 Hfr hfr
    have hpre : pre.length ≤ (pieces s).length := by rw [hxs]; simp
    have hsn := nBrk_snoc pre x
    have hle3 := nBrk_le pre
    simp only [List.cons_append, List.nil_append]
    (try (refine st ?_; intros))
    refine WQ.assigned (.cons (.cons (.cons .nil))) (Mem.le.refl _) ?_
    intro Hfr2
    simp only [List.cons_append, List.nil_append]
    cases hx : x.b with
    | true =>
      rw [hx] at hsn
      (try (refine st ?_; intros))
      exact WQ.roundOn (Hl := [_, _]) (fun w h => h.drop) (Mem.le.refl _) (by rw [hsn, List.length_append]; rfl)
    | false =>
      rw [hx] at hsn
      (try (refine st ?_; intros))
      exact WQ.roundOn (Hl := [_, _]) (fun w h => h.drop) (Mem.le.refl _) (by rw [hsn, List.length_append]; rfl)
  · rintro D m2 Hl rfl hm2
    simp only [List.cons_append, List.nil_append]
    (try (refine st ?_; intros))
    refine WQ.mark (List.perm_middle (l₁ := [_, _])) ?_
    exact q_fin0 (H0 := H) ⟨hle1.trans hm2, rfl, rfl⟩ (hd := zpk)
  · rintro D c pre m' Hl _ h _
    exact h.elim
theorem sq_O10_1 {G : Prop} (h : G := by (repeat (first | (refine sp ?_; (repeat intro zzc)) | (refine iF 15 rfl ?_; refine w_callG Try.func15 ?_ (hs := text_any _ _ _ (by assumption))) | (refine iF 14 rfl ?_; refine w_callG Try.func14 ?_ (hs := same_any _ _ _ (by assumption) (by assumption))))); exact WQ.q1 rfl) : G := h
theorem st_O10_1 {G G' : Prop} (next : G') (h : Bx G' → G := by intro zzn; (first | ((refine st ?_; (repeat intro zzc)); (try ((first | (refine iF 15 rfl ?_; refine w_callG Try.func15 ?_ (hs := text_any _ _ _ (by assumption))) | (refine iF 14 rfl ?_; refine w_callG Try.func14 ?_ (hs := same_any _ _ _ (by assumption) (by assumption))) | ((refine iDraw ?_; (first | refine WC.drawAll rfl (by decide +kernel) ?_ | refine WC.draw 1 rfl (by decide +kernel) ?_ | refine WC.draw 2 rfl (by decide +kernel) ?_ | refine WC.draw 3 rfl (by decide +kernel) ?_ | refine WC.draw 4 rfl (by decide +kernel) ?_ | refine WC.draw 5 rfl (by decide +kernel) ?_ | refine WC.draw 6 rfl (by decide +kernel) ?_ | refine WC.draw 7 rfl (by decide +kernel) ?_ | refine WC.draw 8 rfl (by decide +kernel) ?_ | refine WC.draw 9 rfl (by decide +kernel) ?_ | refine WC.draw 10 rfl (by decide +kernel) ?_ | refine WC.draw 11 rfl (by decide +kernel) ?_ | refine WC.draw 12 rfl (by decide +kernel) ?_ | refine WC.draw 13 rfl (by decide +kernel) ?_ | refine WC.draw 14 rfl (by decide +kernel) ?_ | refine WC.draw 15 rfl (by decide +kernel) ?_ | refine WC.draw 16 rfl (by decide +kernel) ?_ | refine WC.draw 17 rfl (by decide +kernel) ?_ | refine WC.draw 18 rfl (by decide +kernel) ?_ | refine WC.draw 19 rfl (by decide +kernel) ?_ | refine WC.draw 20 rfl (by decide +kernel) ?_ | refine WC.draw 21 rfl (by decide +kernel) ?_ | refine WC.draw 22 rfl (by decide +kernel) ?_ | refine WC.draw 23 rfl (by decide +kernel) ?_ | refine WC.draw 24 rfl (by decide +kernel) ?_)); (repeat (refine WD.cons rfl (fun c h => by cases h) sq_O10_1 ?_)); refine WD.nil ?_)); (try (refine st ?_; (repeat intro zzc)))))) | ((first | (refine iF 15 rfl ?_; refine w_callG Try.func15 ?_ (hs := text_any _ _ _ (by assumption))) | (refine iF 14 rfl ?_; refine w_callG Try.func14 ?_ (hs := same_any _ _ _ (by assumption) (by assumption))) | ((refine iDraw ?_; (first | refine WC.drawAll rfl (by decide +kernel) ?_ | refine WC.draw 1 rfl (by decide +kernel) ?_ | refine WC.draw 2 rfl (by decide +kernel) ?_ | refine WC.draw 3 rfl (by decide +kernel) ?_ | refine WC.draw 4 rfl (by decide +kernel) ?_ | refine WC.draw 5 rfl (by decide +kernel) ?_ | refine WC.draw 6 rfl (by decide +kernel) ?_ | refine WC.draw 7 rfl (by decide +kernel) ?_ | refine WC.draw 8 rfl (by decide +kernel) ?_ | refine WC.draw 9 rfl (by decide +kernel) ?_ | refine WC.draw 10 rfl (by decide +kernel) ?_ | refine WC.draw 11 rfl (by decide +kernel) ?_ | refine WC.draw 12 rfl (by decide +kernel) ?_ | refine WC.draw 13 rfl (by decide +kernel) ?_ | refine WC.draw 14 rfl (by decide +kernel) ?_ | refine WC.draw 15 rfl (by decide +kernel) ?_ | refine WC.draw 16 rfl (by decide +kernel) ?_ | refine WC.draw 17 rfl (by decide +kernel) ?_ | refine WC.draw 18 rfl (by decide +kernel) ?_ | refine WC.draw 19 rfl (by decide +kernel) ?_ | refine WC.draw 20 rfl (by decide +kernel) ?_ | refine WC.draw 21 rfl (by decide +kernel) ?_ | refine WC.draw 22 rfl (by decide +kernel) ?_ | refine WC.draw 23 rfl (by decide +kernel) ?_ | refine WC.draw 24 rfl (by decide +kernel) ?_)); (repeat (refine WD.cons rfl (fun c h => by cases h) sq_O10_1 ?_)); refine WD.nil ?_)); (try (refine st ?_; (repeat intro zzc))))); (repeat ((first | (refine iF 15 rfl ?_; refine w_callG Try.func15 ?_ (hs := text_any _ _ _ (by assumption))) | (refine iF 14 rfl ?_; refine w_callG Try.func14 ?_ (hs := same_any _ _ _ (by assumption) (by assumption))) | ((refine iDraw ?_; (first | refine WC.drawAll rfl (by decide +kernel) ?_ | refine WC.draw 1 rfl (by decide +kernel) ?_ | refine WC.draw 2 rfl (by decide +kernel) ?_ | refine WC.draw 3 rfl (by decide +kernel) ?_ | refine WC.draw 4 rfl (by decide +kernel) ?_ | refine WC.draw 5 rfl (by decide +kernel) ?_ | refine WC.draw 6 rfl (by decide +kernel) ?_ | refine WC.draw 7 rfl (by decide +kernel) ?_ | refine WC.draw 8 rfl (by decide +kernel) ?_ | refine WC.draw 9 rfl (by decide +kernel) ?_ | refine WC.draw 10 rfl (by decide +kernel) ?_ | refine WC.draw 11 rfl (by decide +kernel) ?_ | refine WC.draw 12 rfl (by decide +kernel) ?_ | refine WC.draw 13 rfl (by decide +kernel) ?_ | refine WC.draw 14 rfl (by decide +kernel) ?_ | refine WC.draw 15 rfl (by decide +kernel) ?_ | refine WC.draw 16 rfl (by decide +kernel) ?_ | refine WC.draw 17 rfl (by decide +kernel) ?_ | refine WC.draw 18 rfl (by decide +kernel) ?_ | refine WC.draw 19 rfl (by decide +kernel) ?_ | refine WC.draw 20 rfl (by decide +kernel) ?_ | refine WC.draw 21 rfl (by decide +kernel) ?_ | refine WC.draw 22 rfl (by decide +kernel) ?_ | refine WC.draw 23 rfl (by decide +kernel) ?_ | refine WC.draw 24 rfl (by decide +kernel) ?_)); (repeat (refine WD.cons rfl (fun c h => by cases h) sq_O10_1 ?_)); refine WD.nil ?_)); (try (refine st ?_; (repeat intro zzc))))); (repeat revert zzc); exact zzn.out) : G := h ⟨next⟩
theorem works_any (w0 : World) (m : Mem) (H : SHeap) : Does Try.prog 11 #[] w0 m H (fun v m' H' => m.le m' ∧ H' = H ∧ v = .bool true) := by
  refine Does.of_body (args := []) Try.func11 rfl Try.ntmps11 rfl ?_
  (try (refine st_O10_1 ?_; intros))
  refine w_callF Try.func12 ?_ (hs := new_any tee (by decide) _ _ _)
  rintro v m1 H ⟨hle1, rfl, hv⟩
  obtain ⟨p, rfl, hp⟩ := hv
  (try (refine st_O10_1 ?_; intros))
  refine w_callF Try.func16 ?_ (hs := slice_any _ _ _ hp)
  rintro v m2 H ⟨hle2, rfl, pa, rfl, ha⟩
  replace hp := hp.le hle2
  (try (refine st_O10_1 ?_; intros))
  refine w_callF Try.func16 ?_ (hs := slice_any _ _ _ hp)
  rintro v m3 H ⟨hle3, rfl, pb, rfl, hb⟩
  replace hp := hp.le hle3
  replace ha := ha.le hle3
  have e1 : tee = [97, 195, 169, 10, 240, 159, 152, 128] := rfl
  have e2 : ([97, 195] : List UInt8) = [97, 195] := rfl
  have ha : RopeAt m3 pa [97, 195] := ha
  have hb : RopeAt m3 pb [169, 10, 240, 159, 152, 128] := hb
  (try (refine st_O10_1 ?_; intros))
  refine w_callF Try.func25 ?_ (hs := count_any _ _ _ ha)
  rintro v m4 H ⟨hle4, rfl, rfl⟩
  rw [tee_a.1, tee_a.2]
  replace hp := hp.le hle4
  replace ha := ha.le hle4
  replace hb := hb.le hle4
  (try (refine st_O10_1 ?_; intros))
  refine w_callF Try.func13 ?_ (hs := join_any _ _ _ ha hb)
  rintro v m5 H ⟨hle5, rfl, pq, rfl, hq⟩
  have hq : RopeAt m5 pq tee := hq
  replace hp := hp.le hle5
  replace ha := ha.le hle5
  (try (refine st_O10_1 ?_; intros))
  refine w_callF Try.func25 ?_ (hs := count_any _ _ _ hq)
  rintro v m6 H ⟨hle6, rfl, rfl⟩
  rw [tee_b.1, tee_b.2]
  replace hp := hp.le hle6
  replace ha := ha.le hle6
  replace hq := hq.le hle6
  have e3 : tee = tee := rfl
  have e4 : ¬ ([97, 195] : List UInt8) = tee := by decide
  (try (refine st_O10_1 ?_; intros))
  refine q_fin0 (H0 := H) ⟨hle1.trans (hle2.trans (hle3.trans (hle4.trans (hle5.trans hle6)))), rfl, ?_⟩ (hd := zpk)
  rw [dcd_false e4]; rfl
end Go.Proofs.Ytljfncpecpkhhaa

/-
  Plain facts for ropes: what is told of a text from its end, part by part. No condition.
-/
namespace Go.Eng
open Go
theorem cont_and {x : Nat} (h : x < 256) : x &&& 192 = 128 ↔ 128 ≤ x ∧ x < 192 := by
  have : ∀ x < 256, (x &&& 192 = 128 ↔ 128 ≤ x ∧ x < 192) := by decide +kernel
  exact this x h
theorem gb_drop (l : List UInt8) (t k : Nat) : gb (l.drop t) k = gb l (t + k) := nb_drop l t k
/-- up to three bytes that go on, and what stands behind them: a boundary -/
theorem reach_back {L : List UInt8} {p k e : Nat} (he : e ≤ L.length) (hr : Reach L e) (hk : p + k ≤ e) (hcont : ∀ i, i < k → 128 ≤ gb L (p + i) ∧ gb L (p + i) < 192)
    (hstop : k = 3 ∨ p + k = e ∨ ¬ (128 ≤ gb L (p + k) ∧ gb L (p + k) < 192)) : Reach L (p + k) := by
  by_cases hpe : p + k = e
  · rw [hpe]; exact hr
  · by_cases hreach : Reach L (p + k)
    · exact hreach
    · exfalso
      obtain ⟨i, hi⟩ := (within_iff (l := L) (at_ := p + k) (by omega)).2 (fun h => by
        rcases h with h | h
        · omega
        · exact hreach h)
      obtain ⟨_, h2, h3, h4⟩ := within_reach (by omega) hi
      obtain ⟨w1, w2, w3⟩ := hi
      have hnb : ¬ dl (L.drop i) = (65533, 1) := by
        intro h
        unfold readP at w3
        rw [if_pos h] at w3
        cases w3
      rw [readP_w_eq] at w2
      have hlen : 0 < (L.drop i).length := by simp; omega
      have ht := tail_cont hlen (i := p + k - i) (by omega) (by omega)
      rw [gb_drop, show i + (p + k - i) = p + k by omega] at ht
      rcases hstop with h | h | h
      · have hh := head_lead hlen hnb
        rw [gb_drop, Nat.add_zero] at hh
        have := hcont (i - p) (by omega)
        rw [show p + (i - p) = i by omega] at this
        omega
      · exact hpe h
      · exact h ht
/-- one more part ahead of what is told: what is sure of it is told next, from its end -/
theorem back_told {L Y x Z : List UInt8} {e k : Nat} (hL : L = Y ++ x ++ Z) (he : Y.length + x.length ≤ e ∧ e ≤ L.length) (hr : Reach L e) {S : List UInt8} (hS : S = (L.drop Y.length).take (e - Y.length)) (hk : k ≤ S.length)
    (hcont : ∀ i, i < k → 128 ≤ gb S i ∧ gb S i < 192) (hstop : k = 3 ∨ k = S.length ∨ ¬ (128 ≤ gb S k ∧ gb S k < 192)) :
    Reach L (Y.length + k) ∧ from_ L (Y.length + k) = (pieces (S.drop k)).map (Pc.sh (Y.length + k)) ++ from_ L e := by
  have hLl : L.length = Y.length + x.length + Z.length := by rw [hL]; simp; omega
  have hSl : S.length = e - Y.length := by rw [hS]; simp; omega
  have hg : ∀ i, i < S.length → gb S i = gb L (Y.length + i) := fun i hi => by
    rw [hS]
    have h1 := nb_take (l := L.drop Y.length) (n := e - Y.length) (k := i) (by omega)
    have h2 := nb_drop L Y.length i
    exact h1.trans h2
  have h1 : Reach L (Y.length + k) := by
    refine reach_back he.2 hr (by omega) (fun i hi => by rw [← hg i (by omega)]; exact hcont i hi) ?_
    rcases hstop with h | h | h
    · exact .inl h
    · exact .inr (.inl (by omega))
    · by_cases hkS : k = S.length
      · exact .inr (.inl (by omega))
      · exact .inr (.inr (by rw [← hg k (by omega)]; exact h))
  refine ⟨h1, ?_⟩
  obtain ⟨told, ht⟩ := h1
  rw [between ht hr (by omega) he.2, toldOf]
  congr 3
  rw [hS, List.drop_take, List.drop_drop]
  congr 1
  omega
theorem seam_text {L Y x Z : List UInt8} {e : Nat} (hL : L = Y ++ x ++ Z) (he : Y.length + x.length ≤ e) : x ++ (L.drop (Y.length + x.length)).take (e - (Y.length + x.length)) = (L.drop Y.length).take (e - Y.length) := by
  have h1 : L.drop Y.length = x ++ Z := by rw [hL, List.append_assoc, List.drop_left]
  have h2 : L.drop (Y.length + x.length) = Z := by rw [hL, ← List.length_append, List.drop_left]
  rw [h1, h2, List.take_append, List.take_of_length_le (by omega : x.length ≤ e - Y.length)]
  congr 2
  omega
theorem front_told {L : List UInt8} {e : Nat} (he : e ≤ L.length) (hr : Reach L e) : pieces L = (pieces (L.take e)).map (Pc.sh 0) ++ from_ L e := by
  have := between (L := L) (t := 0) (told := []) rfl hr (Nat.zero_le _) he
  rw [pieces, this, toldOf]
  simp
end Go.Eng

/-
  The walk of ropes' iterator Back. No condition.
-/
namespace Go.Eng
open Go Go.RowKit
theorem perm_frame2 (X Y H1 F : SHeap) : List.Perm (X ++ (Y ++ (H1 ++ F))) ((X ++ (Y ++ F)) ++ H1) := by
  have := perm_frame (X ++ Y) H1 F
  simpa using this
end Go.Eng
namespace Go.Proofs.Ytljfncpecpkhhaa
open Go Go.Eng
set_option maxRecDepth 100000
set_option maxHeartbeats 4000000
set_option linter.all false
attribute [local irreducible] WL WC WQ QFun QLoop Does Q1 QRound QAssign Go.Addr.add
theorem back_any2 {w0 : World} {fv : Value} : ∀ (T : Nd) (v : Value) (J Jx : List (List UInt8) → Mem → SHeap → Prop) (m : Mem) (H : SHeap), NAt m T v → J [] m H → Hands w0 fv T.parts.reverse J Jx m →
    Does Try.prog 51 #[v, fv] w0 m H (fun u m' H' => m.le m' ∧ (u = .bool true ∧ J T.parts.reverse m' H' ∨ u = .bool false ∧ ∃ pre, pre <+: T.parts.reverse ∧ Jx pre m' H')) := by
  intro T
  induction T with
  | leaf s =>
    intro v J Jx m H hT h0 hh
    cases hT
    refine Does.of_body (args := [.iface 118 (.agg #[str s]), fv]) Try.func51 rfl Try.ntmps51 rfl ?_
    (try (refine st ?_; intros))
    refine WL.assertYes rfl (by kernel_rfl) rfl ?_
    (refine st ?_; intros; rename_i q)
    have hf := hh [] s [] rfl m H [.blk q (.cells [str s].toArray 118 (0, 0))] h0 (Mem.le.refl _)
    refine hf rfl rfl rfl ?_ ?_
    · rintro m' H' ⟨H2, rfl, hJ, hle⟩
      simp only [List.cons_append, List.nil_append]
      (try (refine st ?_; intros))
      exact q_fin0 (H0 := H2) ⟨hle, .inl ⟨rfl, hJ⟩⟩ (hd := zpk)
    · rintro m' H' ⟨H2, rfl, hJ, hle⟩
      simp only [List.cons_append, List.nil_append]
      (try (refine st ?_; intros))
      exact q_fin0 (H0 := H2) ⟨hle, .inr ⟨rfl, [s], List.prefix_refl _, hJ⟩⟩ (hd := zpk)
  | joint l r ihl ihr =>
    intro v J Jx m H hT h0 hh
    obtain ⟨b, vl, vr, rfl, hb, hl, hr⟩ := hT
    have hp : (Nd.joint l r).parts.reverse = r.parts.reverse ++ l.parts.reverse := by simp [Nd.parts]
    rw [hp] at hh ⊢
    refine Does.of_body (args := [.iface 119 (.pointer (some ⟨b, 0, none⟩)), fv]) Try.func51 rfl Try.ntmps51 rfl ?_
    (try (refine st ?_; intros))
    refine WL.assertNo (z := .agg #[str []]) rfl rfl (by kernel_rfl) (fun _ => by kernel_rfl) rfl ?_
    (try (refine st ?_; intros))
    refine WL.assertYes rfl (by kernel_rfl) rfl ?_
    (try (refine st ?_; intros))
    refine w_callF Try.func51 ?_ (hs := ihr vr J Jx m H hr h0 (fun pre x post h => hh pre x (post ++ l.parts.reverse) (by rw [h]; simp)))
    rintro u m1 H1 ⟨hle1, ⟨rfl, hJ⟩ | ⟨rfl, pre, hpre, hJ⟩⟩
    · have hb1 := hle1 _ _ hb
      (try (refine st ?_; intros))
      refine w_callF Try.func51 ?_ (hs := ihl vl (fun pre => J (r.parts.reverse ++ pre)) (fun pre => Jx (r.parts.reverse ++ pre)) m1 H1 (hl.le hle1) (by simpa using hJ) (fun pre x post h m2 H2 Hit hJ2 hle2 => by have := hh (r.parts.reverse ++ pre) x post (by rw [h]; simp) m2 H2 Hit hJ2 (hle1.trans hle2); rwa [List.append_assoc] at this))
      rintro u m2 H2 ⟨hle2, ⟨rfl, hJ⟩ | ⟨rfl, pre, hpre, hJ⟩⟩
      · (try (refine st ?_; intros))
        exact q_fin0 (H0 := H2) ⟨hle1.trans hle2, .inl ⟨rfl, hJ⟩⟩ (hd := zpk)
      · (try (refine st ?_; intros))
        exact q_fin0 (H0 := H2) ⟨hle1.trans hle2, .inr ⟨rfl, _, (List.prefix_append_right_inj _).2 hpre, hJ⟩⟩ (hd := zpk)
    · (try (refine st ?_; intros))
      exact q_fin0 (H0 := H1) ⟨hle1, .inr ⟨rfl, pre, hpre.trans (List.prefix_append _ _), hJ⟩⟩ (hd := zpk)
theorem backNil_any {w0 : World} {fv : Value} (m : Mem) (H : SHeap) : Does Try.prog 51 #[.nilIface, fv] w0 m H (Gives (.bool true) m H) := by
  refine Does.of_body (args := [.nilIface, fv]) Try.func51 rfl Try.ntmps51 rfl ?_
  (try (refine st ?_; intros))
  refine WL.assertNil (z := .agg #[str []]) rfl (by kernel_rfl) (fun _ => by kernel_rfl) rfl ?_
  (try (refine st ?_; intros))
  refine WL.assertNil (z := .pointer none) rfl (by kernel_rfl) (fun _ => by kernel_rfl) rfl ?_
  (try (refine st ?_; intros))
  exact q_fin0 (H0 := H) (Gives.mk rfl) (hd := zpk)
/-- what the pieces are handed to -/
def Yields (w0 : World) (lp : Nat) (xs : List Pc) (J Jx : List Pc → Mem → SHeap → Prop) (m : Mem) : Prop :=
  ∀ pre x post, xs = pre ++ x :: post → ∀ m1 H1 Hit, J pre m1 H1 → m.le m1 →
    YieldOK Try.prog w0 lp [x.v].toArray m1 (Hit ++ H1) (fun m' H' => ∃ H2, H' = Hit ++ H2 ∧ J (pre ++ [x]) m' H2 ∧ m1.le m') (fun m' H' => ∃ H2, H' = Hit ++ H2 ∧ Jx (pre ++ [x]) m' H2 ∧ m1.le m')
def ToldP (xs pre1 : List Pc) (J Jx : List Pc → Mem → SHeap → Prop) (m : Mem) (Hit : SHeap) : Value → Mem → SHeap → Prop := fun v m' H' => m.le m' ∧ ∃ H2, H' = Hit ++ H2 ∧ (v = .bool true ∧ J pre1 m' H2 ∨ v = .bool false ∧ ∃ pre, pre <+: xs ∧ Jx pre m' H2)
theorem told_any {w0 : World} {lp b2 : Nat} {J Jx : List Pc → Mem → SHeap → Prop} {xs : List Pc} {mS : Mem} (mJ : ∀ pre m m' H, J pre m H → m.le m' → J pre m' H) (hY : Yields w0 lp xs J Jx mS)
    {s : List UInt8} {f : Nat} {z : Int} (hz : z = (f : Int)) (hs : s.length + f ≤ 1000000000) {pre0 post0 : List Pc} (hxs : xs = pre0 ++ ((pieces s).map (Pc.sh f)).reverse ++ post0) (m : Mem) (Hit H1 : SHeap) (hle : mS.le m) (hb2 : m b2 = some (.cells [.func (.yield lp) #[] #[]].toArray 88 (0, 0))) (hJ : J pre0 m H1) :
    Does Try.prog 49 #[str s, .int .i64 z, .pointer (some ⟨b2, 0, none⟩)] w0 m (Hit ++ H1) (ToldP xs (pre0 ++ ((pieces s).map (Pc.sh f)).reverse) J Jx m Hit) := by
  subst hz
  refine Does.of_body (args := [str s, .int .i64 (f : Int), .pointer (some ⟨b2, 0, none⟩)]) Try.func49 rfl Try.ntmps49 rfl ?_
  (refine st ?_; intros; rename_i b4 b5)
  refine w_callF Try.func50 ?_ (hs := back_any _ _ _ _)
  rintro v0 m H0 ⟨bs, rfl, rfl, rfl⟩
  refine WL.persist (b := bs) (by (repeat (first | exact Out.here | apply Out.there))) ?_
  intro m1 hle1 hbs
  (try (refine st ?_; intros))
  have hmr : ∀ l : List Pc, (l.map (Pc.sh f)).reverse = l.reverse.map (Pc.sh f) := fun l => List.map_reverse.symm
  rw [hmr] at hxs ⊢
  refine WC.rangeFunc (Hc := []) (encs := fun p : Pc => [p.v]) (xs := (pieces s).reverse) (Cap := TextAt bs s) (lb := [.pointer (some ⟨bs, 0, none⟩)]) (ps := [9])
    (J := fun pre2 m' Hl => m.le m' ∧ ∃ H2, Hl = [.blk b5 (.cells [.bool false].toArray 4 (0, 0)), .blk b4 (.cells [.int .i64 (f : Int)].toArray 3 (0, 0))] ++ (Hit ++ H2) ∧ J (pre0 ++ pre2.map (Pc.sh f)) m' H2)
    (Jx := fun cd _ m' Hl => m.le m' ∧ cd = .ret ∧ ∃ H2 pre, Hl = [.blk b5 (.cells [.bool false].toArray 4 (0, 0))] ++ (Hit ++ H2) ∧ pre <+: xs ∧ Jx pre m' H2)
    rfl Try.func76 rfl rfl (back_seq _ (by omega) bs) hbs (fun _ => rfl) rfl Tail.all ?_ ?_ ?_ ?_
  · exact ⟨hle1, H1, rfl, by rw [List.map_nil, List.append_nil]; exact mJ _ _ _ _ hJ hle1⟩
  · rintro lp4 pre2 p2 post2 hx2 m4 Hl ⟨hle4, H4, rfl, hJ4⟩ hm4 Hfr4 hfr4
    simp only [List.cons_append, List.nil_append, List.append_assoc]
    have hb24 := hle4 _ _ hb2
    have hmw := mem_w (l := s) (p := p2) (by rw [← List.mem_reverse, hx2]; simp)
    (refine st ?_; intros; rename_i b9)
    refine WQ.assignedIn (Hl := _ :: _ :: _ :: (Hit ++ H4)) (.cons (.cons (.cons (by have := Tail.app (Hfr := Hfr4) (H := Hit ++ H4); simpa using this)))) (Mem.le.refl _) ?_
    intro Hfr5 hfr5
    simp only [List.cons_append, List.append_assoc, List.nil_append]
    (try (refine st ?_; intros))
    rw [show (p2.at_ : Int) + (f : Int) = ((p2.at_ + f : Nat) : Int) by omega]
    have hpc : xs = (pre0 ++ pre2.map (Pc.sh f)) ++ p2.sh f :: (post2.map (Pc.sh f) ++ post0) := by rw [hxs, hx2]; simp
    refine WL.heap (fun w h => h.perm (perm_frame2 [_, _, _] Hit H4 Hfr5)) ?_
    refine WL.yield (vs := [(p2.sh f).v]) rfl rfl rfl (hY _ _ _ hpc m4 H4 _ hJ4 (hle.trans hle4)) ?_ ?_
    · rintro m5 H9 ⟨H5, rfl, hJ5, hle5⟩
      refine WL.heap (fun w h => h.perm (perm_frame2 [_, _, _] Hit H5 Hfr5).symm) ?_
      simp only [List.cons_append, List.nil_append]
      (try (refine st ?_; intros))
      refine WQ.roundOn (Hl := [_, _] ++ (Hit ++ H5)) (fun w h => by have := h.drop; simpa using this) hle5 ⟨hle4.trans hle5, H5, rfl, by simpa using hJ5⟩
    · rintro m5 H9 ⟨H5, rfl, hJ5, hle5⟩
      refine WL.heap (fun w h => h.perm (perm_frame2 [_, _, _] Hit H5 Hfr5).symm) ?_
      simp only [List.cons_append, List.nil_append]
      (try (refine st ?_; intros))
      refine WQ.roundRet (Hl := [.blk b5 (.cells [.bool false].toArray 4 (0, 0))] ++ (Hit ++ H5)) (fun w h => ?_) hle5 ⟨hle4.trans hle5, rfl, H5, _, rfl, ⟨_, by rw [hpc, List.append_assoc]; rfl⟩, hJ5⟩
      have h1 : Sat w0 m5 (.blk b5 (.cells [.bool false].toArray 4 (0, 0)) :: (Hit ++ (H5 ++ Hfr5))) w := (zpk : ∀ w, Sat w0 m5 _ w → Sat w0 m5 (.blk b5 (.cells [.bool false].toArray 4 (0, 0)) :: (Hit ++ (H5 ++ Hfr5))) w) w h
      simpa using h1
  · rintro D m4 Hl ⟨hle4, H4, rfl, hJ4⟩ hm4
    simp only [List.cons_append, List.nil_append, List.append_assoc]
    (try (refine st ?_; intros))
    refine WQ.mark (H1 := [_, _] ++ (Hit ++ H4)) (by have := List.perm_middle (a := Item.blk D (.deferred (some []))) (l₁ := [.blk b5 (.cells [.bool true].toArray 4 (0, 0)), .blk b4 (.cells [.int .i64 (f : Int)].toArray 3 (0, 0))] ++ (Hit ++ H4)) (l₂ := []); simpa using this) ?_
    exact q_fin0 (H0 := Hit ++ H4) ⟨hle4, H4, rfl, .inl ⟨rfl, hJ4⟩⟩ (hd := zpk)
  · rintro D cd pre2 m4 Hl _ ⟨hle4, rfl, H4, pre, rfl, hpre, hJ4⟩ hm4
    simp only [List.cons_append, List.nil_append, List.append_assoc]
    (try (refine st ?_; intros))
    refine WQ.mark (H1 := [.blk b5 (.cells [.bool false].toArray 4 (0, 0))] ++ (Hit ++ H4)) (by have := List.perm_middle (a := Item.blk D (.deferred (some []))) (l₁ := [.blk b5 (.cells [.bool false].toArray 4 (0, 0))] ++ (Hit ++ H4)) (l₂ := []); simpa using this) ?_
    exact q_fin0 (H0 := Hit ++ H4) ⟨hle4, H4, rfl, .inr ⟨rfl, pre, hpre, hJ4⟩⟩ (hd := zpk)
end Go.Proofs.Ytljfncpecpkhhaa

/-
  The walk of ropes' iterator Back: a part, and the whole. No condition.
-/
namespace Go.Proofs.Ytljfncpecpkhhaa
open Go Go.Eng
set_option maxRecDepth 100000
set_option maxHeartbeats 4000000
set_option linter.all false
attribute [local irreducible] WL WC WQ QFun QLoop Does Q1 QRound QAssign Go.Addr.add
attribute [local irreducible] begunK lackOf begunOf cutAt
/-- where the iterator stands: what is told, and what is held, before the texts Z of the parts that are done -/
def StB (L : List UInt8) (b3 b4 : Nat) (J : List Pc → Mem → SHeap → Prop) (y : Nat) (m' : Mem) (Hl : SHeap) : Prop :=
  ∃ (e : Nat) (H1 : SHeap), Go.Eng.Reach L e ∧ y ≤ e ∧ e ≤ L.length ∧ e ≤ y + 3 ∧ Hl = .blk b4 (.cells [.int .i64 (e : Int)].toArray 3 (0, 0)) :: .blk b3 (.cells [str ((L.drop y).take (e - y))].toArray 9 (0, 0)) :: H1 ∧ J (from_ L e).reverse m' H1
def LfB (L : List UInt8) (b3 b4 : Nat) (Jx : List Pc → Mem → SHeap → Prop) (m' : Mem) (Hl : SHeap) : Prop :=
  ∃ (i j : Go.Eng.Item) (H1 : SHeap) (pre : List Pc), Hl = i :: j :: H1 ∧ pre <+: (pieces L).reverse ∧ Jx pre m' H1
theorem cmx_O15_0 {G G' : Prop} (next : G') (h : Bx G' → G := by intro zzn; (try (refine wcal 0 ?_ (hwl := by intro zm zF zle; have zb := zle _ _ hb5; ((repeat (refine sp ?_; intros)); exact WQ.q1 rfl)))); (try (refine wcal 1 ?_ (hwl := by intro zm zF zle; have zb := zle _ _ hb5; ((repeat (refine sp ?_; intros)); exact WQ.q1 rfl)))); (try (refine wcal 2 ?_ (hwl := by intro zm zF zle; have zb := zle _ _ hb5; ((repeat (refine sp ?_; intros)); exact WQ.q1 rfl)))); (try (refine wcal 3 ?_ (hwl := by intro zm zF zle; have zb := zle _ _ hb5; ((repeat (refine sp ?_; intros)); exact WQ.q1 rfl)))); (try (refine wcal 4 ?_ (hwl := by intro zm zF zle; have zb := zle _ _ hb5; ((repeat (refine sp ?_; intros)); exact WQ.q1 rfl)))); (try (refine wcal 5 ?_ (hwl := by intro zm zF zle; have zb := zle _ _ hb5; ((repeat (refine sp ?_; intros)); exact WQ.q1 rfl)))); (try (refine wcal 6 ?_ (hwl := by intro zm zF zle; have zb := zle _ _ hb5; ((repeat (refine sp ?_; intros)); exact WQ.q1 rfl)))); (try (refine wcal 7 ?_ (hwl := by intro zm zF zle; have zb := zle _ _ hb5; ((repeat (refine sp ?_; intros)); exact WQ.q1 rfl)))); (try (refine wcal 8 ?_ (hwl := by intro zm zF zle; have zb := zle _ _ hb5; ((repeat (refine sp ?_; intros)); exact WQ.q1 rfl)))); (try (refine wcal 9 ?_ (hwl := by intro zm zF zle; have zb := zle _ _ hb5; ((repeat (refine sp ?_; intros)); exact WQ.q1 rfl)))); (try (refine wcal 10 ?_ (hwl := by intro zm zF zle; have zb := zle _ _ hb5; ((repeat (refine sp ?_; intros)); exact WQ.q1 rfl)))); (try (refine wcal 11 ?_ (hwl := by intro zm zF zle; have zb := zle _ _ hb5; ((repeat (refine sp ?_; intros)); exact WQ.q1 rfl)))); (try (refine wcal 12 ?_ (hwl := by intro zm zF zle; have zb := zle _ _ hb5; ((repeat (refine sp ?_; intros)); exact WQ.q1 rfl)))); (try (refine wcal 13 ?_ (hwl := by intro zm zF zle; have zb := zle _ _ hb5; ((repeat (refine sp ?_; intros)); exact WQ.q1 rfl)))); (try (refine wcal 14 ?_ (hwl := by intro zm zF zle; have zb := zle _ _ hb5; ((repeat (refine sp ?_; intros)); exact WQ.q1 rfl)))); (try (refine wcal 15 ?_ (hwl := by intro zm zF zle; have zb := zle _ _ hb5; ((repeat (refine sp ?_; intros)); exact WQ.q1 rfl)))); (try (refine wcal 16 ?_ (hwl := by intro zm zF zle; have zb := zle _ _ hb5; ((repeat (refine sp ?_; intros)); exact WQ.q1 rfl)))); (try (refine wcal 17 ?_ (hwl := by intro zm zF zle; have zb := zle _ _ hb5; ((repeat (refine sp ?_; intros)); exact WQ.q1 rfl)))); (try (refine wcal 18 ?_ (hwl := by intro zm zF zle; have zb := zle _ _ hb5; ((repeat (refine sp ?_; intros)); exact WQ.q1 rfl)))); (try (refine wcal 19 ?_ (hwl := by intro zm zF zle; have zb := zle _ _ hb5; ((repeat (refine sp ?_; intros)); exact WQ.q1 rfl)))); (try (refine wcal 20 ?_ (hwl := by intro zm zF zle; have zb := zle _ _ hb5; ((repeat (refine sp ?_; intros)); exact WQ.q1 rfl)))); (try (refine wcal 21 ?_ (hwl := by intro zm zF zle; have zb := zle _ _ hb5; ((repeat (refine sp ?_; intros)); exact WQ.q1 rfl)))); (try (refine wcal 22 ?_ (hwl := by intro zm zF zle; have zb := zle _ _ hb5; ((repeat (refine sp ?_; intros)); exact WQ.q1 rfl)))); (try (refine wcal 23 ?_ (hwl := by intro zm zF zle; have zb := zle _ _ hb5; ((repeat (refine sp ?_; intros)); exact WQ.q1 rfl)))); (try (refine wcal 24 ?_ (hwl := by intro zm zF zle; have zb := zle _ _ hb5; ((repeat (refine sp ?_; intros)); exact WQ.q1 rfl)))); (try (refine wcal 25 ?_ (hwl := by intro zm zF zle; have zb := zle _ _ hb5; ((repeat (refine sp ?_; intros)); exact WQ.q1 rfl)))); (try (refine wcal 26 ?_ (hwl := by intro zm zF zle; have zb := zle _ _ hb5; ((repeat (refine sp ?_; intros)); exact WQ.q1 rfl)))); (try (refine wcal 27 ?_ (hwl := by intro zm zF zle; have zb := zle _ _ hb5; ((repeat (refine sp ?_; intros)); exact WQ.q1 rfl)))); (try (refine wcal 28 ?_ (hwl := by intro zm zF zle; have zb := zle _ _ hb5; ((repeat (refine sp ?_; intros)); exact WQ.q1 rfl)))); (try (refine wcal 29 ?_ (hwl := by intro zm zF zle; have zb := zle _ _ hb5; ((repeat (refine sp ?_; intros)); exact WQ.q1 rfl)))); (try (refine wcal 30 ?_ (hwl := by intro zm zF zle; have zb := zle _ _ hb5; ((repeat (refine sp ?_; intros)); exact WQ.q1 rfl)))); (try (refine wcal 31 ?_ (hwl := by intro zm zF zle; have zb := zle _ _ hb5; ((repeat (refine sp ?_; intros)); exact WQ.q1 rfl)))); (try (refine wcal 32 ?_ (hwl := by intro zm zF zle; have zb := zle _ _ hb5; ((repeat (refine sp ?_; intros)); exact WQ.q1 rfl)))); (try (refine wcal 33 ?_ (hwl := by intro zm zF zle; have zb := zle _ _ hb5; ((repeat (refine sp ?_; intros)); exact WQ.q1 rfl)))); (try (refine wcal 34 ?_ (hwl := by intro zm zF zle; have zb := zle _ _ hb5; ((repeat (refine sp ?_; intros)); exact WQ.q1 rfl)))); (try (refine wcal 35 ?_ (hwl := by intro zm zF zle; have zb := zle _ _ hb5; ((repeat (refine sp ?_; intros)); exact WQ.q1 rfl)))); (try (refine wcal 36 ?_ (hwl := by intro zm zF zle; have zb := zle _ _ hb5; ((repeat (refine sp ?_; intros)); exact WQ.q1 rfl)))); (try (refine wcal 37 ?_ (hwl := by intro zm zF zle; have zb := zle _ _ hb5; ((repeat (refine sp ?_; intros)); exact WQ.q1 rfl)))); (try (refine wcal 38 ?_ (hwl := by intro zm zF zle; have zb := zle _ _ hb5; ((repeat (refine sp ?_; intros)); exact WQ.q1 rfl)))); (try (refine wcal 39 ?_ (hwl := by intro zm zF zle; have zb := zle _ _ hb5; ((repeat (refine sp ?_; intros)); exact WQ.q1 rfl)))); (try (refine wcal 40 ?_ (hwl := by intro zm zF zle; have zb := zle _ _ hb5; ((repeat (refine sp ?_; intros)); exact WQ.q1 rfl)))); (try (refine wcal 41 ?_ (hwl := by intro zm zF zle; have zb := zle _ _ hb5; ((repeat (refine sp ?_; intros)); exact WQ.q1 rfl)))); exact zzn.out) : G := h ⟨next⟩
theorem back2_any {w0 : World} {lp b2 b3 b4 b5 : Nat} {J Jx : List Pc → Mem → SHeap → Prop} {L Y x Z : List UInt8} {mS : Mem} (hL : L = Y ++ x ++ Z) (hl : L.length ≤ 16777216) (mJ : ∀ pre m m' H, J pre m H → m.le m' → J pre m' H) (hY : Yields w0 lp (pieces L).reverse J Jx mS)
    (m : Mem) (Hit Hl : SHeap) (hle : mS.le m) (hb2 : m b2 = some (.cells [.func (.yield lp) #[] #[]].toArray 88 (0, 0))) (hb5 : m b5 = some (.cells [.func (.func 49) #[] #[.pointer (some ⟨b2, 0, none⟩)]].toArray 55 (0, 0)))
    (hSt : StB L b3 b4 J (Y.length + x.length) m Hl) :
    FnOK Try.prog w0 (.func (.func 52) #[] #[.pointer (some ⟨b3, 0, none⟩), .pointer (some ⟨b4, 0, none⟩), .pointer (some ⟨b5, 0, none⟩)]) [str x] m (Hit ++ Hl)
      (fun m' H' => ∃ H2, H' = Hit ++ H2 ∧ StB L b3 b4 J Y.length m' H2 ∧ m.le m') (fun m' H' => ∃ H2, H' = Hit ++ H2 ∧ LfB L b3 b4 Jx m' H2 ∧ m.le m') := by
  obtain ⟨e, H1, hr, he1, he2, he3, rfl, hJ⟩ := hSt
  refine FnOK.clo (cs := [.pointer (some ⟨b3, 0, none⟩), .pointer (some ⟨b4, 0, none⟩), .pointer (some ⟨b5, 0, none⟩)]) Try.func52 rfl rfl ?_
  refine Does.reheap (H := .blk b4 (.cells [.int .i64 (e : Int)].toArray 3 (0, 0)) :: .blk b3 (.cells [str ((L.drop (Y.length + x.length)).take (e - (Y.length + x.length)))].toArray 9 (0, 0)) :: (Hit ++ H1))
    (Post := fun v m' H' => m.le m' ∧ ∃ i j H2, H' = i :: j :: (Hit ++ H2) ∧ ((v = .bool true ∧ StB L b3 b4 J Y.length m' (i :: j :: H2)) ∨ (v = .bool false ∧ LfB L b3 b4 Jx m' (i :: j :: H2)))) ?_ (fun w h => h.perm (perm_mid2 Hit _ _ H1)) ?_
  · obtain ⟨S, hS⟩ : ∃ S, (L.drop Y.length).take (e - Y.length) = S := ⟨_, rfl⟩
    have hLl : L.length = Y.length + x.length + Z.length := by rw [hL]; simp; omega
    have hxS : x ++ (L.drop (Y.length + x.length)).take (e - (Y.length + x.length)) = S := by rw [← hS]; exact seam_text hL he1
    have hSl : S.length = e - Y.length := by rw [← hS]; simp; omega
    have htl : ((L.drop (Y.length + x.length)).take (e - (Y.length + x.length))).length = e - (Y.length + x.length) := by simp; omega
    refine Does.of_body (args := [str x, .pointer (some ⟨b3, 0, none⟩), .pointer (some ⟨b4, 0, none⟩), .pointer (some ⟨b5, 0, none⟩)]) Try.func52 rfl Try.ntmps52 rfl ?_
    have hSb : S.length ≤ 16777216 := by omega
    have hgb : ∀ k, gb S k < 256 := fun k => nb_lt S k
    (try (refine st ?_; intros))
    rw [hxS]
    refine WC.joinX 0 (fun r' ds' m' H' => ∃ k : Nat, r' = [(7, .int .i64 (k : Int)), (6, str S), (1, .pointer (some ⟨b3, 0, none⟩)), (2, .pointer (some ⟨b4, 0, none⟩)), (3, .pointer (some ⟨b5, 0, none⟩))] ∧ ds' = [] ∧ m = m' ∧
      H' = .blk b4 (.cells [.int .i64 (e : Int)].toArray 3 (0, 0)) :: .blk b3 (.cells [str ((L.drop (Y.length + x.length)).take (e - (Y.length + x.length)))].toArray 9 (0, 0)) :: (Hit ++ H1) ∧
      k ≤ 3 ∧ k ≤ S.length ∧ (∀ i, i < k → 128 ≤ gb S i ∧ gb S i < 192) ∧ (k = 3 ∨ k = S.length ∨ ¬ (128 ≤ gb S k ∧ gb S k < 192))) ?_ ?_
    · refine WC.loopH [(7, .int .i64 ((0) : Int)), (6, str S), (1, .pointer (some ⟨b3, 0, none⟩)), (2, .pointer (some ⟨b4, 0, none⟩)), (3, .pointer (some ⟨b5, 0, none⟩))] ?_ ?_ (fun j r ds m' H' => ∃ k, j = 3 - k ∧ r = [(7, .int .i64 (k : Int)), (6, str S), (1, .pointer (some ⟨b3, 0, none⟩)), (2, .pointer (some ⟨b4, 0, none⟩)), (3, .pointer (some ⟨b5, 0, none⟩))] ∧ ds = [] ∧ m = m' ∧ H' = .blk b4 (.cells [.int .i64 (e : Int)].toArray 3 (0, 0)) :: .blk b3 (.cells [str ((L.drop (Y.length + x.length)).take (e - (Y.length + x.length)))].toArray 9 (0, 0)) :: (Hit ++ H1) ∧ (k ≤ 3 ∧ k ≤ S.length) ∧ (∀ i, i < k → 128 ≤ gb S i ∧ gb S i < 192)) (3 - (0)) ⟨0, rfl, rfl, rfl, rfl, rfl, ⟨by omega, by omega⟩, fun i hi => by omega⟩ ?_
      · (repeat (first | exact Env.Sub.nil | refine Env.Sub.cons rfl ?_))
      · exact zpk
      rintro j r ds m' H' ⟨k, rfl, rfl, rfl, rfl, rfl, hk, hcont⟩
      have hmin : min (3 : Int) (S.length : Int) = ((min 3 S.length : Nat) : Int) := by omega
      by_cases h1 : k < 3 ∧ k < S.length
      · have hca := cont_and (hgb k)
        have hg2 := hgb k
        by_cases h2 : gb S k &&& 192 = 128
        · have h3 : (((gb S k : Int).toNat &&& (192 : Int).toNat : Nat) : Int) = 128 := by show ((gb S k &&& 192 : Nat) : Int) = 128; omega
          have h4 := hca.1 h2
          (try (refine st ?_; intros))
          refine WQ.next (3 - (k + 1)) ⟨k + 1, rfl, rfl, rfl, rfl, rfl, ?_, ?_⟩ (by omega) zsb zpk
          · omega
          · intro i hi
            by_cases hik : i = k
            · subst hik; exact h4
            · exact hcont i (by omega)
        · have h3 : ¬ (((gb S k : Int).toNat &&& (192 : Int).toNat : Nat) : Int) = 128 := by show ¬ ((gb S k &&& 192 : Nat) : Int) = 128; omega
          (try (refine st ?_; intros))
          exact WQ.joinX ⟨k, rfl, rfl, rfl, rfl, hk.1, hk.2, hcont, .inr (.inr (fun h => h2 (hca.2 h)))⟩ zsb zpk
      · (try (refine st ?_; intros))
        exact WQ.joinX ⟨k, rfl, rfl, rfl, rfl, hk.1, hk.2, hcont, by omega⟩ zsb zpk
    rintro r' ds' m' H' ⟨k, rfl, rfl, rfl, rfl, hk3, hkS, hcont, hstop⟩
    obtain ⟨hrk, hfk⟩ := back_told hL ⟨he1, he2⟩ hr hS.symm hkS hcont hstop
    have hdl : (S.drop k).length = S.length - k := List.length_drop
    have htk : S.take k = (L.drop Y.length).take (Y.length + k - Y.length) := by rw [← hS, List.take_take]; congr 1; omega
    obtain ⟨told0, htold0⟩ := hrk
    have hpl : (pieces L).reverse = (from_ L e).reverse ++ ((pieces (S.drop k)).map (Pc.sh (Y.length + k))).reverse ++ told0.reverse := by rw [htold0, hfk]; simp
    (try (refine st ?_; intros))
    refine WC.drawE 9 ([.blk b4 (.cells [.int .i64 (e : Int)].toArray 3 (0, 0)), .blk b3 (.cells [str (S.take k)].toArray 9 (0, 0))]) (Hit ++ H1) rfl (by decide +kernel) zpk ?_
    (refine cmx_O15_0 ?_)
    refine WE.act1 7 (by decide +kernel) rfl rfl (fun c h => by cases h) ?_
    rw [show (e : Int) - (S.length : Int) + (k : Int) = ((Y.length + k : Nat) : Int) by omega]
    refine WL.callV rfl Try.func49 rfl rfl (by exact rfl) (by exact rfl) (told_any mJ hY (f := Y.length + k) rfl (by omega) hpl m (.blk b4 (.cells [.int .i64 (e : Int)].toArray 3 (0, 0)) :: .blk b3 (.cells [str (S.take k)].toArray 9 (0, 0)) :: Hit) H1 hle hb2 hJ) ?_
    rintro v m2 H9 ⟨hle2, H2, rfl, ⟨rfl, hJ2⟩ | ⟨rfl, pre, hpre, hJ2⟩⟩
    · (try (refine st ?_; intros))
      refine WQ.acted (B := []) (U := Hit ++ H2) rfl hle2 zpk ?_
      (refine cm0 ?_)
      refine WE.done (by decide +kernel) ?_
      (try (refine st ?_; intros))
      rw [show (e : Int) - (S.length : Int) + (k : Int) = ((Y.length + k : Nat) : Int) by omega]
      exact q_fin0 (H0 := .blk b4 (.cells [.int .i64 ((Y.length + k : Nat) : Int)].toArray 3 (0, 0)) :: .blk b3 (.cells [str (S.take k)].toArray 9 (0, 0)) :: (Hit ++ H2)) ⟨hle2, _, _, H2, rfl, .inl ⟨rfl, Y.length + k, H2, ⟨told0, htold0⟩, by omega, by omega, by omega, by rw [htk], by rw [hfk]; simpa using hJ2⟩⟩ (hd := fun w h => h)
    · (try (refine st ?_; intros))
      refine WQ.acted (B := []) (U := Hit ++ H2) rfl hle2 zpk ?_
      (refine cm0 ?_)
      refine WE.done (by decide +kernel) ?_
      (try (refine st ?_; intros))
      exact q_fin0 (H0 := .blk b4 (.cells [.int .i64 (e : Int)].toArray 3 (0, 0)) :: .blk b3 (.cells [str (S.take k)].toArray 9 (0, 0)) :: (Hit ++ H2)) ⟨hle2, _, _, H2, rfl, .inr ⟨rfl, _, _, H2, pre, rfl, hpre, hJ2⟩⟩ (hd := fun w h => h)
  · rintro v m' H' ⟨hle', i, j, H2, rfl, h⟩
    refine ⟨Hit ++ (i :: j :: H2), ?_, fun w h => h.perm (perm_mid2 Hit _ _ H2).symm⟩
    rcases h with ⟨rfl, h⟩ | ⟨rfl, h⟩
    · exact .inl ⟨rfl, _, rfl, h, hle'⟩
    · exact .inr ⟨rfl, _, rfl, h, hle'⟩
theorem sq_O15_1 {G : Prop} (h : G := by (repeat (first | (refine sp ?_; (repeat intro zzc)) | (refine iInv rfl ?_; first | refine w_size rfl (by assumption) rfl ?_ | refine w_depth rfl (by assumption) rfl ?_) | (refine iB_eql rfl ?_; refine WL.eqlNilI rfl (by first | exact .inr ⟨_, _, rfl, rfl⟩ | exact .inl ⟨rfl, rfl⟩) rfl rfl ?_))); exact WQ.q1 rfl) : G := h
theorem st_O15_1 {G G' : Prop} (next : G') (h : Bx G' → G := by intro zzn; (first | ((refine st ?_; (repeat intro zzc)); (try ((first | (refine iInv rfl ?_; first | refine w_size rfl (by assumption) rfl ?_ | refine w_depth rfl (by assumption) rfl ?_) | (refine iB_eql rfl ?_; refine WL.eqlNilI rfl (by first | exact .inr ⟨_, _, rfl, rfl⟩ | exact .inl ⟨rfl, rfl⟩) rfl rfl ?_) | ((refine iDraw ?_; (first | refine WC.drawAll rfl (by decide +kernel) ?_ | refine WC.draw 1 rfl (by decide +kernel) ?_ | refine WC.draw 2 rfl (by decide +kernel) ?_ | refine WC.draw 3 rfl (by decide +kernel) ?_ | refine WC.draw 4 rfl (by decide +kernel) ?_ | refine WC.draw 5 rfl (by decide +kernel) ?_ | refine WC.draw 6 rfl (by decide +kernel) ?_ | refine WC.draw 7 rfl (by decide +kernel) ?_ | refine WC.draw 8 rfl (by decide +kernel) ?_ | refine WC.draw 9 rfl (by decide +kernel) ?_ | refine WC.draw 10 rfl (by decide +kernel) ?_ | refine WC.draw 11 rfl (by decide +kernel) ?_ | refine WC.draw 12 rfl (by decide +kernel) ?_ | refine WC.draw 13 rfl (by decide +kernel) ?_ | refine WC.draw 14 rfl (by decide +kernel) ?_ | refine WC.draw 15 rfl (by decide +kernel) ?_ | refine WC.draw 16 rfl (by decide +kernel) ?_ | refine WC.draw 17 rfl (by decide +kernel) ?_ | refine WC.draw 18 rfl (by decide +kernel) ?_ | refine WC.draw 19 rfl (by decide +kernel) ?_ | refine WC.draw 20 rfl (by decide +kernel) ?_ | refine WC.draw 21 rfl (by decide +kernel) ?_ | refine WC.draw 22 rfl (by decide +kernel) ?_ | refine WC.draw 23 rfl (by decide +kernel) ?_ | refine WC.draw 24 rfl (by decide +kernel) ?_)); (repeat (refine WD.cons rfl (fun c h => by cases h) sq_O15_1 ?_)); refine WD.nil ?_)); (try (refine st ?_; (repeat intro zzc)))))) | ((first | (refine iInv rfl ?_; first | refine w_size rfl (by assumption) rfl ?_ | refine w_depth rfl (by assumption) rfl ?_) | (refine iB_eql rfl ?_; refine WL.eqlNilI rfl (by first | exact .inr ⟨_, _, rfl, rfl⟩ | exact .inl ⟨rfl, rfl⟩) rfl rfl ?_) | ((refine iDraw ?_; (first | refine WC.drawAll rfl (by decide +kernel) ?_ | refine WC.draw 1 rfl (by decide +kernel) ?_ | refine WC.draw 2 rfl (by decide +kernel) ?_ | refine WC.draw 3 rfl (by decide +kernel) ?_ | refine WC.draw 4 rfl (by decide +kernel) ?_ | refine WC.draw 5 rfl (by decide +kernel) ?_ | refine WC.draw 6 rfl (by decide +kernel) ?_ | refine WC.draw 7 rfl (by decide +kernel) ?_ | refine WC.draw 8 rfl (by decide +kernel) ?_ | refine WC.draw 9 rfl (by decide +kernel) ?_ | refine WC.draw 10 rfl (by decide +kernel) ?_ | refine WC.draw 11 rfl (by decide +kernel) ?_ | refine WC.draw 12 rfl (by decide +kernel) ?_ | refine WC.draw 13 rfl (by decide +kernel) ?_ | refine WC.draw 14 rfl (by decide +kernel) ?_ | refine WC.draw 15 rfl (by decide +kernel) ?_ | refine WC.draw 16 rfl (by decide +kernel) ?_ | refine WC.draw 17 rfl (by decide +kernel) ?_ | refine WC.draw 18 rfl (by decide +kernel) ?_ | refine WC.draw 19 rfl (by decide +kernel) ?_ | refine WC.draw 20 rfl (by decide +kernel) ?_ | refine WC.draw 21 rfl (by decide +kernel) ?_ | refine WC.draw 22 rfl (by decide +kernel) ?_ | refine WC.draw 23 rfl (by decide +kernel) ?_ | refine WC.draw 24 rfl (by decide +kernel) ?_)); (repeat (refine WD.cons rfl (fun c h => by cases h) sq_O15_1 ?_)); refine WD.nil ?_)); (try (refine st ?_; (repeat intro zzc))))); (repeat ((first | (refine iInv rfl ?_; first | refine w_size rfl (by assumption) rfl ?_ | refine w_depth rfl (by assumption) rfl ?_) | (refine iB_eql rfl ?_; refine WL.eqlNilI rfl (by first | exact .inr ⟨_, _, rfl, rfl⟩ | exact .inl ⟨rfl, rfl⟩) rfl rfl ?_) | ((refine iDraw ?_; (first | refine WC.drawAll rfl (by decide +kernel) ?_ | refine WC.draw 1 rfl (by decide +kernel) ?_ | refine WC.draw 2 rfl (by decide +kernel) ?_ | refine WC.draw 3 rfl (by decide +kernel) ?_ | refine WC.draw 4 rfl (by decide +kernel) ?_ | refine WC.draw 5 rfl (by decide +kernel) ?_ | refine WC.draw 6 rfl (by decide +kernel) ?_ | refine WC.draw 7 rfl (by decide +kernel) ?_ | refine WC.draw 8 rfl (by decide +kernel) ?_ | refine WC.draw 9 rfl (by decide +kernel) ?_ | refine WC.draw 10 rfl (by decide +kernel) ?_ | refine WC.draw 11 rfl (by decide +kernel) ?_ | refine WC.draw 12 rfl (by decide +kernel) ?_ | refine WC.draw 13 rfl (by decide +kernel) ?_ | refine WC.draw 14 rfl (by decide +kernel) ?_ | refine WC.draw 15 rfl (by decide +kernel) ?_ | refine WC.draw 16 rfl (by decide +kernel) ?_ | refine WC.draw 17 rfl (by decide +kernel) ?_ | refine WC.draw 18 rfl (by decide +kernel) ?_ | refine WC.draw 19 rfl (by decide +kernel) ?_ | refine WC.draw 20 rfl (by decide +kernel) ?_ | refine WC.draw 21 rfl (by decide +kernel) ?_ | refine WC.draw 22 rfl (by decide +kernel) ?_ | refine WC.draw 23 rfl (by decide +kernel) ?_ | refine WC.draw 24 rfl (by decide +kernel) ?_)); (repeat (refine WD.cons rfl (fun c h => by cases h) sq_O15_1 ?_)); refine WD.nil ?_)); (try (refine st ?_; (repeat intro zzc))))); (repeat revert zzc); exact zzn.out) : G := h ⟨next⟩
theorem lenT_any {p : Value} {o : Option Nd} (w0 : World) (m : Mem) (H : SHeap) (hp : RopeT m p o) : Does Try.prog 19 #[p] w0 m H (Gives (.int .i64 ((rtxt o).length : Int)) m H) := by
  obtain ⟨b, v, rfl, hb, hv, ok, hl⟩ := hp
  refine Does.of_body (args := [.pointer (some ⟨b, 0, none⟩)]) Try.func19 rfl Try.ntmps19 rfl ?_
  cases o with
  | none =>
    cases hv
    (try (refine st_O15_1 ?_; intros))
    exact q_fin0 (H0 := H) (Gives.mk rfl) (hd := zpk)
  | some T =>
    have hT : NAt m T v := hv
    obtain ⟨t, x, rfl⟩ := hT.iface
    (try (refine st_O15_1 ?_; intros))
    exact q_fin0 (H0 := H) (Gives.mk rfl) (hd := zpk)
def yOf (L : List UInt8) (pre : List (List UInt8)) : Nat := L.length - pre.reverse.flatten.length
theorem backO_any {w0 : World} {fv : Value} {o : Option Nd} {v : Value} (J Jx : List (List UInt8) → Mem → SHeap → Prop) (m : Mem) (H : SHeap) (hv : RAt m o v) (h0 : J [] m H) (hh : Hands w0 fv (partsR o).reverse J Jx m) :
    Does Try.prog 51 #[v, fv] w0 m H (fun u m' H' => m.le m' ∧ (u = .bool true ∧ J (partsR o).reverse m' H' ∨ u = .bool false ∧ ∃ pre, pre <+: (partsR o).reverse ∧ Jx pre m' H')) := by
  cases o with
  | none =>
    cases hv
    refine (backNil_any m H).mono ?_
    rintro u m' H' ⟨rfl, rfl, rfl⟩
    exact ⟨Mem.le.refl _, .inl ⟨rfl, h0⟩⟩
  | some T => exact back_any2 T v J Jx m H hv h0 hh
theorem sq_O15_2 {G : Prop} (h : G := by (repeat (first | (refine sp ?_; (repeat intro zzc)))); exact WQ.q1 rfl) : G := h
theorem st_O15_2 {G G' : Prop} (next : G') (h : Bx G' → G := by intro zzn; (first | ((refine st ?_; (repeat intro zzc)); (try ((first | ((refine iDraw ?_; (first | refine WC.drawAll rfl (by decide +kernel) ?_ | refine WC.draw 1 rfl (by decide +kernel) ?_ | refine WC.draw 2 rfl (by decide +kernel) ?_ | refine WC.draw 3 rfl (by decide +kernel) ?_ | refine WC.draw 4 rfl (by decide +kernel) ?_ | refine WC.draw 5 rfl (by decide +kernel) ?_ | refine WC.draw 6 rfl (by decide +kernel) ?_ | refine WC.draw 7 rfl (by decide +kernel) ?_ | refine WC.draw 8 rfl (by decide +kernel) ?_ | refine WC.draw 9 rfl (by decide +kernel) ?_ | refine WC.draw 10 rfl (by decide +kernel) ?_ | refine WC.draw 11 rfl (by decide +kernel) ?_ | refine WC.draw 12 rfl (by decide +kernel) ?_ | refine WC.draw 13 rfl (by decide +kernel) ?_ | refine WC.draw 14 rfl (by decide +kernel) ?_ | refine WC.draw 15 rfl (by decide +kernel) ?_ | refine WC.draw 16 rfl (by decide +kernel) ?_ | refine WC.draw 17 rfl (by decide +kernel) ?_ | refine WC.draw 18 rfl (by decide +kernel) ?_ | refine WC.draw 19 rfl (by decide +kernel) ?_ | refine WC.draw 20 rfl (by decide +kernel) ?_ | refine WC.draw 21 rfl (by decide +kernel) ?_ | refine WC.draw 22 rfl (by decide +kernel) ?_ | refine WC.draw 23 rfl (by decide +kernel) ?_ | refine WC.draw 24 rfl (by decide +kernel) ?_)); (repeat (refine WD.cons rfl (fun c h => by cases h) sq_O15_2 ?_)); refine WD.nil ?_)); (try (refine st ?_; (repeat intro zzc)))))) | ((first | ((refine iDraw ?_; (first | refine WC.drawAll rfl (by decide +kernel) ?_ | refine WC.draw 1 rfl (by decide +kernel) ?_ | refine WC.draw 2 rfl (by decide +kernel) ?_ | refine WC.draw 3 rfl (by decide +kernel) ?_ | refine WC.draw 4 rfl (by decide +kernel) ?_ | refine WC.draw 5 rfl (by decide +kernel) ?_ | refine WC.draw 6 rfl (by decide +kernel) ?_ | refine WC.draw 7 rfl (by decide +kernel) ?_ | refine WC.draw 8 rfl (by decide +kernel) ?_ | refine WC.draw 9 rfl (by decide +kernel) ?_ | refine WC.draw 10 rfl (by decide +kernel) ?_ | refine WC.draw 11 rfl (by decide +kernel) ?_ | refine WC.draw 12 rfl (by decide +kernel) ?_ | refine WC.draw 13 rfl (by decide +kernel) ?_ | refine WC.draw 14 rfl (by decide +kernel) ?_ | refine WC.draw 15 rfl (by decide +kernel) ?_ | refine WC.draw 16 rfl (by decide +kernel) ?_ | refine WC.draw 17 rfl (by decide +kernel) ?_ | refine WC.draw 18 rfl (by decide +kernel) ?_ | refine WC.draw 19 rfl (by decide +kernel) ?_ | refine WC.draw 20 rfl (by decide +kernel) ?_ | refine WC.draw 21 rfl (by decide +kernel) ?_ | refine WC.draw 22 rfl (by decide +kernel) ?_ | refine WC.draw 23 rfl (by decide +kernel) ?_ | refine WC.draw 24 rfl (by decide +kernel) ?_)); (repeat (refine WD.cons rfl (fun c h => by cases h) sq_O15_2 ?_)); refine WD.nil ?_)); (try (refine st ?_; (repeat intro zzc))))); (repeat ((first | ((refine iDraw ?_; (first | refine WC.drawAll rfl (by decide +kernel) ?_ | refine WC.draw 1 rfl (by decide +kernel) ?_ | refine WC.draw 2 rfl (by decide +kernel) ?_ | refine WC.draw 3 rfl (by decide +kernel) ?_ | refine WC.draw 4 rfl (by decide +kernel) ?_ | refine WC.draw 5 rfl (by decide +kernel) ?_ | refine WC.draw 6 rfl (by decide +kernel) ?_ | refine WC.draw 7 rfl (by decide +kernel) ?_ | refine WC.draw 8 rfl (by decide +kernel) ?_ | refine WC.draw 9 rfl (by decide +kernel) ?_ | refine WC.draw 10 rfl (by decide +kernel) ?_ | refine WC.draw 11 rfl (by decide +kernel) ?_ | refine WC.draw 12 rfl (by decide +kernel) ?_ | refine WC.draw 13 rfl (by decide +kernel) ?_ | refine WC.draw 14 rfl (by decide +kernel) ?_ | refine WC.draw 15 rfl (by decide +kernel) ?_ | refine WC.draw 16 rfl (by decide +kernel) ?_ | refine WC.draw 17 rfl (by decide +kernel) ?_ | refine WC.draw 18 rfl (by decide +kernel) ?_ | refine WC.draw 19 rfl (by decide +kernel) ?_ | refine WC.draw 20 rfl (by decide +kernel) ?_ | refine WC.draw 21 rfl (by decide +kernel) ?_ | refine WC.draw 22 rfl (by decide +kernel) ?_ | refine WC.draw 23 rfl (by decide +kernel) ?_ | refine WC.draw 24 rfl (by decide +kernel) ?_)); (repeat (refine WD.cons rfl (fun c h => by cases h) sq_O15_2 ?_)); refine WD.nil ?_)); (try (refine st ?_; (repeat intro zzc))))); (repeat revert zzc); exact zzn.out) : G := h ⟨next⟩
theorem ropeBack_seq {b : Nat} {p : Value} {o : Option Nd} : SeqM Try.prog 48 [.pointer (some ⟨b, 0, none⟩)] (fun p : Pc => [p.v]) (pieces (rtxt o)).reverse (RopeIn b p o) := by
  intro w0 lp J Jx m H mJ mX hcap h0 hY
  obtain ⟨hb, hT⟩ := hcap
  have hT0 := hT
  obtain ⟨a, v, rfl, ha, hv, ok, hl⟩ := hT
  obtain ⟨L, hL⟩ : ∃ L, rtxt o = L := ⟨_, rfl⟩
  have hfl : (partsR o).flatten = L := by rw [partsR_txt, hL]
  rw [hL] at hY hl ⊢
  refine Does.of_body Try.func48 rfl Try.ntmps48 rfl ?_
  have hnn : (some (⟨a, 0, none⟩ : Addr)).isNone = false := rfl
  (refine st_O15_2 ?_; intros; rename_i b2)
  refine w_callF Try.func19 ?_ (hs := lenT_any _ _ _ hT0)
  rintro u m H0 ⟨rfl, rfl, rfl⟩
  rw [hL]
  (refine st_O15_2 ?_; intros; rename_i b3 b4 b5)
  refine WL.persist (b := b2) (by (repeat (first | exact Out.here | apply Out.there))) ?_
  intro m1 hle1 hb2
  refine WL.persist (b := b5) (by (repeat (first | exact Out.here | apply Out.there))) ?_
  intro m2 hle2 hb5
  have hle : m.le m2 := hle1.trans hle2
  replace hb2 := hle2 _ _ hb2
  refine WL.heap (H' := .blk b4 (.cells [.int .i64 (L.length : Int)].toArray 3 (0, 0)) :: .blk b3 (.cells [str []].toArray 9 (0, 0)) :: H) zpk ?_
  refine w_callF Try.func51 ?_ (hs := backO_any (fun pre m' H' => m2.le m' ∧ StB L b3 b4 J (yOf L pre) m' H') (fun _ m' H' => LfB L b3 b4 Jx m' H') m2 _ (hv.le hle) ?_ ?_)
  rotate_left
  · refine ⟨Mem.le.refl _, L.length, H, ⟨pieces L, by rw [from_nil (by omega)]; simp⟩, by simp [yOf], Nat.le_refl _, by simp [yOf], ?_, ?_⟩
    · simp [yOf]
    · rw [from_nil (by omega)]; exact mJ _ _ _ _ h0 hle
  · rintro pre x post hx m3 H1 Hit ⟨hle3, hSt⟩ _
    have hLx : L = post.reverse.flatten ++ x ++ pre.reverse.flatten := by
      have := congrArg List.reverse hx
      rw [List.reverse_reverse] at this
      rw [← hfl, this]; simp
    have hy1 : yOf L pre = post.reverse.flatten.length + x.length := by
      have h2 := congrArg List.length hLx
      rw [List.length_append, List.length_append] at h2
      unfold yOf; omega
    have hy2 : yOf L (pre ++ [x]) = post.reverse.flatten.length := by
      have h2 := congrArg List.length hLx
      rw [List.length_append, List.length_append] at h2
      have h3 : (pre ++ [x]).reverse.flatten = x ++ pre.reverse.flatten := by simp
      unfold yOf; rw [h3, List.length_append]; omega
    rw [hy1] at hSt
    have key := back2_any (lp := lp) (b2 := b2) (b5 := b5) (Jx := Jx) (mS := m) hLx hl mJ hY m3 Hit H1 (hle.trans hle3) (hle3 _ _ hb2) (hle3 _ _ hb5) hSt
    intro ro n Q r ds ops l d ty pos after f args ts h1 h2 h3 ht hf
    refine key h1 h2 h3 (fun m' H' h => ht m' H' ?_) hf
    obtain ⟨H2, rfl, h5, h6⟩ := h
    exact ⟨H2, rfl, ⟨hle3.trans h6, by rw [hy2]; exact h5⟩, h6⟩
  rintro u m3 H3 ⟨hle3, ⟨rfl, hle4, e, H1, hr, he1, he2, he3, rfl, hJ⟩ | ⟨rfl, _, _, i, j, H1, pre, rfl, hpre, hJ⟩⟩
  · have hy0 : yOf L (partsR o).reverse = 0 := by unfold yOf; rw [List.reverse_reverse, hfl]; omega
    rw [hy0] at he1 he3
    rw [hy0, Nat.sub_zero, List.drop_zero]
    have hft := front_told he2 hr
    have hpl : (pieces L).reverse = (from_ L e).reverse ++ ((pieces (L.take e)).map (Pc.sh 0)).reverse ++ [] := by rw [hft]; simp
    have hb53 := hle3 _ _ hb5
    have hb23 := hle3 _ _ hb2
    (try (refine st_O15_2 ?_; intros))
    refine WL.callV rfl Try.func49 rfl rfl (by exact rfl) (by exact rfl) (told_any mJ hY (f := 0) rfl (by simp; omega) hpl m3 [.blk b4 (.cells [.int .i64 (e : Int)].toArray 3 (0, 0)), .blk b3 (.cells [str (L.take e)].toArray 9 (0, 0))] H1 (hle.trans hle3) hb23 hJ) ?_
    rintro v m4 H9 ⟨hle5, H2, rfl, ⟨rfl, hJ2⟩ | ⟨rfl, pre, hpre, hJ2⟩⟩
    · simp only [List.cons_append, List.nil_append]
      (try (refine st_O15_2 ?_; intros))
      exact q_finNorm0 (H0 := H2) ⟨hle.trans (hle3.trans hle5), .inl (by rw [hpl, List.append_nil]; exact hJ2)⟩ (hd := zpk)
    · simp only [List.cons_append, List.nil_append]
      (try (refine st_O15_2 ?_; intros))
      exact q_finNorm0 (H0 := H2) ⟨hle.trans (hle3.trans hle5), .inr ⟨pre, hpre, hJ2⟩⟩ (hd := zpk)
  · (try (refine st_O15_2 ?_; intros))
    exact q_finNorm0 (H0 := H1) ⟨hle.trans hle3, .inr ⟨pre, hpre, hJ⟩⟩ (hd := fun w h => h.drop.drop)
end Go.Proofs.Ytljfncpecpkhhaa

/-
  Plain facts for ropes: a piece read in a window about a place. No condition.
-/
namespace Go.Eng
open Go
/-- a window about a place -/
def winOf (L : List UInt8) (k : Nat) : List UInt8 := (L.take (min (k + 8) L.length)).drop (k - 8)
theorem win_len {L : List UInt8} {k : Nat} (hk : k < L.length) : (winOf L k).length = min (k + 8) L.length - (k - 8) := by simp [winOf]
theorem win_read {L : List UInt8} {k i : Nat} (hk : k < L.length) (h1 : k - 8 ≤ i) (h2 : i ≤ k) : (readP (winOf L k) (i - (k - 8))).sh (k - 8) = readP L i := by
  by_cases hend : L.length ≤ k + 8
  · have e : winOf L k = L.drop (k - 8) := by unfold winOf; rw [List.take_of_length_le (by omega)]
    rw [e, read_drop, show k - 8 + (i - (k - 8)) = i by omega]
  · have e : winOf L k = (L.drop (k - 8)).take (k + 8 - (k - 8)) := by unfold winOf; rw [Nat.min_eq_left (by omega), ← List.drop_take]
    have e2 : dl ((winOf L k).drop (i - (k - 8))) = dl (L.drop i) := by
      rw [e]
      refine dl_nb fun q hq => ?_
      rw [nb_drop, nb_take (by omega), nb_drop, nb_drop]
      congr 1; omega
    unfold readP
    rw [e2]
    split
    · simp only [Pc.sh]; congr 1; omega
    · simp only [Pc.sh]; congr 1; omega
/-- the piece to which a byte belongs -/
def Over (L : List UInt8) (k : Nat) (p : Pc) : Prop := p ∈ pieces L ∧ p.at_ ≤ k ∧ k < p.at_ + p.w
theorem over_form {L : List UInt8} {k i : Nat} (hk : k < L.length) (h1 : i < k) (hb : (readP L i).b = false) (hw : k < i + (readP L i).w) : Over L k (readP L i) := by
  have hr := (within_reach (Nat.le_of_lt hk) (⟨h1, hw, hb⟩ : Within L k i))
  have ha := readP_at L i
  exact ⟨reach_mem hr.1 hr.2.1, by omega, by omega⟩
theorem over_self {L : List UInt8} {k : Nat} (hk : k < L.length) (h : ∀ i, i < k → k ≤ i + 3 → ¬ ((readP L i).b = false ∧ k < i + (readP L i).w)) : Over L k (readP L k) := by
  have hr : Reach L k := by
    by_cases hr : Reach L k
    · exact hr
    · exfalso
      have hno : ¬ (k = L.length ∨ Reach L k) := by
        rintro (h | h)
        · omega
        · exact hr h
      obtain ⟨i, hi⟩ := (within_iff (l := L) (at_ := k) (by omega)).2 hno
      have := within_reach (by omega) hi
      exact h i hi.1 this.2.2.1 ⟨hi.2.2, hi.2.1⟩
  have hw := readP_w hk
  have ha := readP_at L k
  exact ⟨reach_mem hr hk, by omega, by omega⟩
theorem pc_form {l : List UInt8} {p : Pc} (h : p ∈ pieces l) : (p.b = true → p.r = 65533 ∧ p.w = 1) ∧ (p.b = false → ¬ (p.r = 65533 ∧ p.w = 1) ∧ okr p.r ∧ txt l p = fmb p.r) := by
  obtain ⟨_, hlt, he⟩ := reach_of_mem h
  have hat := readP_at l p.at_
  unfold readP at he
  split at he
  · rw [he]; exact ⟨fun _ => ⟨rfl, rfl⟩, fun h => by cases h⟩
  · rename_i hd
    rcases dl_cases (l.drop p.at_) (by simp; omega) with ⟨h1, h2, h3⟩ | ⟨h2, _⟩
    · have hr : p.r = (dl (l.drop p.at_)).1 := by rw [he]
      have hw : p.w = (dl (l.drop p.at_)).2 := by rw [he]
      have hb : p.b = false := by rw [he]
      refine ⟨(fun h => by rw [hb] at h; cases h), fun _ => ⟨fun ⟨a, b⟩ => hd ?_, by rw [hr]; exact h1, ?_⟩⟩
      · rw [hr] at a; rw [hw] at b
        exact Prod.ext a b
      · have := (begins_iff _ _ (okr_le h1)).1 h3
        rw [hr, ← this, txt, hw, h2, List.drop_take]
        congr 1; omega
    · exact absurd h2 hd
end Go.Eng

/-
  The walks of ropes' around, Piece, Rune. No condition.
-/
namespace Go.Proofs.Ytljfncpecpkhhaa
open Go Go.Eng
set_option maxRecDepth 100000
set_option maxHeartbeats 4000000
set_option linter.all false
attribute [local irreducible] WL WC WQ QFun QLoop Does Q1 QRound QAssign Go.Addr.add
attribute [local irreducible] winOf
theorem sq_O17_1 {G : Prop} (h : G := by (repeat (first | (refine sp ?_; (repeat intro zzc)) | (refine iF 19 rfl ?_; refine w_callG Try.func19 ?_ (hs := len_any _ _ _ (by assumption))) | (refine iF 15 rfl ?_; refine w_callG Try.func15 ?_ (hs := text_any _ _ _ (by assumption))))); exact WQ.q1 rfl) : G := h
theorem st_O17_1 {G G' : Prop} (next : G') (h : Bx G' → G := by intro zzn; (first | ((refine st ?_; (repeat intro zzc)); (try ((first | (refine iF 19 rfl ?_; refine w_callG Try.func19 ?_ (hs := len_any _ _ _ (by assumption))) | (refine iF 15 rfl ?_; refine w_callG Try.func15 ?_ (hs := text_any _ _ _ (by assumption))) | ((refine iDraw ?_; (first | refine WC.drawAll rfl (by decide +kernel) ?_ | refine WC.draw 1 rfl (by decide +kernel) ?_ | refine WC.draw 2 rfl (by decide +kernel) ?_ | refine WC.draw 3 rfl (by decide +kernel) ?_ | refine WC.draw 4 rfl (by decide +kernel) ?_ | refine WC.draw 5 rfl (by decide +kernel) ?_ | refine WC.draw 6 rfl (by decide +kernel) ?_ | refine WC.draw 7 rfl (by decide +kernel) ?_ | refine WC.draw 8 rfl (by decide +kernel) ?_ | refine WC.draw 9 rfl (by decide +kernel) ?_ | refine WC.draw 10 rfl (by decide +kernel) ?_ | refine WC.draw 11 rfl (by decide +kernel) ?_ | refine WC.draw 12 rfl (by decide +kernel) ?_ | refine WC.draw 13 rfl (by decide +kernel) ?_ | refine WC.draw 14 rfl (by decide +kernel) ?_ | refine WC.draw 15 rfl (by decide +kernel) ?_ | refine WC.draw 16 rfl (by decide +kernel) ?_ | refine WC.draw 17 rfl (by decide +kernel) ?_ | refine WC.draw 18 rfl (by decide +kernel) ?_ | refine WC.draw 19 rfl (by decide +kernel) ?_ | refine WC.draw 20 rfl (by decide +kernel) ?_ | refine WC.draw 21 rfl (by decide +kernel) ?_ | refine WC.draw 22 rfl (by decide +kernel) ?_ | refine WC.draw 23 rfl (by decide +kernel) ?_ | refine WC.draw 24 rfl (by decide +kernel) ?_)); (repeat (refine WD.cons rfl (fun c h => by cases h) sq_O17_1 ?_)); refine WD.nil ?_)); (try (refine st ?_; (repeat intro zzc)))))) | ((first | (refine iF 19 rfl ?_; refine w_callG Try.func19 ?_ (hs := len_any _ _ _ (by assumption))) | (refine iF 15 rfl ?_; refine w_callG Try.func15 ?_ (hs := text_any _ _ _ (by assumption))) | ((refine iDraw ?_; (first | refine WC.drawAll rfl (by decide +kernel) ?_ | refine WC.draw 1 rfl (by decide +kernel) ?_ | refine WC.draw 2 rfl (by decide +kernel) ?_ | refine WC.draw 3 rfl (by decide +kernel) ?_ | refine WC.draw 4 rfl (by decide +kernel) ?_ | refine WC.draw 5 rfl (by decide +kernel) ?_ | refine WC.draw 6 rfl (by decide +kernel) ?_ | refine WC.draw 7 rfl (by decide +kernel) ?_ | refine WC.draw 8 rfl (by decide +kernel) ?_ | refine WC.draw 9 rfl (by decide +kernel) ?_ | refine WC.draw 10 rfl (by decide +kernel) ?_ | refine WC.draw 11 rfl (by decide +kernel) ?_ | refine WC.draw 12 rfl (by decide +kernel) ?_ | refine WC.draw 13 rfl (by decide +kernel) ?_ | refine WC.draw 14 rfl (by decide +kernel) ?_ | refine WC.draw 15 rfl (by decide +kernel) ?_ | refine WC.draw 16 rfl (by decide +kernel) ?_ | refine WC.draw 17 rfl (by decide +kernel) ?_ | refine WC.draw 18 rfl (by decide +kernel) ?_ | refine WC.draw 19 rfl (by decide +kernel) ?_ | refine WC.draw 20 rfl (by decide +kernel) ?_ | refine WC.draw 21 rfl (by decide +kernel) ?_ | refine WC.draw 22 rfl (by decide +kernel) ?_ | refine WC.draw 23 rfl (by decide +kernel) ?_ | refine WC.draw 24 rfl (by decide +kernel) ?_)); (repeat (refine WD.cons rfl (fun c h => by cases h) sq_O17_1 ?_)); refine WD.nil ?_)); (try (refine st ?_; (repeat intro zzc))))); (repeat ((first | (refine iF 19 rfl ?_; refine w_callG Try.func19 ?_ (hs := len_any _ _ _ (by assumption))) | (refine iF 15 rfl ?_; refine w_callG Try.func15 ?_ (hs := text_any _ _ _ (by assumption))) | ((refine iDraw ?_; (first | refine WC.drawAll rfl (by decide +kernel) ?_ | refine WC.draw 1 rfl (by decide +kernel) ?_ | refine WC.draw 2 rfl (by decide +kernel) ?_ | refine WC.draw 3 rfl (by decide +kernel) ?_ | refine WC.draw 4 rfl (by decide +kernel) ?_ | refine WC.draw 5 rfl (by decide +kernel) ?_ | refine WC.draw 6 rfl (by decide +kernel) ?_ | refine WC.draw 7 rfl (by decide +kernel) ?_ | refine WC.draw 8 rfl (by decide +kernel) ?_ | refine WC.draw 9 rfl (by decide +kernel) ?_ | refine WC.draw 10 rfl (by decide +kernel) ?_ | refine WC.draw 11 rfl (by decide +kernel) ?_ | refine WC.draw 12 rfl (by decide +kernel) ?_ | refine WC.draw 13 rfl (by decide +kernel) ?_ | refine WC.draw 14 rfl (by decide +kernel) ?_ | refine WC.draw 15 rfl (by decide +kernel) ?_ | refine WC.draw 16 rfl (by decide +kernel) ?_ | refine WC.draw 17 rfl (by decide +kernel) ?_ | refine WC.draw 18 rfl (by decide +kernel) ?_ | refine WC.draw 19 rfl (by decide +kernel) ?_ | refine WC.draw 20 rfl (by decide +kernel) ?_ | refine WC.draw 21 rfl (by decide +kernel) ?_ | refine WC.draw 22 rfl (by decide +kernel) ?_ | refine WC.draw 23 rfl (by decide +kernel) ?_ | refine WC.draw 24 rfl (by decide +kernel) ?_)); (repeat (refine WD.cons rfl (fun c h => by cases h) sq_O17_1 ?_)); refine WD.nil ?_)); (try (refine st ?_; (repeat intro zzc))))); (repeat revert zzc); exact zzn.out) : G := h ⟨next⟩
theorem around_any {p : Value} {s : List UInt8} {k : Nat} (hk : k < s.length) (w0 : World) (m : Mem) (H : SHeap) (hp : RopeAt m p s) :
    Does Try.prog 43 #[p, .int .i64 (k : Int)] w0 m H (fun v m' H' => m.le m' ∧ H' = H ∧ v = .tuple #[str (winOf s k), .int .i64 ((k - 8 : Nat) : Int)]) := by
  have hl := hp.len
  refine Does.of_body (args := [p, .int .i64 (k : Int)]) Try.func43 rfl Try.ntmps43 rfl ?_
  have e1 : max ((k : Int) - 8) 0 = ((k - 8 : Nat) : Int) := by omega
  have e2 : min ((k : Int) + 8) (s.length : Int) = ((min (k + 8) s.length : Nat) : Int) := by omega
  (try (refine st_O17_1 ?_; intros))
  rw [e1, e2]
  refine w_callF Try.func16 ?_ (hs := slice_any _ _ _ hp)
  rintro v m1 H ⟨hle1, rfl, hv⟩
  have hv2 : ResV m1 (.ok (winOf s k)) v := by
    unfold sliceR at hv
    rw [if_neg (by omega), Int.toNat_natCast, Int.toNat_natCast] at hv
    unfold winOf
    exact hv
  obtain ⟨q, rfl, hq⟩ := hv2
  (try (refine st_O17_1 ?_; intros))
  exact q_fin0 (H0 := H) ⟨hle1, rfl, rfl⟩ (hd := zpk)
theorem at_z {l : List UInt8} {z : Int} {k : Nat} {p : Pc} (hz : z = (k : Int)) (hl : l.length ≤ 9223372036854775804) (hk : k < l.length) (hp : readP l k = p) (w0 : World) (m : Mem) (H : SHeap) :
    Does Try.prog 44 #[str l, .int .i64 z] w0 m H (Gives (.tuple #[p.v, .int .i64 0]) m H) := by subst hz; subst hp; exact at_in l k hl hk w0 m H
theorem piece_any {p : Value} {s : List UInt8} {k : Nat} (hk : k < s.length) (w0 : World) (m : Mem) (H : SHeap) (hp : RopeAt m p s) :
    Does Try.prog 22 #[p, .int .i64 (k : Int)] w0 m H (fun v m' H' => m.le m' ∧ H' = H ∧ ∃ q, Over s k q ∧ v = .tuple #[q.v, .int .i64 0]) := by
  have hl := hp.len
  obtain ⟨b, rfl⟩ := ropes_ptr hp
  have hnn : (some (⟨b, 0, none⟩ : Addr)).isNone = false := rfl
  refine Does.of_body (args := [.pointer (some ⟨b, 0, none⟩), .int .i64 (k : Int)]) Try.func22 rfl Try.ntmps22 rfl ?_
  have hwl := win_len hk
  have e1 : max ((k : Int) - 3) 0 = ((k - 3 : Nat) : Int) := by omega
  (refine st_O17_1 ?_; intros; rename_i b4)
  refine w_callF Try.func43 ?_ (hs := around_any hk _ _ _ hp)
  rintro v m1 H1 ⟨hle1, rfl, rfl⟩
  (try (refine st_O17_1 ?_; intros))
  obtain ⟨i0, hi0⟩ : ∃ i0, k - 3 = i0 := ⟨_, rfl⟩
  rw [e1, hi0]
  refine WC.loopH [(8, .int .i64 ((i0) : Int)), (6, str (winOf s k)), (7, .int .i64 ((k - 8 : Nat) : Int)), (1, .int .i64 (k : Int)), (4, .pointer (some ⟨b4, 0, none⟩))] ?_ ?_ (fun j r ds m' H' => ∃ i, j = k - i ∧ r = [(8, .int .i64 (i : Int)), (6, str (winOf s k)), (7, .int .i64 ((k - 8 : Nat) : Int)), (1, .int .i64 (k : Int)), (4, .pointer (some ⟨b4, 0, none⟩))] ∧ ds = [] ∧ m1 = m' ∧ H' = .blk b4 (.cells [.int .i64 0, .int .i64 0, .int .i32 0, .bool false].toArray 40 (0, 0)) :: H ∧ (k - 3 ≤ i ∧ i ≤ k) ∧ (∀ q, k - 3 ≤ q → q < i → ¬ ((readP s q).b = false ∧ k < q + (readP s q).w))) (k - (i0)) ⟨i0, rfl, rfl, rfl, rfl, rfl, ⟨by omega, by omega⟩, fun q h1 h2 => by omega⟩ ?_
  · (repeat (first | exact Env.Sub.nil | refine Env.Sub.cons rfl ?_))
  · exact zpk
  rintro j r ds m' H' ⟨i, rfl, rfl, rfl, rfl, rfl, hi, hno⟩
  have hsh := win_read hk (i := i) (by omega) hi.2
  obtain ⟨r, hr⟩ : ∃ r, readP (winOf s k) (i - (k - 8)) = r := ⟨_, rfl⟩
  rw [hr] at hsh
  have hra : r.at_ + (k - 8) = i := by have := readP_at s i; rw [← hsh] at this; exact this
  have hrw : (readP s i).w = r.w := by rw [← hsh]; rfl
  have hrb : (readP s i).b = r.b := by rw [← hsh]; rfl
  have hrr : (readP s i).r = r.r := by rw [← hsh]; rfl
  have hrs : readP s i = ⟨i, r.w, r.r, r.b⟩ := by rw [← hsh]; unfold Pc.sh; rw [hra]
  have hmw := readP_w (l := winOf s k) (k := i - (k - 8)) (by omega)
  rw [hr] at hmw
  by_cases hik : i < k
  · (try (refine st_O17_1 ?_; intros))
    refine w_callF Try.func44 ?_ (hs := at_z (k := i - (k - 8)) (by omega) (by omega) (by omega) hr _ _ _)
    rintro v m2 H2 ⟨rfl, rfl, rfl⟩
    by_cases hyes : r.b = false ∧ k < i + r.w
    · obtain ⟨hb, hw⟩ := hyes
      have hnb : (!r.b) = true := by rw [hb]; rfl
      have hov := over_form hk hik (by rw [hrb]; exact hb) (by rw [hrw]; exact hw)
      (refine st_O17_1 ?_; intros; rename_i b9)
      refine q_fin0 (H0 := H) ⟨hle1, rfl, _, hov, ?_⟩ (hd := zpk)
      rw [hrs]
      rfl
    · cases hb : r.b with
      | true =>
        have hnb : (!r.b) = false := by rw [hb]; rfl
        (refine st_O17_1 ?_; intros; rename_i b9)
        refine WQ.next (k - (i + 1)) ⟨i + 1, rfl, rfl, rfl, rfl, rfl, ?_, ?_⟩ (by omega) zsb zpk
        · omega
        · intro q h1 h2
          by_cases hq : q = i
          · subst hq; rw [hrb, hrw]; exact hyes
          · exact hno q h1 (by omega)
      | false =>
        have hw : ¬ k < i + r.w := fun h => hyes ⟨hb, h⟩
        have hnb : (!r.b) = true := by rw [hb]; rfl
        (refine st_O17_1 ?_; intros; rename_i b9)
        refine WQ.next (k - (i + 1)) ⟨i + 1, rfl, rfl, rfl, rfl, rfl, ?_, ?_⟩ (by omega) zsb zpk
        · omega
        · intro q h1 h2
          by_cases hq : q = i
          · subst hq; rw [hrb, hrw]; exact hyes
          · exact hno q h1 (by omega)
  · obtain rfl : i = k := by omega
    have hov := over_self hk (fun q h1 h2 => hno q (by omega) h1)
    (try (refine st_O17_1 ?_; intros))
    refine w_callF Try.func44 ?_ (hs := at_z (k := i - (i - 8)) (by omega) (by omega) (by omega) hr _ _ _)
    rintro v m2 H2 ⟨rfl, rfl, rfl⟩
    (refine st_O17_1 ?_; intros; rename_i b9)
    refine q_fin0 (H0 := H) ⟨hle1, rfl, _, hov, ?_⟩ (hd := zpk)
    rw [hrs]
    rfl
/-- the boundary ahead of which so many pieces stand -/
def runeR (s : List UInt8) (k : Int) : Int × Int := if k < 0 ∨ ((pieces s).length : Int) < k then (0, 5) else match (pieces s)[k.toNat]? with
  | some p => ((p.at_ : Int), 0)
  | none => ((s.length : Int), 0)
theorem sq_O17_2 {G : Prop} (h : G := by (repeat (first | (refine sp ?_; (repeat intro zzc)) | (refine iF 19 rfl ?_; refine w_callG Try.func19 ?_ (hs := len_any _ _ _ (by assumption))) | (refine iF 15 rfl ?_; refine w_callG Try.func15 ?_ (hs := text_any _ _ _ (by assumption))) | (refine iF 19 rfl ?_; refine w_callG Try.func19 ?_ (hs := lenT_any _ _ _ (by assumption))))); exact WQ.q1 rfl) : G := h
theorem st_O17_2 {G G' : Prop} (next : G') (h : Bx G' → G := by intro zzn; (first | ((refine st ?_; (repeat intro zzc)); (try ((first | (refine iF 19 rfl ?_; refine w_callG Try.func19 ?_ (hs := len_any _ _ _ (by assumption))) | (refine iF 15 rfl ?_; refine w_callG Try.func15 ?_ (hs := text_any _ _ _ (by assumption))) | (refine iF 19 rfl ?_; refine w_callG Try.func19 ?_ (hs := lenT_any _ _ _ (by assumption))) | ((refine iDraw ?_; (first | refine WC.drawAll rfl (by decide +kernel) ?_ | refine WC.draw 1 rfl (by decide +kernel) ?_ | refine WC.draw 2 rfl (by decide +kernel) ?_ | refine WC.draw 3 rfl (by decide +kernel) ?_ | refine WC.draw 4 rfl (by decide +kernel) ?_ | refine WC.draw 5 rfl (by decide +kernel) ?_ | refine WC.draw 6 rfl (by decide +kernel) ?_ | refine WC.draw 7 rfl (by decide +kernel) ?_ | refine WC.draw 8 rfl (by decide +kernel) ?_ | refine WC.draw 9 rfl (by decide +kernel) ?_ | refine WC.draw 10 rfl (by decide +kernel) ?_ | refine WC.draw 11 rfl (by decide +kernel) ?_ | refine WC.draw 12 rfl (by decide +kernel) ?_ | refine WC.draw 13 rfl (by decide +kernel) ?_ | refine WC.draw 14 rfl (by decide +kernel) ?_ | refine WC.draw 15 rfl (by decide +kernel) ?_ | refine WC.draw 16 rfl (by decide +kernel) ?_ | refine WC.draw 17 rfl (by decide +kernel) ?_ | refine WC.draw 18 rfl (by decide +kernel) ?_ | refine WC.draw 19 rfl (by decide +kernel) ?_ | refine WC.draw 20 rfl (by decide +kernel) ?_ | refine WC.draw 21 rfl (by decide +kernel) ?_ | refine WC.draw 22 rfl (by decide +kernel) ?_ | refine WC.draw 23 rfl (by decide +kernel) ?_ | refine WC.draw 24 rfl (by decide +kernel) ?_)); (repeat (refine WD.cons rfl (fun c h => by cases h) sq_O17_2 ?_)); refine WD.nil ?_)); (try (refine st ?_; (repeat intro zzc)))))) | ((first | (refine iF 19 rfl ?_; refine w_callG Try.func19 ?_ (hs := len_any _ _ _ (by assumption))) | (refine iF 15 rfl ?_; refine w_callG Try.func15 ?_ (hs := text_any _ _ _ (by assumption))) | (refine iF 19 rfl ?_; refine w_callG Try.func19 ?_ (hs := lenT_any _ _ _ (by assumption))) | ((refine iDraw ?_; (first | refine WC.drawAll rfl (by decide +kernel) ?_ | refine WC.draw 1 rfl (by decide +kernel) ?_ | refine WC.draw 2 rfl (by decide +kernel) ?_ | refine WC.draw 3 rfl (by decide +kernel) ?_ | refine WC.draw 4 rfl (by decide +kernel) ?_ | refine WC.draw 5 rfl (by decide +kernel) ?_ | refine WC.draw 6 rfl (by decide +kernel) ?_ | refine WC.draw 7 rfl (by decide +kernel) ?_ | refine WC.draw 8 rfl (by decide +kernel) ?_ | refine WC.draw 9 rfl (by decide +kernel) ?_ | refine WC.draw 10 rfl (by decide +kernel) ?_ | refine WC.draw 11 rfl (by decide +kernel) ?_ | refine WC.draw 12 rfl (by decide +kernel) ?_ | refine WC.draw 13 rfl (by decide +kernel) ?_ | refine WC.draw 14 rfl (by decide +kernel) ?_ | refine WC.draw 15 rfl (by decide +kernel) ?_ | refine WC.draw 16 rfl (by decide +kernel) ?_ | refine WC.draw 17 rfl (by decide +kernel) ?_ | refine WC.draw 18 rfl (by decide +kernel) ?_ | refine WC.draw 19 rfl (by decide +kernel) ?_ | refine WC.draw 20 rfl (by decide +kernel) ?_ | refine WC.draw 21 rfl (by decide +kernel) ?_ | refine WC.draw 22 rfl (by decide +kernel) ?_ | refine WC.draw 23 rfl (by decide +kernel) ?_ | refine WC.draw 24 rfl (by decide +kernel) ?_)); (repeat (refine WD.cons rfl (fun c h => by cases h) sq_O17_2 ?_)); refine WD.nil ?_)); (try (refine st ?_; (repeat intro zzc))))); (repeat ((first | (refine iF 19 rfl ?_; refine w_callG Try.func19 ?_ (hs := len_any _ _ _ (by assumption))) | (refine iF 15 rfl ?_; refine w_callG Try.func15 ?_ (hs := text_any _ _ _ (by assumption))) | (refine iF 19 rfl ?_; refine w_callG Try.func19 ?_ (hs := lenT_any _ _ _ (by assumption))) | ((refine iDraw ?_; (first | refine WC.drawAll rfl (by decide +kernel) ?_ | refine WC.draw 1 rfl (by decide +kernel) ?_ | refine WC.draw 2 rfl (by decide +kernel) ?_ | refine WC.draw 3 rfl (by decide +kernel) ?_ | refine WC.draw 4 rfl (by decide +kernel) ?_ | refine WC.draw 5 rfl (by decide +kernel) ?_ | refine WC.draw 6 rfl (by decide +kernel) ?_ | refine WC.draw 7 rfl (by decide +kernel) ?_ | refine WC.draw 8 rfl (by decide +kernel) ?_ | refine WC.draw 9 rfl (by decide +kernel) ?_ | refine WC.draw 10 rfl (by decide +kernel) ?_ | refine WC.draw 11 rfl (by decide +kernel) ?_ | refine WC.draw 12 rfl (by decide +kernel) ?_ | refine WC.draw 13 rfl (by decide +kernel) ?_ | refine WC.draw 14 rfl (by decide +kernel) ?_ | refine WC.draw 15 rfl (by decide +kernel) ?_ | refine WC.draw 16 rfl (by decide +kernel) ?_ | refine WC.draw 17 rfl (by decide +kernel) ?_ | refine WC.draw 18 rfl (by decide +kernel) ?_ | refine WC.draw 19 rfl (by decide +kernel) ?_ | refine WC.draw 20 rfl (by decide +kernel) ?_ | refine WC.draw 21 rfl (by decide +kernel) ?_ | refine WC.draw 22 rfl (by decide +kernel) ?_ | refine WC.draw 23 rfl (by decide +kernel) ?_ | refine WC.draw 24 rfl (by decide +kernel) ?_)); (repeat (refine WD.cons rfl (fun c h => by cases h) sq_O17_2 ?_)); refine WD.nil ?_)); (try (refine st ?_; (repeat intro zzc))))); (repeat revert zzc); exact zzn.out) : G := h ⟨next⟩
theorem rune_any {p : Value} {s : List UInt8} {k : Int} (w0 : World) (m : Mem) (H : SHeap) (hp : RopeAt m p s) :
    Does Try.prog 24 #[p, .int .i64 k] w0 m H (fun v m' H' => m.le m' ∧ H' = H ∧ v = .tuple #[.int .i64 (runeR s k).1, .int .i64 (runeR s k).2]) := by
  have hl := hp.len
  obtain ⟨b, rfl⟩ := ropes_ptr hp
  obtain ⟨o, hT, ho⟩ := hp.node
  have hnn : (some (⟨b, 0, none⟩ : Addr)).isNone = false := rfl
  have hpl := pieces_length s
  refine Does.of_body (args := [.pointer (some ⟨b, 0, none⟩), .int .i64 k]) Try.func24 rfl Try.ntmps24 rfl ?_
  (refine st_O17_2 ?_; intros; rename_i b3 b4 b5 b6)
  refine w_callF Try.func23 ?_ (hs := piecesIt_any _ _ _)
  rintro v0 m H0 ⟨bi, rfl, rfl, rfl⟩
  refine WL.persist (b := bi) (by (repeat (first | exact Out.here | apply Out.there))) ?_
  intro m1 hle1 hbi
  refine WL.persist (b := b3) (by (repeat (first | exact Out.here | apply Out.there))) ?_
  intro m2 hle2 hb3
  (try (refine st_O17_2 ?_; intros))
  replace hbi := hle2 _ _ hbi
  have hT2 := hT.le (hle1.trans hle2)
  have hseq := ropePieces_seq (b := bi) (p := .pointer (some ⟨b, 0, none⟩)) (o := o)
  rw [ho] at hseq
  refine WC.rangeFuncM (Hc := H) (encs := fun p : Pc => [p.v]) (xs := pieces s) (Cap := RopeIn bi (.pointer (some ⟨b, 0, none⟩)) o) (lb := [.pointer (some ⟨bi, 0, none⟩)]) (ps := [12])
    (J := fun pre _ Hl => (∀ i : Nat, i < pre.length → (i : Int) ≠ k) ∧ Hl = [.blk b6 (.cells [.int .i64 (pre.length : Int)].toArray 3 (0, 0)), .blk b5 (.cells [.int .i64 0].toArray 24 (0, 0)), .blk b4 (.cells [.int .i64 0].toArray 3 (0, 0))])
    (Jx := fun c _ _ Hl => c = .ret ∧ ∃ p, 0 ≤ k ∧ (pieces s)[k.toNat]? = some p ∧ Hl = [.blk b5 (.cells [.int .i64 0].toArray 24 (0, 0)), .blk b4 (.cells [.int .i64 (p.at_ : Int)].toArray 3 (0, 0))])
    rfl Try.func45 rfl rfl hseq ⟨hbi, hT2⟩ (fun _ => rfl) rfl (fun _ _ _ _ h _ => h) (fun _ _ _ _ _ h _ => h) (.cons (.cons (.cons .nil))) ?_ ?_ ?_ ?_
  · exact ⟨fun i h => by simp at h, rfl⟩
  · rintro lp pre x post hxs m3 Hl ⟨hno, rfl⟩ hm3 Hfr hfr
    have hpre : pre.length + post.length + 1 = (pieces s).length := by rw [hxs]; simp; omega
    have hb33 := hm3 _ _ hb3
    simp only [List.cons_append, List.nil_append]
    (try (refine st_O17_2 ?_; intros))
    refine WQ.assigned (.cons (.cons (.cons (.cons .nil)))) (Mem.le.refl _) ?_
    intro Hfr2
    simp only [List.cons_append, List.nil_append]
    by_cases hk : (pre.length : Int) = k
    · (try (refine st_O17_2 ?_; intros))
      exact WQ.roundRet (Hl := [_, _]) (fun w h => h.drop.drop) (Mem.le.refl _) ⟨rfl, x, by omega, by rw [show k.toNat = pre.length by omega, hxs]; simp, rfl⟩
    · (try (refine st_O17_2 ?_; intros))
      refine WQ.roundOn (Hl := [_, _, _]) (fun w h => h.drop) (Mem.le.refl _) ⟨fun i hi => ?_, by rw [List.length_append]; rfl⟩
      rw [List.length_append] at hi
      by_cases h : i = pre.length
      · subst h; exact hk
      · exact hno i (by simp at hi; omega)
  · rintro D m3 Hl ⟨hno, rfl⟩ hm3
    simp only [List.cons_append, List.nil_append]
    have hb33 := hm3 _ _ hb3
    have hT3 := hT2.le hm3
    by_cases hk : ((pieces s).length : Int) = k
    · (try (refine st_O17_2 ?_; intros))
      rw [ho]
      refine WQ.mark (List.perm_middle (l₁ := [_, _, _])) ?_
      refine q_fin0 (H0 := H) ⟨hle1.trans (hle2.trans hm3), rfl, ?_⟩ (hd := zpk)
      have hnone : (pieces s)[k.toNat]? = none := List.getElem?_eq_none (by omega)
      unfold runeR
      rw [if_neg (by omega), hnone]
    · (try (refine st_O17_2 ?_; intros))
      refine WQ.mark (List.perm_middle (l₁ := [_, _, _])) ?_
      refine q_fin0 (H0 := H) ⟨hle1.trans (hle2.trans hm3), rfl, ?_⟩ (hd := zpk)
      unfold runeR
      rw [if_pos]
      by_cases h : k < 0
      · exact .inl h
      · refine .inr ?_
        have := hno k.toNat
        omega
  · rintro D c pre m3 Hl _ ⟨rfl, p, hk, hget, rfl⟩ hm3
    simp only [List.cons_append, List.nil_append]
    have hlt := (List.getElem?_eq_some_iff.1 hget).1
    (try (refine st_O17_2 ?_; intros))
    refine WQ.mark (List.perm_middle (l₁ := [_, _])) ?_
    refine q_fin0 (H0 := H) ⟨hle1.trans (hle2.trans hm3), rfl, ?_⟩ (hd := zpk)
    unfold runeR
    rw [if_neg (by omega), hget]
end Go.Proofs.Ytljfncpecpkhhaa

/-
  Plain facts for ropes: a place told in all ways, as ropes find it. No condition.
-/
namespace Go.Eng
open Go
structure PlS where
  byte : Nat
  rune : Nat
  unit : Nat
  line : Nat
  col : Nat
  deriving DecidableEq
def PlS.cs (p : PlS) : List Value := [.int .i64 (p.byte : Int), .int .i64 (p.rune : Int), .int .i64 (p.unit : Int), .int .i64 (p.line : Int), .int .i64 (p.col : Int)]
def PlS.zero : PlS := ⟨0, 0, 0, 0, 0⟩
/-- a byte 13 ends its line, if no 10 stands behind it -/
def PlS.next (s : PlS) (last behind : Nat) : PlS := if last = 13 ∧ behind ≠ 10 then { s with line := s.line + 1, col := 0 } else s
def PlS.add (s : PlS) (p : Pc) : PlS := ⟨s.byte + p.w, s.rune + 1, s.unit + 1 + (if 65536 ≤ p.r then 1 else 0), s.line + (if p.r = 10 then 1 else 0), if p.r = 10 then 0 else s.col + 1⟩
def placeGo (k : Int) : List Pc → PlS → Nat → PlS
  | [], s, last => s.next last 0
  | p :: ps, s, last => if k < ((p.at_ + p.w : Nat) : Int) then s.next last p.r else placeGo k ps ((s.next last p.r).add p) p.r
def placeOf (s : List UInt8) (k : Int) : PlS := placeGo k (pieces s) PlS.zero 0
def PlS.small (s : PlS) (n : Nat) : Prop := s.byte ≤ 4 * n ∧ s.rune ≤ n ∧ s.unit ≤ 2 * n ∧ s.line ≤ 2 * n ∧ s.col ≤ n
theorem PlS.next_small {s : PlS} {n l b : Nat} (h : s.small n) : (s.next l b).byte = s.byte ∧ (s.next l b).byte ≤ 4 * n ∧ (s.next l b).rune ≤ n ∧ (s.next l b).unit ≤ 2 * n ∧ (s.next l b).line ≤ 2 * n + 1 ∧ (s.next l b).col ≤ n := by
  obtain ⟨h1, h2, h3, h4, h5⟩ := h
  unfold PlS.next
  split
  · exact ⟨rfl, h1, h2, h3, by simp only []; omega, by simp only []; omega⟩
  · exact ⟨rfl, h1, h2, h3, by omega, h5⟩
theorem PlS.add_small {s : PlS} {p : Pc} {n l b : Nat} (h : s.small n) (hw : p.w ≤ 4) : (((s.next l b).add p)).small (n + 1) := by
  obtain ⟨h0, h1, h2, h3, h4, h5⟩ := PlS.next_small (l := l) (b := b) h
  unfold PlS.small PlS.add
  simp only []
  refine ⟨by omega, by omega, ?_, ?_, ?_⟩
  · split <;> omega
  · split <;> omega
  · split <;> omega
end Go.Eng

/-
  The walks of the laws RopeJoined and RopeHeals. No condition.
-/
namespace Go.Eng
end Go.Eng
namespace Go.Proofs.Ytljfncpecpkhhaa
open Go Go.Eng
set_option maxRecDepth 100000
set_option maxHeartbeats 4000000
set_option linter.all false
attribute [local irreducible] WL WC WQ QFun QLoop Does Q1 QRound QAssign Go.Addr.add
theorem works_true {w0 : World} {m0 m : Mem} {H : SHeap} (hle : m0.le m) : Does Try.prog 11 #[] w0 m H (fun v m' H' => m0.le m' ∧ H' = H ∧ v = .bool true) :=
  (works_any w0 m H).mono fun v m' H' ⟨h1, h2, h3⟩ => ⟨hle.trans h1, h2, h3⟩
end Go.Proofs.Ytljfncpecpkhhaa

/-
  The walk of the law RopeEarly. No condition.
-/
namespace Go.Eng
open Go Go.RowKit
section
variable {P : Program} {ro : Option Nat} {n : Nat} {w0 : World} {Q : Exit → Act → World → Prop} {r : Env} {ds : List Nat} {m : Mem} {H : SHeap}
theorem WC.heap {c : Code} {H' : SHeap} (hh : ∀ w, Sat w0 m H w → Sat w0 m H' w) (h : WC P ro n w0 c Q r ds m H') : WC P ro n w0 c Q r ds m H := fun tmps w ho hs => h tmps w ho (hh w hs)
theorem WQ.heapX {e : Exit} {H' : SHeap} (hh : ∀ w, Sat w0 m H w → Sat w0 m H' w) (h : WQ n w0 Q e r ds m H') : WQ n w0 Q e r ds m H := fun tmps w ho hs => h tmps w ho (hh w hs)
end
end Go.Eng
namespace Go.Proofs.Ytljfncpecpkhhaa
open Go Go.Eng
set_option maxRecDepth 100000
set_option maxHeartbeats 4000000
set_option linter.all false
attribute [local irreducible] WL WC WQ QFun QLoop Does Q1 QRound QAssign Go.Addr.add
attribute [local irreducible] textsOf txt
end Go.Proofs.Ytljfncpecpkhhaa

/-
  The walk of ropes' Place. No condition.
-/
namespace Go.Proofs.Ytljfncpecpkhhaa
open Go Go.Eng
set_option maxRecDepth 100000
set_option maxHeartbeats 4000000
set_option linter.all false
attribute [local irreducible] WL WC WQ QFun QLoop Does Q1 QRound QAssign Go.Addr.add
theorem next_any {b7 b8 : Nat} {last behind : Nat} {pl : PlS} (hl : pl.line ≤ 1000000000) (w0 : World) (m : Mem) (H : SHeap) :
    Does Try.prog 61 #[.int .i32 (behind : Int), .pointer (some ⟨b8, 0, none⟩), .pointer (some ⟨b7, 0, none⟩)] w0 m (.blk b8 (.cells [.int .i32 (last : Int)].toArray 21 (0, 0)) :: .blk b7 (.cells [.int .i64 (pl.byte : Int), .int .i64 (pl.rune : Int), .int .i64 (pl.unit : Int), .int .i64 (pl.line : Int), .int .i64 (pl.col : Int)].toArray 59 (0, 0)) :: H)
      (fun _ m' H' => m' = m ∧ H' = .blk b8 (.cells [.int .i32 (last : Int)].toArray 21 (0, 0)) :: .blk b7 (.cells (pl.next last behind).cs.toArray 59 (0, 0)) :: H) := by
  refine Does.of_body (args := [.int .i32 (behind : Int), .pointer (some ⟨b8, 0, none⟩), .pointer (some ⟨b7, 0, none⟩)]) Try.func61 rfl Try.ntmps61 rfl ?_
  by_cases h : last = 13 ∧ behind ≠ 10
  · obtain ⟨h1, h2⟩ := h
    have e : pl.next last behind = { pl with line := pl.line + 1, col := 0 } := by unfold PlS.next; rw [if_pos ⟨h1, h2⟩]
    rw [e]
    (try (refine st ?_; intros))
    exact q_finNorm0 (H0 := .blk b8 (.cells [.int .i32 (last : Int)].toArray 21 (0, 0)) :: .blk b7 (.cells [.int .i64 (pl.byte : Int), .int .i64 (pl.rune : Int), .int .i64 (pl.unit : Int), .int .i64 ((pl.line : Int) + 1), .int .i64 0].toArray 59 (0, 0)) :: H) ⟨rfl, rfl⟩ (hd := zpk)
  · have e : pl.next last behind = pl := by unfold PlS.next; rw [if_neg h]
    rw [e]
    by_cases h1 : last = 13
    · have h2 : behind = 10 := Classical.byContradiction fun h2 => h ⟨h1, h2⟩
      (try (refine st ?_; intros))
      exact q_finNorm0 (H0 := .blk b8 (.cells [.int .i32 (last : Int)].toArray 21 (0, 0)) :: .blk b7 (.cells [.int .i64 (pl.byte : Int), .int .i64 (pl.rune : Int), .int .i64 (pl.unit : Int), .int .i64 (pl.line : Int), .int .i64 (pl.col : Int)].toArray 59 (0, 0)) :: H) ⟨rfl, rfl⟩ (hd := zpk)
    · (try (refine st ?_; intros))
      exact q_finNorm0 (H0 := .blk b8 (.cells [.int .i32 (last : Int)].toArray 21 (0, 0)) :: .blk b7 (.cells [.int .i64 (pl.byte : Int), .int .i64 (pl.rune : Int), .int .i64 (pl.unit : Int), .int .i64 (pl.line : Int), .int .i64 (pl.col : Int)].toArray 59 (0, 0)) :: H) ⟨rfl, rfl⟩ (hd := zpk)
theorem sq_O19_1 {G : Prop} (h : G := by (repeat (first | (refine sp ?_; (repeat intro zzc)) | (refine iF 19 rfl ?_; refine w_callG Try.func19 ?_ (hs := lenT_any _ _ _ (by assumption))))); exact WQ.q1 rfl) : G := h
theorem st_O19_1 {G G' : Prop} (next : G') (h : Bx G' → G := by intro zzn; (first | ((refine st ?_; (repeat intro zzc)); (try ((first | (refine iF 19 rfl ?_; refine w_callG Try.func19 ?_ (hs := lenT_any _ _ _ (by assumption))) | ((refine iDraw ?_; (first | refine WC.drawAll rfl (by decide +kernel) ?_ | refine WC.draw 1 rfl (by decide +kernel) ?_ | refine WC.draw 2 rfl (by decide +kernel) ?_ | refine WC.draw 3 rfl (by decide +kernel) ?_ | refine WC.draw 4 rfl (by decide +kernel) ?_ | refine WC.draw 5 rfl (by decide +kernel) ?_ | refine WC.draw 6 rfl (by decide +kernel) ?_ | refine WC.draw 7 rfl (by decide +kernel) ?_ | refine WC.draw 8 rfl (by decide +kernel) ?_ | refine WC.draw 9 rfl (by decide +kernel) ?_ | refine WC.draw 10 rfl (by decide +kernel) ?_ | refine WC.draw 11 rfl (by decide +kernel) ?_ | refine WC.draw 12 rfl (by decide +kernel) ?_ | refine WC.draw 13 rfl (by decide +kernel) ?_ | refine WC.draw 14 rfl (by decide +kernel) ?_ | refine WC.draw 15 rfl (by decide +kernel) ?_ | refine WC.draw 16 rfl (by decide +kernel) ?_ | refine WC.draw 17 rfl (by decide +kernel) ?_ | refine WC.draw 18 rfl (by decide +kernel) ?_ | refine WC.draw 19 rfl (by decide +kernel) ?_ | refine WC.draw 20 rfl (by decide +kernel) ?_ | refine WC.draw 21 rfl (by decide +kernel) ?_ | refine WC.draw 22 rfl (by decide +kernel) ?_ | refine WC.draw 23 rfl (by decide +kernel) ?_ | refine WC.draw 24 rfl (by decide +kernel) ?_)); (repeat (refine WD.cons rfl (fun c h => by cases h) sq_O19_1 ?_)); refine WD.nil ?_)); (try (refine st ?_; (repeat intro zzc)))))) | ((first | (refine iF 19 rfl ?_; refine w_callG Try.func19 ?_ (hs := lenT_any _ _ _ (by assumption))) | ((refine iDraw ?_; (first | refine WC.drawAll rfl (by decide +kernel) ?_ | refine WC.draw 1 rfl (by decide +kernel) ?_ | refine WC.draw 2 rfl (by decide +kernel) ?_ | refine WC.draw 3 rfl (by decide +kernel) ?_ | refine WC.draw 4 rfl (by decide +kernel) ?_ | refine WC.draw 5 rfl (by decide +kernel) ?_ | refine WC.draw 6 rfl (by decide +kernel) ?_ | refine WC.draw 7 rfl (by decide +kernel) ?_ | refine WC.draw 8 rfl (by decide +kernel) ?_ | refine WC.draw 9 rfl (by decide +kernel) ?_ | refine WC.draw 10 rfl (by decide +kernel) ?_ | refine WC.draw 11 rfl (by decide +kernel) ?_ | refine WC.draw 12 rfl (by decide +kernel) ?_ | refine WC.draw 13 rfl (by decide +kernel) ?_ | refine WC.draw 14 rfl (by decide +kernel) ?_ | refine WC.draw 15 rfl (by decide +kernel) ?_ | refine WC.draw 16 rfl (by decide +kernel) ?_ | refine WC.draw 17 rfl (by decide +kernel) ?_ | refine WC.draw 18 rfl (by decide +kernel) ?_ | refine WC.draw 19 rfl (by decide +kernel) ?_ | refine WC.draw 20 rfl (by decide +kernel) ?_ | refine WC.draw 21 rfl (by decide +kernel) ?_ | refine WC.draw 22 rfl (by decide +kernel) ?_ | refine WC.draw 23 rfl (by decide +kernel) ?_ | refine WC.draw 24 rfl (by decide +kernel) ?_)); (repeat (refine WD.cons rfl (fun c h => by cases h) sq_O19_1 ?_)); refine WD.nil ?_)); (try (refine st ?_; (repeat intro zzc))))); (repeat ((first | (refine iF 19 rfl ?_; refine w_callG Try.func19 ?_ (hs := lenT_any _ _ _ (by assumption))) | ((refine iDraw ?_; (first | refine WC.drawAll rfl (by decide +kernel) ?_ | refine WC.draw 1 rfl (by decide +kernel) ?_ | refine WC.draw 2 rfl (by decide +kernel) ?_ | refine WC.draw 3 rfl (by decide +kernel) ?_ | refine WC.draw 4 rfl (by decide +kernel) ?_ | refine WC.draw 5 rfl (by decide +kernel) ?_ | refine WC.draw 6 rfl (by decide +kernel) ?_ | refine WC.draw 7 rfl (by decide +kernel) ?_ | refine WC.draw 8 rfl (by decide +kernel) ?_ | refine WC.draw 9 rfl (by decide +kernel) ?_ | refine WC.draw 10 rfl (by decide +kernel) ?_ | refine WC.draw 11 rfl (by decide +kernel) ?_ | refine WC.draw 12 rfl (by decide +kernel) ?_ | refine WC.draw 13 rfl (by decide +kernel) ?_ | refine WC.draw 14 rfl (by decide +kernel) ?_ | refine WC.draw 15 rfl (by decide +kernel) ?_ | refine WC.draw 16 rfl (by decide +kernel) ?_ | refine WC.draw 17 rfl (by decide +kernel) ?_ | refine WC.draw 18 rfl (by decide +kernel) ?_ | refine WC.draw 19 rfl (by decide +kernel) ?_ | refine WC.draw 20 rfl (by decide +kernel) ?_ | refine WC.draw 21 rfl (by decide +kernel) ?_ | refine WC.draw 22 rfl (by decide +kernel) ?_ | refine WC.draw 23 rfl (by decide +kernel) ?_ | refine WC.draw 24 rfl (by decide +kernel) ?_)); (repeat (refine WD.cons rfl (fun c h => by cases h) sq_O19_1 ?_)); refine WD.nil ?_)); (try (refine st ?_; (repeat intro zzc))))); (repeat revert zzc); exact zzn.out) : G := h ⟨next⟩
theorem cmx_O19_0 {G G' : Prop} (next : G') (h : Bx G' → G := by intro zzn; (try (refine wcal 0 ?_ (hwl := by intro zm zF zle; have zb := zle _ _ hb34; exact sq_O19_1))); (try (refine wcal 1 ?_ (hwl := by intro zm zF zle; have zb := zle _ _ hb34; exact sq_O19_1))); (try (refine wcal 2 ?_ (hwl := by intro zm zF zle; have zb := zle _ _ hb34; exact sq_O19_1))); (try (refine wcal 3 ?_ (hwl := by intro zm zF zle; have zb := zle _ _ hb34; exact sq_O19_1))); (try (refine wcal 4 ?_ (hwl := by intro zm zF zle; have zb := zle _ _ hb34; exact sq_O19_1))); (try (refine wcal 5 ?_ (hwl := by intro zm zF zle; have zb := zle _ _ hb34; exact sq_O19_1))); (try (refine wcal 6 ?_ (hwl := by intro zm zF zle; have zb := zle _ _ hb34; exact sq_O19_1))); (try (refine wcal 7 ?_ (hwl := by intro zm zF zle; have zb := zle _ _ hb34; exact sq_O19_1))); (try (refine wcal 8 ?_ (hwl := by intro zm zF zle; have zb := zle _ _ hb34; exact sq_O19_1))); (try (refine wcal 9 ?_ (hwl := by intro zm zF zle; have zb := zle _ _ hb34; exact sq_O19_1))); (try (refine wcal 10 ?_ (hwl := by intro zm zF zle; have zb := zle _ _ hb34; exact sq_O19_1))); (try (refine wcal 11 ?_ (hwl := by intro zm zF zle; have zb := zle _ _ hb34; exact sq_O19_1))); (try (refine wcal 12 ?_ (hwl := by intro zm zF zle; have zb := zle _ _ hb34; exact sq_O19_1))); (try (refine wcal 13 ?_ (hwl := by intro zm zF zle; have zb := zle _ _ hb34; exact sq_O19_1))); (try (refine wcal 14 ?_ (hwl := by intro zm zF zle; have zb := zle _ _ hb34; exact sq_O19_1))); (try (refine wcal 15 ?_ (hwl := by intro zm zF zle; have zb := zle _ _ hb34; exact sq_O19_1))); (try (refine wcal 16 ?_ (hwl := by intro zm zF zle; have zb := zle _ _ hb34; exact sq_O19_1))); (try (refine wcal 17 ?_ (hwl := by intro zm zF zle; have zb := zle _ _ hb34; exact sq_O19_1))); (try (refine wcal 18 ?_ (hwl := by intro zm zF zle; have zb := zle _ _ hb34; exact sq_O19_1))); (try (refine wcal 19 ?_ (hwl := by intro zm zF zle; have zb := zle _ _ hb34; exact sq_O19_1))); (try (refine wcal 20 ?_ (hwl := by intro zm zF zle; have zb := zle _ _ hb34; exact sq_O19_1))); (try (refine wcal 21 ?_ (hwl := by intro zm zF zle; have zb := zle _ _ hb34; exact sq_O19_1))); (try (refine wcal 22 ?_ (hwl := by intro zm zF zle; have zb := zle _ _ hb34; exact sq_O19_1))); (try (refine wcal 23 ?_ (hwl := by intro zm zF zle; have zb := zle _ _ hb34; exact sq_O19_1))); (try (refine wcal 24 ?_ (hwl := by intro zm zF zle; have zb := zle _ _ hb34; exact sq_O19_1))); (try (refine wcal 25 ?_ (hwl := by intro zm zF zle; have zb := zle _ _ hb34; exact sq_O19_1))); (try (refine wcal 26 ?_ (hwl := by intro zm zF zle; have zb := zle _ _ hb34; exact sq_O19_1))); (try (refine wcal 27 ?_ (hwl := by intro zm zF zle; have zb := zle _ _ hb34; exact sq_O19_1))); (try (refine wcal 28 ?_ (hwl := by intro zm zF zle; have zb := zle _ _ hb34; exact sq_O19_1))); (try (refine wcal 29 ?_ (hwl := by intro zm zF zle; have zb := zle _ _ hb34; exact sq_O19_1))); (try (refine wcal 30 ?_ (hwl := by intro zm zF zle; have zb := zle _ _ hb34; exact sq_O19_1))); (try (refine wcal 31 ?_ (hwl := by intro zm zF zle; have zb := zle _ _ hb34; exact sq_O19_1))); (try (refine wcal 32 ?_ (hwl := by intro zm zF zle; have zb := zle _ _ hb34; exact sq_O19_1))); (try (refine wcal 33 ?_ (hwl := by intro zm zF zle; have zb := zle _ _ hb34; exact sq_O19_1))); (try (refine wcal 34 ?_ (hwl := by intro zm zF zle; have zb := zle _ _ hb34; exact sq_O19_1))); (try (refine wcal 35 ?_ (hwl := by intro zm zF zle; have zb := zle _ _ hb34; exact sq_O19_1))); (try (refine wcal 36 ?_ (hwl := by intro zm zF zle; have zb := zle _ _ hb34; exact sq_O19_1))); (try (refine wcal 37 ?_ (hwl := by intro zm zF zle; have zb := zle _ _ hb34; exact sq_O19_1))); (try (refine wcal 38 ?_ (hwl := by intro zm zF zle; have zb := zle _ _ hb34; exact sq_O19_1))); (try (refine wcal 39 ?_ (hwl := by intro zm zF zle; have zb := zle _ _ hb34; exact sq_O19_1))); (try (refine wcal 40 ?_ (hwl := by intro zm zF zle; have zb := zle _ _ hb34; exact sq_O19_1))); (try (refine wcal 41 ?_ (hwl := by intro zm zF zle; have zb := zle _ _ hb34; exact sq_O19_1))); exact zzn.out) : G := h ⟨next⟩
theorem place_any {p : Value} {s : List UInt8} {k : Int} (w0 : World) (m : Mem) (H : SHeap) (hp : RopeAt m p s) :
    Does Try.prog 29 #[p, .int .i64 k] w0 m H (fun v m' H' => m.le m' ∧ H' = H ∧ v = if k < 0 ∨ (s.length : Int) < k then .tuple #[.agg PlS.zero.cs.toArray, .int .i64 0, .int .i64 5] else .tuple #[.agg (placeOf s k).cs.toArray, .int .i64 (k - ((placeOf s k).byte : Int)), .int .i64 0]) := by
  have hl := hp.len
  obtain ⟨b, rfl⟩ := ropes_ptr hp
  obtain ⟨o, hT, ho⟩ := hp.node
  have hnn : (some (⟨b, 0, none⟩ : Addr)).isNone = false := rfl
  have hpl := pieces_length s
  refine Does.of_body (args := [.pointer (some ⟨b, 0, none⟩), .int .i64 k]) Try.func29 rfl Try.ntmps29 rfl ?_
  by_cases hout : k < 0 ∨ (s.length : Int) < k
  · rw [if_pos hout]
    rw [← ho] at hout
    by_cases h1 : k < 0
    · (refine st_O19_1 ?_; intros; rename_i b3 b4 b5 b6)
      exact q_fin0 (H0 := H) ⟨Mem.le.refl _, rfl, rfl⟩ (hd := zpk)
    · (refine st_O19_1 ?_; intros; rename_i b3 b4 b5 b6)
      exact q_fin0 (H0 := H) ⟨Mem.le.refl _, rfl, rfl⟩ (hd := zpk)
  rw [if_neg hout]
  have hin : 0 ≤ k ∧ k ≤ ((rtxt o).length : Int) := by rw [ho]; omega
  (refine st_O19_1 ?_; intros; rename_i b3 b4 b5 b6 b7 b8 b9)
  refine w_callF Try.func23 ?_ (hs := piecesIt_any _ _ _)
  rintro v0 m H0 ⟨bi, rfl, rfl, rfl⟩
  refine WL.persist (b := bi) (by (repeat (first | exact Out.here | apply Out.there))) ?_
  intro m1 hle1 hbi
  refine WL.persist (b := b3) (by (repeat (first | exact Out.here | apply Out.there))) ?_
  intro m2 hle2 hb3
  refine WL.persist (b := b9) (by (repeat (first | exact Out.here | apply Out.there))) ?_
  intro m3 hle3 hb9
  replace hb3 := hle3 _ _ hb3
  replace hbi := hle3 _ _ (hle2 _ _ hbi)
  have hle := hle1.trans (hle2.trans hle3)
  have hT2 := hT.le hle
  have hseq := ropePieces_seq (b := bi) (p := .pointer (some ⟨b, 0, none⟩)) (o := o)
  rw [ho] at hseq
  (try (refine st_O19_1 ?_; intros))
  refine WC.heap (H' := .blk b8 (.cells [.int .i32 0].toArray 21 (0, 0)) :: .blk b7 (.cells [.int .i64 0, .int .i64 0, .int .i64 0, .int .i64 0, .int .i64 0].toArray 59 (0, 0)) :: .blk b6 (.cells [.int .i64 0].toArray 24 (0, 0)) :: .blk b5 (.cells [.int .i64 0].toArray 3 (0, 0)) :: .blk b4 (.cells [.int .i64 0, .int .i64 0, .int .i64 0, .int .i64 0, .int .i64 0].toArray 59 (0, 0)) :: H) zpk ?_
  refine WC.rangeFuncM (Hc := H) (encs := fun p : Pc => [p.v]) (xs := pieces s) (Cap := RopeIn bi (.pointer (some ⟨b, 0, none⟩)) o) (lb := [.pointer (some ⟨bi, 0, none⟩)]) (ps := [26])
    (J := fun pre _ Hl => ∃ (pl : PlS) (last : Nat), pl.small pre.length ∧ placeOf s k = placeGo k ((pieces s).drop pre.length) pl last ∧ Hl = [.blk b8 (.cells [.int .i32 (last : Int)].toArray 21 (0, 0)), .blk b7 (.cells [.int .i64 (pl.byte : Int), .int .i64 (pl.rune : Int), .int .i64 (pl.unit : Int), .int .i64 (pl.line : Int), .int .i64 (pl.col : Int)].toArray 59 (0, 0)), .blk b6 (.cells [.int .i64 0].toArray 24 (0, 0)), .blk b5 (.cells [.int .i64 0].toArray 3 (0, 0)), .blk b4 (.cells [.int .i64 0, .int .i64 0, .int .i64 0, .int .i64 0, .int .i64 0].toArray 59 (0, 0))])
    (Jx := fun c _ _ Hl => c = .ret ∧ Hl = [.blk b6 (.cells [.int .i64 0].toArray 24 (0, 0)), .blk b5 (.cells [.int .i64 (k - ((placeOf s k).byte : Int))].toArray 3 (0, 0)), .blk b4 (.cells (placeOf s k).cs.toArray 59 (0, 0))])
    rfl Try.func45 rfl rfl hseq ⟨hbi, hT2⟩ (fun _ => rfl) rfl (fun _ _ _ _ h _ => h) (fun _ _ _ _ _ h _ => h) (.cons (.cons (.cons (.cons (.cons .nil))))) ?_ ?_ ?_ ?_
  · exact ⟨PlS.zero, 0, ⟨by decide, by decide, by decide, by decide, by decide⟩, rfl, rfl⟩
  · rintro lp pre x post hxs m4 Hl ⟨pl, last, hsm, hgo, rfl⟩ hm4 Hfr hfr
    have hpre : pre.length + post.length + 1 = (pieces s).length := by rw [hxs]; simp; omega
    have hb34 := hm4 _ _ hb3
    have hb94 := hm4 _ _ hb9
    have hmem : x ∈ pieces s := by rw [hxs]; simp
    have hmw := mem_w hmem
    have hdr : (pieces s).drop pre.length = x :: post := by rw [hxs]; simp
    rw [hdr, placeGo] at hgo
    have hadd := PlS.add_small (p := x) (l := last) (b := x.r) hsm hmw.2.2.1
    obtain ⟨n0, n1, n2, n3, n4, n5⟩ := PlS.next_small (l := last) (b := x.r) hsm
    have hline : pl.line ≤ 1000000000 := by have := hsm.2.2.2.1; omega
    have hcs : (pl.next last x.r).cs = [.int .i64 ((pl.next last x.r).byte : Int), .int .i64 ((pl.next last x.r).rune : Int), .int .i64 ((pl.next last x.r).unit : Int), .int .i64 ((pl.next last x.r).line : Int), .int .i64 ((pl.next last x.r).col : Int)] := rfl
    simp only [List.cons_append, List.nil_append]
    (refine st_O19_1 ?_; intros; rename_i b10)
    refine WQ.assigned (Hl := [_, _, _, _, _, _]) (.cons (.cons (.cons (.cons (.cons (.cons .nil)))))) (Mem.le.refl _) ?_
    intro Hfr2
    simp only [List.cons_append, List.nil_append]
    (try (refine st_O19_1 ?_; intros))
    refine WL.heap (H' := .blk b8 (.cells [.int .i32 (last : Int)].toArray 21 (0, 0)) :: .blk b7 (.cells [.int .i64 (pl.byte : Int), .int .i64 (pl.rune : Int), .int .i64 (pl.unit : Int), .int .i64 (pl.line : Int), .int .i64 (pl.col : Int)].toArray 59 (0, 0)) :: .blk b10 (.cells x.cs.toArray 40 (0, 0)) :: .blk b6 (.cells [.int .i64 0].toArray 24 (0, 0)) :: .blk b5 (.cells [.int .i64 0].toArray 3 (0, 0)) :: .blk b4 (.cells [.int .i64 0, .int .i64 0, .int .i64 0, .int .i64 0, .int .i64 0].toArray 59 (0, 0)) :: Hfr2) zpk ?_
    refine WL.callV rfl Try.func61 rfl rfl (by exact rfl) (by exact rfl) (next_any hline _ _ _) ?_
    rintro u m4 H4 ⟨rfl, rfl⟩
    rw [hcs]
    obtain ⟨q, hq⟩ : ∃ q, pl.next last x.r = q := ⟨_, rfl⟩
    rw [hq] at n0 n1 n2 n3 n4 n5 hgo hadd ⊢
    have hxcs : x.cs = [.int .i64 (x.at_ : Int), .int .i64 (x.w : Int), .int .i32 (x.r : Int), .bool x.b] := rfl
    rw [hxcs]
    have hxw : 1 ≤ x.w ∧ x.w ≤ 4 := ⟨hmw.2.1, hmw.2.2.1⟩
    have hsl : pre.length ≤ 16777216 := by omega
    by_cases hk : k < ((x.at_ + x.w : Nat) : Int)
    · rw [if_pos hk] at hgo
      (try (refine st_O19_1 ?_; intros))
      refine WC.drawE 6 ([.blk b7 (.cells [.int .i64 (q.byte : Int), .int .i64 (q.rune : Int), .int .i64 (q.unit : Int), .int .i64 (q.line : Int), .int .i64 (q.col : Int)].toArray 59 (0, 0)), .blk b6 (.cells [.int .i64 0].toArray 24 (0, 0)), .blk b5 (.cells [.int .i64 0].toArray 3 (0, 0))]) (.blk b4 (.cells [.int .i64 0, .int .i64 0, .int .i64 0, .int .i64 0, .int .i64 0].toArray 59 (0, 0)) :: Hfr2) rfl (by decide +kernel) zpk ?_
      (refine cmx_O19_0 ?_)
      refine WE.act0 5 (by decide +kernel) rfl rfl (fun c h => by cases h) ?_
      (try (refine st_O19_1 ?_; intros))
      refine WQ.stored (B := []) (U := .blk b4 (.cells [.int .i64 (q.byte : Int), .int .i64 (q.rune : Int), .int .i64 (q.unit : Int), .int .i64 (q.line : Int), .int .i64 (q.col : Int)].toArray 59 (0, 0)) :: Hfr2) (Mem.le.refl _) zpk ?_
      refine WE.done (by decide +kernel) ?_
      (try (refine st_O19_1 ?_; intros))
      refine WQ.roundRet (Hl := [.blk b6 _, .blk b5 _, .blk b4 _]) zpk (Mem.le.refl _) ⟨rfl, ?_⟩
      rw [hgo]
      rfl
    · rw [if_neg hk] at hgo
      have hgo2 : placeOf s k = placeGo k ((pieces s).drop (pre ++ [x]).length) (q.add x) x.r := by rw [hgo, hxs]; simp
      have hadd2 : (q.add x).small (pre ++ [x]).length := by simpa using hadd
      by_cases h16 : 65536 ≤ x.r
      · by_cases h10 : x.r = 10
        · omega
        · have e : q.add x = ⟨q.byte + x.w, q.rune + 1, q.unit + 1 + 1, q.line, q.col + 1⟩ := by unfold PlS.add; rw [if_pos h16, if_neg h10, if_neg h10]; rfl
          rw [e] at hgo2 hadd2
          (try (refine st_O19_1 ?_; intros))
          refine WQ.roundOn (Hl := [.blk b8 _, .blk b7 _, .blk b6 _, .blk b5 _, .blk b4 _]) zpk (Mem.le.refl _) ⟨_, _, hadd2, hgo2, ?_⟩
          rfl
      · by_cases h10 : x.r = 10
        · have e : q.add x = ⟨q.byte + x.w, q.rune + 1, q.unit + 1, q.line + 1, 0⟩ := by unfold PlS.add; rw [if_neg h16, if_pos h10, if_pos h10]
          rw [e] at hgo2 hadd2
          (try (refine st_O19_1 ?_; intros))
          refine WQ.roundOn (Hl := [.blk b8 _, .blk b7 _, .blk b6 _, .blk b5 _, .blk b4 _]) zpk (Mem.le.refl _) ⟨_, _, hadd2, hgo2, ?_⟩
          rfl
        · have e : q.add x = ⟨q.byte + x.w, q.rune + 1, q.unit + 1, q.line, q.col + 1⟩ := by unfold PlS.add; rw [if_neg h16, if_neg h10, if_neg h10]; rfl
          rw [e] at hgo2 hadd2
          (try (refine st_O19_1 ?_; intros))
          refine WQ.roundOn (Hl := [.blk b8 _, .blk b7 _, .blk b6 _, .blk b5 _, .blk b4 _]) zpk (Mem.le.refl _) ⟨_, _, hadd2, hgo2, ?_⟩
          rfl
  · rintro D m4 Hl ⟨pl, last, hsm, hgo, rfl⟩ hm4
    simp only [List.cons_append, List.nil_append]
    rw [List.drop_length, placeGo] at hgo
    have hb34 := hm4 _ _ hb3
    have hb94 := hm4 _ _ hb9
    obtain ⟨n0, n1, n2, n3, n4, n5⟩ := PlS.next_small (l := last) (b := 0) hsm
    have hline : pl.line ≤ 1000000000 := by have := hsm.2.2.2.1; omega
    have hcs : (pl.next last 0).cs = [.int .i64 ((pl.next last 0).byte : Int), .int .i64 ((pl.next last 0).rune : Int), .int .i64 ((pl.next last 0).unit : Int), .int .i64 ((pl.next last 0).line : Int), .int .i64 ((pl.next last 0).col : Int)] := rfl
    (try (refine st_O19_1 ?_; intros))
    refine WL.callV rfl Try.func61 rfl rfl (by exact rfl) (by exact rfl) (next_any (behind := 0) hline _ _ _) ?_
    rintro u m4 H4 ⟨rfl, rfl⟩
    rw [hcs]
    obtain ⟨q, hq⟩ : ∃ q, pl.next last 0 = q := ⟨_, rfl⟩
    rw [hq] at n0 n1 n2 n3 n4 n5 hgo ⊢
    (try (refine st_O19_1 ?_; intros))
    refine WC.drawE 6 ([.blk b7 (.cells [.int .i64 (q.byte : Int), .int .i64 (q.rune : Int), .int .i64 (q.unit : Int), .int .i64 (q.line : Int), .int .i64 (q.col : Int)].toArray 59 (0, 0)), .blk b6 (.cells [.int .i64 0].toArray 24 (0, 0)), .blk b5 (.cells [.int .i64 0].toArray 3 (0, 0))]) (.blk b4 (.cells [.int .i64 0, .int .i64 0, .int .i64 0, .int .i64 0, .int .i64 0].toArray 59 (0, 0)) :: .blk D (.deferred (some [])) :: H) rfl (by decide +kernel) zpk ?_
    (refine cmx_O19_0 ?_)
    refine WE.act0 5 (by decide +kernel) rfl rfl (fun c h => by cases h) ?_
    (try (refine st_O19_1 ?_; intros))
    refine WQ.stored (B := []) (U := .blk b4 (.cells [.int .i64 (q.byte : Int), .int .i64 (q.rune : Int), .int .i64 (q.unit : Int), .int .i64 (q.line : Int), .int .i64 (q.col : Int)].toArray 59 (0, 0)) :: .blk D (.deferred (some [])) :: H) (Mem.le.refl _) zpk ?_
    refine WE.done (by decide +kernel) ?_
    (try (refine st_O19_1 ?_; intros))
    refine WQ.heapX (H' := .blk D (.deferred (some [])) :: .blk b6 (.cells [.int .i64 0].toArray 24 (0, 0)) :: .blk b5 (.cells [.int .i64 (k - (q.byte : Int))].toArray 3 (0, 0)) :: .blk b4 (.cells [.int .i64 (q.byte : Int), .int .i64 (q.rune : Int), .int .i64 (q.unit : Int), .int .i64 (q.line : Int), .int .i64 (q.col : Int)].toArray 59 (0, 0)) :: H) zpk ?_
    refine WQ.mark (H1 := .blk b6 (.cells [.int .i64 0].toArray 24 (0, 0)) :: .blk b5 (.cells [.int .i64 (k - (q.byte : Int))].toArray 3 (0, 0)) :: .blk b4 (.cells [.int .i64 (q.byte : Int), .int .i64 (q.rune : Int), .int .i64 (q.unit : Int), .int .i64 (q.line : Int), .int .i64 (q.col : Int)].toArray 59 (0, 0)) :: H) (List.Perm.refl _) ?_
    refine q_fin0 (H0 := H) ⟨hle.trans hm4, rfl, ?_⟩ (hd := zpk)
    rw [hgo]
    rfl
  · rintro D c pre m4 Hl _ ⟨rfl, rfl⟩ hm4
    simp only [List.cons_append, List.nil_append]
    (try (refine st_O19_1 ?_; intros))
    refine WQ.mark (List.perm_middle (l₁ := [_, _, _])) ?_
    exact q_fin0 (H0 := H) ⟨hle.trans hm4, rfl, rfl⟩ (hd := zpk)
end Go.Proofs.Ytljfncpecpkhhaa

/-
  A walk's engine: contracts that are told of worlds, as contracts of the engine. No condition.
-/
set_option linter.all false
namespace Go.Eng
open Go Go.RowKit
theorem Does.ofSame {P : Program} {f : FuncId} {args : Array Value} {w0 : World} {m : Mem} {H : SHeap} {v : Value} (h : ∀ w, Sat w0 m H w → Calls P f args w fun e w' => e = .returned v ∧ w' = w) : Does P f args w0 m H (Gives v m H) :=
  fun w hs => (callsIn_wide.2 (h w hs)).mono fun _ _ ⟨he, hw⟩ => ⟨v, m, H, he, ⟨rfl, rfl, rfl⟩, by subst hw; exact hs⟩
/-- a variable of the library's holds some number -/
def GInt (g : Nat) (m : Mem) : Prop := ∃ cs T fz z, m g = some (.cells cs T fz) ∧ cs[0]? = some (.int .i64 z)
theorem GInt.le {g : Nat} {m m' : Mem} (h : GInt g m) (hm : m.le m') : GInt g m' := by
  obtain ⟨cs, T, fz, z, h1, h2⟩ := h
  exact ⟨cs, T, fz, z, hm _ _ h1, h2⟩
theorem GInt.cell {g : Nat} {m : Mem} {w0 w : World} {H : SHeap} (h : GInt g m) (hs : Sat w0 m H w) : ∃ z, w.cell? ⟨g, 0, none⟩ = some (.int .i64 z) := by
  obtain ⟨cs, T, fz, z, h1, h2⟩ := h
  exact ⟨z, by simp [World.cell?, hs.pers _ _ h1, h2]⟩
end Go.Eng

