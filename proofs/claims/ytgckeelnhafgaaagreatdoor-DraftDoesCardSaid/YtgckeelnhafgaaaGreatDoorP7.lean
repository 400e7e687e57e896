/-
  Parts of a walk, joined. No condition.
-/
import Derived.Test.YtgckeelnhafgaaaGreatDoorP6
set_option linter.all false
set_option maxRecDepth 100000
set_option maxHeartbeats 4000000
open Go.Proofs Go.Proofs.YtgckeelnhafgaaaGreatDoor
open Tryz
open Go Go.Eng
variable {P : Program} {ro : Option Nat} {n : Nat} {w0 : World} {Q : Exit → Act → World → Prop} {r : Env} {ds : List Dfr} {m : Mem} {H : SHeap} {ops : Array Oper} {l : List Oper} {d : Nat} {ty : TypeId} {pos : String} {after : Array Edge}
namespace Go.Eng
open Go
def Og.cs (x : Og) : List Value := [.int .i64 (x.a : Int), .int .i64 (x.z : Int), .int .i64 (x.d : Int)]
def ogs (G : Gp) : List (List Value) := (ogL 0 G).map Og.cs
theorem wM (G : Gp) : (ogs G).length = G.length := by unfold ogs; rw [List.length_map, zB4]
theorem j6 (F : Gp) (g : List (List UInt8) × Nat) : ogs (F ++ [g]) = ogs F ++ [[Value.int .i64 (Gp.size F : Int), Value.int .i64 ((Gp.size F + g.1.flatten.length : Nat) : Int), Value.int .i64 (g.2 : Int)]] := by
 unfold ogs
 rw [zHi, List.map_append, Nat.zero_add]; rfl
theorem zFI (F : Gp) (g : List (List UInt8) × Nat) : (ogs (F ++ [g]))[F.length]? = some [Value.int .i64 (Gp.size F : Int), Value.int .i64 ((Gp.size F + g.1.flatten.length : Nat) : Int), Value.int .i64 (g.2 : Int)] := by
 rw [j6, List.getElem?_append_right (by rw [wM]; exact Nat.le_refl _), wM, Nat.sub_self]; rfl
theorem zHt (F : Gp) (g h : List (List UInt8) × Nat) (e : h.2 = g.2) : (ogs (F ++ [g])).set F.length [Value.int .i64 (Gp.size F : Int), Value.int .i64 ((Gp.size F + h.1.flatten.length : Nat) : Int), Value.int .i64 (g.2 : Int)] = ogs (F ++ [h]) := by
 rw [j6, j6, List.set_append_right _ _ (by rw [wM]; exact Nat.le_refl _), wM, Nat.sub_self, e]; rfl
theorem zHY (G : Gp) (t : List UInt8) (d z : Nat) (hz : z = Gp.size G + t.length) : (ogs G ++ [[Value.int .i64 (Gp.size G : Int), Value.int .i64 0, Value.int .i64 (d : Int)]]).set G.length [Value.int .i64 (Gp.size G : Int), Value.int .i64 (z : Int), Value.int .i64 (d : Int)] = ogs (G ++ [([t], d)]) := by
 rw [j6, List.set_append_right _ _ (by rw [wM]; exact Nat.le_refl _), wM, Nat.sub_self, hz]
 simp
theorem zJG (G : Gp) (x : List UInt8 × Nat) : (gAdd G x).length ≤ G.length + 1 := by
 obtain ⟨t, e⟩ := x
 rcases List.eq_nil_or_concat G with rfl | ⟨F, ⟨ts, d⟩, rfl⟩
 ·rw [kT]; simp
 ·rw [List.concat_eq_append]
  by_cases h : d = e
  ·subst h; rw [qC]; simp
  ·rw [kB h]; simp
theorem zEX (Z : List (List UInt8 × Nat)) : (gOf Z).length ≤ Z.length := by
 have h : ∀ (Z : List (List UInt8 × Nat)) (G : Gp), (Z.foldl gAdd G).length ≤ G.length + Z.length := by
  intro Z
  induction Z with
  | nil => intro G; exact Nat.le_refl _
  | cons x Z ih =>
   intro G
   rw [List.foldl_cons]
   have := ih (gAdd G x)
   have := zJG G x
   rw [List.length_cons]; omega
 have := h Z []
 rw [List.length_nil, Nat.zero_add] at this
 exact this
theorem vV (L : List Dr) (k i : Nat) : Gp.size (gOf ((orgZ L k).take i)) = ((toks (txOf L k)).take i).flatten.length := by
 rw [zCk, ← (zKP _).texts, List.map_take, zAr]
theorem vD (l : List (List UInt8)) (i : Nat) : (l.take i).flatten.length ≤ l.flatten.length := by
 have : l.flatten = (l.take i).flatten ++ (l.drop i).flatten := by rw [← List.flatten_append, List.take_append_drop]
 rw [this, List.length_append]; omega
theorem Gp.size_snoc (F : Gp) (g : List (List UInt8) × Nat) : Gp.size (F ++ [g]) = Gp.size F + g.1.flatten.length := by unfold Gp.size; simp
end Go.Eng
namespace ZP
open Go Go.Eng
attribute [local irreducible] WL WC WQ QFun zJ Does Q1 zD zB Go.Addr.add
attribute [local irreducible] orgK toks orgZ gOf ogs
theorem zC2 {bh bm cap c : Nat} {B : Br} {a : Option Addr} {L : List Dr} {k : Nat} (hk : k < L.length) (w0 : World) (m : Mem) (H : SHeap) (hok : HsOk m L B c) :
  Does Tryz.prog 16 #[.pp bh, .int .i64 (k : Int)] w0 m (.bl bh [.slice a L.length cap, .map (some bm)] 90 :: .row a cap 97 3 (drs L) :: H) (fun v m' H' => m.le m' ∧ ∃ al cl, v = .tuple #[.slice al (orgG L k).length cl, .int .i64 0] ∧ H' = .row al cl 107 3 (ogs (orgG L k)) :: .bl bh [.slice a L.length cap, .map (some bm)] 90 :: .row a cap 97 3 (drs L) :: H) := by
 refine Does.of_body func16 rfl ntmps16 rfl ?_
 obtain ⟨d, hd⟩ : ∃ d, L[k]? = some d := ⟨_, List.getElem?_eq_getElem hk⟩
 obtain ⟨sa, sc, hv, hr⟩ := hok.at_ d (List.mem_of_getElem? hd)
 have hpar := hok.par k d hd
 have hZt := zAr L k
 have hZl := kS L k
 have hKl := wJ L k
 have htx := xU hd
 rw [htx] at hZt hZl hKl
 have htl := zP d.t
 try (refine st ?_; intros)
 refine zA func43 ?_ (hs := zDh hd hv _ _ _)
 rintro v m H1 ⟨rfl, rfl, rfl⟩
 unfold drE
 rw [hv]
 refine st ?_; intros; rename_i b6
 refine zN func45 ?_ (hs := zFd hk _ _ _ hok)
 rintro v m1 H1 ⟨hle1, bo, rfl, hO, rfl⟩
 try (refine st ?_; intros)
 refine zA func46 ?_ (hs := uX d.t (by omega) _ _ _)
 rintro v m2 H2 ⟨hle2, a9, cp9, rfl, rfl⟩
 try (refine st ?_; intros)
 have hO2 := hO.le hle2
 unfold NumR at hO2
 have hnK := zQ (orgK L k)
 have hst : (strs (toks d.t)).length = (toks d.t).length := by simp [strs]
 refine WC.newRow (T := 107) (sz := 3) ?_
 refine lpz (fun j r ds m' H' => ∃ (i : Nat) (al : Option Addr) (cl : Nat) (z : Int) (g : Nat) (G : Gp) (E : List (List Value)), j = (toks d.t).length - i ∧ r = [(30, .int .i64 (i : Int)), (29, .int .i64 ((toks d.t).length : Int)), (28, .slice a9 (toks d.t).length cp9), (10, .slice (some ⟨bo, 0, none⟩) (orgK L k).length (orgK L k).length), (9, .int .i64 z), (8, .slice al g cl)] ∧ ds = [] ∧ m2 = m' ∧ H' = .row al cl 107 3 E :: .row a9 cp9 9 1 (strs (toks d.t)) :: .bl bh [.slice a L.length cap, .map (some bm)] 90 :: .row a cap 97 3 (drs L) :: .bl b6 [.int .i64 (d.h : Int), .slice sa d.ps.length sc, str d.t] 97 :: H ∧ (i ≤ (toks d.t).length) ∧ (G = gOf ((orgZ L k).take i)) ∧ (E = ogs G) ∧ (z = (Gp.size G : Int)) ∧ (g = G.length)) ((toks d.t).length - (0)) ⟨0, none, 0, 0, 0, [], [], rfl, rfl, rfl, rfl, rfl, by omega, by unfold gOf; rfl, by unfold ogs; rfl, rfl, rfl⟩ ?_
 rintro j r ds m' H' ⟨i, al, cl, z, g, G, E, rfl, rfl, rfl, rfl, rfl, hi, hG, hE, hz, hg⟩
 have hsz : Gp.size G ≤ d.t.length := by
  rw [hG, vV, htx]
  exact Nat.le_trans (vD _ _) (by rw [yR]; exact Nat.le_refl _)
 have hGl : G.length ≤ i := by rw [hG]; exact Nat.le_trans (zEX _) (by rw [List.length_take]; omega)
 have hEl : E.length = G.length := by rw [hE, wM]
 by_cases hlt : i < (toks d.t).length
 ·obtain ⟨t, ht⟩ : ∃ t, (toks d.t)[i]? = some t := ⟨_, List.getElem?_eq_getElem hlt⟩
  obtain ⟨o, ho⟩ : ∃ o, (orgK L k)[i]? = some o := ⟨_, List.getElem?_eq_getElem (by omega)⟩
  have hgt : (strs (toks d.t))[i]? = some [str t] := by unfold strs; rw [List.getElem?_map, ht]; rfl
  have hgo := xO ho
  have hzi : (orgZ L k)[i]? = some (t, o) := by
   unfold orgZ
   rw [htx, List.getElem?_zip_eq_some]
   exact ⟨ht, ho⟩
  have hG1 : gOf ((orgZ L k).take (i + 1)) = gAdd G (t, o) := by rw [List.take_succ, hzi, hG]; exact zCD _ _
  have hz1 : Gp.size (gAdd G (t, o)) = Gp.size G + t.length := by
   rw [← hG1, hG, vV, vV, htx, List.take_succ, ht, List.flatten_append, List.length_append]; simp
  have hz2 : Gp.size (gAdd G (t, o)) ≤ d.t.length := by
   rw [← hG1, vV, htx]
   exact Nat.le_trans (vD _ _) (by rw [yR]; exact Nat.le_refl _)
  generalize strs (toks d.t) = ST at *
  generalize nums (orgK L k) = NK at *
  refine WC.rowSome (a := a9) zhs (by omega) ?_
  rintro a9 rfl
  obtain ⟨gs, hgs⟩ : ∃ gs, gs = Gp.size G := ⟨_, rfl⟩
  rw [← hgs] at hz hz1 hsz
  have hrk := hO2 w0 (.row al cl 107 3 E :: .row (some a9) cp9 9 1 ST :: .bl bh [.slice a L.length cap, .map (some bm)] 90 :: .row a cap 97 3 (drs L) :: .bl b6 [.int .i64 (d.h : Int), .slice sa d.ps.length sc, str d.t] 97 :: H)
  rcases List.eq_nil_or_concat G with rfl | ⟨F, ⟨ts, d0⟩, rfl⟩
  ·have hg0 : g = 0 := hg
   subst hg0
   have hgs0 : gs = 0 := hgs
   have hEl0 : E.length = 0 := hEl
   refine st ?_; intros; rename_i b8 a8 c8
   refine WL.rowSome (a := a8) zhs (by simp) ?_
   rintro a8 rfl
   have hel : (E ++ [[Value.int .i64 z, .int .i64 0, .int .i64 (o : Int)]])[E.length + 1 - 1]? = some [Value.int .i64 z, .int .i64 0, .int .i64 (o : Int)] := by simp
   try (refine st ?_; intros)
   have hfin : (E ++ [[Value.int .i64 z, .int .i64 0, .int .i64 (o : Int)]]).set (E.length + 1 - 1) [Value.int .i64 z, .int .i64 (z + (t.length : Int)), .int .i64 (o : Int)] = ogs [([t], o)] := by
    have := zHY [] t o t.length (by show t.length = 0 + t.length; omega)
    rw [← hE, show Gp.size [] = 0 from rfl] at this
    rw [hz, hgs0, hEl0]
    simpa using this
   rw [hfin]
   refine nxz ((toks d.t).length - (i + 1)) ⟨i + 1, some a8, c8, z + (t.length : Int), E.length + 1, [([t], o)], ogs [([t], o)], rfl, rfl, rfl, rfl, rfl, ?_, ?_, ?_, ?_, ?_⟩
   ·omega
   ·rw [hG1]; rfl
   ·rfl
   ·rw [← kT (t, o), hz1]; omega
   ·rw [hEl0]; rfl
  ·rw [List.concat_eq_append] at *
   have hgl := zFI F (ts, d0)
   have hgl2 := zHt F (ts, d0) (ts ++ [t], d0) rfl
   have hgl3 := zHY (F ++ [(ts, d0)]) t o
   rw [← hE] at hgl hgl2 hgl3
   simp only at hgl hgl2
   have hgF : g = F.length + 1 := by rw [hg, List.length_append, List.length_singleton]
   have hEF : E.length = F.length + 1 := by rw [hEl, List.length_append, List.length_singleton]
   rw [List.length_append, List.length_singleton] at hgl3
   subst hgF
   refine WC.rowSome (a := al) zhs (by omega) ?_
   rintro al rfl
   have hrk := hO2 w0 (.row (some al) cl 107 3 E :: .row (some a9) cp9 9 1 ST :: .bl bh [.slice a L.length cap, .map (some bm)] 90 :: .row a cap 97 3 (drs L) :: .bl b6 [.int .i64 (d.h : Int), .slice sa d.ps.length sc, str d.t] 97 :: H)
   have hF1 : F.length + 1 - 1 = F.length := by omega
   by_cases hs : d0 = o
   ·subst hs
    try (refine st ?_; intros)
    rw [hF1]
    have hz3 : Gp.size F + (ts ++ [t]).flatten.length = gs + t.length := by
     rw [hgs, Gp.size_snoc]; simp; omega
    have hz4 : z + (t.length : Int) = ((gs + t.length : Nat) : Int) := by omega
    rw [hz3] at hgl2
    rw [hz4, hgl2]
    refine nxz ((toks d.t).length - (i + 1)) ⟨i + 1, some al, cl, ((gs + t.length : Nat) : Int), F.length + 1, F ++ [(ts ++ [t], d0)], ogs (F ++ [(ts ++ [t], d0)]), rfl, rfl, rfl, rfl, rfl, ?_, ?_, ?_, ?_, ?_⟩
    ·omega
    ·rw [hG1, qC]
    ·rfl
    ·rw [← qC, hz1]
    ·simp
   ·refine st ?_; intros; rename_i b8 a8 c8
    refine WL.rowSome (a := a8) zhs (by simp) ?_
    rintro a8 rfl
    have hel : (E ++ [[Value.int .i64 z, .int .i64 0, .int .i64 (o : Int)]])[E.length + 1 - 1]? = some [Value.int .i64 z, .int .i64 0, .int .i64 (o : Int)] := by simp
    try (refine st ?_; intros)
    have hfin : (E ++ [[Value.int .i64 z, .int .i64 0, .int .i64 (o : Int)]]).set (E.length + 1 - 1) [Value.int .i64 z, .int .i64 (z + (t.length : Int)), .int .i64 (o : Int)] = ogs (F ++ [(ts, d0)] ++ [([t], o)]) := by
     have := hgl3 (gs + t.length) (by rw [hgs])
     rw [hz, show E.length + 1 - 1 = F.length + 1 by omega, show (gs : Int) + (t.length : Int) = ((gs + t.length : Nat) : Int) by omega, hgs]
     rw [hgs] at this
     exact this
    rw [hfin]
    refine nxz ((toks d.t).length - (i + 1)) ⟨i + 1, some a8, c8, z + (t.length : Int), E.length + 1, F ++ [(ts, d0)] ++ [([t], o)], ogs (F ++ [(ts, d0)] ++ [([t], o)]), rfl, rfl, rfl, rfl, rfl, ?_, ?_, ?_, ?_, ?_⟩
    ·omega
    ·rw [hG1, kB hs]
    ·rfl
    ·rw [← kB hs, hz1]; omega
    ·rw [hEF]; simp
 ·obtain rfl : i = (toks d.t).length := by omega
  rw [← hZl, List.take_length] at hG
  have hG2 : G = orgG L k := hG
  subst hE
  subst hG2
  subst hg
  try (refine st ?_; intros)
  exact q_fz ⟨hle1.trans hle2, al, cl, rfl, rfl⟩
end ZP
namespace Go.Eng
open Go Go.RowKit
def SeqR {α : Type} (P : Program) (gf : FuncId) (lb : List Value) (encs : α → List Value) (xs : List α) (R : List α → Mem → SHeap → Prop) : Prop :=
 ∀ (w0 : World) (l : Nat) (J Jx : List α → Mem → SHeap → Prop) (m : Mem) (H : SHeap), (∀ pre m m' H, J pre m H → m.le m' → J pre m' H) → (∀ pre m m' H, Jx pre m H → m.le m' → Jx pre m' H) →
  (∀ pre m H, J pre m H → R pre m H) → J [] m H →
  (∀ pre x post, xs = pre ++ x :: post → ∀ m1 H1 Hit, J pre m1 H1 → m.le m1 →
   YieldOK P w0 l (encs x).toArray m1 (Hit ++ H1) (fun m' H' => ∃ H2, H' = Hit ++ H2 ∧ J (pre ++ [x]) m' H2 ∧ m1.le m') (fun m' H' => ∃ H2, H' = Hit ++ H2 ∧ Jx (pre ++ [x]) m' H2 ∧ m1.le m')) →
  Does P gf (.func (.yield l) #[] #[] :: lb).toArray w0 m H (fun _ m' H' => m.le m' ∧ (J xs m' H' ∨ ∃ pre, pre <+: xs ∧ Jx pre m' H'))
section
theorem zEY {α : Type} {gf : FuncId} {lb : List Value} {encs : α → List Value} {xs : List α} {R : List α → Mem → SHeap → Prop} {ps : List Nat} {assign body : Code} {fnd : FuncId} {tmps : Array Value} {L D : Nat} {Hb : SHeap}
  (hseq : SeqR P gf lb encs xs R) (hps : ∀ x, (encs x).length = ps.length) (hpn : ∀ p ∈ ps, p < n) (hok : r.ok n tmps)
  (J : List α → Mem → SHeap → Prop) (Jx : Code → List α → Mem → SHeap → Prop) (hmJ : ∀ pre m m' Hl, J pre m Hl → m.le m' → J pre m' Hl) (hRJ : ∀ pre m Hl i, J pre m Hl → R pre m (i :: (Hl ++ Hb))) (hmX : ∀ c pre m m' Hl, Jx c pre m Hl → m.le m' → Jx c pre m' Hl) {Hl0 : SHeap} (h0 : J [] m Hl0)
  (hround : ∀ lp pre x post, xs = pre ++ x :: post → ∀ m1 Hl, J pre m1 Hl → m.le m1 → ∀ Hfr, (∃ rec, Item.blk lp (.loop rec) ∈ Hfr ∧ rec.defers = D) → WC P (some lp) n w0 assign (zB P n w0 lp body J Jx (pre ++ [x]) m1 Hfr) (Env.given ps (encs x) r) [] m1 (Hl ++ Hfr))
  {w : World} (hs : Sat w0 m (.blk L (.loop { state := .ready, pending := none, fn := fnd, tmps := tmps, params := ps.toArray, assign := assign, body := body, defers := D }) :: (Hl0 ++ Hb)) w) :
  CallsIn (FW none) 0 P gf (.func (.yield L) #[] #[] :: lb).toArray w fun e w' => ∃ v m', e = .returned v ∧ m.le m' ∧
   ((∃ Hl, J xs m' Hl ∧ Sat w0 m' (.blk L (.loop { state := .ready, pending := none, fn := fnd, tmps := tmps, params := ps.toArray, assign := assign, body := body, defers := D }) :: (Hl ++ Hb)) w') ∨
    (∃ c pre Hl, pre <+: xs ∧ Jx c pre m' Hl ∧ Sat w0 m' (.blk L (.loop { state := .done, pending := some c, fn := fnd, tmps := tmps, params := ps.toArray, assign := assign, body := body, defers := D }) :: (Hl ++ Hb)) w')) := by
 obtain ⟨rec, hrec⟩ : ∃ rec : LoopState → Option Code → Loop, rec = fun st pe => { state := st, pending := pe, fn := fnd, tmps := tmps, params := ps.toArray, assign := assign, body := body, defers := D } := ⟨_, rfl⟩
 have hs1 : Sat w0 m (.blk L (.loop (rec .ready none)) :: (Hl0 ++ Hb)) w := by rw [hrec]; exact hs
 have := hseq w0 L (fun pre m H => ∃ Hl, H = .blk L (.loop (rec .ready none)) :: (Hl ++ Hb) ∧ J pre m Hl)
  (fun pre m H => ∃ c Hl, H = .blk L (.loop (rec .done (some c))) :: (Hl ++ Hb) ∧ Jx c pre m Hl) m _ (fun _ _ _ _ ⟨Hl, e, h⟩ hm => ⟨Hl, e, hmJ _ _ _ _ h hm⟩) (fun _ _ _ _ ⟨c, Hl, e, h⟩ hm => ⟨c, Hl, e, hmX _ _ _ _ _ h hm⟩) (fun pre m H ⟨Hl, e, h⟩ => by rw [e]; exact hRJ _ _ _ _ h) ⟨Hl0, rfl, h0⟩ ?_ w hs1
 ·refine this.mono ?_
  rintro e w' ⟨v, m', H', rfl, ⟨hle, hP⟩, hs'⟩
  refine ⟨v, m', rfl, hle, ?_⟩
  rcases hP with ⟨Hl, rfl, hJ⟩ | ⟨pre, hpre, c, Hl, rfl, hJ⟩
  ·exact .inl ⟨Hl, hJ, by rw [hrec] at hs'; exact hs'⟩
  ·exact .inr ⟨c, pre, Hl, hpre, hJ, by rw [hrec] at hs'; exact hs'⟩
 ·rintro pre x post hx m1 H1 Hit ⟨Hl, rfl, hJ⟩ hle W hW
  have hL : W.heap[L]? = some (.loop (rec .ready none)) := hW.own (.blk L _) (by simp)
  have hy := run_yield (P := P) (args := (encs x).toArray) hL (by rw [hrec]; simp [hps x])
  refine ⟨fnd, (ps.zip (encs x)).foldl (fun t (p : Nat × Value) => t.setIfInBounds p.1 p.2) tmps, assign, body, ?_, roundIn_of_wpIn (jA none fnd) ?_⟩
  ·rw [hy, hrec]
   congr 2
   simp
  ·have hsat1 := hW.perm (vA Hit (.blk L (.loop (rec .ready none))) Hl Hb)
   have hr := hround L pre x post hx m1 Hl hJ hle (.blk L (.loop (rec .ready none)) :: (Hb ++ Hit)) ⟨_, List.mem_cons_self, by rw [hrec]⟩ _ W (hok.given ps (encs x) hpn) hsat1
   refine wpIn_mono hr ?_
   intro e a1 W1 hq
   cases e with
   | normal =>
    obtain ⟨r1, m2, Hl1, hok1, hdf, hs2, hle2, hbody⟩ := hq
    have hs2' := hs2.perm (List.perm_middle (a := Item.blk L (.loop (rec .ready none))) (l₁ := Hl1) (l₂ := Hb ++ Hit))
    have hL1 : W1.heap[L]? = some (.loop (rec .ready none)) := hs2'.own _ List.mem_cons_self
    refine ⟨_, run_beginRound hL1 (by rw [hrec]), ?_⟩
    have hs3 := (hs2'.putObj (o' := .loop { rec .ready none with state := .busy })).perm (List.perm_middle (a := Item.blk L (.loop { rec .ready none with state := .busy })) (l₁ := Hl1) (l₂ := Hb ++ Hit)).symm
    obtain ⟨tm1, df1⟩ := a1
    simp only at hdf
    subst hdf
    refine wpIn_mono (hbody (.blk L (.loop { rec .ready none with state := .busy }) :: (Hb ++ Hit)) ⟨_, List.mem_cons_self⟩ tm1 _ hok1 hs3) ?_
    have fin : ∀ (jump : Option Code) (m3 : Mem) (Hl3 : SHeap) (W3 : World), Sat w0 m3 (Hl3 ++ (.blk L (.loop { rec .ready none with state := .busy }) :: (Hb ++ Hit))) W3 →
      ∃ w4, (Instr.endRound L jump).run P W3 = .ok (.bool jump.isNone) w4 ∧ Sat w0 m3 (Hit ++ (.blk L (.loop (rec (if jump.isNone then .ready else .done) jump)) :: (Hl3 ++ Hb))) w4 := by
     intro jump m3 Hl3 W3 hs4
     have hs5 := hs4.perm (List.perm_middle (a := Item.blk L (.loop { rec .ready none with state := .busy })) (l₁ := Hl3) (l₂ := Hb ++ Hit))
     have hL3 : W3.heap[L]? = some (.loop { rec .ready none with state := .busy }) := hs5.own _ List.mem_cons_self
     refine ⟨_, run_endRound jump hL3, ?_⟩
     have hs6 := hs5.putObj (o' := .loop { { rec .ready none with state := .busy } with state := if jump.isNone then .ready else .done, pending := jump })
     have e1 : ({ { rec .ready none with state := .busy } with state := if jump.isNone then .ready else .done, pending := jump } : Loop) = rec (if jump.isNone then .ready else .done) jump := by rw [hrec]
     rw [e1] at hs6
     rw [e1]
     exact hs6.perm ((List.perm_middle (a := Item.blk L (.loop (rec (if jump.isNone then .ready else .done) jump))) (l₁ := Hl3) (l₂ := Hb ++ Hit)).symm.trans (vA Hit _ Hl3 Hb).symm)
    intro e3 a3 W3 hq3
    cases e3 with
    | normal =>
     obtain ⟨m3, Hl3, hJ3, hle3, hs4⟩ := hq3
     obtain ⟨w4, h4, hs5⟩ := fin none m3 Hl3 W3 hs4
     exact ⟨_, w4, h4, .inl ⟨rfl, m3, _, ⟨_, rfl, ⟨Hl3, rfl, hJ3⟩, hle3⟩, hs5⟩⟩
    | ret =>
     obtain ⟨m3, Hl3, hJ3, hle3, hs4⟩ := hq3
     obtain ⟨w4, h4, hs5⟩ := fin (some .ret) m3 Hl3 W3 hs4
     exact ⟨_, w4, h4, .inr ⟨rfl, m3, _, ⟨_, rfl, ⟨.ret, Hl3, rfl, hJ3⟩, hle3⟩, hs5⟩⟩
    | exit id =>
     obtain ⟨m3, Hl3, hJ3, hle3, hs4⟩ := hq3
     obtain ⟨w4, h4, hs5⟩ := fin (some (.exit id)) m3 Hl3 W3 hs4
     exact ⟨_, w4, h4, .inr ⟨rfl, m3, _, ⟨_, rfl, ⟨.exit id, Hl3, rfl, hJ3⟩, hle3⟩, hs5⟩⟩
    | goto t =>
     obtain ⟨m3, Hl3, hJ3, hle3, hs4⟩ := hq3
     obtain ⟨w4, h4, hs5⟩ := fin (some (.goto t)) m3 Hl3 W3 hs4
     exact ⟨_, w4, h4, .inr ⟨rfl, m3, _, ⟨_, rfl, ⟨.goto t, Hl3, rfl, hJ3⟩, hle3⟩, hs5⟩⟩
    | panic ch => exact hq3.elim
    | outgrown => exact hq3.elim
   | _ => exact hq.elim
theorem WC.rangeFuncR {α : Type} {g : Operand} {gf : FuncId} {fn : Func} {cb : Code} {lb : List Value} {encs : α → List Value} {xs : List α} {R : List α → Mem → SHeap → Prop} {ps : List Nat} {assign body : Code} {Hl0 Hc : SHeap}
  (hg : r.ev g = some (.func (.func gf) #[] lb.toArray)) (hf : P.funcs[gf]? = some fn) (hname : (fn.name == "runtime.NumGoroutine") = false) (hb : fn.body = some cb)
  (hseq : SeqR P gf lb encs xs R) (hps : ∀ x, (encs x).length = ps.length) (hpn : ps.all (fun p => Nat.blt p n) = true)
  (J : List α → Mem → SHeap → Prop) (Jx : Code → List α → Mem → SHeap → Prop) (hmJ : ∀ pre m m' Hl, J pre m Hl → m.le m' → J pre m' Hl) (hRJ : ∀ pre m Hl i j, J pre m Hl → R pre m (i :: (Hl ++ (j :: Hc)))) (hmX : ∀ c pre m m' Hl, Jx c pre m Hl → m.le m' → Jx c pre m' Hl) (ht : Tail Hc H Hl0) (h0 : J [] m Hl0)
  (hround : ∀ lp pre x post, xs = pre ++ x :: post → ∀ m1 Hl, J pre m1 Hl → m.le m1 → ∀ Hfr, (∃ rec, Item.blk lp (.loop rec) ∈ Hfr) → WC P (some lp) n w0 assign (zB P n w0 lp body J Jx (pre ++ [x]) m1 Hfr) (Env.given ps (encs x) r) [] m1 (Hl ++ Hfr))
  (hdone : ∀ (D : Nat) m' Hl, J xs m' Hl → m.le m' → WQ n w0 Q .normal r (D :: ds) m' (Hl ++ (.blk D (.deferred (some [])) :: Hc)))
  (hstop : ∀ (D : Nat) c pre m' Hl, pre <+: xs → Jx c pre m' Hl → m.le m' → WC P none n w0 c Q r (D :: ds) m' (Hl ++ (.blk D (.deferred (some [])) :: Hc))) :
  WC P none n w0 (.rangeFunc g ps.toArray assign body) Q r ds m H := by
 intro tmps w ho hs
 rw [ht.eq] at hs
 have hpn' : ∀ p ∈ ps, p < n := fun p hp => by have := List.all_eq_true.1 hpn p hp; simpa [Nat.blt_eq] using this
 have h1 : fn.name ≠ "runtime.NumGoroutine" := by simpa using hname
 have h2 : ∀ (a : Array Value) (w : World), (callFunc gf a).run P w = .ok (.enter gf a) w := fun a w => by simp [callFunc, hf, h1, hb]
 refine wpIn_rangeFunc (fun fnd _ => ?_)
 have hs1 := (hs.alloc (.deferred (some []))).alloc (.loop { state := .ready, pending := none, fn := fnd, tmps := tmps, params := ps.toArray, assign := assign, body := body, defers := w.heap.size })
 rw [World.size_alloc] at hs1
 have hs2 := hs1.perm (List.Perm.cons _ (List.perm_middle (a := Item.blk w.heap.size (.deferred (some []))) (l₁ := Hl0) (l₂ := Hc)).symm)
 have hcall := zEY (P := P) hseq hps hpn' ho J Jx hmJ (fun pre m Hl i h => hRJ pre m Hl i _ h) hmX h0 (fun lp pre x post hx m1 Hl hJ hle Hfr ⟨rec, hr, _⟩ => hround lp pre x post hx m1 Hl hJ hle Hfr ⟨rec, hr⟩) hs2
 have henter := run_enterLoop_outer (P := P) (w := w) fnd tmps ps.toArray assign body
 generalize (w.alloc (.deferred (some []))).alloc (.loop { state := .ready, pending := none, fn := fnd, tmps := tmps, params := ps.toArray, assign := assign, body := body, defers := w.heap.size }) = W1 at henter hcall
 refine ⟨w.heap.size + 1, [{ target := .collected w.heap.size, args := #[] }], W1, { target := .fn (.func gf) lb.toArray, args := #[.func (.yield (w.heap.size + 1)) #[] #[]] }, W1, gf, (.func (.yield (w.heap.size + 1)) #[] #[] :: lb).toArray, W1,
  henter, ?_, fun f _ => jA none f, ?_, jV none, ?_⟩
 ·have e0 : ∀ v, (Act.mk tmps (marks ds)).eval (.const v) = v := fun _ => rfl
  simp [resolve, ho.ev hg, e0, Deferred.ofValue]
 ·simp [invoke, h2]
 ·have hc : CallsIn (FW none) (0 - 1) P gf (.func (.yield (w.heap.size + 1)) #[] #[] :: lb).toArray _ _ := hcall
  refine hc.mono ?_
  rintro e w' ⟨v, m', rfl, hle, (⟨Hl, hJ, hs3⟩ | ⟨c, pre, Hl, hpre, hJ, hs3⟩)⟩
  ·obtain ⟨w4, h4, hs4⟩ := uT (P := P) hs3 (by simp)
   exact ⟨none, w4, h4, hdone _ m' Hl hJ hle tmps w4 ho hs4⟩
  ·obtain ⟨w4, h4, hs4⟩ := uT (P := P) hs3 (by simp)
   exact ⟨some c, w4, h4, hstop _ c pre m' Hl hpre hJ hle tmps w4 ho hs4⟩
end
end Go.Eng
namespace Go.Eng
open Go Go.RowKit
theorem Does.mem2 {P : Program} {w0 : World} {m : Mem} {H : SHeap} {f : FuncId} {args : Array Value} {Post : Value → Mem → Item → Prop} {i k : Item} (hi : i ∈ H) (hk : k ∈ H) (hne : i ≠ k)
  (h : ∀ H1, Does P f args w0 m (i :: k :: H1) (fun v m' H' => ∃ j, Post v m' j ∧ H' = j :: i :: k :: H1)) : Does P f args w0 m H (fun v m' H' => ∃ j, Post v m' j ∧ H' = j :: H) := by
 intro w hs
 obtain ⟨H1, hp⟩ := hs.at_ hi
 have hk1 : k ∈ H1 := by
  rcases List.mem_cons.1 ((hp.mem_iff).1 hk) with e | e
  ·exact absurd e.symm hne
  ·exact e
 obtain ⟨H2, hp2⟩ := (hs.perm hp).drop.at_ hk1
 have hp3 : List.Perm H (i :: k :: H2) := hp.trans (List.Perm.cons _ hp2)
 refine (h H2 w (hs.perm hp3)).mono ?_
 rintro e w' ⟨v', m', H', he, ⟨j, hj, rfl⟩, hs'⟩
 exact ⟨_, _, _, he, ⟨j, hj, rfl⟩, hs'.perm (List.Perm.cons _ hp3.symm)⟩
def logGo (S : List Nat) : Nat → List Nat
 | 0 => []
 | n + 1 => if n ∈ S then n :: logGo S n else logGo S n
def logK (L : List Dr) (k : Nat) : List Nat := logGo (xB L k) (k + 1)
theorem kU {S : List Nat} {n : Nat} (h : n ∈ S) : logGo S (n + 1) = n :: logGo S n := by rw [logGo, if_pos h]
theorem jO {S : List Nat} {n : Nat} (h : n ∉ S) : logGo S (n + 1) = logGo S n := by rw [logGo, if_neg h]
theorem logGo_mem {S : List Nat} {x : Nat} : ∀ {n : Nat}, x ∈ logGo S n ↔ x < n ∧ x ∈ S
 | 0 => by simp [logGo]
 | n + 1 => by
  by_cases h : n ∈ S
  ·rw [kU h, List.mem_cons, logGo_mem]
   constructor
   ·rintro (rfl | ⟨h1, h2⟩)
    ·exact ⟨Nat.lt_succ_self _, h⟩
    ·exact ⟨by omega, h2⟩
   ·rintro ⟨h1, h2⟩
    by_cases e : x = n
    ·exact .inl e
    ·exact .inr ⟨by omega, h2⟩
  ·rw [jO h, logGo_mem]
   constructor
   ·rintro ⟨h1, h2⟩; exact ⟨by omega, h2⟩
   ·rintro ⟨h1, h2⟩
    have : x ≠ n := fun e => h (e ▸ h2)
    exact ⟨by omega, h2⟩
end Go.Eng
namespace ZP
open Go Go.Eng
attribute [local irreducible] WL WC WQ QFun zJ Does Q1 zD zB Go.Addr.add
def HistIn (bh bm cap : Nat) (a : Option Addr) (L : List Dr) (m : Mem) (H : SHeap) : Prop :=
 Eng.Item.bl bh [.slice a L.length cap, .map (some bm)] 90 ∈ H ∧ Eng.Item.row a cap 97 3 (drs L) ∈ H ∧ ∀ d ∈ L, PsAt m d
theorem zJS {bh bm cap : Nat} {a : Option Addr} {L : List Dr} {k : Nat} (hk : k < L.length) (hL : L.length ≤ 256) {w0 : World} {m : Mem} {H : SHeap} (hps : ∀ (i : Nat) (d : Dr), L[i]? = some d → d.ps.length ≤ 2) (hh : HistIn bh bm cap a L m H) :
  Does Tryz.prog 39 #[.pp bh, .int .i64 (k : Int)] w0 m H (fun v m' H' => ∃ j, (m' = m ∧ ∃ b, v = .map (some b) ∧ j = Eng.Item.blk b (mapO .i64 (lnM (xB L k)))) ∧ H' = j :: H) := by
 refine Does.mem2 hh.1 hh.2.1 (fun h => by cases h) fun H1 => ?_
 refine (zA0 hk hL w0 m H1 hh.2.2 hps).mono ?_
 rintro v m' H' ⟨rfl, b, rfl, rfl⟩
 exact ⟨_, ⟨rfl, b, rfl, rfl⟩, rfl⟩
theorem zKt {bh k : Nat} (w0 : World) (m : Mem) (H : SHeap) : Does Tryz.prog 9 #[.pp bh, .int .i64 (k : Int)] w0 m H (fun v m' H' => m' = m ∧ ∃ b2 b3, v = .func (.func 37) #[] #[.pp b2, .pp b3] ∧
  H' = .bl b2 [.pp bh] 23 :: .bl b3 [.int .i64 (k : Int)] 3 :: H) := by
 refine Does.of_body func9 rfl ntmps9 rfl ?_
 refine st ?_; intros; rename_i b2 b3
 exact q_fz ⟨rfl, b2, b3, rfl, rfl⟩
attribute [local irreducible] lnM mapO xB
theorem zKl {bh bm cap : Nat} {a : Option Addr} {L : List Dr} {k : Nat} (hk : k < L.length) (hL : L.length ≤ 256) (hps : ∀ (i : Nat) (d : Dr), L[i]? = some d → d.ps.length ≤ 2) (b2 b3 : Nat) :
  SeqR Tryz.prog 37 [.pp b2, .pp b3] (fun x : Nat => [.int .i64 (x : Int)]) (logK L k)
   (fun _ m H => HistIn bh bm cap a L m H ∧ m b2 = some (.cells [.pp bh].toArray 23 (0, 0)) ∧ m b3 = some (.cells [.int .i64 (k : Int)].toArray 3 (0, 0))) := by
 intro w0 lp J Jx m H mJ mX hR h0 hY
 obtain ⟨hh, hb2, hb3⟩ := hR _ _ _ h0
 refine Does.of_body func37 rfl ntmps37 rfl ?_
 try (refine st ?_; intros)
 refine zA func38 ?_ (hs := jL (k : Int) hh.1)
 rintro v m H ⟨rfl, rfl, rfl⟩
 rw [zE (show 0 ≤ (k : Int) ∧ (k : Int) < (L.length : Int) from by omega)]
 try (refine st ?_; intros)
 refine zA func39 ?_ (hs := zJS hk hL hps hh)
 rintro v m H1 ⟨j, ⟨rfl, bq, rfl, rfl⟩, rfl⟩
 try (refine st ?_; intros)
 have hlk : logK L k = logGo (xB L k) (k + 1) := rfl
 generalize xB L k = LK at *
 refine lpz (fun j r ds m' H' => ∃ (n : Nat) (mm : Mem) (H2 : SHeap) (z : Int) (pre : List Nat), j = 2 * n ∧ r = [(5, .int .i64 z), (4, .map (some bq)), (0, .func (.yield lp) #[] #[])] ∧ ds = [] ∧ mm = m' ∧ H' = .blk bq (mapO .i64 (lnM LK)) :: H2 ∧ (n ≤ k + 1) ∧ (z = (n : Int) - 1) ∧ (m.le mm) ∧ (J pre mm H2) ∧ (logK L k = pre ++ logGo LK n)) (2 * (k + 1)) ⟨k + 1, m, H, (k : Int), [], rfl, rfl, rfl, rfl, rfl, by omega, by omega, Mem.le.refl _, h0, by rw [hlk]; rfl⟩ ?_
 rintro j r ds m' H' ⟨n, mm, H2, z, pre, rfl, rfl, rfl, rfl, rfl, hn, hz, hle, hJ, hsp⟩
 cases n with
 | zero =>
  have hpre : pre = logK L k := by rw [hsp]; simp [logGo]
  subst hpre
  have hz0 : z = -1 := by omega
  subst hz0
  try (refine st ?_; intros)
  exact q_nz (H0 := H2) ⟨hle, .inl hJ⟩
 | succ n =>
  have hz0 : z = (n : Int) := by omega
  subst hz0
  try (refine st ?_; intros)
  refine WL.look1 (q := .i64) (q' := .i64) (k := (n : Int)) (z := .bool false) (kvs := lnM LK) rfl rfl zhs rfl rfl (fun _ => rfl) rfl ?_
  rw [yY]
  by_cases hin : n ∈ LK
  ·rw [if_pos hin]
   simp only [Option.getD_some]
   rw [kU hin] at hsp
   try (refine st ?_; intros)
   refine WL.yield (vs := [.int .i64 (n : Int)]) rfl rfl rfl (hY _ n _ hsp mm H2 [.blk bq (mapO .i64 (lnM LK))] hJ hle) ?_ ?_
   ·rintro m2 H9 ⟨H3, rfl, hJ2, hle2⟩
    try (refine st ?_; intros)
    refine nxz (2 * (n)) ⟨n, m2, H3, (n : Int) - 1, pre ++ [n], rfl, rfl, rfl, rfl, rfl, ?_, ?_, ?_, ?_, ?_⟩
    ·omega
    ·rfl
    ·exact hle.trans hle2
    ·exact hJ2
    ·rw [hsp, List.append_assoc]; rfl
   ·rintro m2 H9 ⟨H3, rfl, hJ2, hle2⟩
    try (refine st ?_; intros)
    exact q_fz (H0 := H3) ⟨hle.trans hle2, .inr ⟨pre ++ [n], ⟨logGo LK n, by rw [hsp, List.append_assoc]; rfl⟩, hJ2⟩⟩
  ·rw [if_neg hin]
   simp only [Option.getD_none]
   rw [jO hin] at hsp
   try (refine st ?_; intros)
   refine nxz (2 * (n)) ⟨n, mm, H2, (n : Int) - 1, pre, rfl, rfl, rfl, rfl, rfl, ?_, ?_, ?_, ?_, ?_⟩
   ·omega
   ·rfl
   ·exact hle
   ·exact hJ
   ·exact hsp
end ZP
namespace Go.Eng
open Go Go.RowKit
def leT (x y : List UInt8) : Bool := decide (x ≤ y)
theorem zIA (Y : List Tx) : ∀ e ∈ strs Y, e.length = 1 := by
 intro e he
 obtain ⟨x, _, rfl⟩ := List.mem_map.1 he
 rfl
end Go.Eng
namespace ZP
open Go Go.Eng Go.RowKit Go.Sort
theorem zFr (X : List Tx) (hl : X.length ≤ 1000000) {a : Option Addr} {c cap : Nat} (w0 : World) (m : Mem) (H : SHeap) :
  Does Tryz.prog 72 #[.slice a X.length c] w0 m (.row a cap 9 1 (strs X) :: H) (fun v m' H' => v = .tuple #[] ∧ m' = m ∧ H' = .row a cap 9 1 (strs (X.mergeSort leT)) :: H) := by
 intro w hs
 have hh := hs.own _ List.mem_cons_self
 by_cases hX : X = []
 ·subst hX
  refine (callsIn_wide.2 (uP a c w)).mono ?_
  rintro e w' ⟨rfl, rfl⟩
  exact ⟨_, m, _, rfl, ⟨rfl, rfl, rfl⟩, by simpa using hs⟩
 ·cases a with
  | none =>
   have h' : strs X = [] ∧ cap = 0 := hh
   exact absurd (List.map_eq_nil_iff.1 h'.1) hX
  | some a =>
   obtain ⟨arr, fz, h1, h2, h3, h4, h5, h6, h7, h8⟩ := hh
   have hfl := zBf X
   have hflS := zBf (X.mergeSort leT)
   have hsl : (strs X).length = X.length := by simp [strs]
   rw [hsl] at h4 h5
   rw [Nat.mul_one] at h3 h5
   have hSl : (X.mergeSort leT).length = X.length := List.length_mergeSort X
   obtain ⟨ab, ao, ap⟩ := a
   obtain ⟨rfl, rfl⟩ : ao = 0 ∧ ap = none := by simpa using h1
   simp only at h2
   have hlt : ab < w.heap.size := (Array.getElem?_eq_some_iff.1 h2).1
   have hH : Holds encStr w ab 0 X.toArray := by
    intro j hj
    have hj' : j < X.length := by simpa using hj
    constructor
    ·have h9 : arr.toList[j]? = some (str X[j]) := by
      rw [← List.getElem?_take_of_lt (l := arr.toList) hj', h5, hfl, List.getElem?_map, List.getElem?_eq_getElem hj']; rfl
     simp only [World.cell?, h2, Nat.zero_add]
     rw [← Array.getElem?_toList, h9, getElem!_pos _ j hj]
     simp [encStr, str]
    ·simp only [World.frozen?, h2, Nat.zero_add]
     obtain ⟨f1, f2⟩ := fz
     simp only at h7
     rcases h7 with h7 | h7
     ·subst h7
      simp only [Bool.and_eq_false_iff, decide_eq_false_iff_not]
      omega
     ·simp only [Bool.and_eq_false_iff, decide_eq_false_iff_not]
      omega
   refine (callsIn_wide.2 (q9 ab 0 c X w hH hlt (by omega))).mono ?_
   rintro e w' ⟨rfl, n, os, rfl⟩
   refine ⟨_, m, _, rfl, ⟨rfl, rfl, rfl⟩, ?_⟩
   have s1 : Sat w0 m (.row (some ⟨ab, 0, none⟩) cap 9 1 (strs X) :: H) (Sort.ahead w n) := hs.keep rfl rfl rfl (Nat.le_refl _) (fun _ _ => rfl)
   have s2 : Sat w0 m (.row (some ⟨ab, 0, none⟩) cap 9 1 (strs (X.mergeSort leT)) :: H) (putRow encStr (Sort.ahead w n) ab 0 (X.mergeSort leT).toArray) := by
    refine s1.turn rfl rfl rfl (by simp [putRow, mapBlock]) (fun b _ hb => ?_) ?_ (fun b hb => .inl (by simpa [Item.foot] using hb)) (by simp [Item.foot])
    ·have : ab ≠ b := fun e => hb (by simp [Item.foot, e])
     simp [putRow, mapBlock, Array.getElem?_modify, this]
    ·refine ⟨putCells encStr 0 (X.mergeSort leT).toArray arr, fz, rfl, ?_, ?_, ?_, ?_, ?_, ?_, ?_⟩
     ·have : (Sort.ahead w n).heap[ab]? = some (.cells arr 9 fz) := h2
      simp only [putRow, mapBlock, Array.getElem?_modify, if_true, this]
      rfl
     ·rw [Nat.mul_one]
      simp [putCells, h3]
     ·rw [zY, hSl]; exact h4
     ·rw [zY, hSl, Nat.mul_one, hflS]
      refine List.ext_getElem? fun j => ?_
      by_cases hj : j < X.length
      ·have hj2 : j < (X.mergeSort leT).length := by omega
       have hja : j < arr.size := by omega
       rw [List.getElem?_take_of_lt hj, Array.getElem?_toList, List.getElem?_map, List.getElem?_eq_getElem hj2]
       simp only [putCells, Array.getElem?_mapIdx, Array.getElem?_eq_getElem hja, Option.map_some, Nat.zero_le, true_and, Nat.zero_add, Nat.sub_zero, List.size_toArray]
       rw [if_pos hj2, getElem!_pos _ j (by simpa using hj2)]
       simp [encStr, str]
      ·rw [List.getElem?_eq_none (by rw [List.length_take]; omega), List.getElem?_eq_none (by rw [List.length_map, hSl]; omega)]
     ·exact zIA _
     ·simpa [putCells] using h7
     ·rw [zY, hSl, ← hsl]; exact h8
   have e9 : (X.mergeSort fun x y => decide (x ≤ y)) = X.mergeSort leT := rfl
   rw [e9]
   exact s2.keep rfl rfl rfl (by simp [grow]) (fun b hb => by simp [grow, Array.getElem?_append_left hb])
end ZP
namespace Go.Eng
open Go Go.RowKit
def SeqD {α : Type} (P : Program) (gf : FuncId) (lb : List Value) (encs : α → List Value) (Nx : List α → α → Prop) (Dn : List α → Prop) (R : List α → Mem → SHeap → Prop) : Prop :=
 ∀ (w0 : World) (l : Nat) (J Jx : List α → Mem → SHeap → Prop) (m : Mem) (H : SHeap), (∀ pre m m' H, J pre m H → m.le m' → J pre m' H) → (∀ pre m m' H, Jx pre m H → m.le m' → Jx pre m' H) →
  (∀ pre m H, J pre m H → R pre m H) → J [] m H →
  (∀ pre x, Nx pre x → ∀ m1 H1 Hit, J pre m1 H1 → m.le m1 →
   YieldOK P w0 l (encs x).toArray m1 (Hit ++ H1) (fun m' H' => ∃ H2, H' = Hit ++ H2 ∧ J (pre ++ [x]) m' H2 ∧ m1.le m') (fun m' H' => ∃ H2, H' = Hit ++ H2 ∧ Jx (pre ++ [x]) m' H2 ∧ m1.le m')) →
  Does P gf (.func (.yield l) #[] #[] :: lb).toArray w0 m H (fun _ m' H' => m.le m' ∧ ((∃ xs, Dn xs ∧ J xs m' H') ∨ ∃ pre, Jx pre m' H'))
section
theorem zE6 {α : Type} {gf : FuncId} {lb : List Value} {encs : α → List Value} {Nx : List α → α → Prop} {Dn : List α → Prop} {R : List α → Mem → SHeap → Prop} {ps : List Nat} {assign body : Code} {fnd : FuncId} {tmps : Array Value} {L D : Nat} {Hb : SHeap}
  (hseq : SeqD P gf lb encs Nx Dn R) (hps : ∀ x, (encs x).length = ps.length) (hpn : ∀ p ∈ ps, p < n) (hok : r.ok n tmps)
  (J : List α → Mem → SHeap → Prop) (Jx : Code → List α → Mem → SHeap → Prop) (hmJ : ∀ pre m m' Hl, J pre m Hl → m.le m' → J pre m' Hl) (hRJ : ∀ pre m Hl i, J pre m Hl → R pre m (i :: (Hl ++ Hb))) (hmX : ∀ c pre m m' Hl, Jx c pre m Hl → m.le m' → Jx c pre m' Hl) {Hl0 : SHeap} (h0 : J [] m Hl0)
  (hround : ∀ lp pre x, Nx pre x → ∀ m1 Hl, J pre m1 Hl → m.le m1 → ∀ Hfr, (∃ rec, Item.blk lp (.loop rec) ∈ Hfr ∧ rec.defers = D) → WC P (some lp) n w0 assign (zB P n w0 lp body J Jx (pre ++ [x]) m1 Hfr) (Env.given ps (encs x) r) [] m1 (Hl ++ Hfr))
  {w : World} (hs : Sat w0 m (.blk L (.loop { state := .ready, pending := none, fn := fnd, tmps := tmps, params := ps.toArray, assign := assign, body := body, defers := D }) :: (Hl0 ++ Hb)) w) :
  CallsIn (FW none) 0 P gf (.func (.yield L) #[] #[] :: lb).toArray w fun e w' => ∃ v m', e = .returned v ∧ m.le m' ∧
   ((∃ xs Hl, Dn xs ∧ J xs m' Hl ∧ Sat w0 m' (.blk L (.loop { state := .ready, pending := none, fn := fnd, tmps := tmps, params := ps.toArray, assign := assign, body := body, defers := D }) :: (Hl ++ Hb)) w') ∨
    (∃ c pre Hl, Jx c pre m' Hl ∧ Sat w0 m' (.blk L (.loop { state := .done, pending := some c, fn := fnd, tmps := tmps, params := ps.toArray, assign := assign, body := body, defers := D }) :: (Hl ++ Hb)) w')) := by
 obtain ⟨rec, hrec⟩ : ∃ rec : LoopState → Option Code → Loop, rec = fun st pe => { state := st, pending := pe, fn := fnd, tmps := tmps, params := ps.toArray, assign := assign, body := body, defers := D } := ⟨_, rfl⟩
 have hs1 : Sat w0 m (.blk L (.loop (rec .ready none)) :: (Hl0 ++ Hb)) w := by rw [hrec]; exact hs
 have := hseq w0 L (fun pre m H => ∃ Hl, H = .blk L (.loop (rec .ready none)) :: (Hl ++ Hb) ∧ J pre m Hl)
  (fun pre m H => ∃ c Hl, H = .blk L (.loop (rec .done (some c))) :: (Hl ++ Hb) ∧ Jx c pre m Hl) m _ (fun _ _ _ _ ⟨Hl, e, h⟩ hm => ⟨Hl, e, hmJ _ _ _ _ h hm⟩) (fun _ _ _ _ ⟨c, Hl, e, h⟩ hm => ⟨c, Hl, e, hmX _ _ _ _ _ h hm⟩) (fun pre m H ⟨Hl, e, h⟩ => by rw [e]; exact hRJ _ _ _ _ h) ⟨Hl0, rfl, h0⟩ ?_ w hs1
 ·refine this.mono ?_
  rintro e w' ⟨v, m', H', rfl, ⟨hle, hP⟩, hs'⟩
  refine ⟨v, m', rfl, hle, ?_⟩
  rcases hP with ⟨xs, hD, Hl, rfl, hJ⟩ | ⟨pre, c, Hl, rfl, hJ⟩
  ·exact .inl ⟨xs, Hl, hD, hJ, by rw [hrec] at hs'; exact hs'⟩
  ·exact .inr ⟨c, pre, Hl, hJ, by rw [hrec] at hs'; exact hs'⟩
 ·rintro pre x hx m1 H1 Hit ⟨Hl, rfl, hJ⟩ hle W hW
  have hL : W.heap[L]? = some (.loop (rec .ready none)) := hW.own (.blk L _) (by simp)
  have hy := run_yield (P := P) (args := (encs x).toArray) hL (by rw [hrec]; simp [hps x])
  refine ⟨fnd, (ps.zip (encs x)).foldl (fun t (p : Nat × Value) => t.setIfInBounds p.1 p.2) tmps, assign, body, ?_, roundIn_of_wpIn (jA none fnd) ?_⟩
  ·rw [hy, hrec]
   congr 2
   simp
  ·have hsat1 := hW.perm (vA Hit (.blk L (.loop (rec .ready none))) Hl Hb)
   have hr := hround L pre x hx m1 Hl hJ hle (.blk L (.loop (rec .ready none)) :: (Hb ++ Hit)) ⟨_, List.mem_cons_self, by rw [hrec]⟩ _ W (hok.given ps (encs x) hpn) hsat1
   refine wpIn_mono hr ?_
   intro e a1 W1 hq
   cases e with
   | normal =>
    obtain ⟨r1, m2, Hl1, hok1, hdf, hs2, hle2, hbody⟩ := hq
    have hs2' := hs2.perm (List.perm_middle (a := Item.blk L (.loop (rec .ready none))) (l₁ := Hl1) (l₂ := Hb ++ Hit))
    have hL1 : W1.heap[L]? = some (.loop (rec .ready none)) := hs2'.own _ List.mem_cons_self
    refine ⟨_, run_beginRound hL1 (by rw [hrec]), ?_⟩
    have hs3 := (hs2'.putObj (o' := .loop { rec .ready none with state := .busy })).perm (List.perm_middle (a := Item.blk L (.loop { rec .ready none with state := .busy })) (l₁ := Hl1) (l₂ := Hb ++ Hit)).symm
    obtain ⟨tm1, df1⟩ := a1
    simp only at hdf
    subst hdf
    refine wpIn_mono (hbody (.blk L (.loop { rec .ready none with state := .busy }) :: (Hb ++ Hit)) ⟨_, List.mem_cons_self⟩ tm1 _ hok1 hs3) ?_
    have fin : ∀ (jump : Option Code) (m3 : Mem) (Hl3 : SHeap) (W3 : World), Sat w0 m3 (Hl3 ++ (.blk L (.loop { rec .ready none with state := .busy }) :: (Hb ++ Hit))) W3 →
      ∃ w4, (Instr.endRound L jump).run P W3 = .ok (.bool jump.isNone) w4 ∧ Sat w0 m3 (Hit ++ (.blk L (.loop (rec (if jump.isNone then .ready else .done) jump)) :: (Hl3 ++ Hb))) w4 := by
     intro jump m3 Hl3 W3 hs4
     have hs5 := hs4.perm (List.perm_middle (a := Item.blk L (.loop { rec .ready none with state := .busy })) (l₁ := Hl3) (l₂ := Hb ++ Hit))
     have hL3 : W3.heap[L]? = some (.loop { rec .ready none with state := .busy }) := hs5.own _ List.mem_cons_self
     refine ⟨_, run_endRound jump hL3, ?_⟩
     have hs6 := hs5.putObj (o' := .loop { { rec .ready none with state := .busy } with state := if jump.isNone then .ready else .done, pending := jump })
     have e1 : ({ { rec .ready none with state := .busy } with state := if jump.isNone then .ready else .done, pending := jump } : Loop) = rec (if jump.isNone then .ready else .done) jump := by rw [hrec]
     rw [e1] at hs6
     rw [e1]
     exact hs6.perm ((List.perm_middle (a := Item.blk L (.loop (rec (if jump.isNone then .ready else .done) jump))) (l₁ := Hl3) (l₂ := Hb ++ Hit)).symm.trans (vA Hit _ Hl3 Hb).symm)
    intro e3 a3 W3 hq3
    cases e3 with
    | normal =>
     obtain ⟨m3, Hl3, hJ3, hle3, hs4⟩ := hq3
     obtain ⟨w4, h4, hs5⟩ := fin none m3 Hl3 W3 hs4
     exact ⟨_, w4, h4, .inl ⟨rfl, m3, _, ⟨_, rfl, ⟨Hl3, rfl, hJ3⟩, hle3⟩, hs5⟩⟩
    | ret =>
     obtain ⟨m3, Hl3, hJ3, hle3, hs4⟩ := hq3
     obtain ⟨w4, h4, hs5⟩ := fin (some .ret) m3 Hl3 W3 hs4
     exact ⟨_, w4, h4, .inr ⟨rfl, m3, _, ⟨_, rfl, ⟨.ret, Hl3, rfl, hJ3⟩, hle3⟩, hs5⟩⟩
    | exit id =>
     obtain ⟨m3, Hl3, hJ3, hle3, hs4⟩ := hq3
     obtain ⟨w4, h4, hs5⟩ := fin (some (.exit id)) m3 Hl3 W3 hs4
     exact ⟨_, w4, h4, .inr ⟨rfl, m3, _, ⟨_, rfl, ⟨.exit id, Hl3, rfl, hJ3⟩, hle3⟩, hs5⟩⟩
    | goto t =>
     obtain ⟨m3, Hl3, hJ3, hle3, hs4⟩ := hq3
     obtain ⟨w4, h4, hs5⟩ := fin (some (.goto t)) m3 Hl3 W3 hs4
     exact ⟨_, w4, h4, .inr ⟨rfl, m3, _, ⟨_, rfl, ⟨.goto t, Hl3, rfl, hJ3⟩, hle3⟩, hs5⟩⟩
    | panic ch => exact hq3.elim
    | outgrown => exact hq3.elim
   | _ => exact hq.elim
theorem WC.rangeFuncD {α : Type} {g : Operand} {gf : FuncId} {fn : Func} {cb : Code} {lb : List Value} {encs : α → List Value} {Nx : List α → α → Prop} {Dn : List α → Prop} {R : List α → Mem → SHeap → Prop} {ps : List Nat} {assign body : Code} {Hl0 Hc : SHeap}
  (hg : r.ev g = some (.func (.func gf) #[] lb.toArray)) (hf : P.funcs[gf]? = some fn) (hname : (fn.name == "runtime.NumGoroutine") = false) (hb : fn.body = some cb)
  (hseq : SeqD P gf lb encs Nx Dn R) (hps : ∀ x, (encs x).length = ps.length) (hpn : ps.all (fun p => Nat.blt p n) = true)
  (J : List α → Mem → SHeap → Prop) (Jx : Code → List α → Mem → SHeap → Prop) (hmJ : ∀ pre m m' Hl, J pre m Hl → m.le m' → J pre m' Hl) (hRJ : ∀ pre m Hl i j, J pre m Hl → R pre m (i :: (Hl ++ (j :: Hc)))) (hmX : ∀ c pre m m' Hl, Jx c pre m Hl → m.le m' → Jx c pre m' Hl) (ht : Tail Hc H Hl0) (h0 : J [] m Hl0)
  (hround : ∀ lp pre x, Nx pre x → ∀ m1 Hl, J pre m1 Hl → m.le m1 → ∀ Hfr, (∃ rec, Item.blk lp (.loop rec) ∈ Hfr) → WC P (some lp) n w0 assign (zB P n w0 lp body J Jx (pre ++ [x]) m1 Hfr) (Env.given ps (encs x) r) [] m1 (Hl ++ Hfr))
  (hdone : ∀ (D : Nat) xs m' Hl, Dn xs → J xs m' Hl → m.le m' → WQ n w0 Q .normal r (D :: ds) m' (Hl ++ (.blk D (.deferred (some [])) :: Hc)))
  (hstop : ∀ (D : Nat) c pre m' Hl, Jx c pre m' Hl → m.le m' → WC P none n w0 c Q r (D :: ds) m' (Hl ++ (.blk D (.deferred (some [])) :: Hc))) :
  WC P none n w0 (.rangeFunc g ps.toArray assign body) Q r ds m H := by
 intro tmps w ho hs
 rw [ht.eq] at hs
 have hpn' : ∀ p ∈ ps, p < n := fun p hp => by have := List.all_eq_true.1 hpn p hp; simpa [Nat.blt_eq] using this
 have h1 : fn.name ≠ "runtime.NumGoroutine" := by simpa using hname
 have h2 : ∀ (a : Array Value) (w : World), (callFunc gf a).run P w = .ok (.enter gf a) w := fun a w => by simp [callFunc, hf, h1, hb]
 refine wpIn_rangeFunc (fun fnd _ => ?_)
 have hs1 := (hs.alloc (.deferred (some []))).alloc (.loop { state := .ready, pending := none, fn := fnd, tmps := tmps, params := ps.toArray, assign := assign, body := body, defers := w.heap.size })
 rw [World.size_alloc] at hs1
 have hs2 := hs1.perm (List.Perm.cons _ (List.perm_middle (a := Item.blk w.heap.size (.deferred (some []))) (l₁ := Hl0) (l₂ := Hc)).symm)
 have hcall := zE6 (P := P) hseq hps hpn' ho J Jx hmJ (fun pre m Hl i h => hRJ pre m Hl i _ h) hmX h0 (fun lp pre x hx m1 Hl hJ hle Hfr ⟨rec, hr, _⟩ => hround lp pre x hx m1 Hl hJ hle Hfr ⟨rec, hr⟩) hs2
 have henter := run_enterLoop_outer (P := P) (w := w) fnd tmps ps.toArray assign body
 generalize (w.alloc (.deferred (some []))).alloc (.loop { state := .ready, pending := none, fn := fnd, tmps := tmps, params := ps.toArray, assign := assign, body := body, defers := w.heap.size }) = W1 at henter hcall
 refine ⟨w.heap.size + 1, [{ target := .collected w.heap.size, args := #[] }], W1, { target := .fn (.func gf) lb.toArray, args := #[.func (.yield (w.heap.size + 1)) #[] #[]] }, W1, gf, (.func (.yield (w.heap.size + 1)) #[] #[] :: lb).toArray, W1,
  henter, ?_, fun f _ => jA none f, ?_, jV none, ?_⟩
 ·have e0 : ∀ v, (Act.mk tmps (marks ds)).eval (.const v) = v := fun _ => rfl
  simp [resolve, ho.ev hg, e0, Deferred.ofValue]
 ·simp [invoke, h2]
 ·have hc : CallsIn (FW none) (0 - 1) P gf (.func (.yield (w.heap.size + 1)) #[] #[] :: lb).toArray _ _ := hcall
  refine hc.mono ?_
  rintro e w' ⟨v, m', rfl, hle, (⟨xs, Hl, hD, hJ, hs3⟩ | ⟨c, pre, Hl, hJ, hs3⟩)⟩
  ·obtain ⟨w4, h4, hs4⟩ := uT (P := P) hs3 (by simp)
   exact ⟨none, w4, h4, hdone _ xs m' Hl hD hJ hle tmps w4 ho hs4⟩
  ·obtain ⟨w4, h4, hs4⟩ := uT (P := P) hs3 (by simp)
   exact ⟨some c, w4, h4, hstop _ c pre m' Hl hJ hle tmps w4 ho hs4⟩
end
end Go.Eng
namespace Go.Eng
open Go Go.RowKit
theorem Repl.perms {i j : Item} {H H' : SHeap} (h : Repl i j H H') : ∃ X, List.Perm H (i :: X) ∧ List.Perm H' (j :: X) := by
 induction h with
 | here => exact ⟨_, List.Perm.refl _, List.Perm.refl _⟩
 | there _ ih =>
  obtain ⟨X, h1, h2⟩ := ih
  exact ⟨_ :: X, (List.Perm.cons _ h1).trans (List.Perm.swap _ _ _), (List.Perm.cons _ h2).trans (List.Perm.swap _ _ _)⟩
theorem Repl.head {i j : Item} {H2 H' : SHeap} (h : Repl i j (i :: H2) H') : List.Perm H' (j :: H2) := by
 obtain ⟨X, h1, h2⟩ := h.perms
 exact h2.trans (List.Perm.cons _ ((List.Perm.cons_inv h1).symm))
theorem zCb {X Y : List (List UInt8)} (h : X.Perm Y) : X.mergeSort leT = Y.mergeSort leT := by
 have ht : ∀ a b c : List UInt8, leT a b = true → leT b c = true → leT a c = true := by
  intro a b c h1 h2
  exact decide_eq_true (List.le_trans (of_decide_eq_true h1) (of_decide_eq_true h2))
 have hto : ∀ a b : List UInt8, (leT a b || leT b a) = true := by
  intro a b
  rcases List.le_total a b with h | h
  ·simp [leT, h]
  ·simp [leT, h]
 refine List.Perm.eq_of_pairwise (le := fun a b => leT a b = true) (fun a b _ _ h1 h2 => List.le_antisymm (of_decide_eq_true h1) (of_decide_eq_true h2)) (List.pairwise_mergeSort ht hto X) (List.pairwise_mergeSort ht hto Y) ?_
 exact (List.mergeSort_perm X leT).trans (h.trans (List.mergeSort_perm Y leT).symm)
end Go.Eng
namespace ZP
open Go Go.Eng
attribute [local irreducible] WL WC WQ QFun zJ Does Q1 zD zB Go.Addr.add
attribute [local irreducible] mapT
theorem zJd {bm c : Nat} {es : List EntT} (hold : ∀ e ∈ es, e.1 < c) (hn : (es.map (·.1)).Nodup) (bk : Nat) : SeqD Tryz.prog 73 [.pp bk] (fun e : EntT => [str e.2.1]) (fun pre e => ∃ rest, ((pre ++ [e]) ++ rest).Perm es) (fun xs => xs.Perm es)
  (fun _ m H => Eng.Item.blk bm (mapT es c) ∈ H ∧ m bk = some (.cells [.map (some bm)].toArray 67 (0, 0))) := by
 intro w0 lp J Jx m H mJ mX hR h0 hY
 obtain ⟨hh, hbk⟩ := hR _ _ _ h0
 refine Does.of_body func73 rfl ntmps73 rfl ?_
 try (refine st ?_; intros)
 refine WL.rangeT rfl hh rfl rfl ?_
 intro bi
 try (refine st ?_; intros)
 refine lpz (fun j r ds m' H' => ∃ (mm : Mem) (H2 : SHeap) (pre : List EntT) (rest : List EntT), j = 2 * rest.length ∧ r = [(5, .pp bi), (0, .func (.yield lp) #[] #[])] ∧ ds = [] ∧ mm = m' ∧ H' = .blk bi (.mapIter (some bm) c (pre.map (·.1)).toArray c) :: H2 ∧ (m.le mm) ∧ (J pre mm H2) ∧ ((pre ++ rest).Perm es)) (2 * (es).length) ⟨m, H, [], es, rfl, rfl, rfl, rfl, rfl, Mem.le.refl _, h0, List.Perm.refl _⟩ ?_
 rintro j r ds m' H' ⟨mm, H2, pre, rest, rfl, rfl, rfl, rfl, rfl, hle, hJ, hp⟩
 have hh2 := (hR _ _ _ hJ).1
 have hnd : ((pre ++ rest).map (·.1)).Nodup := (hp.map _).nodup_iff.2 hn
 try (refine st ?_; intros)
 refine WL.nextT (es := es) (c := c) rfl List.mem_cons_self (List.mem_cons_of_mem _ hh2) hold (Nat.le_refl _) rfl ?_ ?_
 ·intro hall
  have hrest : rest = [] := by
   cases rest with
   | nil => rfl
   | cons e rest =>
    have h1 : e ∈ es := hp.mem_iff.1 (by simp)
    have h2 := hall e h1
    rw [List.map_append, List.map_cons, List.nodup_append] at hnd
    have h3 : e.1 ∈ pre.map (·.1) := by simpa using h2
    exact absurd rfl (hnd.2.2 _ h3 _ List.mem_cons_self)
  subst hrest
  rw [List.append_nil] at hp
  try (refine st ?_; intros)
  exact q_nz (H0 := H2) ⟨hle, .inl ⟨pre, hp, hJ⟩⟩
 ·intro e he hne H3 hrep
  refine WL.heap (H' := .blk bi (.mapIter (some bm) c ((pre.map (·.1)).toArray.push e.1) c) :: H2) (fun w hw => hw.perm hrep.head) ?_
  have hne' : e.1 ∉ pre.map (·.1) := by simpa using hne
  have her : e ∈ rest := by
   rcases List.mem_append.1 (hp.mem_iff.2 he) with h | h
   ·exact absurd (List.mem_map.2 ⟨e, h, rfl⟩) hne'
   ·exact h
  obtain ⟨r1, r2, hr⟩ := List.append_of_mem her
  have hpn : ((pre ++ [e]) ++ (r1 ++ r2)).Perm es := by
   refine List.Perm.trans ?_ hp
   rw [hr, List.append_assoc]
   exact List.Perm.append_left pre (List.perm_middle (a := e) (l₁ := r1) (l₂ := r2)).symm
  have hrl : rest.length = (r1 ++ r2).length + 1 := by rw [hr]; simp; omega
  have hsn : (pre.map (·.1)).toArray.push e.1 = ((pre ++ [e]).map (·.1)).toArray := by simp
  try (refine st ?_; intros)
  refine WL.entryT (seen := (pre.map (·.1)).toArray) (es := es) (c := c) (c0 := c) rfl List.mem_cons_self (List.mem_cons_of_mem _ hh2) he hn rfl ?_
  rw [hsn]
  try (refine st ?_; intros)
  refine WL.yield (vs := [str e.2.1]) rfl rfl rfl (hY pre e ⟨_, hpn⟩ mm H2 [.blk bi (.mapIter (some bm) c ((pre ++ [e]).map (fun x : EntT => x.1)).toArray c)] hJ hle) ?_ ?_
  ·rintro m2 H9 ⟨H3, rfl, hJ2, hle2⟩
   try (refine st ?_; intros)
   refine nxz (2 * (r1 ++ r2).length) ⟨m2, H3, pre ++ [e], r1 ++ r2, rfl, rfl, rfl, rfl, rfl, ?_, ?_, ?_⟩
   ·exact hle.trans hle2
   ·exact hJ2
   ·exact hpn
  ·rintro m2 H9 ⟨H3, rfl, hJ2, hle2⟩
   try (refine st ?_; intros)
   exact q_fz (H0 := H3) ⟨hle.trans hle2, .inr ⟨pre ++ [e], hJ2⟩⟩
theorem zDf {bm bk c : Nat} {es : List EntT} (hold : ∀ e ∈ es, e.1 < c) (hn : (es.map (·.1)).Nodup) (hl : es.length ≤ 1000000) (w0 : World) (m : Mem) (H : SHeap) (hbk : m bk = some (.cells [.map (some bm)].toArray 67 (0, 0))) :
  Does Tryz.prog 103 #[.slice none 0 0, .func (.func 73) #[] #[.pp bk]] w0 m (.blk bm (mapT es c) :: H)
   (fun v m' H' => m.le m' ∧ ∃ (xs : List EntT) (a : Option Addr) (cp : Nat), xs.Perm es ∧ v = .slice a xs.length cp ∧ H' = .row a cp 9 1 (strs (xs.map (·.2.1))) :: .blk bm (mapT es c) :: H) := by
 refine Does.of_body func103 rfl ntmps103 rfl ?_
 refine st ?_; intros; rename_i b2
 refine WC.newRow (T := 9) (sz := 1) ?_
 refine WC.rangeFuncD (encs := fun e : EntT => [str e.2.1]) (Nx := fun pre e => ∃ rest, ((pre ++ [e]) ++ rest).Perm es) (Dn := fun xs => xs.Perm es) (lb := [.pp bk]) (ps := [7]) (Hc := H)
  (J := fun pre m' Hl => m.le m' ∧ ∃ a cp, Hl = [.row a cp 9 1 (strs (pre.map (·.2.1))), .bl b2 [.slice a pre.length cp] 83, .blk bm (mapT es c)]) (Jx := fun _ _ _ _ => False)
  rfl func73 rfl rfl (zJd hold hn bk) (fun _ => rfl) rfl (fun _ _ _ _ h hm => ⟨h.1.trans hm, h.2⟩)
  (fun pre m' Hl i j h => by
   obtain ⟨h1, a, cp, rfl⟩ := h
   exact ⟨by simp, h1 _ _ hbk⟩) (fun _ _ _ _ _ h _ => h) (.cons (.cons (.cons .nil))) ⟨Mem.le.refl _, none, 0, rfl⟩ ?_ ?_ ?_
 ·rintro lp pre e ⟨rest, hp⟩ m2 Hl ⟨hle2, a, cp, rfl⟩ hm2 Hfr hfr
  have hpl : pre.length + 1 ≤ es.length := by
   have := hp.length_eq
   simp only [List.length_append, List.length_singleton] at this
   omega
  have hsl : (strs (pre.map (·.2.1))).length = pre.length := by simp [strs]
  have hsn : strs (pre.map (·.2.1)) ++ [[str e.2.1]] = strs ((pre ++ [e]).map (·.2.1)) := by simp [strs]
  try (refine st ?_; intros)
  refine WQ.assigned (.cons (.cons (.cons .nil))) zml ?_
  intro Hfr2
  refine st ?_; intros; rename_i b9 a2 cp2
  rw [hsl, hsn]
  exact WQ.roundOn (Hl := [.row a2 cp2 9 1 (strs ((pre ++ [e]).map (·.2.1))), .bl b2 [.slice a2 (pre.length + 1) cp2] 83, .blk bm (mapT es c)]) zpk zml ⟨hle2, a2, cp2, by simp⟩
 ·rintro D xs m2 Hl hxs ⟨hle2, a, cp, rfl⟩ hm2
  try (refine st ?_; intros)
  refine WQ.mark (H1 := [.row a cp 9 1 (strs (xs.map (·.2.1))), .bl b2 [.slice a xs.length cp] 83, .blk bm (mapT es c)] ++ H) (List.perm_middle) ?_
  exact q_fz ⟨hle2, xs, a, cp, hxs, rfl, rfl⟩
 ·rintro D c2 pre m2 Hl h hm2
  exact h.elim
theorem zEG {bm bk c : Nat} {es : List EntT} (hold : ∀ e ∈ es, e.1 < c) (hn : (es.map (·.1)).Nodup) (hl : es.length ≤ 1000000) (w0 : World) (m : Mem) (H : SHeap) (hbk : m bk = some (.cells [.map (some bm)].toArray 67 (0, 0))) :
  Does Tryz.prog 71 #[.func (.func 73) #[] #[.pp bk]] w0 m (.blk bm (mapT es c) :: H)
   (fun v m' H' => m.le m' ∧ ∃ (xs : List EntT) (a : Option Addr) (cp : Nat), xs.Perm es ∧ v = .slice a xs.length cp ∧ H' = .row a cp 9 1 (strs (xs.map (·.2.1))) :: .blk bm (mapT es c) :: H) := by
 refine Does.of_body func71 rfl ntmps71 rfl ?_
 try (refine st ?_; intros)
 refine zA func103 ?_ (hs := zDf hold hn hl _ _ _ hbk)
 rintro v m2 H2 ⟨hle, xs, a, cp, hxs, rfl, rfl⟩
 try (refine st ?_; intros)
 exact q_fz ⟨hle, xs, a, cp, hxs, rfl, rfl⟩
theorem zGo {bm bk c : Nat} {es : List EntT} (hold : ∀ e ∈ es, e.1 < c) (hn : (es.map (·.1)).Nodup) (hl : es.length ≤ 1000000) (w0 : World) (m : Mem) (H : SHeap) (hbk : m bk = some (.cells [.map (some bm)].toArray 67 (0, 0))) :
  Does Tryz.prog 35 #[.func (.func 73) #[] #[.pp bk]] w0 m (.blk bm (mapT es c) :: H)
   (fun v m' H' => m.le m' ∧ ∃ (a : Option Addr) (cp : Nat), v = .slice a es.length cp ∧ H' = .row a cp 9 1 (strs ((es.map (·.2.1)).mergeSort leT)) :: .blk bm (mapT es c) :: H) := by
 refine Does.of_body func35 rfl ntmps35 rfl ?_
 try (refine st ?_; intros)
 refine zA func71 ?_ (hs := zEG hold hn hl _ _ _ hbk)
 rintro v m2 H2 ⟨hle, xs, a, cp, hxs, rfl, rfl⟩
 have hxl : xs.length = (xs.map (·.2.1)).length := (List.length_map _).symm
 have hpe := hxs.length_eq
 try (refine st ?_; intros)
 rw [hxl]
 refine zA func72 ?_ (hs := zFr (xs.map (·.2.1)) (by omega) _ _ _)
 rintro v m3 H3 ⟨rfl, rfl, rfl⟩
 rw [zCb (hxs.map (·.2.1)), ← hxl, hpe]
 try (refine st ?_; intros)
 exact q_fz ⟨hle, a, cp, rfl, rfl⟩
end ZP
namespace Go.Eng
open Go Go.RowKit
theorem zHB {i : Item} {H : SHeap} (hi : i ∈ H) : ∃ H1, List.Perm H (i :: H1) := by
 obtain ⟨A, C, rfl⟩ := List.append_of_mem hi
 exact ⟨_, List.perm_middle⟩
theorem zHI {i k : Item} {H : SHeap} (hi : i ∈ H) (hk : k ∈ H) (hne : i ≠ k) : ∃ H1, List.Perm H (i :: k :: H1) := by
 obtain ⟨H1, h1⟩ := zHB hi
 have hk1 : k ∈ H1 := by
  rcases List.mem_cons.1 (h1.mem_iff.1 hk) with e | e
  ·exact absurd e.symm hne
  ·exact e
 obtain ⟨H2, h2⟩ := zHB hk1
 exact ⟨H2, h1.trans (List.Perm.cons _ h2)⟩
def brN (B : Br) : List (List UInt8) := (B.map (·.2.1)).mergeSort leT
def brL (B : Br) : List (List UInt8 × Nat) := (brN B).map fun n => (n, (yP B n).getD 0)
theorem j7 (B : Br) : (brN B).length = B.length := by unfold brN; rw [List.length_mergeSort, List.length_map]
theorem j5 (B : Br) : (brL B).length = B.length := by unfold brL; rw [List.length_map, j7]
theorem brN_mem {B : Br} {n : List UInt8} : n ∈ brN B ↔ n ∈ B.map (·.2.1) := (List.mergeSort_perm _ _).mem_iff
theorem zG7 {B : Br} (h : (B.map (·.2.1)).Nodup) : (brN B).Nodup := (List.mergeSort_perm _ _).nodup_iff.2 h
theorem zEp (B : Br) : (brL B).map (·.1) = brN B := by unfold brL; rw [List.map_map]; exact (List.map_congr_left fun _ _ => rfl).trans (List.map_id _)
theorem zCu {s : List UInt8} : ∀ {B : Br}, s ∈ B.map (·.2.1) → ∃ k, yP B s = some k
 | e :: B, h => by
  rw [yP]
  by_cases hs : s = e.2.1
  ·exact ⟨_, if_pos hs⟩
  ·rw [if_neg hs]
   rw [List.map_cons] at h
   rcases List.mem_cons.1 h with h | h
   ·exact absurd h hs
   ·exact zCu h
theorem zEl (B : Br) : (brE B).map (·.2.1) = B.map (·.2.1) := by unfold brE; rw [List.map_map]; rfl
theorem zEo (B : Br) : (brE B).map (·.1) = B.map (·.1) := by unfold brE; rw [List.map_map]; rfl
theorem zAT {B : Br} {i : Nat} {x : List UInt8 × Nat} (hn : (B.map (·.2.1)).Nodup) (h : (brL B)[i]? = some x) :
  yP B x.1 = some x.2 ∧ x.1 ∉ ((brL B).take i).map (·.1) ∧ brL B = (brL B).take i ++ x :: (brL B).drop (i + 1) ∧ (brN B)[i]? = some x.1 := by
 obtain ⟨hi, hx⟩ := List.getElem?_eq_some_iff.1 h
 have hN : (brN B)[i]? = some x.1 := by rw [← zEp, List.getElem?_map, h]; rfl
 have hsp : brL B = (brL B).take i ++ x :: (brL B).drop (i + 1) := by rw [← hx, ← List.drop_eq_getElem_cons hi, List.take_append_drop]
 have hxe : x = (x.1, (yP B x.1).getD 0) := by
  have hm : x ∈ brL B := List.mem_of_getElem? h
  unfold brL at hm
  obtain ⟨n, _, hn2⟩ := List.mem_map.1 hm
  subst hn2
  rfl
 refine ⟨?_, ?_, hsp, hN⟩
 ·obtain ⟨k, hk⟩ := zCu (brN_mem.1 (List.mem_of_getElem? hN))
  have := congrArg Prod.snd hxe
  rw [hk] at this ⊢
  simp at this
  rw [this]
 ·have hnd := zG7 hn
  rw [← zEp, hsp, List.map_append, List.map_cons, List.nodup_append] at hnd
  exact fun hin => hnd.2.2 _ hin _ List.mem_cons_self rfl
end Go.Eng
namespace ZP
open Go Go.Eng
attribute [local irreducible] WL WC WQ QFun zJ Does Q1 zD zB Go.Addr.add
theorem zHg {b b2 c : Nat} {L : List Value} {T : TypeId} {es : List EntT} : Eng.Item.blk b (.cells L.toArray T (0, 0)) ≠ Eng.Item.blk b2 (mapT es c) := fun h => by cases h
theorem zJD {bm : Nat} (w0 : World) (m : Mem) (H : SHeap) : Does Tryz.prog 36 #[.map (some bm)] w0 m H (fun v m' H' => m' = m ∧ ∃ bk, v = .func (.func 73) #[] #[.pp bk] ∧
  H' = .bl bk [.map (some bm)] 67 :: H) := by
 refine Does.of_body func36 rfl ntmps36 rfl ?_
 refine st ?_; intros; rename_i bk
 exact q_fz ⟨rfl, bk, rfl, rfl⟩
theorem zAL {bh : Nat} (w0 : World) (m : Mem) (H : SHeap) : Does Tryz.prog 8 #[.pp bh] w0 m H (fun v m' H' => m' = m ∧ ∃ b1, v = .func (.func 34) #[] #[.pp b1] ∧
  H' = .bl b1 [.pp bh] 23 :: H) := by
 refine Does.of_body func8 rfl ntmps8 rfl ?_
 refine st ?_; intros; rename_i b1
 exact q_fz ⟨rfl, b1, rfl, rfl⟩
attribute [local irreducible] mapT brN brL
def BrIn (bh bm c b1 : Nat) (B : Br) (pre : List (Tx × Nat)) (m : Mem) (H : SHeap) : Prop :=
 (∃ sa sn sc, Eng.Item.bl bh [.slice sa sn sc, .map (some bm)] 90 ∈ H) ∧ (∃ B' c', Eng.Item.blk bm (mapT (brE B') c') ∈ H ∧ (∀ n, n ∉ pre.map (·.1) → yP B' n = yP B n) ∧ (pre = [] → B' = B ∧ c' = c)) ∧
  m b1 = some (.cells [.pp bh].toArray 23 (0, 0))
theorem jF {bh bm c : Nat} {B : Br} (hold : ∀ e ∈ B, e.1 < c) (hn : (B.map (·.1)).Nodup) (hN : (B.map (·.2.1)).Nodup) (hl : B.length ≤ 1000000) (b1 : Nat) :
  SeqR Tryz.prog 34 [.pp b1] (fun x : Tx × Nat => [str x.1, .int .i64 (x.2 : Int)]) (brL B) (BrIn bh bm c b1 B) := by
 intro w0 lp J Jx m H mJ mX hR h0 hY
 obtain ⟨⟨sa, sn, sc, hb⟩, ⟨B', c', hm, _, hB⟩, hb1⟩ := hR _ _ _ h0
 obtain ⟨rfl, rfl⟩ := hB rfl
 refine Does.of_body func34 rfl ntmps34 rfl ?_
 obtain ⟨H1, hp1⟩ := zHI hb hm zHg
 refine WC.heap (H' := .bl bh [.slice sa sn sc, .map (some bm)] 90 :: .blk bm (mapT (brE B') c') :: H1) (fun w hw => hw.perm hp1) ?_
 try (refine st ?_; intros)
 refine zA func36 ?_ (hs := zJD _ _ _)
 rintro v m H9 ⟨rfl, bk, rfl, rfl⟩
 refine WL.persist (b := bk) (by (repeat (first | exact Out.here | apply Out.there))) ?_
 intro m1 hle1 hbk
 try (refine st ?_; intros)
 refine WL.heap (H' := .blk bm (mapT (brE B') c') :: .bl bh [.slice sa sn sc, .map (some bm)] 90 :: H1) zpk ?_
 have hel := uF B'
 refine zA func35 ?_ (hs := zGo (es := brE B') (fun e he => by
  obtain ⟨x, hx, rfl⟩ := List.mem_map.1 he
  exact hold x hx) (by rw [zEo]; exact hn) (by omega) _ _ _ hbk)
 rintro v m2 H9 ⟨hle2, a, cp, rfl, rfl⟩
 rw [hel, zEl]
 have hNm : (B'.map (·.2.1)).mergeSort leT = brN B' := by unfold brN; rfl
 rw [hNm]
 try (refine st ?_; intros)
 refine WC.heap (H' := .row a cp 9 1 (strs (brN B')) :: H) (fun w hw => hw.perm (List.Perm.cons _ ((List.Perm.swap _ _ _).trans hp1.symm))) ?_
 have hLl := j5 B'
 have hNl := j7 B'
 have hsl : (strs (brN B')).length = B'.length := by rw [zY, hNl]
 have hle02 : m.le m2 := hle1.trans hle2
 refine lpz (fun j r ds m' H' => ∃ (i : Nat) (mm : Mem) (H2 : SHeap), j = B'.length - i ∧ r = [(14, .int .i64 (i : Int)), (13, .int .i64 (B'.length : Int)), (12, .slice a B'.length cp), (1, .pp b1), (0, .func (.yield lp) #[] #[])] ∧ ds = [] ∧ mm = m' ∧ H' = .row a cp 9 1 (strs (brN B')) :: H2 ∧ (i ≤ B'.length) ∧ (m.le mm) ∧ (J ((brL B').take i) mm H2)) (B'.length - (0)) ⟨0, m2, H, rfl, rfl, rfl, rfl, rfl, by omega, hle02, mJ _ _ _ _ h0 hle02⟩ ?_
 rintro j r ds m' H' ⟨i, mm, H2, rfl, rfl, rfl, rfl, rfl, hi, hle, hJ⟩
 by_cases hlt : i < B'.length
 ·obtain ⟨x, hx⟩ : ∃ x, (brL B')[i]? = some x := ⟨_, List.getElem?_eq_getElem (by omega)⟩
  obtain ⟨x1, x2, x3, x4⟩ := zAT hN hx
  obtain ⟨⟨sa2, sn2, sc2, hb2⟩, ⟨B2, c2, hm2, hd2, _⟩, hb12⟩ := hR _ _ _ hJ
  have hd3 := hd2 _ x2
  have hgx : (strs (brN B'))[i]? = some [str x.1] := by unfold strs; rw [List.getElem?_map, x4]; rfl
  have htk : (brL B').take (i + 1) = (brL B').take i ++ [x] := by rw [List.take_succ, hx]; rfl
  obtain ⟨H3, hp3⟩ := zHI hb2 hm2 zHg
  generalize strs (brN B') = SN at *
  refine WC.heap (H' := .row a cp 9 1 SN :: .bl bh [.slice sa2 sn2 sc2, .map (some bm)] 90 :: .blk bm (mapT (brE B2) c2) :: H3) (fun w hw => hw.perm (List.Perm.cons _ hp3)) ?_
  refine WC.rowSome (a := a) zhs (by omega) ?_
  rintro a rfl
  try (refine st ?_; intros)
  refine WL.lookT1 (es := brE B2) (k := x.1) (z := .int .i64 0) rfl rfl zhs rfl rfl (fun _ => rfl) rfl ?_
  rw [wD, hd3, x1]
  simp only [Option.map_some, Option.getD_some]
  try (refine st ?_; intros)
  refine WL.heap (H' := [.row (some a) cp 9 1 SN] ++ H2) (fun w hw => hw.perm (List.Perm.cons _ hp3.symm)) ?_
  refine WL.yield (vs := [str x.1, .int .i64 (x.2 : Int)]) rfl rfl rfl (hY _ x _ x3 mm H2 [.row (some a) cp 9 1 SN] hJ hle) ?_ ?_
  ·rintro m3 H9 ⟨H4, rfl, hJ2, hle3⟩
   try (refine st ?_; intros)
   refine nxz (B'.length - (i + 1)) ⟨i + 1, m3, H4, rfl, rfl, rfl, rfl, rfl, ?_, ?_, ?_⟩
   ·omega
   ·exact hle.trans hle3
   ·rw [htk]; exact hJ2
  ·rintro m3 H9 ⟨H4, rfl, hJ2, hle3⟩
   try (refine st ?_; intros)
   exact q_fz (H0 := H4) ⟨hle.trans hle3, .inr ⟨(brL B').take i ++ [x], ⟨(brL B').drop (i + 1), by rw [List.append_assoc]; exact x3.symm⟩, hJ2⟩⟩
 ·rw [List.take_of_length_le (by omega)] at hJ
  try (refine st ?_; intros)
  exact q_nz (H0 := H2) ⟨hle, .inl hJ⟩
end ZP
namespace Go.Eng
open Go
structure Hop where
 kind : Int
 br : List UInt8
 fr : List UInt8
 hand : Int
 at_ : Int
 text : List UInt8
instance : Inhabited Hop := ⟨⟨0, [], [], 0, 0, []⟩⟩
def Hop.cs (x : Hop) : List Value := [.int .i64 x.kind, str x.br, str x.fr, .int .i64 x.hand, .int .i64 x.at_, str x.text]
def Hop.Ok (x : Hop) : Prop := (-9223372036854775808 ≤ x.kind ∧ x.kind ≤ 9223372036854775807) ∧ (-9223372036854775808 ≤ x.hand ∧ x.hand ≤ 9223372036854775807) ∧ (-9223372036854775808 ≤ x.at_ ∧ x.at_ ≤ 9223372036854775807) ∧ x.br.length ≤ 9223372036854775807 ∧ x.fr.length ≤ 9223372036854775807 ∧ x.text.length ≤ 9223372036854775807
end Go.Eng
namespace Go.Eng
open Go
def cutO (o : Hop) : Hop := if o.text.length ≤ 65536 then { o with text := o.text.take 600 } else o
def scr (S : List Hop) : List Hop := (S.take 40).map cutO
end Go.Eng
namespace ZP
open Go Go.Eng
attribute [local irreducible] WL WC WQ QFun zJ Does Q1 zD zB Go.Addr.add
namespace ZD65a
theorem zal {G G' : Prop} (next : G') (h : Bx G' → G := by intro zzn; (first | (refine WL.append1 (by':=72) rfl rfl rfl rfl (by (repeat (first | exact Out.here | apply Out.there))) zhs (by exact rfl) (by exact rfl) (by exact rfl) (by exact rfl) (by exact rfl) (by exact rfl) (by first | exact rfl | omega) (by first | omega | (simp; omega)) (by decide) (by exact rfl) ?_; intro zzf zzf)); (repeat revert zzf); exact zzn.out) : G := h ⟨next⟩
end ZD65a
open ZD65a in
theorem zGd {S : List Hop} {a : Option Addr} {cap : Nat} (hx : ∀ x ∈ S, x.Ok) (w0 : World) (m : Mem) (H : SHeap) (hr : ∀ w1 H1, RowR w1 m H1 6 a (S.map Hop.cs)) :
  Does Tryz.prog 23 #[.slice a S.length cap] w0 m H (fun v m' H' => m' = m ∧ ∃ a2 c2, v = .slice a2 (scr S).length c2 ∧ H' = .row a2 c2 64 6 ((scr S).map Hop.cs) :: H) := by
 refine Does.of_body func23 rfl ntmps23 rfl ?_
 have hsl : (S.map Hop.cs).length = S.length := List.length_map _
 try (refine stg ?_; intros)
 refine WC.newRow (T := 64) (sz := 6) ?_
 refine lpz (fun j r ds m' H' => ∃ (i : Nat) (al : Option Addr) (cl : Nat) (g : Nat) (E : List (List Value)), j = S.length - i ∧ r = [(8, .int .i64 (i : Int)), (7, .int .i64 (S.length : Int)), (6, .slice a S.length cap), (3, .slice al g cl)] ∧ ds = [] ∧ m = m' ∧ H' = .row al cl 64 6 E :: H ∧ (i ≤ S.length ∧ i ≤ 40) ∧ (E = ((S.take i).map cutO).map Hop.cs) ∧ (g = i)) (S.length - (0)) ⟨0, none, 0, 0, [], rfl, rfl, rfl, rfl, rfl, by omega, rfl, rfl⟩ ?_
 rintro j r ds m' H' ⟨i, al, cl, g, E, rfl, rfl, rfl, rfl, rfl, hi, hE, hg⟩
 subst hg
 have hEl : E.length = g := by rw [hE, List.length_map, List.length_map, List.length_take]; omega
 by_cases hlt : g < S.length
 ·obtain ⟨x, hgx⟩ : ∃ x, S[g]? = some x := ⟨_, List.getElem?_eq_getElem hlt⟩
  have hxo := hx x (List.mem_of_getElem? hgx)
  have hgc : (S.map Hop.cs)[g]? = some x.cs := by rw [List.getElem?_map, hgx]; rfl
  have hr1 := hr w0 (.row al cl 64 6 E :: H)
  generalize S.map Hop.cs = SC at *
  unfold Hop.cs at hgc
  refine WC.rSome hr1 (by omega) ?_
  rintro a rfl
  have htk : (S.take (g + 1)).map cutO = (S.take g).map cutO ++ [cutO x] := by rw [List.take_succ, hgx, List.map_append]; rfl
  have hEn : ∀ y : Hop, y = cutO x → E ++ [y.cs] = ((S.take (g + 1)).map cutO).map Hop.cs := by
   rintro y rfl
   rw [htk, List.map_append, hE]; rfl
  by_cases h40 : g = 40
  ·subst h40
   have hscr : scr S = (S.take 40).map cutO := rfl
   have hsl2 : (scr S).length = 40 := by rw [hscr, List.length_map, List.length_take]; omega
   refine stg ?_; intros; rename_i b5
   rw [hE, ← hscr]
   exact q_fz ⟨rfl, al, cl, by rw [hsl2], rfl⟩
  ·obtain ⟨x0, x1, x2, x3, x4, x5⟩ := x
   unfold Hop.Ok at hxo
   simp only at hgc hxo hEn
   by_cases hlen : x5.length ≤ 65536
   ·have hn : E ++ [[Value.int .i64 x0, str x1, str x2, .int .i64 x3, .int .i64 x4, str (x5.take 600)]] = ((S.take (g + 1)).map cutO).map Hop.cs := hEn ⟨x0, x1, x2, x3, x4, x5.take 600⟩ (by unfold cutO; rw [if_pos hlen])
    have htk6 : x5.take (min (x5.length : Int) 600).toNat = x5.take 600 := by
     by_cases h6 : x5.length ≤ 600
     ·rw [List.take_of_length_le (by omega), List.take_of_length_le h6]
     ·congr 1; omega
    refine stg ?_; intros; rename_i b5 b9 a2 c2
    rw [htk6, hn]
    refine nxz (S.length - (g + 1)) ⟨g + 1, a2, c2, E.length + 1, ((S.take (g + 1)).map cutO).map Hop.cs, rfl, rfl, rfl, rfl, rfl, ?_, ?_, ?_⟩
    ·omega
    ·rfl
    ·omega
   ·have hn : E ++ [[Value.int .i64 x0, str x1, str x2, .int .i64 x3, .int .i64 x4, str x5]] = ((S.take (g + 1)).map cutO).map Hop.cs := hEn ⟨x0, x1, x2, x3, x4, x5⟩ (by unfold cutO; rw [if_neg hlen])
    refine stg ?_; intros; rename_i b5 b9 a2 c2
    rw [hn]
    refine nxz (S.length - (g + 1)) ⟨g + 1, a2, c2, E.length + 1, ((S.take (g + 1)).map cutO).map Hop.cs, rfl, rfl, rfl, rfl, rfl, ?_, ?_, ?_⟩
    ·omega
    ·rfl
    ·omega
 ·have hscr : scr S = (S.take 40).map cutO := rfl
  have hsl2 : (scr S).length = g := by rw [hscr, List.length_map, List.length_take]; omega
  have hE2 : E = (scr S).map Hop.cs := by rw [hE, hscr, List.take_of_length_le (by omega), List.take_of_length_le (by omega)]
  rw [hE2]
  try (refine stg ?_; intros)
  exact q_fz ⟨rfl, al, cl, by rw [hsl2], rfl⟩
end ZP
namespace Go.Eng
open Go
theorem HsOk.branch {m : Mem} {L : List Dr} {B : Br} {c : Nat} (h : HsOk m L B c) (s : List UInt8) (k : Int) (e : Nat) (he : e = 0 → yP B s = none ∧ 0 ≤ k ∧ k < (L.length : Int) ∧ B.length ≠ 32) :
  HsOk m L (if e = 0 then putB B c s k.toNat else B) (if e = 0 then clkB B c s else c) := by
 by_cases h0 : e = 0
 ·obtain ⟨h1, h2, h3, h4⟩ := he h0
  rw [if_pos h0, if_pos h0]
  have := h.most
  exact h.put (by omega) (.inr (by omega))
 ·rw [if_neg h0, if_neg h0]
  exact h
theorem HsOk.add {m : Mem} {L : List Dr} {B : Br} {c k : Nat} (h : HsOk m L B c) {s : List UInt8} {d : Dr} (hl : L.length < 256) (hp : ∀ p ∈ d.ps, p < L.length) (h0 : d.ps ≠ []) (h2 : d.ps.length ≤ 2) (ht : d.t.length ≤ 65536) (hh : d.h ≤ 999999999999999999) (hd : PsAt m d)
  (hk : yP B s = some k) : HsOk m (L ++ [d]) (putB B c s L.length) (clkB B c s) :=
 (h.more hl hp h0 h2 ht hh hd).put (by rw [List.length_append, List.length_singleton]; omega) (.inl (by rw [hk]; rfl))
theorem HsOk.fresh {m : Mem} {t : List UInt8} (ht : t.length ≤ 65536) : HsOk m [⟨0, [], .slice none 0 0, t⟩] [(0, mainN, 0)] 1 where
 some_ := by simp
 few := by simp
 par := fun i d h => by
  cases i with
  | zero =>
   simp at h
   subst h
   exact ⟨fun p hp => (by cases hp), fun h0 => absurd h0 (Nat.lt_irrefl _), by simp, ht, by simp⟩
  | succ i => simp at h
 at_ := fun d hd => by
  rw [List.mem_singleton] at hd
  subst hd
  exact PsAt.nil
 heads := fun e he => by rw [List.mem_singleton] at he; subst he; simp
 names := by simp
 borns := by simp
 old := fun e he => by rw [List.mem_singleton] at he; subst he; simp
 most := by simp
end Go.Eng
namespace ZP
open Go Go.Eng
attribute [local irreducible] WL WC WQ QFun zJ Does Q1 zD zB Go.Addr.add
end ZP
namespace Go.Eng
open Go
def rdE (d : Dr) : List Value := [str d.t, .int .i64 (d.h : Int), d.v]
def rdrs (L : List Dr) : List (List Value) := L.map rdE
theorem wE (L : List Dr) : (rdrs L).length = L.length := List.length_map _
theorem vE {L : List Dr} {i : Nat} {d : Dr} (h : L[i]? = some d) : (rdrs L)[i]? = some (rdE d) := by unfold rdrs; rw [List.getElem?_map, h]; rfl
theorem zH0 (L : List Dr) (d : Dr) : rdrs (L ++ [d]) = rdrs L ++ [rdE d] := by unfold rdrs; simp
def SameD (L M : List Dr) : Prop := L.map (fun d => (d.h, d.ps, d.t)) = M.map (fun d => (d.h, d.ps, d.t))
theorem SameD.length {L M : List Dr} (h : SameD L M) : L.length = M.length := by
 have := congrArg List.length h
 simpa using this
theorem SameD.get {L M : List Dr} (h : SameD L M) (i : Nat) : (L[i]?).map (fun d => (d.h, d.ps, d.t)) = (M[i]?).map (fun d => (d.h, d.ps, d.t)) := by
 rw [← List.getElem?_map, ← List.getElem?_map, h]
theorem SameD.at_ {L M : List Dr} (h : SameD L M) {i : Nat} {d : Dr} (hd : L[i]? = some d) : ∃ e, M[i]? = some e ∧ e.h = d.h ∧ e.ps = d.ps ∧ e.t = d.t := by
 have := h.get i
 rw [hd] at this
 cases he : M[i]? with
 | none => rw [he] at this; cases this
 | some e =>
  rw [he] at this
  simp at this
  exact ⟨e, rfl, this.1.symm, this.2.1.symm, this.2.2.symm⟩
theorem SameD.pars {L M : List Dr} (h : SameD L M) (i : Nat) : parsOf L i = parsOf M i := by
 have := h.get i
 unfold parsOf
 cases hl : L[i]? with
 | none => rw [hl] at this; cases hm : M[i]? with
  | none => rfl
  | some e => rw [hm] at this; cases this
 | some d => rw [hl] at this; cases hm : M[i]? with
  | none => rw [hm] at this; cases this
  | some e => rw [hm] at this; simp at this; exact this.2.1
theorem SameD.tx {L M : List Dr} (h : SameD L M) (i : Nat) : txOf L i = txOf M i := by
 have := h.get i
 unfold txOf
 cases hl : L[i]? with
 | none => rw [hl] at this; cases hm : M[i]? with
  | none => rfl
  | some e => rw [hm] at this; cases this
 | some d => rw [hl] at this; cases hm : M[i]? with
  | none => rw [hm] at this; cases this
  | some e => rw [hm] at this; simp at this; exact this.2.2
theorem SameD.snoc {L M : List Dr} (h : SameD L M) {d e : Dr} (h1 : d.h = e.h) (h2 : d.ps = e.ps) (h3 : d.t = e.t) : SameD (L ++ [d]) (M ++ [e]) := by
 unfold SameD at *
 rw [List.map_append, List.map_append, h]
 simp [h1, h2, h3]
theorem SameD.lnGo {L M : List Dr} (h : SameD L M) : ∀ (n : Nat) (ks : List Nat), lnGo L n ks = Go.Eng.lnGo M n ks
 | 0, _ => rfl
 | n + 1, ks => by
  show Go.Eng.lnGo L n (w8 L ks n) = Go.Eng.lnGo M n (w8 M ks n)
  have : w8 L ks n = w8 M ks n := by unfold w8; rw [h.pars]
  rw [this, SameD.lnGo h n]
theorem SameD.line {L M : List Dr} (h : SameD L M) (k : Nat) : xB L k = xB M k := h.lnGo _ _
theorem SameD.base {L M : List Dr} (h : SameD L M) (a b : Nat) : baseK L a b = baseK M a b := by unfold baseK; rw [h.line, h.line]
theorem SameD.orgAll {L M : List Dr} (h : SameD L M) : ∀ n, orgAll L n = Go.Eng.orgAll M n
 | 0 => rfl
 | n + 1 => by
  have e : orgRow L (fun p => (Go.Eng.orgAll L n).getD p []) n = orgRow M (fun p => (Go.Eng.orgAll M n).getD p []) n := by
   unfold orgRow
   rw [h.pars, h.tx, SameD.orgAll h n]
   refine j0 fun a p _ => ?_
   unfold orgStep
   rw [h.tx, h.tx]
  show Go.Eng.orgAll L n ++ _ = Go.Eng.orgAll M n ++ _
  rw [SameD.orgAll h n] at e ⊢
  rw [e]
theorem SameD.org {L M : List Dr} (h : SameD L M) (n : Nat) : orgK L n = orgK M n := by
 show orgRow L (fun p => (Go.Eng.orgAll L n).getD p []) n = orgRow M (fun p => (Go.Eng.orgAll M n).getD p []) n
 unfold orgRow
 rw [h.pars, h.tx, h.orgAll n]
 refine j0 fun a p _ => ?_
 unfold orgStep
 rw [h.tx, h.tx]
theorem SameD.orgG {L M : List Dr} (h : SameD L M) (n : Nat) : orgG L n = Go.Eng.orgG M n := by
 unfold Go.Eng.orgG orgZ
 rw [h.tx, h.org]
end Go.Eng
namespace ZP
open Go Go.Eng
attribute [local irreducible] WL WC WQ QFun zJ Does Q1 zD zB Go.Addr.add
namespace ZD70a
theorem zal {G G' : Prop} (next : G') (h : Bx G' → G := by intro zzn; (first | (refine WL.makeMapT rfl ?_; intro zzf)); (repeat revert zzf); exact zzn.out) : G := h ⟨next⟩
end ZD70a
open ZD70a in
theorem zFJ (s : Tx) (w0 : World) (m : Mem) (H : SHeap) : Does Tryz.prog 22 #[str s] w0 m H (fun v m' H' => m' = m ∧ ∃ (br rm bd : Nat), v = .pp br ∧
  H' = .bl br [.slice (some ⟨bd, 0, none⟩) 1 1, .map (some rm)] 69 :: .row (some ⟨bd, 0, none⟩) 1 118 3 (rdrs [⟨0, [], .slice none 0 0, s⟩]) :: .blk rm (mapT (brE [(0, mainN, 0)]) 1) :: H) := by
 refine Does.of_body func22 rfl ntmps22 rfl ?_
 refine stg ?_; intros; rename_i bd rm
 refine WL.putT (k := mainN) rfl rfl rfl rfl rfl (by repeat (first | exact Repl.here | apply Repl.there)) ?_
 refine stg ?_; intros; rename_i br
 refine WQ.blkRow (b := bd) (k := 1) (sz := 3) (es := rdrs [⟨0, [], .slice none 0 0, s⟩]) (by (repeat (first | exact Out.here | apply Out.there))) rfl (by simp [rdrs, rdE]) rfl (by omega) ?_
 exact q_fz ⟨rfl, br, rm, bd, rfl, rfl⟩
theorem zD1 {br rm rc c : Nat} {ra : Option Addr} {L : List Dr} {B : Br} (s : Tx) (d : Dr) (hL : L.length ≤ 256) {sa : Option Addr} {sn sc : Nat} (hdv : d.v = .slice sa sn sc) (w0 : World) (m : Mem) (H : SHeap) :
  Does Tryz.prog 83 #[.pp br, str s, .agg (rdE d).toArray] w0 m (.bl br [.slice ra L.length rc, .map (some rm)] 69 :: .row ra rc 118 3 (rdrs L) :: .blk rm (mapT (brE B) c) :: H) (fun v m' H' => m' = m ∧ v = .int .i64 (L.length : Int) ∧ ∃ a' cap',
   H' = .bl br [.slice a' (L ++ [d]).length cap', .map (some rm)] 69 :: .row a' cap' 118 3 (rdrs (L ++ [d])) :: .blk rm (mapT (brE (putB B c s L.length)) (clkB B c s)) :: H) := by
 refine Does.of_body func83 rfl ntmps83 rfl ?_
 have hnl := wE L
 rw [← zDw, ← zCT, List.length_append, List.length_singleton, zH0]
 unfold rdE
 rw [hdv]
 generalize rdrs L = E at *
 refine st ?_; intros; rename_i be
 refine wdw 10 ([.bl be [str d.t, .int .i64 (d.h : Int), .slice sa sn sc] 118, .bl br [.slice ra L.length rc, .map (some rm)] 69, .blk rm (mapT (brE B) c)]) ?_
 refine cmg ?_
 refine wa1 6 ?_
 refine st ?_; intros; rename_i b9
 refine waz [.bl b9 [str d.t, .int .i64 (d.h : Int), .slice sa sn sc] 118] zml ?_
 refine cmg ?_
 refine wa1 7 ?_
 refine st ?_; intros; rename_i a2 cp2
 refine waz [] zml ?_
 refine cmg ?_
 refine wdz ?_
 try (refine st ?_; intros)
 have hE : ((E.length + 1 : Nat) : Int) - 1 = (L.length : Int) := by omega
 rw [hE]
 refine WL.putU (es := brE B) (k := s) (v := .int .i64 (L.length : Int)) rfl rfl rfl rfl rfl (by repeat (first | exact Repl.here | apply Repl.there)) ?_
 try (refine st ?_; intros)
 rw [hE, hnl]
 exact q_fz ⟨rfl, rfl, a2, cp2, rfl⟩
theorem qE (s : Tx) (hs : s.length ≤ 9223372036854775807) (w0 : World) (m : Mem) (H : SHeap) : Does Tryz.prog 52 #[str s] w0 m H (Gives (.bool (dcd (x6 s))) m H) := by
 refine Does.of_body func52 rfl ntmps52 rfl ?_
 try (refine st ?_; intros)
 refine lpz (fun j r ds m' H' => ∃ i, j = s.length - i ∧ r = [(3, .int .i64 (i : Int)), (0, str s)] ∧ ds = [] ∧ m = m' ∧ H' = H ∧ (i ≤ s.length) ∧ (∀ c ∈ s.take i, NmB c.toNat) ∧ (0 < i → 97 ≤ (s.headD 0).toNat)) (s.length - (0)) ⟨0, rfl, rfl, rfl, rfl, rfl, by omega, by intro c hc; simp at hc, by intro h; omega⟩ ?_
 rintro j r ds m' H' ⟨i, rfl, rfl, rfl, rfl, rfl, hi, hpre, h97⟩
 by_cases hlt : i < s.length
 ·obtain ⟨c, hc⟩ : ∃ c, s[i]? = some c := ⟨_, List.getElem?_eq_getElem hlt⟩
  have hg : gb s i = c.toNat := by unfold gb; simp [hc]
  have htk : s.take (i + 1) = s.take i ++ [c] := by rw [List.take_succ, hc]; rfl
  have hgood : NmB c.toNat → ∀ x ∈ s.take (i + 1), NmB x.toNat := by
   intro hb x hx
   rw [htk] at hx
   rcases List.mem_append.1 hx with h | h
   ·exact hpre x h
   ·rw [List.mem_singleton] at h; subst h; exact hb
  have hd0 : i = 0 → s.headD 0 = c := by
   rintro rfl
   cases s with
   | nil => simp at hlt
   | cons x s => simpa using hc
  have hbad : ¬ NmB c.toNat → ¬ x6 s := fun hb h => hb (h.2.2.2 c (List.mem_of_getElem? hc))
  have hbad0 : i = 0 → c.toNat < 97 → ¬ x6 s := fun h0 hb h => by have := h.2.2.1; rw [hd0 h0] at this; omega
  have hn97 : 97 ≤ c.toNat ∨ i ≠ 0 → 0 < i + 1 → 97 ≤ (s.headD 0).toNat := by
   intro h _
   by_cases h0 : i = 0
   ·rw [hd0 h0]; omega
   ·exact h97 (by omega)
  have hcase : c.toNat < 45 ∨ c.toNat = 45 ∨ (45 < c.toNat ∧ c.toNat < 48) ∨ (48 ≤ c.toNat ∧ c.toNat ≤ 57) ∨ (57 < c.toNat ∧ c.toNat < 97) ∨ (97 ≤ c.toNat ∧ c.toNat ≤ 122) ∨ 122 < c.toNat := by omega
  by_cases h0 : i = 0
  ·rcases hcase with h | h | ⟨h, h'⟩ | ⟨h, h'⟩ | ⟨h, h'⟩ | ⟨h, h'⟩ | h
   ·rw [zH (hbad0 h0 (by omega))]
    try (refine st ?_; intros)
    exact q_fz zgm
   ·rw [zH (hbad0 h0 (by omega))]
    try (refine st ?_; intros)
    exact q_fz zgm
   ·rw [zH (hbad0 h0 (by omega))]
    try (refine st ?_; intros)
    exact q_fz zgm
   ·rw [zH (hbad0 h0 (by omega))]
    try (refine st ?_; intros)
    exact q_fz zgm
   ·rw [zH (hbad0 h0 (by omega))]
    try (refine st ?_; intros)
    exact q_fz zgm
   ·try (refine st ?_; intros)
    refine nxz (s.length - (i + 1)) ⟨i + 1, rfl, rfl, rfl, rfl, rfl, ?_, ?_, ?_⟩
    ·omega
    ·exact hgood (by unfold NmB; omega)
    ·exact hn97 (.inl h)
   ·rw [zH (hbad (by unfold NmB; omega))]
    try (refine st ?_; intros)
    exact q_fz zgm
  ·rcases hcase with h | h | ⟨h, h'⟩ | ⟨h, h'⟩ | ⟨h, h'⟩ | ⟨h, h'⟩ | h
   ·rw [zH (hbad (by unfold NmB; omega))]
    try (refine st ?_; intros)
    exact q_fz zgm
   ·try (refine st ?_; intros)
    refine nxz (s.length - (i + 1)) ⟨i + 1, rfl, rfl, rfl, rfl, rfl, ?_, ?_, ?_⟩
    ·omega
    ·exact hgood (by unfold NmB; omega)
    ·exact hn97 (.inr h0)
   ·rw [zH (hbad (by unfold NmB; omega))]
    try (refine st ?_; intros)
    exact q_fz zgm
   ·try (refine st ?_; intros)
    refine nxz (s.length - (i + 1)) ⟨i + 1, rfl, rfl, rfl, rfl, rfl, ?_, ?_, ?_⟩
    ·omega
    ·exact hgood (by unfold NmB; omega)
    ·exact hn97 (.inr h0)
   ·rw [zH (hbad (by unfold NmB; omega))]
    try (refine st ?_; intros)
    exact q_fz zgm
   ·try (refine st ?_; intros)
    refine nxz (s.length - (i + 1)) ⟨i + 1, rfl, rfl, rfl, rfl, rfl, ?_, ?_, ?_⟩
    ·omega
    ·exact hgood (by unfold NmB; omega)
    ·exact hn97 (.inl h)
   ·rw [zH (hbad (by unfold NmB; omega))]
    try (refine st ?_; intros)
    exact q_fz zgm
 ·rw [List.take_of_length_le (by omega)] at hpre
  by_cases h1 : s.length < 1
  ·rw [zH (fun h : x6 s => by have := h.1; omega)]
   try (refine st ?_; intros)
   exact q_fz zgm
  ·by_cases h2 : 32 < s.length
   ·rw [zH (fun h : x6 s => by have := h.2.1; omega)]
    try (refine st ?_; intros)
    rw [zH (show ¬ (s.length : Int) ≤ 32 from by omega)]
    exact q_fz zgm
   ·rw [zE (show x6 s from ⟨by omega, by omega, h97 (by omega), hpre⟩)]
    try (refine st ?_; intros)
    rw [zE (show (s.length : Int) ≤ 32 from by omega)]
    exact q_fz zgm
end ZP
namespace ZP
open Go Go.Eng
attribute [local irreducible] WL WC WQ QFun zJ Does Q1 zD zB Go.Addr.add
theorem zBz (X : List Tx) (hl : X.length ≤ 1000000) {a : Option Addr} {c cap : Nat} (w0 : World) (m : Mem) (H : SHeap) :
  Does Tryz.prog 86 #[.slice a X.length c] w0 m (.row a cap 9 1 (strs X) :: H) (fun v m' H' => v = .tuple #[] ∧ m' = m ∧ H' = .row a cap 9 1 (strs (X.mergeSort leT)) :: H) := by
 refine Does.of_body func86 rfl ntmps86 rfl ?_
 try (refine st ?_; intros)
 refine zA func72 ?_ (hs := zFr X hl _ _ _)
 rintro v m H1 ⟨rfl, rfl, rfl⟩
 try (refine st ?_; intros)
 exact q_nz ⟨rfl, rfl, rfl⟩
attribute [local irreducible] mapT
theorem zCr {br rm rc c : Nat} {ra : Option Addr} {L : List Dr} {B : Br} (hold : ∀ e ∈ B, e.1 < c) (hn : (B.map (·.1)).Nodup) (hl : B.length ≤ 1000000) (w0 : World) (m : Mem) (H : SHeap) :
  Does Tryz.prog 55 #[.pp br] w0 m (.bl br [.slice ra L.length rc, .map (some rm)] 69 :: .row ra rc 118 3 (rdrs L) :: .blk rm (mapT (brE B) c) :: H) (fun v m' H' => m' = m ∧ ∃ al cl, v = .slice al (brN B).length cl ∧ H' = .row al cl 9 1 (strs (brN B)) :: .bl br [.slice ra L.length rc, .map (some rm)] 69 :: .row ra rc 118 3 (rdrs L) :: .blk rm (mapT (brE B) c) :: H) := by
 refine Does.of_body func55 rfl ntmps55 rfl ?_
 have hol : ∀ e ∈ brE B, e.1 < c := fun e he => by
  obtain ⟨x, hx, rfl⟩ := List.mem_map.1 he
  exact hold x hx
 have hnn : ((brE B).map (·.1)).Nodup := by rw [zEo]; exact hn
 have hNn : (brN B) = ((brE B).map (·.2.1)).mergeSort leT := by rw [zEl]; rfl
 have hel := uF B
 generalize brE B = es at *
 try (refine st ?_; intros)
 refine WL.rangeT (es := es) (c := c) rfl zhs rfl rfl ?_
 intro bi
 try (refine st ?_; intros)
 refine WC.newRow (T := 9) (sz := 1) ?_
 refine lpz (fun j r ds m' H' => ∃ (al : Option Addr) (cl : Nat) (pre : List EntT) (rest : List EntT), j = 2 * rest.length ∧ r = [(9, .pp bi), (3, .slice al pre.length cl)] ∧ ds = [] ∧ m = m' ∧ H' = .blk bi (.mapIter (some rm) c (pre.map (·.1)).toArray c) :: .row al cl 9 1 (strs (pre.map (·.2.1))) :: .bl br [.slice ra L.length rc, .map (some rm)] 69 :: .row ra rc 118 3 (rdrs L) :: .blk rm (mapT es c) :: H ∧ ((pre ++ rest).Perm es)) (2 * (es).length) ⟨none, 0, [], es, rfl, rfl, rfl, rfl, rfl, List.Perm.refl _⟩ ?_
 rintro j r ds m' H' ⟨al, cl, pre, rest, rfl, rfl, rfl, rfl, rfl, hp⟩
 have hnd : ((pre ++ rest).map (·.1)).Nodup := (hp.map _).nodup_iff.2 hnn
 have hpl := hp.length_eq
 rw [List.length_append] at hpl
 try (refine st ?_; intros)
 refine WL.nextT (es := es) (c := c) rfl List.mem_cons_self zhs hol (Nat.le_refl _) rfl ?_ ?_
 ·intro hall
  have hrest : rest = [] := by
   cases rest with
   | nil => rfl
   | cons e rest =>
    have h1 : e ∈ es := hp.mem_iff.1 (by simp)
    have h2 := hall e h1
    rw [List.map_append, List.map_cons, List.nodup_append] at hnd
    have h3 : e.1 ∈ pre.map (·.1) := by simpa using h2
    exact absurd rfl (hnd.2.2 _ h3 _ List.mem_cons_self)
  subst hrest
  rw [List.append_nil] at hp
  have hxl : pre.length = (pre.map (·.2.1)).length := (List.length_map _).symm
  try (refine st ?_; intros)
  rw [hxl]
  refine WL.heap (H' := .row al cl 9 1 (strs (pre.map (·.2.1))) :: .bl br [.slice ra L.length rc, .map (some rm)] 69 :: .row ra rc 118 3 (rdrs L) :: .blk rm (mapT es c) :: H) zpk ?_
  refine zA func86 ?_ (hs := zBz (pre.map (·.2.1)) (by omega) _ _ _)
  rintro v m H1 ⟨rfl, rfl, rfl⟩
  rw [zCb (hp.map (·.2.1)), ← hNn]
  have hbl : (pre.map (·.2.1)).length = (brN B).length := by rw [hNn, List.length_mergeSort, List.length_map, List.length_map]; omega
  rw [hbl]
  try (refine st ?_; intros)
  exact q_fz ⟨rfl, al, cl, rfl, rfl⟩
 ·intro e he hne H3 hrep
  refine WL.heap (H' := .blk bi (.mapIter (some rm) c ((pre.map (·.1)).toArray.push e.1) c) :: .row al cl 9 1 (strs (pre.map (·.2.1))) :: .bl br [.slice ra L.length rc, .map (some rm)] 69 :: .row ra rc 118 3 (rdrs L) :: .blk rm (mapT es c) :: H) (fun w hw => hw.perm hrep.head) ?_
  have hne' : e.1 ∉ pre.map (·.1) := by simpa using hne
  have her : e ∈ rest := by
   rcases List.mem_append.1 (hp.mem_iff.2 he) with h | h
   ·exact absurd (List.mem_map.2 ⟨e, h, rfl⟩) hne'
   ·exact h
  obtain ⟨r1, r2, hr⟩ := List.append_of_mem her
  have hpn : ((pre ++ [e]) ++ (r1 ++ r2)).Perm es := by
   refine List.Perm.trans ?_ hp
   rw [hr, List.append_assoc]
   exact List.Perm.append_left pre (List.perm_middle (a := e) (l₁ := r1) (l₂ := r2)).symm
  have hrl : rest.length = (r1 ++ r2).length + 1 := by rw [hr]; simp; omega
  have hsn : (pre.map (·.1)).toArray.push e.1 = ((pre ++ [e]).map (·.1)).toArray := by simp
  have hsl : (strs (pre.map (·.2.1))).length = pre.length := by simp [strs]
  have hsn2 : strs (pre.map (·.2.1)) ++ [[str e.2.1]] = strs ((pre ++ [e]).map (·.2.1)) := by simp [strs]
  have hl2 : pre.length + 1 = (pre ++ [e]).length := by simp
  try (refine st ?_; intros)
  refine WL.entryT (seen := (pre.map (·.1)).toArray) (es := es) (c := c) (c0 := c) rfl List.mem_cons_self zhs he hnn rfl ?_
  rw [hsn]
  refine st ?_; intros; rename_i b9 a2 c2
  rw [hsl, hsn2, hl2]
  refine nxz (2 * (r1 ++ r2).length) ⟨a2, c2, pre ++ [e], r1 ++ r2, rfl, rfl, rfl, rfl, rfl, ?_⟩
  ·exact hpn
end ZP
namespace Go.Eng
open Go
end Go.Eng
namespace Go.Eng
open Go
theorem qV (S : List Nat) : ∀ n, (logGo S n).Pairwise (fun a b => b < a)
 | 0 => List.Pairwise.nil
 | n + 1 => by
  by_cases h : n ∈ S
  ·rw [kU h]
   exact List.Pairwise.cons (fun b hb => (logGo_mem.1 hb).1) (qV S n)
  ·rw [jO h]; exact qV S n
def lst (pre : List Nat) (k : Nat) : Nat := (pre.getLast?).getD (k + 1)
def txts (L : List Dr) (n : Nat) : List (List UInt8) := (List.range n).map (txOf L)
end Go.Eng
namespace Go.Eng
open Go
theorem zAH {xs ys : List Nat} (hx : 0 ∈ xs) (hy : 0 ∈ ys) : ∀ (n : Nat), x9 xs ys n ∈ xs ∧ x9 xs ys n ∈ ys ∧ ∀ y, y ≤ n → y ∈ xs → y ∈ ys → y ≤ x9 xs ys n
 | 0 => ⟨hx, hy, fun y h _ _ => h⟩
 | n + 1 => by
  rw [x9]
  by_cases h : n + 1 ∈ xs ∧ n + 1 ∈ ys
  ·rw [if_pos h]; exact ⟨h.1, h.2, fun y hy _ _ => hy⟩
  ·rw [if_neg h]
   obtain ⟨h1, h2, h3⟩ := zAH hx hy n
   refine ⟨h1, h2, fun y hy hyx hyy => ?_⟩
   by_cases hyn : y = n + 1
   ·subst hyn; exact absurd ⟨hyx, hyy⟩ h
   ·exact h3 y (by omega) hyx hyy
theorem jU {L : List Dr} (hf : Falls L) {x k : Nat} : x ∈ logK L k ↔ Anc L x k := by
 unfold logK
 rw [logGo_mem, xK hf]
 exact ⟨fun h => h.2, fun h => ⟨by have := h.le hf; omega, h⟩⟩
theorem zGa {L : List Dr} (hf : Falls L) {a b i x : Nat} (ha : Anc L 0 a) (hb : Anc L 0 b) (hx : (logK L a)[i]? = some x) (hb' : x ∈ logK L b) (hno : ∀ y ∈ (logK L a).take i, y ∉ logK L b) : x = baseK L a b := by
 have hxa := (jU hf).1 (List.mem_of_getElem? hx)
 have hxb := (jU hf).1 hb'
 obtain ⟨s1, s2, s3⟩ := zAH ((xK hf).2 ha) ((xK hf).2 hb) (min a b)
 have h1 := s3 x (by have := hxa.le hf; have := hxb.le hf; omega) ((xK hf).2 hxa) ((xK hf).2 hxb)
 show x = x9 (xB L a) (xB L b) (min a b)
 rcases Nat.lt_or_eq_of_le h1 with h | h
 ·exfalso
  have hya : x9 (xB L a) (xB L b) (min a b) ∈ logK L a := (jU hf).2 ((xK hf).1 s1)
  have hyb : x9 (xB L a) (xB L b) (min a b) ∈ logK L b := (jU hf).2 ((xK hf).1 s2)
  obtain ⟨hi, hxe⟩ := List.getElem?_eq_some_iff.1 hx
  have hsp : logK L a = (logK L a).take i ++ x :: (logK L a).drop (i + 1) := by rw [← hxe, ← List.drop_eq_getElem_cons hi, List.take_append_drop]
  have hp : (logK L a).Pairwise (fun a b => b < a) := qV _ _
  rw [hsp] at hya hp
  rcases List.mem_append.1 hya with h2 | h2
  ·exact hno _ h2 hyb
  ·rw [List.pairwise_append] at hp
   rcases List.mem_cons.1 h2 with h3 | h3
   ·omega
   ·have := (List.pairwise_cons.1 hp.2.1).1 _ h3
    omega
 ·exact h
theorem zJm {L : List Dr} (hf : Falls L) {i : Nat} {ks : List Nat} : i ∈ lnGo L (i + 1) ks ↔ i ∈ ks := by
 rw [zDq hf]
 constructor
 ·rintro (h | ⟨y, hy, hyn, ha⟩)
  ·exact h
  ·have := ha.le hf
   obtain rfl : y = i := by omega
   exact hy
 ·exact fun h => .inl h
end Go.Eng
namespace ZP
open Go Go.Eng
attribute [local irreducible] WL WC WQ QFun zJ Does Q1 zD zB Go.Addr.add
attribute [local irreducible] lnM mapO lnGo w8
theorem zBO {br rc : Nat} {mp : Value} {ra : Option Addr} {L : List Dr} {k : Nat} (hk : k < L.length) (hL : L.length ≤ 256) (hf : Falls L) (w0 : World) (m : Mem) (H : SHeap) (hat : ∀ d ∈ L, PsAt m d) (hps : ∀ (i : Nat) (d : Dr), L[i]? = some d → d.ps.length ≤ 2) :
  Does Tryz.prog 57 #[.pp br, .int .i64 (k : Int)] w0 m (.bl br [.slice ra L.length rc, mp] 69 :: .row ra rc 118 3 (rdrs L) :: H) (fun v m' H' => m' = m ∧ ∃ al cl, v = .slice al (logK L k).length cl ∧ H' = .row al cl 3 1 (nums (logK L k)) :: .bl br [.slice ra L.length rc, mp] 69 :: .row ra rc 118 3 (rdrs L) :: H) := by
 refine Does.of_body func57 rfl ntmps57 rfl ?_
 have hnl := wE L
 have e0 : (lnM ([] : List Nat)) ++ [((k : Int), Value.bool true)] = lnM [k] := by unfold lnM; rfl
 have e1 : (lnM ([] : List Nat)) = [] := by unfold lnM; rfl
 have hlog : logK L k = logGo (xB L k) (k + 1) := rfl
 try (refine st ?_; intros)
 refine WL.makeMap .i64 rfl ?_
 intro bq
 try (refine st ?_; intros)
 rw [← e1]
 refine WL.mapOne (q := .i64) (q' := .i64) (k := (k : Int)) (v := .bool true) rfl rfl rfl rfl rfl (by repeat (first | exact Repl.here | apply Repl.there)) (by rw [e1]; rfl) ?_
 rw [e0]
 try (refine st ?_; intros)
 refine WC.newRow (T := 3) (sz := 1) ?_
 refine lpz (fun j r ds m' H' => ∃ (n : Nat) (ks : List Nat) (z : Int) (al : Option Addr) (cl : Nat) (out : List Nat), j = 2 * n ∧ r = [(7, .int .i64 z), (5, .map (some bq)), (0, .pp br), (6, .slice al out.length cl)] ∧ ds = [] ∧ m = m' ∧ H' = .row al cl 3 1 (nums out) :: .blk bq (mapO .i64 (lnM ks)) :: .bl br [.slice ra L.length rc, mp] 69 :: .row ra rc 118 3 (rdrs L) :: H ∧ (n ≤ k + 1) ∧ (z = (n : Int) - 1) ∧ (lnGo L n ks = xB L k) ∧ (out ++ logGo (xB L k) n = logK L k) ∧ (out.length + n ≤ k + 1)) (2 * (k + 1)) ⟨k + 1, [k], (k : Int), none, 0, [], rfl, rfl, rfl, rfl, rfl, by omega, by omega, by unfold xB; rfl, by rw [hlog]; rfl, by simp⟩ ?_
 rintro j r ds m' H' ⟨n, ks, z, al, cl, out, rfl, rfl, rfl, rfl, rfl, hn, hz, hg, ho, hol⟩
 cases n with
 | zero =>
  have hz0 : z = -1 := by omega
  have ho0 : out = logK L k := by rw [← ho]; simp [logGo]
  subst hz0
  subst ho0
  try (refine st ?_; intros)
  exact q_fz ⟨rfl, al, cl, rfl, rfl⟩
 | succ n =>
  have hz0 : z = (n : Int) := by omega
  have hnow : n ∈ xB L k ↔ n ∈ ks := by rw [← hg]; exact zJm hf
  have hstep : lnGo L (n + 1) ks = lnGo L n (w8 L ks n) := by rw [lnGo]
  rw [hstep] at hg
  subst hz0
  obtain ⟨d, hd⟩ : ∃ d, L[n]? = some d := ⟨_, List.getElem?_eq_getElem (by omega)⟩
  have hls : w8 L ks n = if n ∈ ks then d.ps.foldl addN ks else ks := by unfold w8; rw [vH hd]
  rw [hls] at hg
  try (refine st ?_; intros)
  refine WL.look1 (q := .i64) (q' := .i64) (k := (n : Int)) (z := .bool false) (kvs := lnM ks) rfl rfl zhs rfl rfl (fun _ => rfl) rfl ?_
  rw [yY]
  by_cases hin : n ∈ ks
  ·rw [if_pos hin] at hg ⊢
   rw [kU (hnow.2 hin)] at ho
   obtain ⟨sa, sc, hv, hr⟩ := hat d (List.mem_of_getElem? hd)
   have hlen := hps n d hd
   have hgd := vE hd
   unfold rdE at hgd
   rw [hv] at hgd
   have hnp := zQ d.ps
   have hno := zQ out
   have hns : nums out ++ [[.int .i64 (n : Int)]] = nums (out ++ [n]) := (zIk out n).symm
   have hl2 : out.length + 1 = (out ++ [n]).length := by simp
   generalize hE : rdrs L = E at *
   simp only [Option.getD_some]
   refine WL.rowSome (a := ra) zhs (by omega) ?_
   rintro a0 rfl
   refine st ?_; intros; rename_i b9 a2 c2
   rw [hno, hns, hl2]
   have ho2 : (out ++ [n]) ++ logGo (xB L k) n = logK L k := by rw [List.append_assoc]; exact ho
   have hol2 : (out ++ [n]).length + n ≤ k + 1 := by simp; omega
   generalize out ++ [n] = out2 at *
   refine lpz (fun j r ds m' H' => ∃ (i : _) (ks2 : List Nat), j = d.ps.length - i ∧ r = [(35, .int .i64 (i : Int)), (34, .int .i64 (d.ps.length : Int)), (33, .slice sa d.ps.length sc), (7, .int .i64 (n : Int)), (5, .map (some bq)), (0, .pp br), (6, .slice a2 out2.length c2)] ∧ ds = [] ∧ m = m' ∧ H' = .row a2 c2 3 1 (nums out2) :: .blk bq (mapO .i64 (lnM ks2)) :: .bl br [.slice (some a0) L.length rc, mp] 69 :: .row (some a0) rc 118 3 E :: H ∧ (i ≤ d.ps.length) ∧ (ks2 = (d.ps.take i).foldl addN ks)) (d.ps.length - (0)) ⟨0, ks, rfl, rfl, rfl, rfl, rfl, by omega, by rw [List.take_zero]; rfl⟩ ?_
   rintro j r ds m' H' ⟨i, ks2, rfl, rfl, rfl, rfl, rfl, hi, hk2⟩
   by_cases hlt : i < d.ps.length
   ·obtain ⟨p, hp⟩ : ∃ p, d.ps[i]? = some p := ⟨_, List.getElem?_eq_getElem hlt⟩
    have hgp := xO hp
    have hr' := hr w0 (.row a2 c2 3 1 (nums out2) :: .blk bq (mapO .i64 (lnM ks2)) :: .bl br [.slice (some a0) L.length rc, mp] 69 :: .row (some a0) rc 118 3 E :: H)
    have hk3 : addN ks2 p = (d.ps.take (i + 1)).foldl addN ks := by rw [List.take_succ, hp, List.foldl_append, ← hk2]; rfl
    generalize nums d.ps = NP at *
    refine WC.rSome hr' (by omega) ?_
    rintro s0 rfl
    try (refine st ?_; intros)
    by_cases hp2 : p ∈ ks2
    ·have hsame : addN ks2 p = ks2 := by unfold addN; rw [if_pos hp2]
     refine WL.mapSame (q := .i64) (q' := .i64) (k := (p : Int)) (v := .bool true) (kvs := lnM ks2) rfl rfl rfl zhs rfl rfl (by rw [yY, if_pos hp2]) ?_
     try (refine st ?_; intros)
     refine nxz (d.ps.length - (i + 1)) ⟨i + 1, ks2, rfl, rfl, rfl, rfl, rfl, ?_, ?_⟩
     ·omega
     ·rw [← hk3, hsame]
    ·have hmore : lnM (addN ks2 p) = lnM ks2 ++ [((p : Int), .bool true)] := by unfold addN; rw [if_neg hp2, zFT]
     refine WL.mapNew (q := .i64) (q' := .i64) (k := (p : Int)) (v := .bool true) (kvs := lnM ks2) rfl rfl rfl rfl rfl (by repeat (first | exact Repl.here | apply Repl.there)) (by rw [yY, if_neg hp2]) ?_
     rw [← hmore]
     try (refine st ?_; intros)
     refine nxz (d.ps.length - (i + 1)) ⟨i + 1, addN ks2 p, rfl, rfl, rfl, rfl, rfl, ?_, ?_⟩
     ·omega
     ·exact hk3
   ·rw [List.take_of_length_le (by omega)] at hk2
    rw [← hk2] at hg
    try (refine st ?_; intros)
    refine nxz (2 * (n)) ⟨n, ks2, (n : Int) - 1, a2, c2, out2, rfl, rfl, rfl, rfl, rfl, ?_, ?_, ?_, ?_, ?_⟩
    ·omega
    ·rfl
    ·exact hg
    ·exact ho2
    ·exact hol2
  ·rw [if_neg hin] at hg ⊢
   rw [jO (fun h => hin (hnow.1 h))] at ho
   simp only [Option.getD_none]
   try (refine st ?_; intros)
   refine nxz (2 * (n)) ⟨n, ks, (n : Int) - 1, al, cl, out, rfl, rfl, rfl, rfl, rfl, ?_, ?_, ?_, ?_, ?_⟩
   ·omega
   ·rfl
   ·exact hg
   ·exact ho
   ·omega
end ZP
namespace ZP
open Go Go.Eng
attribute [local irreducible] WL WC WQ QFun zJ Does Q1 zD zB Go.Addr.add
attribute [local irreducible] logK
theorem zDA {br rc : Nat} {mp : Value} {ra : Option Addr} {L : List Dr} {p q : Nat} (hp : p < L.length) (hq : q < L.length) (hL : L.length ≤ 256) (hf : Falls L) (hp0 : Anc L 0 p) (hq0 : Anc L 0 q) (w0 : World) (m : Mem) (H : SHeap) (hat : ∀ d ∈ L, PsAt m d) (hps : ∀ (i : Nat) (d : Dr), L[i]? = some d → d.ps.length ≤ 2) :
  Does Tryz.prog 59 #[.pp br, .int .i64 (p : Int), .int .i64 (q : Int)] w0 m (.bl br [.slice ra L.length rc, mp] 69 :: .row ra rc 118 3 (rdrs L) :: H) (Gives (.int .i64 (baseK L p q : Int)) m (.bl br [.slice ra L.length rc, mp] 69 :: .row ra rc 118 3 (rdrs L) :: H)) := by
 refine Does.of_body func59 rfl ntmps59 rfl ?_
 have hlen : ∀ k, k < L.length → (logK L k).length ≤ 256 := by
  intro k hk
  have h1 : (logK L k).Pairwise (fun a b => b < a) := by unfold logK; exact qV _ _
  have h2 : ∀ (l : List Nat) (n : Nat), l.Pairwise (fun a b => b < a) → (∀ x ∈ l, x < n) → l.length ≤ n := by
   intro l
   induction l with
   | nil => intro n _ _; exact Nat.zero_le _
   | cons x l ih =>
    intro n h h3
    have h4 := List.pairwise_cons.1 h
    have h5 := h3 x List.mem_cons_self
    have := ih x h4.2 h4.1
    rw [List.length_cons]; omega
  have h3 : ∀ x ∈ logK L k, x < k + 1 := by
   intro x hx
   unfold logK at hx
   exact (logGo_mem.1 hx).1
  have := h2 _ _ h1 h3
  omega
 try (refine st ?_; intros)
 refine zA func57 ?_ (hs := zBO hp hL hf _ _ _ hat hps)
 rintro v m H1 ⟨rfl, al, cl, rfl, rfl⟩
 have hla := hlen p hp
 have hlb := hlen q hq
 have hna := zQ (logK L p)
 have hnb := zQ (logK L q)
 try (refine st ?_; intros)
 refine lpz (fun j r ds m' H' => ∃ (i : Nat), j = (logK L p).length - i ∧ r = [(15, .int .i64 (i : Int)), (14, .int .i64 ((logK L p).length : Int)), (13, .slice al (logK L p).length cl), (0, .pp br), (2, .int .i64 (q : Int))] ∧ ds = [] ∧ m = m' ∧ H' = .row al cl 3 1 (nums (logK L p)) :: .bl br [.slice ra L.length rc, mp] 69 :: .row ra rc 118 3 (rdrs L) :: H ∧ (i ≤ (logK L p).length) ∧ (∀ y ∈ (logK L p).take i, y ∉ logK L q)) ((logK L p).length - (0)) ⟨0, rfl, rfl, rfl, rfl, rfl, by omega, (by intro y hy; rw [List.take_zero] at hy; cases hy)⟩ ?_
 rintro j r ds m' H' ⟨i, rfl, rfl, rfl, rfl, rfl, hi, hno⟩
 by_cases hlt : i < (logK L p).length
 ·obtain ⟨x, hx⟩ : ∃ x, (logK L p)[i]? = some x := ⟨_, List.getElem?_eq_getElem hlt⟩
  have hgx := xO hx
  generalize nums (logK L p) = NA at *
  refine WC.rowSome (a := al) zhs (by omega) ?_
  rintro al rfl
  try (refine st ?_; intros)
  refine zN func57 ?_ (hs := zBO hq hL hf _ _ _ hat hps)
  rintro v m H1 ⟨rfl, bl, cb, rfl, rfl⟩
  try (refine st ?_; intros)
  refine lpz (fun j r ds m' H' => ∃ (u : Nat), j = (logK L q).length - u ∧ r = [(23, .int .i64 (u : Int)), (22, .int .i64 ((logK L q).length : Int)), (21, .slice bl (logK L q).length cb), (8, .int .i64 (x : Int)), (15, .int .i64 (i : Int)), (14, .int .i64 ((logK L p).length : Int)), (13, .slice (some al) (logK L p).length cl), (0, .pp br), (2, .int .i64 (q : Int))] ∧ ds = [] ∧ m = m' ∧ H' = .row bl cb 3 1 (nums (logK L q)) :: .bl br [.slice ra L.length rc, mp] 69 :: .row ra rc 118 3 (rdrs L) :: .row (some al) cl 3 1 NA :: H ∧ (u ≤ (logK L q).length) ∧ (x ∉ (logK L q).take u)) ((logK L q).length - (0)) ⟨0, rfl, rfl, rfl, rfl, rfl, by omega, (by rw [List.take_zero]; simp)⟩ ?_
  rintro j r ds m' H' ⟨u, rfl, rfl, rfl, rfl, rfl, hu, hnu⟩
  by_cases hlt2 : u < (logK L q).length
  ·obtain ⟨y, hy⟩ : ∃ y, (logK L q)[u]? = some y := ⟨_, List.getElem?_eq_getElem hlt2⟩
   have hgy := xO hy
   generalize nums (logK L q) = NB at *
   refine WC.rowSome (a := bl) zhs (by omega) ?_
   rintro bl rfl
   by_cases hxy : x = y
   ·have hres := zGa hf hp0 hq0 hx (by rw [hxy]; exact List.mem_of_getElem? hy) hno
    try (refine st ?_; intros)
    rw [hres]
    exact q_fz zgm
   ·try (refine st ?_; intros)
    refine nxz ((logK L q).length - (u + 1)) ⟨u + 1, rfl, rfl, rfl, rfl, rfl, ?_, ?_⟩
    ·omega
    ·rw [List.take_succ, hy]
     intro h
     rcases List.mem_append.1 h with h | h
     ·exact hnu h
     ·exact hxy (by simpa using h)
  ·rw [List.take_of_length_le (by omega)] at hnu
   try (refine st ?_; intros)
   refine nxz ((logK L p).length - (i + 1)) ⟨i + 1, rfl, rfl, rfl, rfl, rfl, ?_, ?_⟩
   ·omega
   ·intro y hy
    rw [List.take_succ, hx] at hy
    rcases List.mem_append.1 hy with h | h
    ·exact hno y h
    ·have : y = x := by simpa using h
     rw [this]; exact hnu
 ·exfalso
  rw [List.take_of_length_le (by omega)] at hno
  exact hno 0 ((jU hf).2 hp0) ((jU hf).2 hq0)
end ZP
namespace Go.Eng
open Go Go.RowKit
def rowQ (A B : List Tx) (i k : Nat) : List (List Value) := (List.range (B.length + 1)).map fun j => [.int .i64 (cut16 A B i k j)]
theorem xV (A B : List Tx) (i k : Nat) : (rowQ A B i k).length = B.length + 1 := by simp [rowQ]
theorem v7 {A B : List Tx} {i k j : Nat} (hj : j ≤ B.length) : (rowQ A B i k)[j]? = some [.int .i64 (cut16 A B i k j)] := by
 unfold rowQ
 rw [List.getElem?_map, List.getElem?_range (by omega)]; rfl
theorem zJc {A B : List Tx} {i k : Nat} {v : Int} (hv : v = (lcs (A.drop i) (B.drop k) : Int)) : (rowQ A B i (k + 1)).set k [.int .i64 v] = rowQ A B i k := by
 apply List.ext_getElem? 
 intro j
 rw [List.getElem?_set]
 by_cases hj : j ≤ B.length
 ·rw [v7 hj, v7 hj, xV]
  by_cases e : k = j
  ·subst e
   rw [if_pos rfl, if_pos (by omega), vB (Nat.le_refl _), hv]
  ·rw [if_neg e]
   unfold cut16
   by_cases h : k + 1 ≤ j
   ·rw [if_pos h, if_pos (by omega)]
   ·rw [if_neg h, if_neg (by omega)]
 ·have h0 : ∀ k, (rowQ A B i k)[j]? = none := fun k => List.getElem?_eq_none (by rw [xV]; omega)
  rw [h0, h0, xV]
  split
  ·rw [if_neg (by omega)]
  ·rfl
theorem zEi {A B : List Tx} {i k : Nat} (h : B.length ≤ k ∨ A.length ≤ i) : rowQ A B i k = List.replicate (B.length + 1) [.int .i64 0] := by
 apply List.ext_getElem?
 intro j
 by_cases hj : j ≤ B.length
 ·rw [v7 hj, List.getElem?_replicate, if_pos (by omega)]
  congr 3
  unfold cut16
  split
  ·rcases h with h | h
   ·rw [List.drop_of_length_le (l := B) (by omega), vI]; rfl
   ·rw [List.drop_of_length_le (l := A) (by omega), wO]; rfl
  ·rfl
 ·rw [List.getElem?_eq_none (by rw [xV]; omega), List.getElem?_eq_none (by rw [List.length_replicate]; omega)]
end Go.Eng
namespace ZP
open Go Go.Eng
attribute [local irreducible] WL WC WQ QFun zJ Does Q1 zD zB Go.Addr.add
attribute [local irreducible] midL yS rowQ outE tabL strs
theorem zJI {A B : List Tx} {aa ab : Option Addr} {ca cb i' q bi b1 bo : Nat} {x : Tx} {E : List (List Value)} {w0 : World} {m : Mem} {Y : SHeap} {Q : Exit → Act → World → Prop} (hA : A.length ≤ 1024) (hB : B.length ≤ 1024) (hx : A[i']? = some x) (hq : A.length + 1 = q)
  (hEl : E.length = q) (hE0 : E[i']? = some [Value.slice (some ⟨bi, 0, none⟩) (B.length + 1) (B.length + 1)]) (hE1 : E[i' + 1]? = some [Value.slice (some ⟨b1, 0, none⟩) (B.length + 1) (B.length + 1)])
  (hr1 : RowR w0 m Y 1 (some ⟨b1, 0, none⟩) (rowQ A B (i' + 1) 0)) (hra : RowR w0 m Y 1 aa (strs A)) (hrb : RowR w0 m Y 1 ab (strs B))
  (hK : WQ 163 w0 Q (.exit 4) [(7, .int .i64 (i' : Int)), (5, .slice (some ⟨bo, 0, none⟩) q q), (0, .slice aa A.length ca), (1, .slice ab B.length cb)] [] m (.row (some ⟨bi, 0, none⟩) (B.length + 1) 3 1 (rowQ A B i' 0) :: .row (some ⟨bo, 0, none⟩) q 36 1 E :: Y)) :
  WC Tryz.prog none 163 w0 ((yF (Tryz.f166.body.getD .skip)).getD 2 .skip) Q [(8, .int .i64 ((B.length : Int) - 1)), (7, .int .i64 (i' : Int)), (5, .slice (some ⟨bo, 0, none⟩) q q), (0, .slice aa A.length ca), (1, .slice ab B.length cb)] [] m
   (.row (some ⟨bi, 0, none⟩) (B.length + 1) 3 1 (rowQ A B i' B.length) :: .row (some ⟨bo, 0, none⟩) q 36 1 E :: Y) := by
 have hxd := xN hx
 have hxi := (List.getElem?_eq_some_iff.1 hx).1
 have hgx : (strs A)[i']? = some [str x] := xM hx
 have hal : (strs A).length = A.length := by simp [strs]
 have hbl2 : (strs B).length = B.length := by simp [strs]
 refine lpz (fun j r ds m' H' => ∃ k, j = 2 * k ∧ r = [(8, .int .i64 ((k : Int) - 1)), (7, .int .i64 (i' : Int)), (5, .slice (some ⟨bo, 0, none⟩) q q), (0, .slice aa A.length ca), (1, .slice ab B.length cb)] ∧ ds = [] ∧ m = m' ∧ H' = .row (some ⟨bi, 0, none⟩) (B.length + 1) 3 1 (rowQ A B i' k) :: .row (some ⟨bo, 0, none⟩) q 36 1 E :: Y ∧ (k ≤ B.length)) (2 * (B.length)) ⟨B.length, rfl, rfl, rfl, rfl, rfl, by omega⟩ ?_
 rintro j r ds m' H' ⟨k, rfl, rfl, rfl, rfl, rfl, hk⟩
 by_cases hkz : k = 0
 ·subst hkz
  try (refine st ?_; intros)
  exact WQ.weak zsb zpk hK
 ·obtain ⟨k', rfl⟩ : ∃ k', k = k' + 1 := ⟨k - 1, by omega⟩
  rw [show ((k' + 1 : Nat) : Int) - 1 = (k' : Int) by omega]
  obtain ⟨y, hy⟩ : ∃ y, B[k']? = some y := ⟨_, List.getElem?_eq_getElem (by omega : k' < B.length)⟩
  have hyd := xN hy
  have hgy : (strs B)[k']? = some [str y] := xM hy
  have hq0 := v7 (A := A) (B := B) (i := i') (k := k' + 1) (j := k' + 1) (by omega)
  have hq1 := v7 (A := A) (B := B) (i := i' + 1) (k := 0) (j := k') (by omega)
  have hq2 := v7 (A := A) (B := B) (i := i' + 1) (k := 0) (j := k' + 1) (by omega)
  rw [vB (Nat.le_refl _)] at hq0
  rw [vB (Nat.zero_le _)] at hq1 hq2
  have hst : ∀ v : Int, v = (lcs (A.drop i') (B.drop k') : Int) → (rowQ A B i' (k' + 1)).set k' [.int .i64 v] = rowQ A B i' k' := fun v hv => zJc hv
  have hP0 := xV A B i' (k' + 1)
  have hP1 := xV A B (i' + 1) 0
  have hl0 := (uZ (A.drop i') (B.drop (k' + 1))).2
  have hl1 := (uZ (A.drop (i' + 1)) (B.drop k')).2
  have hl2 := (uZ (A.drop (i' + 1)) (B.drop (k' + 1))).2
  rw [List.length_drop] at hl0 hl1 hl2
  rw [hxd, hyd] at hst
  rw [hyd] at hq1 hl1
  rw [hxd] at hq0 hl0
  have hmx : ¬ x = y → max (lcs (A.drop (i' + 1)) (y :: B.drop (k' + 1)) : Int) (lcs (x :: A.drop (i' + 1)) (B.drop (k' + 1)) : Int) = (lcs (x :: A.drop (i' + 1)) (y :: B.drop (k' + 1)) : Int) := fun h => by rw [zAI h]; omega
  have heq : x = y → max (max (lcs (A.drop (i' + 1)) (y :: B.drop (k' + 1)) : Int) (lcs (x :: A.drop (i' + 1)) (B.drop (k' + 1)) : Int)) ((lcs (A.drop (i' + 1)) (B.drop (k' + 1)) : Int) + 1) = (lcs (x :: A.drop (i' + 1)) (y :: B.drop (k' + 1)) : Int) := fun h => by rw [zKk, if_pos h]; omega
  generalize lcs (x :: A.drop (i' + 1)) (B.drop (k' + 1)) = n0 at *
  generalize lcs (A.drop (i' + 1)) (y :: B.drop (k' + 1)) = n1 at *
  generalize lcs (A.drop (i' + 1)) (B.drop (k' + 1)) = n2 at *
  generalize hP0e : rowQ A B i' (k' + 1) = P0 at *
  generalize rowQ A B (i' + 1) 0 = P1 at *
  generalize strs A = SA at *
  generalize strs B = SB at *
  have up : ∀ {a es P}, RowR w0 m Y 1 a es → RowR w0 m (.row (some ⟨bi, 0, none⟩) (B.length + 1) 3 1 P :: .row (some ⟨bo, 0, none⟩) q 36 1 E :: Y) 1 a es := fun h => h.more.more
  have hr1' := up (P := P0) hr1
  have hra' := up (P := P0) hra
  have hrb' := up (P := P0) hrb
  refine WC.rSome hra' (by omega) ?_
  rintro a0 rfl
  refine WC.rSome hrb' (by omega) ?_
  rintro b0 rfl
  obtain ⟨M1, hM1⟩ : ∃ M1 : Int, M1 = max (n1 : Int) (n0 : Int) := ⟨_, rfl⟩
  have hr2' := up (P := P0.set k' [.int .i64 M1]) hr1
  have hra2' := up (P := P0.set k' [.int .i64 M1]) hra
  have hrb2' := up (P := P0.set k' [.int .i64 M1]) hrb
  have hg2 : (P0.set k' [.int .i64 M1])[k']? = some [.int .i64 M1] := List.getElem?_set_self (by omega)
  have hP2 : (P0.set k' [.int .i64 M1]).length = B.length + 1 := by rw [List.length_set]; exact hP0
  rw [hM1] at hr2' hra2' hrb2' hg2 hP2
  by_cases hxy : x = y
  ·try (refine st ?_; intros)
   rw [List.set_set, hst _ (heq hxy)]
   refine nxz (2 * (k')) ⟨k', rfl, rfl, rfl, rfl, rfl, ?_⟩
   ·omega
  ·try (refine st ?_; intros)
   rw [hst _ (hmx hxy)]
   refine nxz (2 * (k')) ⟨k', rfl, rfl, rfl, rfl, rfl, ?_⟩
   ·omega
end ZP
namespace ZP
open Go Go.Eng
attribute [local irreducible] WL WC WQ QFun zJ Does Q1 zD zB Go.Addr.add
attribute [local irreducible] midL yS rowQ outE tabL strs
theorem zKH {A B : List Tx} {aa ab a : Option Addr} {ca cb cp i k x n q bi b1 bo : Nat} {X : Tx} {E : List (List Value)} {L : List (Nat × Nat)} {w0 : World} {m : Mem} {Y : SHeap} {Q : Exit → Act → World → Prop} (hA : A.length ≤ 1024) (hB : B.length ≤ 1024) (hx : A[x]? = some X) (hk : k ≤ B.length) (hi : i ≤ A.length) (hn : n = lcs (A.drop i) (B.drop k)) (hq : A.length + 1 = q)
  (hEl : E.length = q) (hE0 : E[i]? = some [Value.slice (some ⟨bi, 0, none⟩) (B.length + 1) (B.length + 1)]) (hE1 : E[x + 1]? = some [Value.slice (some ⟨b1, 0, none⟩) (B.length + 1) (B.length + 1)])
  (hr0 : RowR w0 m Y 1 (some ⟨bi, 0, none⟩) (rowQ A B i 0)) (hr1 : RowR w0 m Y 1 (some ⟨b1, 0, none⟩) (rowQ A B (x + 1) 0)) (hra : RowR w0 m Y 1 aa (strs A)) (hrb : RowR w0 m Y 1 ab (strs B))
  (hno : yS X (A.drop (x + 1)) n (B.drop k) = none → WQ 163 w0 Q (.exit 10) [(13, .int .i64 (-1)), (12, .int .i64 (x : Int)), (11, .int .i64 (k : Int)), (10, .int .i64 (i : Int)), (9, .slice a L.length cp), (5, .slice (some ⟨bo, 0, none⟩) q q), (0, .slice aa A.length ca), (1, .slice ab B.length cb)] [] m (.row a cp 134 2 (L.map prE) :: .row (some ⟨bo, 0, none⟩) q 36 1 E :: Y))
  (hyes : ∀ p : Nat, k ≤ p → p < B.length → yS X (A.drop (x + 1)) n (B.drop k) = some (p - k) → WQ 163 w0 Q (.exit 10) [(13, .int .i64 (p : Int)), (12, .int .i64 (x : Int)), (11, .int .i64 (k : Int)), (10, .int .i64 (i : Int)), (9, .slice a L.length cp), (5, .slice (some ⟨bo, 0, none⟩) q q), (0, .slice aa A.length ca), (1, .slice ab B.length cb)] [] m (.row a cp 134 2 (L.map prE) :: .row (some ⟨bo, 0, none⟩) q 36 1 E :: Y)) :
  WC Tryz.prog none 163 w0 ((yF (Tryz.f166.body.getD .skip)).getD 5 .skip) Q [(14, .int .i64 (k : Int)), (13, .int .i64 (-1)), (12, .int .i64 (x : Int)), (11, .int .i64 (k : Int)), (10, .int .i64 (i : Int)), (9, .slice a L.length cp), (5, .slice (some ⟨bo, 0, none⟩) q q), (0, .slice aa A.length ca), (1, .slice ab B.length cb)] [] m (.row a cp 134 2 (L.map prE) :: .row (some ⟨bo, 0, none⟩) q 36 1 E :: Y) := by
 have hxi := (List.getElem?_eq_some_iff.1 hx).1
 have hgx : (strs A)[x]? = some [str X] := xM hx
 have hal : (strs A).length = A.length := by simp [strs]
 have hbl2 : (strs B).length = B.length := by simp [strs]
 have hn1 := v7 (A := A) (B := B) (i := i) (k := 0) (j := k) (by omega)
 rw [vB (Nat.zero_le _), ← hn] at hn1
 have hnl := (uZ (A.drop i) (B.drop k)).2
 rw [List.length_drop, ← hn] at hnl
 have hP0 := xV A B i 0
 have hP1 := xV A B (x + 1) 0
 have hqs : ∀ p, p + 1 ≤ B.length → (rowQ A B (x + 1) 0)[p + 1]? = some [.int .i64 (lcs (A.drop (x + 1)) (B.drop (p + 1)) : Int)] := fun p hp => by
  rw [v7 hp, vB (Nat.zero_le _)]
 clear hn
 generalize rowQ A B (x + 1) 0 = P1 at *
 generalize rowQ A B i 0 = P0 at *
 generalize L.map prE = LE at *
 have hr0' : RowR w0 m (.row a cp 134 2 LE :: .row (some ⟨bo, 0, none⟩) q 36 1 E :: Y) 1 (some ⟨bi, 0, none⟩) P0 := hr0.more.more
 have hr1' : RowR w0 m (.row a cp 134 2 LE :: .row (some ⟨bo, 0, none⟩) q 36 1 E :: Y) 1 (some ⟨b1, 0, none⟩) P1 := hr1.more.more
 have hra' : RowR w0 m (.row a cp 134 2 LE :: .row (some ⟨bo, 0, none⟩) q 36 1 E :: Y) 1 aa (strs A) := hra.more.more
 have hrb' : RowR w0 m (.row a cp 134 2 LE :: .row (some ⟨bo, 0, none⟩) q 36 1 E :: Y) 1 ab (strs B) := hrb.more.more
 have hgys : ∀ p y, B[p]? = some y → (strs B)[p]? = some [str y] := fun p y h => xM h
 generalize strs A = SA at *
 generalize strs B = SB at *
 refine WC.rSome hra' (by omega) ?_
 rintro a0 rfl
 refine lpz (fun j r ds m' H' => ∃ p, j = B.length - p ∧ r = [(14, .int .i64 (p : Int)), (13, .int .i64 (-1)), (12, .int .i64 (x : Int)), (11, .int .i64 (k : Int)), (10, .int .i64 (i : Int)), (9, .slice a L.length cp), (5, .slice (some ⟨bo, 0, none⟩) q q), (0, .slice (some a0) A.length ca), (1, .slice ab B.length cb)] ∧ ds = [] ∧ m = m' ∧ H' = .row a cp 134 2 LE :: .row (some ⟨bo, 0, none⟩) q 36 1 E :: Y ∧ (k ≤ p) ∧ (p ≤ B.length) ∧ (yS X (A.drop (x + 1)) n (B.drop k) = (yS X (A.drop (x + 1)) n (B.drop p)).map (· + (p - k)))) (B.length - (k)) ⟨k, rfl, rfl, rfl, rfl, rfl, by omega, by omega, by rw [Nat.sub_self]; cases yS X (A.drop (x + 1)) n (B.drop k) <;> rfl⟩ ?_
 rintro j r ds m' H' ⟨p, rfl, rfl, rfl, rfl, rfl, hkp, hpB, hf⟩
 by_cases hlt : p < B.length
 ·obtain ⟨y, hy⟩ : ∃ y, B[p]? = some y := ⟨_, List.getElem?_eq_getElem hlt⟩
  have hyd := xN hy
  have hgy := hgys p y hy
  have hq1 := hqs p (by omega)
  rw [hyd, zBc] at hf
  have hl1 := (uZ (A.drop (x + 1)) (B.drop (p + 1))).2
  rw [List.length_drop] at hl1
  generalize hv : lcs (A.drop (x + 1)) (B.drop (p + 1)) = v at *
  refine WC.rSome hrb' (by omega) ?_
  rintro b0 rfl
  by_cases hxy : X = y
  ·by_cases hvn : v + 1 = n
   ·rw [if_pos ⟨hxy, hvn⟩] at hf
    have hfin := hyes p hkp hlt (by rw [hf]; simp)
    have hvn' : (v : Int) + 1 = (n : Int) := by omega
    try (refine st ?_; intros)
    exact WQ.weak zsb zpk hfin
   ·rw [if_neg (fun g => hvn g.2), zAj (show 1 + (p - k) = p + 1 - k by omega)] at hf
    have hvn' : (v : Int) + 1 ≠ (n : Int) := by omega
    try (refine st ?_; intros)
    refine nxz (B.length - (p + 1)) ⟨p + 1, rfl, rfl, rfl, rfl, rfl, ?_, ?_, ?_⟩
    ·omega
    ·omega
    ·exact hf
  ·rw [if_neg (fun g => hxy g.1), zAj (show 1 + (p - k) = p + 1 - k by omega)] at hf
   try (refine st ?_; intros)
   refine nxz (B.length - (p + 1)) ⟨p + 1, rfl, rfl, rfl, rfl, rfl, ?_, ?_, ?_⟩
   ·omega
   ·omega
   ·exact hf
 ·rw [List.drop_of_length_le (by omega : B.length ≤ p), show yS X (A.drop (x + 1)) n [] = none by unfold yS; rfl] at hf
  try (refine st ?_; intros)
  exact WQ.weak zsb zpk (hno hf)
theorem zKR {A B : List Tx} {aa ab a : Option Addr} {ca cb cp i k q bi bo : Nat} {bs : List Nat} {E : List (List Value)} {L : List (Nat × Nat)} {w0 : World} {m : Mem} {Y : SHeap} {Q : Exit → Act → World → Prop} (hA : A.length ≤ 1024) (hB : B.length ≤ 1024) (hk : k ≤ B.length) (hi : i ≤ A.length) (hpos : 0 < lcs (A.drop i) (B.drop k)) (hq : A.length + 1 = q)
  (hEl : E.length = q) (hE0 : E[i]? = some [Value.slice (some ⟨bi, 0, none⟩) (B.length + 1) (B.length + 1)]) (hbs : bs.length = q) (hEg : ∀ (i b : Nat), bs[i]? = some b → E[i]? = some [Value.slice (some ⟨b, 0, none⟩) (B.length + 1) (B.length + 1)])
  (hr0 : RowR w0 m Y 1 (some ⟨bi, 0, none⟩) (rowQ A B i 0)) (hrows : ∀ (i b : Nat), bs[i]? = some b → RowR w0 m Y 1 (some ⟨b, 0, none⟩) (rowQ A B i 0)) (hra : RowR w0 m Y 1 aa (strs A)) (hrb : RowR w0 m Y 1 ab (strs B))
  (hK : ∀ x p : Nat, i ≤ x → x < A.length → k ≤ p → p < B.length → midL (A.drop i) (B.drop k) i k = (x, p) :: midL (A.drop (x + 1)) (B.drop (p + 1)) (x + 1) (p + 1) → WQ 163 w0 Q (.exit 8) [(13, .int .i64 (p : Int)), (12, .int .i64 ((x + 1 : Nat) : Int)), (11, .int .i64 (k : Int)), (10, .int .i64 (i : Int)), (9, .slice a L.length cp), (5, .slice (some ⟨bo, 0, none⟩) q q), (0, .slice aa A.length ca), (1, .slice ab B.length cb)] [] m (.row a cp 134 2 (L.map prE) :: .row (some ⟨bo, 0, none⟩) q 36 1 E :: Y)) :
  WC Tryz.prog none 163 w0 ((yF (Tryz.f166.body.getD .skip)).getD 4 .skip) Q [(13, .int .i64 (-1)), (12, .int .i64 (i : Int)), (11, .int .i64 (k : Int)), (10, .int .i64 (i : Int)), (9, .slice a L.length cp), (5, .slice (some ⟨bo, 0, none⟩) q q), (0, .slice aa A.length ca), (1, .slice ab B.length cb)] [] m (.row a cp 134 2 (L.map prE) :: .row (some ⟨bo, 0, none⟩) q 36 1 E :: Y) := by
 refine lpz (fun j r ds m' H' => ∃ (x : Nat) (y : Int), j = (A.length + 1 - x) ∧ r = [(13, .int .i64 y), (12, .int .i64 (x : Int)), (11, .int .i64 (k : Int)), (10, .int .i64 (i : Int)), (9, .slice a L.length cp), (5, .slice (some ⟨bo, 0, none⟩) q q), (0, .slice aa A.length ca), (1, .slice ab B.length cb)] ∧ ds = [] ∧ m = m' ∧ H' = .row a cp 134 2 (L.map prE) :: .row (some ⟨bo, 0, none⟩) q 36 1 E :: Y ∧ (i ≤ x) ∧ ((y = -1 ∧ lcs (A.drop x) (B.drop k) = lcs (A.drop i) (B.drop k) ∧ midL (A.drop i) (B.drop k) i k = midL (A.drop x) (B.drop k) x k) ∨ (∃ p x' : Nat, y = (p : Int) ∧ x = x' + 1 ∧ i ≤ x' ∧ x' < A.length ∧ k ≤ p ∧ p < B.length ∧ midL (A.drop i) (B.drop k) i k = (x', p) :: midL (A.drop (x' + 1)) (B.drop (p + 1)) (x' + 1) (p + 1)))) ((A.length + 1 - (i))) ⟨i, -1, rfl, rfl, rfl, rfl, rfl, by omega, .inl ⟨by omega, rfl, rfl⟩⟩ ?_
 rintro j r ds m' H' ⟨x, y, rfl, rfl, rfl, rfl, rfl, hix, hy⟩
 rcases hy with ⟨rfl, hl, hm⟩ | ⟨p, x', rfl, rfl, hix', hx', hkp, hpB, hm⟩
 ·have hxA : x < A.length := by
   rcases Nat.lt_or_ge x A.length with h | h
   ·exact h
   ·rw [List.drop_of_length_le h, wO] at hl; omega
  obtain ⟨X, hX⟩ : ∃ X, A[x]? = some X := ⟨_, List.getElem?_eq_getElem hxA⟩
  obtain ⟨b1, hb1⟩ : ∃ b, bs[x + 1]? = some b := ⟨_, List.getElem?_eq_getElem (by omega : x + 1 < bs.length)⟩
  have hstep := hm
  rw [xN hX, midL, ← xN hX] at hstep
  have hnone := zBo (x := X) (xs := A.drop (x + 1)) (bs := B.drop k)
  rw [← xN hX, hl] at hnone
  rw [hl] at hstep
  try (refine st ?_; intros)
  refine WC.weak zsb zpk (zKH (L := L) (a := a) (cp := cp) (k := k) (i := i) (x := x) (ca := ca) (cb := cb) (bo := bo) hA hB hX hk hi rfl hq hEl hE0 (hEg (x + 1) b1 hb1) hr0 (hrows (x + 1) b1 hb1) hra hrb ?_ ?_)
  ·intro hno
   rw [hno] at hstep
   have h2 := hnone hno
   try (refine st ?_; intros)
   refine nxz ((A.length + 1 - (x + 1))) ⟨x + 1, -1, rfl, rfl, rfl, rfl, rfl, ?_, ?_⟩
   ·omega
   ·exact .inl ⟨rfl, h2.symm, hstep⟩
  ·intro p hkp hpB hyes
   rw [hyes] at hstep
   simp only [List.drop_drop] at hstep
   rw [show k + (p - k) = p by omega, show k + (p - k + 1) = p + 1 by omega] at hstep
   try (refine st ?_; intros)
   refine nxz ((A.length + 1 - (x + 1))) ⟨x + 1, (p : Int), rfl, rfl, rfl, rfl, rfl, ?_, ?_⟩
   ·omega
   ·exact .inr ⟨p, x, rfl, rfl, hix, hxA, hkp, hpB, hstep⟩
 ·have hfin := hK x' p hix' hx' hkp hpB hm
  try (refine st ?_; intros)
  exact WQ.weak zsb zpk hfin
end ZP
namespace ZP
open Go Go.Eng
attribute [local irreducible] WL WC WQ QFun zJ Does Q1 zD zB Go.Addr.add
attribute [local irreducible] midL yS rowQ outE tabL strs
namespace ZD27a
theorem zal {G G' : Prop} (next : G') (h : Bx G' → G := by intro zzn; (first | (refine WL.makeRow (sz:=1) (by':=8) (zs:=[.int .i64 0]) rfl rfl (by exact znz) (by exact znz) rfl rfl rfl rfl rfl rfl (by decide) (by omega) (by omega) rfl ?_; intro zzf) | (refine WL.makeRow (sz:=1) (by':=24) (zs:=[.slice none 0 0]) rfl rfl (by exact znz) (by exact znz) rfl rfl rfl rfl rfl rfl (by decide) (by omega) (by omega) rfl ?_; intro zzf)); (repeat revert zzf); exact zzn.out) : G := h ⟨next⟩
end ZD27a
open ZD27a in
theorem zED {A B : List Tx} {aa ab : Option Addr} {ca cb : Nat} {w0 : World} {m : Mem} {H : SHeap} (hA : A.length ≤ 1024) (hB : B.length ≤ 1024) (ha : RowR w0 m H 1 aa (strs A)) (hb : RowR w0 m H 1 ab (strs B)) :
  Does Tryz.prog 166 #[.slice aa A.length ca, .slice ab B.length cb] w0 m H (fun v m' H' => m' = m ∧ ∃ a cp, v = .slice a (midL A B 0 0).length cp ∧ H' = .row a cp 134 2 ((midL A B 0 0).map prE) :: H) := by
 refine Does.of_body func166 rfl ntmps166 rfl ?_
 have hcA : (A.length : Int) + 1 = ((A.length + 1 : Nat) : Int) := by omega
 have hcB : (B.length : Int) + 1 = ((B.length + 1 : Nat) : Int) := by omega
 refine stg ?_; intros; rename_i bo
 generalize hN : A.length + 1 = N at *
 rw [show List.replicate N [Value.slice none 0 0] = outE [] (B.length + 1) N by unfold outE; rfl]
 refine WC.heap (H' := .row (some ⟨bo, 0, none⟩) N 36 1 (outE [] (B.length + 1) N) :: (tabL 3 (B.length + 1) (fun _ => List.replicate (B.length + 1) [.int .i64 0]) [] ++ H)) (fun w h => by unfold tabL; exact h) ?_
 refine lpz (fun j r ds m' H' => ∃ (q : _) (bs : List Nat), j = N - q ∧ r = [(21, .int .i64 (q : Int)), (20, .int .i64 (N : Int)), (5, .slice (some ⟨bo, 0, none⟩) N N), (0, .slice aa A.length ca), (1, .slice ab B.length cb)] ∧ ds = [] ∧ m = m' ∧ H' = .row (some ⟨bo, 0, none⟩) N 36 1 (outE bs (B.length + 1) N) :: (tabL 3 (B.length + 1) (fun _ => List.replicate (B.length + 1) [.int .i64 0]) bs ++ H) ∧ (bs.length = q) ∧ (q ≤ N)) (N - (0)) ⟨0, [], rfl, rfl, rfl, rfl, rfl, rfl, by omega⟩ ?_
 rintro j r ds m' H' ⟨q, bs, rfl, rfl, rfl, rfl, rfl, hbl, hjN⟩
 by_cases hlt : q < N
 ·have hol : (outE bs (B.length + 1) N).length = N := qN (by omega)
  have hset : ∀ b, (outE bs (B.length + 1) N).set q [.slice (some ⟨b, 0, none⟩) (B.length + 1) (B.length + 1)] = outE (bs ++ [b]) (B.length + 1) N := fun b => by rw [← hbl]; exact zFY (by omega)
  generalize hOE : outE bs (B.length + 1) N = OE at *
  refine stg ?_; intros; rename_i bn
  rw [hset]
  refine WQ.heapX (H' := .row (some ⟨bo, 0, none⟩) N 36 1 (outE (bs ++ [bn]) (B.length + 1) N) :: (tabL 3 (B.length + 1) (fun _ => List.replicate (B.length + 1) [.int .i64 0]) (bs ++ [bn]) ++ H)) (fun w h => h.perm ?_) ?_
  ·rw [zEq]
   exact (List.Perm.swap _ _ _).trans (List.Perm.cons _ ((List.perm_append_singleton _ _).symm.append_right H))
  ·refine nxz (N - (q + 1)) ⟨q + 1, bs ++ [bn], rfl, rfl, rfl, rfl, rfl, ?_, ?_⟩
   ·rw [List.length_append, List.length_singleton]; omega
   ·omega
 ·obtain rfl : q = N := by omega
  rw [zAp (G := fun i => rowQ A B i (if i < A.length then B.length else 0)) (fun i hi => by
   split
   ·exact (zEi (.inl (Nat.le_refl _))).symm
   ·exact (zEi (.inr (by omega))).symm)]
  obtain ⟨E, hE⟩ : ∃ E, E = outE bs (B.length + 1) q := ⟨_, rfl⟩
  have hEl : E.length = q := by rw [hE]; exact qN (by omega)
  have hEg : ∀ i b, bs[i]? = some b → E[i]? = some [Value.slice (some ⟨b, 0, none⟩) (B.length + 1) (B.length + 1)] := fun i b h => by rw [hE]; exact zFn h
  rw [← hE]
  clear hE
  try (refine stg ?_; intros)
  refine lpz (fun j r ds m' H' => ∃ i, j = 2 * i ∧ r = [(7, .int .i64 ((i : Int) - 1)), (5, .slice (some ⟨bo, 0, none⟩) q q), (0, .slice aa A.length ca), (1, .slice ab B.length cb)] ∧ ds = [] ∧ m = m' ∧ H' = .row (some ⟨bo, 0, none⟩) q 36 1 E :: (tabL 3 (B.length + 1) (fun k => rowQ A B k (if k < i then B.length else 0)) bs ++ H) ∧ (i ≤ A.length)) (2 * (A.length)) ⟨A.length, rfl, rfl, rfl, rfl, rfl, by omega⟩ ?_
  rintro j r ds m' H' ⟨i, rfl, rfl, rfl, rfl, rfl, hi⟩
  by_cases hz : i = 0
  ·subst hz
   clear hi
   have hrows : ∀ i b, bs[i]? = some b → RowR w0 m (tabL 3 (B.length + 1) (fun k => rowQ A B k (if k < 0 then B.length else 0)) bs ++ H) 1 (some ⟨b, 0, none⟩) (rowQ A B i 0) := fun i b h => RowR.row (List.mem_append.2 (.inl (zDi h)))
   have hra : RowR w0 m (tabL 3 (B.length + 1) (fun k => rowQ A B k (if k < 0 then B.length else 0)) bs ++ H) 1 aa (strs A) := ha.weak (fun w h => xR h)
   have hrb : RowR w0 m (tabL 3 (B.length + 1) (fun k => rowQ A B k (if k < 0 then B.length else 0)) bs ++ H) 1 ab (strs B) := hb.weak (fun w h => xR h)
   have hdrop : ∀ w i, Sat w0 m (i :: .row (some ⟨bo, 0, none⟩) q 36 1 E :: (tabL 3 (B.length + 1) (fun k => rowQ A B k (if k < 0 then B.length else 0)) bs ++ H)) w → Sat w0 m (i :: H) w := fun w i h => by
    have h2 := h.perm ((List.Perm.swap _ _ _).trans (List.Perm.cons _ (List.perm_middle (a := i)).symm))
    exact xR h2.drop
   generalize tabL 3 (B.length + 1) (fun k => rowQ A B k (if k < 0 then B.length else 0)) bs ++ H = Y at hrows hra hrb hdrop ⊢
   clear ha hb
   refine WC.newRow (T := 134) (sz := 2) ?_
   try (refine stg ?_; intros)
   refine lpz (fun j r ds m' H' => ∃ (i : Nat) (k : Nat) (a : Option Addr) (cp : Nat) (L : List (Nat × Nat)), j = A.length - i ∧ r = [(11, .int .i64 (k : Int)), (10, .int .i64 (i : Int)), (9, .slice a L.length cp), (5, .slice (some ⟨bo, 0, none⟩) q q), (0, .slice aa A.length ca), (1, .slice ab B.length cb)] ∧ ds = [] ∧ m = m' ∧ H' = .row a cp 134 2 (L.map prE) :: .row (some ⟨bo, 0, none⟩) q 36 1 E :: Y ∧ (i ≤ A.length) ∧ (k ≤ B.length) ∧ (L.length ≤ i) ∧ (L ++ midL (A.drop i) (B.drop k) i k = midL A B 0 0)) (A.length - (0)) ⟨0, 0, none, 0, [], rfl, rfl, rfl, rfl, rfl, by omega, by omega, by simp, by simp⟩ ?_
   rintro j r ds m' H' ⟨i, k, a, cp, L, rfl, rfl, rfl, rfl, rfl, hi, hk, hLl, hL⟩
   obtain ⟨bi, hbi⟩ : ∃ b, bs[i]? = some b := ⟨_, List.getElem?_eq_getElem (by omega : i < bs.length)⟩
   have hE0 := hEg i bi hbi
   have hr0 := hrows i bi hbi
   have hr0' : RowR w0 m (.row a cp 134 2 (L.map prE) :: .row (some ⟨bo, 0, none⟩) q 36 1 E :: Y) 1 (some ⟨bi, 0, none⟩) (rowQ A B i 0) := hr0.more.more
   have hg0 := v7 (A := A) (B := B) (i := i) (k := 0) (j := k) (by omega)
   rw [vB (Nat.zero_le _)] at hg0
   have hP0 := xV A B i 0
   by_cases hz : lcs (A.drop i) (B.drop k) = 0
   ·rw [zEm hz, List.append_nil] at hL
    subst hL
    rw [hz] at hg0
    try (refine stg ?_; intros)
    exact zR (H0 := .row a cp 134 2 ((midL A B 0 0).map prE) :: H) ⟨rfl, a, cp, rfl, rfl⟩ (hd := fun w h => hdrop w _ h)
   ·have hzl := (uZ (A.drop i) (B.drop k)).1
    rw [List.length_drop] at hzl
    have hpos : (0 : Int) < (lcs (A.drop i) (B.drop k) : Int) := by omega
    try (refine stg ?_; intros)
    refine WC.weak zsb zpk (zKR (L := L) (a := a) (cp := cp) (k := k) (i := i) (ca := ca) (cb := cb) (bo := bo) (bs := bs) hA hB hk hi (by omega) hN hEl hE0 (by omega) hEg hr0 hrows hra hrb ?_)
    intro x p hix hxA hkp hpB hmid
    rw [hmid] at hL
    have hLm : (L.map prE).length = L.length := List.length_map _
    have hsn : L.map prE ++ [[Value.int .i64 (x : Int), .int .i64 (p : Int)]] = (L ++ [(x, p)]).map prE := by simp [prE]
    generalize L.map prE = LE at *
    refine stg ?_; intros; rename_i b9 a2 cp2
    rw [show ((x + 1 : Nat) : Int) - 1 = (x : Int) by omega, hsn, hLm, show (p : Int) + 1 = ((p + 1 : Nat) : Int) by omega, show L.length + 1 = (L ++ [(x, p)]).length by simp]
    refine nxz (A.length - (x + 1)) ⟨x + 1, p + 1, a2, cp2, L ++ [(x, p)], rfl, rfl, rfl, rfl, rfl, ?_, ?_, ?_, ?_⟩
    ·omega
    ·omega
    ·rw [List.length_append, List.length_singleton]; omega
    ·rw [List.append_assoc, List.singleton_append]; exact hL
  ·obtain ⟨i', rfl⟩ : ∃ i', i = i' + 1 := ⟨i - 1, by omega⟩
   obtain ⟨x, hx⟩ : ∃ x, A[i']? = some x := ⟨_, List.getElem?_eq_getElem (by omega : i' < A.length)⟩
   obtain ⟨bi, hbi⟩ : ∃ b, bs[i']? = some b := ⟨_, List.getElem?_eq_getElem (by omega : i' < bs.length)⟩
   obtain ⟨b1, hb1⟩ : ∃ b, bs[i' + 1]? = some b := ⟨_, List.getElem?_eq_getElem (by omega : i' + 1 < bs.length)⟩
   obtain ⟨X, p1, p2, pX⟩ := zF1 (T := 3) (c := B.length + 1) (F := fun k => rowQ A B k (if k < i' + 1 then B.length else 0)) (G := fun k => rowQ A B k (if k < i' then B.length else 0)) hbi (fun k hk => by
    show rowQ A B k _ = rowQ A B k _
    congr 1
    split <;> split <;> omega)
   have pX1 := pX (i' + 1) b1 (by omega) hb1
   simp only [if_neg (Nat.lt_irrefl _), if_pos (Nat.lt_succ_self _)] at p1 p2 pX1
   rw [show ((i' + 1 : Nat) : Int) - 1 = (i' : Int) by omega]
   have hE0 := hEg i' bi hbi
   have hE1 := hEg (i' + 1) b1 hb1
   refine WC.heap (H' := .row (some ⟨bi, 0, none⟩) (B.length + 1) 3 1 (rowQ A B i' B.length) :: .row (some ⟨bo, 0, none⟩) q 36 1 E :: (X ++ H)) (fun w h => h.perm ((List.Perm.cons _ (p1.append_right H)).trans (List.Perm.swap _ _ _))) ?_
   have hback : ∀ w, Sat w0 m (.row (some ⟨bi, 0, none⟩) (B.length + 1) 3 1 (rowQ A B i' 0) :: .row (some ⟨bo, 0, none⟩) q 36 1 E :: (X ++ H)) w → Sat w0 m (.row (some ⟨bo, 0, none⟩) q 36 1 E :: (tabL 3 (B.length + 1) (fun k => rowQ A B k (if k < i' then B.length else 0)) bs ++ H)) w :=
    fun w h => h.perm ((List.Perm.swap _ _ _).trans (List.Perm.cons _ (p2.append_right H).symm))
   have hr1 : RowR w0 m (X ++ H) 1 (some ⟨b1, 0, none⟩) (rowQ A B (i' + 1) 0) := RowR.row (List.mem_append.2 (.inl pX1))
   have hra : RowR w0 m (X ++ H) 1 aa (strs A) := ha.weak (fun w h => xR h)
   have hrb : RowR w0 m (X ++ H) 1 ab (strs B) := hb.weak (fun w h => xR h)
   clear pX pX1 p1 p2 hEg ha hb
   generalize X ++ H = Y at hback hr1 hra hrb ⊢
   try (refine stg ?_; intros)
   refine WC.weak zsb zpk (zJI (by omega) (by omega) hx hN hEl hE0 hE1 hr1 hra hrb ?_)
   try (refine stg ?_; intros)
   refine WQ.heapX hback ?_
   refine nxz (2 * (i')) ⟨i', rfl, rfl, rfl, rfl, rfl, ?_⟩
   ·omega
end ZP
namespace Go.Eng
open Go Go.RowKit
theorem zAy : ∀ (a b : List Tx) (i k x y : Nat), midL a b (x + i) (y + k) = (midL a b i k).map fun p => (x + p.1, y + p.2)
 | [], b, i, k, x, y => by simp [midL]
 | u :: us, b, i, k, x, y => by
  rw [midL, midL]
  cases yS u us (lcs (u :: us) b) b with
  | none =>
   have := zAy us b (i + 1) k x y
   simpa only [Nat.add_assoc] using this
  | some j =>
   have := zAy us (b.drop (j + 1)) (i + 1) (k + j + 1) x y
   simp only [Nat.add_assoc] at this
   simp only [List.map_cons, Nat.add_assoc]
   rw [this]
theorem PrOk.mem {a b : List Tx} : ∀ {l : List (Nat × Nat)} {i k n m : Nat}, PrOk a b i k l n m → ∀ p ∈ l, p.1 < n ∧ p.2 < m
 | [], _, _, _, _, _, p, hp => by cases hp
 | q :: l, i, k, n, m, ⟨_, _, h3, h4, _, h6⟩, p, hp => by
  rcases List.mem_cons.1 hp with rfl | hp
  ·exact ⟨h3, h4⟩
  ·exact PrOk.mem h6 p hp
def tailP (a b t : Nat) : List (Nat × Nat) := (List.range t).map fun i => (a - 1 - i, b - 1 - i)
theorem zAO (a b t : Nat) : (tailP a b t).length = t := by simp [tailP]
theorem zGJ (a b t : Nat) : tailP a b (t + 1) = tailP a b t ++ [(a - 1 - t, b - 1 - t)] := by
 unfold tailP; rw [List.range_succ, List.map_append]; rfl
theorem zHA {a b t i : Nat} (h : i < t) : (tailP a b t)[i]? = some (a - 1 - i, b - 1 - i) := by
 unfold tailP; rw [List.getElem?_map, List.getElem?_range h]; rfl
end Go.Eng
namespace ZP
open Go Go.Eng
attribute [local irreducible] WL WC WQ QFun zJ Does Q1 zD zB Go.Addr.add
attribute [local irreducible] midL strs yA mid yI tailP
theorem zJ4 {A B : List Tx} {aa ab : Option Addr} {ca cb : Nat} {w0 : World} {m : Mem} {H : SHeap} {Q : Exit → Act → World → Prop} (hA : A.length ≤ 4194304) (hB : B.length ≤ 4194304) (ha : RowR w0 m H 1 aa (strs A)) (hb : RowR w0 m H 1 ab (strs B))
  (hK : ∀ a cp, WQ 138 w0 Q (.exit 0) [(10, .int .i64 (yA A B : Int)), (9, .int .i64 (yA A B : Int)), (8, .slice none 0 0), (7, .slice a (yA A B) cp), (5, .slice aa A.length ca), (6, .slice ab B.length cb)] [] m (.row a cp 134 2 ((yI 0 0 (yA A B)).map prE) :: H)) :
  WC Tryz.prog none 138 w0 ((yF (Tryz.f120.body.getD .skip)).getD 0 .skip) Q [(10, .int .i64 0), (9, .int .i64 0), (8, .slice none 0 0), (7, .slice none 0 0), (5, .slice aa A.length ca), (6, .slice ab B.length cb)] [] m H := by
 have hal : (strs A).length = A.length := by simp [strs]
 have hbl : (strs B).length = B.length := by simp [strs]
 refine WC.newRow (T := 134) (sz := 2) ?_
 rw [show ([] : List (List Value)) = (yI 0 0 0).map prE from by unfold yI; rfl]
 refine lpz (fun j r ds m' H' => ∃ (h : Nat) (a : Option Addr) (cp : Nat), j = A.length - h ∧ r = [(10, .int .i64 (h : Int)), (9, .int .i64 (h : Int)), (8, .slice none 0 0), (7, .slice a h cp), (5, .slice aa A.length ca), (6, .slice ab B.length cb)] ∧ ds = [] ∧ m = m' ∧ H' = .row a cp 134 2 ((yI 0 0 h).map prE) :: H ∧ (h ≤ A.length ∧ h ≤ B.length) ∧ (yA A B = h + yA (A.drop h) (B.drop h))) (A.length - (0)) ⟨0, none, 0, rfl, rfl, rfl, rfl, rfl, ⟨by omega, by omega⟩, by simp⟩ ?_
 rintro j r ds m' H' ⟨h, a, cp, rfl, rfl, rfl, rfl, rfl, hh, hN⟩
 by_cases hlt : h < A.length ∧ h < B.length
 ·obtain ⟨hlA, hlB⟩ := hlt
  obtain ⟨x, hx⟩ : ∃ x, A[h]? = some x := ⟨_, List.getElem?_eq_getElem hlA⟩
  obtain ⟨y, hy⟩ : ∃ y, B[h]? = some y := ⟨_, List.getElem?_eq_getElem hlB⟩
  have hgx := xM hx
  have hgy := xM hy
  have hst := jP hx hy
  have hdl : ((yI 0 0 h).map prE).length = h := by rw [List.length_map, yX]
  have hds : (yI 0 0 (h + 1)).map prE = (yI 0 0 h).map prE ++ [[.int .i64 (h : Int), .int .i64 (h : Int)]] := by rw [jY, List.map_append]; simp [prE]
  generalize hLE : (yI 0 0 h).map prE = LE at *
  have ha' : RowR w0 m (.row a cp 134 2 LE :: H) 1 aa (strs A) := ha.more
  have hb' : RowR w0 m (.row a cp 134 2 LE :: H) 1 ab (strs B) := hb.more
  generalize hSA : strs A = SA at *
  generalize hSB : strs B = SB at *
  refine WC.rSome ha' (by omega) ?_
  rintro a0 rfl
  refine WC.rSome hb' (by omega) ?_
  rintro b0 rfl
  by_cases hxy : x = y
  ·rw [if_pos hxy] at hst
   refine st ?_; intros; rename_i b9 a2 cp2
   rw [hdl, ← hds]
   refine nxz (A.length - (h + 1)) ⟨h + 1, a2, cp2, rfl, rfl, rfl, rfl, rfl, ?_, ?_⟩
   ·exact ⟨by omega, by omega⟩
   ·omega
  ·rw [if_neg hxy] at hst
   rw [show yA A B = h by omega, hLE] at hK
   have hfin := hK a cp
   try (refine st ?_; intros)
   exact WQ.weak zsb zpk hfin
 ·have hst := zAg (A := A) (B := B) (h := h) (by omega)
  have hl2 : ¬ h < A.length ∨ h < A.length ∧ ¬ h < B.length := by omega
  rw [show yA A B = h by omega] at hK
  have hfin := hK a cp
  rcases hl2 with hl2 | ⟨hl2, hl3⟩
  ·try (refine st ?_; intros)
   exact WQ.weak zsb zpk hfin
  ·try (refine st ?_; intros)
   exact WQ.weak zsb zpk hfin
theorem zKn {A B : List Tx} {aa ab oa : Option Addr} {ca cb oc h : Nat} {w0 : World} {m : Mem} {H : SHeap} {Q : Exit → Act → World → Prop} (hA : A.length ≤ 4194304) (hB : B.length ≤ 4194304) (hh : h ≤ A.length ∧ h ≤ B.length) (ha : RowR w0 m H 1 aa (strs A)) (hb : RowR w0 m H 1 ab (strs B))
  (hK : ∀ t n q a cp, t = yA ((A.drop h).reverse) ((B.drop h).reverse) → n + t = A.length → q + t = B.length → WQ 138 w0 Q (.exit 2) [(12, .int .i64 (q : Int)), (11, .int .i64 (n : Int)), (10, .int .i64 (h : Int)), (9, .int .i64 (h : Int)), (8, .slice a t cp), (7, .slice oa h oc), (5, .slice aa A.length ca), (6, .slice ab B.length cb)] [] m (.row a cp 134 2 ((tailP A.length B.length t).map prE) :: H)) :
  WC Tryz.prog none 138 w0 ((yF (Tryz.f120.body.getD .skip)).getD 1 .skip) Q [(12, .int .i64 (B.length : Int)), (11, .int .i64 (A.length : Int)), (10, .int .i64 (h : Int)), (9, .int .i64 (h : Int)), (8, .slice none 0 0), (7, .slice oa h oc), (5, .slice aa A.length ca), (6, .slice ab B.length cb)] [] m H := by
 have hal : (strs A).length = A.length := by simp [strs]
 have hbl : (strs B).length = B.length := by simp [strs]
 obtain ⟨RA, hRA⟩ : ∃ RA, RA = (A.drop h).reverse := ⟨_, rfl⟩
 obtain ⟨RB, hRB⟩ : ∃ RB, RB = (B.drop h).reverse := ⟨_, rfl⟩
 have hRAl : RA.length = A.length - h := by rw [hRA]; simp
 have hRBl : RB.length = B.length - h := by rw [hRB]; simp
 have hga : ∀ t n x, n + t = A.length → h < n → RA[t]? = some x → (strs A)[n - 1]? = some [str x] := fun t n x hn ht hx => by
  rw [hRA, zCQ (by omega)] at hx
  rw [show n - 1 = A.length - 1 - t by omega]
  exact xM hx
 have hgb : ∀ t n x, n + t = B.length → h < n → RB[t]? = some x → (strs B)[n - 1]? = some [str x] := fun t n x hn ht hx => by
  rw [hRB, zCQ (by omega)] at hx
  rw [show n - 1 = B.length - 1 - t by omega]
  exact xM hx
 rw [← hRA, ← hRB] at hK
 clear hRA hRB
 refine WC.newRow (T := 134) (sz := 2) ?_
 rw [show ([] : List (List Value)) = (tailP A.length B.length 0).map prE from by unfold tailP; rfl]
 refine lpz (fun j r ds m' H' => ∃ (t : Nat) (n : Nat) (q : Nat) (a : Option Addr) (cp : Nat), j = 2 * n ∧ r = [(12, .int .i64 (q : Int)), (11, .int .i64 (n : Int)), (10, .int .i64 (h : Int)), (9, .int .i64 (h : Int)), (8, .slice a t cp), (7, .slice oa h oc), (5, .slice aa A.length ca), (6, .slice ab B.length cb)] ∧ ds = [] ∧ m = m' ∧ H' = .row a cp 134 2 ((tailP A.length B.length t).map prE) :: H ∧ (n + t = A.length) ∧ (q + t = B.length) ∧ (h ≤ n ∧ h ≤ q) ∧ (yA RA RB = t + yA (RA.drop t) (RB.drop t))) (2 * (A.length)) ⟨0, A.length, B.length, none, 0, rfl, rfl, rfl, rfl, rfl, by omega, by omega, ⟨by omega, by omega⟩, by simp⟩ ?_
 rintro j r ds m' H' ⟨t, n, q, a, cp, rfl, rfl, rfl, rfl, rfl, hn, hq, hhn, hN⟩
 by_cases hlt : h < n ∧ h < q
 ·obtain ⟨hlA, hlB⟩ := hlt
  obtain ⟨x, hx⟩ : ∃ x, RA[t]? = some x := ⟨_, List.getElem?_eq_getElem (by omega)⟩
  obtain ⟨y, hy⟩ : ∃ y, RB[t]? = some y := ⟨_, List.getElem?_eq_getElem (by omega)⟩
  have hgx := hga t n x hn hlA hx
  have hgy := hgb t q y hq hlB hy
  have hst := jP hx hy
  have hdl : ((tailP A.length B.length t).map prE).length = t := by rw [List.length_map, zAO]
  have hds : (tailP A.length B.length (t + 1)).map prE = (tailP A.length B.length t).map prE ++ [[.int .i64 ((n : Int) - 1), .int .i64 ((q : Int) - 1)]] := by
   rw [zGJ, List.map_append]
   simp only [List.map_cons, List.map_nil, prE]
   rw [show ((A.length - 1 - t : Nat) : Int) = (n : Int) - 1 by omega, show ((B.length - 1 - t : Nat) : Int) = (q : Int) - 1 by omega]
  clear hga hgb
  generalize hLE : (tailP A.length B.length t).map prE = LE at *
  have ha' : RowR w0 m (.row a cp 134 2 LE :: H) 1 aa (strs A) := ha.more
  have hb' : RowR w0 m (.row a cp 134 2 LE :: H) 1 ab (strs B) := hb.more
  generalize hSA : strs A = SA at *
  generalize hSB : strs B = SB at *
  refine WC.rSome ha' (by omega) ?_
  rintro a0 rfl
  refine WC.rSome hb' (by omega) ?_
  rintro b0 rfl
  by_cases hxy : x = y
  ·rw [if_pos hxy] at hst
   refine st ?_; intros; rename_i b9 a2 cp2
   rw [hdl, ← hds, show (n : Int) - 1 = ((n - 1 : Nat) : Int) by omega, show (q : Int) - 1 = ((q - 1 : Nat) : Int) by omega]
   refine nxz (2 * (n - 1)) ⟨t + 1, n - 1, q - 1, a2, cp2, rfl, rfl, rfl, rfl, rfl, ?_, ?_, ?_, ?_⟩
   ·omega
   ·omega
   ·exact ⟨by omega, by omega⟩
   ·omega
  ·rw [if_neg hxy] at hst
   have hfin := hK t n q a cp (by omega) hn hq
   rw [hLE] at hfin
   try (refine st ?_; intros)
   exact WQ.weak zsb zpk hfin
 ·have hst := zAg (A := RA) (B := RB) (h := t) (by omega)
  have hl2 : ¬ h < n ∨ h < n ∧ ¬ h < q := by omega
  have hfin := hK t n q a cp (by omega) hn hq
  rcases hl2 with hl2 | ⟨hl2, hl3⟩
  ·try (refine st ?_; intros)
   exact WQ.weak zsb zpk hfin
  ·try (refine st ?_; intros)
   exact WQ.weak zsb zpk hfin
namespace ZD28a
theorem zal {G G' : Prop} (next : G') (h : Bx G' → G := by intro zzn; (first | (refine WL.indexAddrA rfl rfl (by exact znz) rfl rfl (by omega) rfl rfl ?_)); (repeat revert zzf); exact zzn.out) : G := h ⟨next⟩
end ZD28a
open ZD28a in
theorem zKS {P M : List (Nat × Nat)} {va vb vc : Value} {ma oa : Option Addr} {mc oc h n q : Nat} {w0 : World} {m : Mem} {H : SHeap} {Q : Exit → Act → World → Prop} (hP : P.length ≤ 4194304) (hM : M.length ≤ 1024) (hh : h ≤ 4194304) (hMb : ∀ p ∈ M, p.1 ≤ 4194304 ∧ p.2 ≤ 4194304)
  (hK : ∀ a cp, WQ 138 w0 Q (.exit 4) [(12, .int .i64 (q : Int)), (11, .int .i64 (n : Int)), (10, .int .i64 (h : Int)), (9, .int .i64 (h : Int)), (8, vc), (7, .slice a (P ++ M.map fun p => (h + p.1, h + p.2)).length cp), (5, va), (6, vb)] [] m (.row a cp 134 2 ((P ++ M.map fun p => (h + p.1, h + p.2)).map prE) :: H)) :
  WC Tryz.prog none 138 w0 ((yF (Tryz.f120.body.getD .skip)).getD 2 .skip) Q [(106, .int .i64 0), (105, .int .i64 (M.length : Int)), (104, .slice ma M.length mc), (12, .int .i64 (q : Int)), (11, .int .i64 (n : Int)), (10, .int .i64 (h : Int)), (9, .int .i64 (h : Int)), (8, vc), (7, .slice oa P.length oc), (5, va), (6, vb)] [] m (.row oa oc 134 2 (P.map prE) :: .row ma mc 134 2 (M.map prE) :: H) := by
 have hml : (M.map prE).length = M.length := List.length_map _
 refine lpz (fun j r ds m' H' => ∃ (i : Nat) (a : Option Addr) (cp : Nat) (O : List (Nat × Nat)), j = M.length - i ∧ r = [(106, .int .i64 (i : Int)), (105, .int .i64 (M.length : Int)), (104, .slice ma M.length mc), (12, .int .i64 (q : Int)), (11, .int .i64 (n : Int)), (10, .int .i64 (h : Int)), (9, .int .i64 (h : Int)), (8, vc), (7, .slice a O.length cp), (5, va), (6, vb)] ∧ ds = [] ∧ m = m' ∧ H' = .row a cp 134 2 (O.map prE) :: .row ma mc 134 2 (M.map prE) :: H ∧ (i ≤ M.length) ∧ (O = P ++ (M.take i).map (fun p => (h + p.1, h + p.2)))) (M.length - (0)) ⟨0, oa, oc, P, rfl, rfl, rfl, rfl, rfl, by omega, by simp⟩ ?_
 rintro j r ds m' H' ⟨i, a, cp, O, rfl, rfl, rfl, rfl, rfl, hi, hO⟩
 have hOl : O.length = P.length + i := by rw [hO, List.length_append, List.length_map, List.length_take]; omega
 by_cases hlt : i < M.length
 ·obtain ⟨p, hp⟩ : ∃ p, M[i]? = some p := ⟨_, List.getElem?_eq_getElem hlt⟩
  have hpb := hMb p (List.mem_of_getElem? hp)
  have hgp : (M.map prE)[i]? = some [.int .i64 (p.1 : Int), .int .i64 (p.2 : Int)] := by rw [List.getElem?_map, hp]; rfl
  have hsn : O ++ [(h + p.1, h + p.2)] = P ++ (M.take (i + 1)).map (fun p => (h + p.1, h + p.2)) := by rw [hO, List.take_succ, hp]; simp
  have hse : O.map prE ++ [[Value.int .i64 ((p.1 : Int) + (h : Int)), .int .i64 ((p.2 : Int) + (h : Int))]] = (O ++ [(h + p.1, h + p.2)]).map prE := by
   rw [List.map_append]
   simp only [List.map_cons, List.map_nil, prE]
   rw [show ((h + p.1 : Nat) : Int) = (p.1 : Int) + (h : Int) by omega, show ((h + p.2 : Nat) : Int) = (p.2 : Int) + (h : Int) by omega]
  have hol : (O.map prE).length = O.length := List.length_map _
  have hln : O.length + 1 = (O ++ [(h + p.1, h + p.2)]).length := by simp
  generalize M.map prE = ME at *
  generalize O.map prE = OE at *
  refine WC.rowSome (a := ma) (es := ME) zhs (by omega) ?_
  rintro a0 rfl
  refine stg ?_; intros; rename_i bp b9 a2 cp2
  rw [hol, hse, hln]
  refine nxz (M.length - (i + 1)) ⟨i + 1, a2, cp2, O ++ [(h + p.1, h + p.2)], rfl, rfl, rfl, rfl, rfl, ?_, ?_⟩
  ·omega
  ·exact hsn
 ·rw [List.take_of_length_le (by omega)] at hO
  subst hO
  have hfin := hK a cp
  try (refine stg ?_; intros)
  exact WQ.weak zsb zpk hfin
open ZD28a in
theorem zIo {P : List (Nat × Nat)} {ta oa : Option Addr} {x y tc oc t : Nat} {w0 : World} {m : Mem} {H : SHeap} {Q : Exit → Act → World → Prop} (hP : P.length ≤ 4194304) (ht : t ≤ 4194304) (hx : t ≤ x) (hy : t ≤ y)
  (hK : ∀ a cp, WQ 138 w0 Q (.exit 6) [(7, .slice a (P.length + t) cp)] [] m (.row a cp 134 2 ((P ++ yI (x - t) (y - t) t).map prE) :: H)) :
  WC Tryz.prog none 138 w0 ((yF (Tryz.f120.body.getD .skip)).getD 3 .skip) Q [(15, .int .i64 ((t : Int) - 1)), (8, .slice ta t tc), (7, .slice oa P.length oc)] [] m (.row oa oc 134 2 (P.map prE) :: .row ta tc 134 2 ((tailP x y t).map prE) :: H) := by
 have htl : ((tailP x y t).map prE).length = t := by rw [List.length_map, zAO]
 have hd0 : P = P ++ yI (x - t) (y - t) 0 := by unfold yI; simp
 rw [show P.map prE = (P ++ yI (x - t) (y - t) 0).map prE from by rw [← hd0], show (t : Int) - 1 = (t : Int) - 1 - ((0 : Nat) : Int) by simp]
 refine lpz (fun j r ds m' H' => ∃ (c : Nat) (a : Option Addr) (cp : Nat), j = t - c ∧ r = [(15, .int .i64 ((t : Int) - 1 - (c : Int))), (8, .slice ta t tc), (7, .slice a (P.length + c) cp)] ∧ ds = [] ∧ m = m' ∧ H' = .row a cp 134 2 ((P ++ yI (x - t) (y - t) c).map prE) :: .row ta tc 134 2 ((tailP x y t).map prE) :: H ∧ (c ≤ t)) (t - (0)) ⟨0, oa, oc, rfl, rfl, rfl, rfl, rfl, by omega⟩ ?_
 rintro j r ds m' H' ⟨c, a, cp, rfl, rfl, rfl, rfl, rfl, hc⟩
 by_cases hlt : c < t
 ·have hgt : ((tailP x y t).map prE)[((t : Int) - 1 - (c : Int)).toNat]? = some [.int .i64 ((x - t + c : Nat) : Int), .int .i64 ((y - t + c : Nat) : Int)] := by
   rw [show ((t : Int) - 1 - (c : Int)).toNat = t - 1 - c by omega, List.getElem?_map, zHA (by omega)]
   simp only [Option.map_some, prE]
   rw [show x - 1 - (t - 1 - c) = x - t + c by omega, show y - 1 - (t - 1 - c) = y - t + c by omega]
  have hdl2 : ((P ++ yI (x - t) (y - t) c).map prE).length = P.length + c := by rw [List.length_map, List.length_append, yX]
  have hds : (P ++ yI (x - t) (y - t) (c + 1)).map prE = (P ++ yI (x - t) (y - t) c).map prE ++ [[.int .i64 ((x - t + c : Nat) : Int), .int .i64 ((y - t + c : Nat) : Int)]] := by
   rw [jY, ← List.append_assoc, List.map_append, List.map_append]
   simp only [List.map_cons, List.map_nil, prE]
  generalize (P ++ yI (x - t) (y - t) c).map prE = LE2 at *
  generalize (tailP x y t).map prE = TE at *
  refine WC.rowSome (a := ta) (es := TE) zhs (by omega) ?_
  rintro t0 rfl
  refine stg ?_; intros; rename_i b9 a4 cp4
  rw [hdl2, ← hds, show (t : Int) - 1 - (c : Int) - 1 = (t : Int) - 1 - ((c + 1 : Nat) : Int) by omega]
  refine nxz (t - (c + 1)) ⟨c + 1, a4, cp4, rfl, rfl, rfl, rfl, rfl, ?_⟩
  ·omega
 ·obtain rfl : c = t := by omega
  have hfin := hK a cp
  try (refine stg ?_; intros)
  exact WQ.weak zsb zpk hfin
end ZP
