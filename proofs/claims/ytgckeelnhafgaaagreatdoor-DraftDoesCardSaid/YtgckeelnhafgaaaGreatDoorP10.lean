/-
  Parts of a walk, joined. No condition.
-/
import Derived.Test.YtgckeelnhafgaaaGreatDoorP9
set_option linter.all false
set_option maxRecDepth 100000
set_option maxHeartbeats 4000000
open Go.Proofs Go.Proofs.YtgckeelnhafgaaaGreatDoor
open Tryz
open Go Go.Eng
variable {P : Program} {ro : Option Nat} {n : Nat} {w0 : World} {Q : Exit → Act → World → Prop} {r : Env} {ds : List Dfr} {m : Mem} {H : SHeap} {ops : Array Oper} {l : List Oper} {d : Nat} {ty : TypeId} {pos : String} {after : Array Edge}
namespace ZP
open Go Go.Eng
attribute [local irreducible] WL WC WQ QFun zJ Does Q1 zD zB Go.Addr.add
attribute [local irreducible] orgK toks orgZ gOf ogs
theorem zDz {br rc : Nat} {mp : Value} {ra : Option Addr} {L : List Dr} (hL : L.length ≤ 256) (hf : Falls L) (htx0 : ∀ (i : Nat) (d : Dr), L[i]? = some d → d.t.length ≤ 65536) (hps : ∀ (i : Nat) (d : Dr), L[i]? = some d → d.ps.length ≤ 2)
  {k : Nat} (hk : k < L.length) (w0 : World) (m : Mem) (H : SHeap) (hat : ∀ d ∈ L, PsAt m d) :
  Does Tryz.prog 58 #[.pp br, .int .i64 (k : Int)] w0 m (.bl br [.slice ra L.length rc, mp] 69 :: .row ra rc 118 3 (rdrs L) :: H) (fun v m' H' => m.le m' ∧ ∃ al cl, v = .slice al (orgG L k).length cl ∧ H' = .row al cl 107 3 (ogs (orgG L k)) :: .bl br [.slice ra L.length rc, mp] 69 :: .row ra rc 118 3 (rdrs L) :: H) := by
 refine Does.of_body func58 rfl ntmps58 rfl ?_
 obtain ⟨d, hd⟩ : ∃ d, L[k]? = some d := ⟨_, List.getElem?_eq_getElem hk⟩
 have hdt := htx0 k d hd
 have hZt := zAr L k
 have hZl := kS L k
 have hKl := wJ L k
 have htx := xU hd
 rw [htx] at hZt hZl hKl
 have htl := zP d.t
 have hnl := wE L
 have hgd := vE hd
 unfold rdE at hgd
 try (refine st ?_; intros)
 refine zA func89 ?_ (hs := zD7 hL hf htx0 hps k hk _ _ _ hat)
 rintro v m1 H1 ⟨hle1, bo, rfl, rfl⟩
 generalize hER : rdrs L = ER at *
 refine WL.rowSome (a := ra) zhs (by omega) ?_
 rintro a0 rfl
 try (refine st ?_; intros)
 refine zA func90 ?_ (hs := vG d.t (by omega) _ _ _)
 rintro v m2 H2 ⟨hle2, a9, cp9, rfl, rfl⟩
 try (refine st ?_; intros)
 have hnK := zQ (orgK L k)
 have hst : (strs (toks d.t)).length = (toks d.t).length := by simp [strs]
 generalize hNK : nums (orgK L k) = NK at *
 refine WC.newRow (T := 107) (sz := 3) ?_
 refine lpz (fun j r ds m' H' => ∃ (i : Nat) (al : Option Addr) (cl : Nat) (z : Int) (g : Nat) (G : Gp) (E : List (List Value)), j = (toks d.t).length - i ∧ r = [(24, .int .i64 (i : Int)), (23, .int .i64 ((toks d.t).length : Int)), (22, .slice a9 (toks d.t).length cp9), (7, .slice (some ⟨bo, 0, none⟩) (orgK L k).length (orgK L k).length), (6, .int .i64 z), (5, .slice al g cl)] ∧ ds = [] ∧ m2 = m' ∧ H' = .row al cl 107 3 E :: .row a9 cp9 9 1 (strs (toks d.t)) :: .row (some ⟨bo, 0, none⟩) (orgK L k).length 3 1 NK :: .bl br [.slice (some a0) L.length rc, mp] 69 :: .row (some a0) rc 118 3 ER :: H ∧ (i ≤ (toks d.t).length) ∧ (G = gOf ((orgZ L k).take i)) ∧ (E = ogs G) ∧ (z = (Gp.size G : Int)) ∧ (g = G.length)) ((toks d.t).length - (0)) ⟨0, none, 0, 0, 0, [], [], rfl, rfl, rfl, rfl, rfl, by omega, by unfold gOf; rfl, by unfold ogs; rfl, rfl, rfl⟩ ?_
 rintro j r ds m' H' ⟨i, al, cl, z, g, G, E, rfl, rfl, rfl, rfl, rfl, hi, hG, hE, hz, hg⟩
 have hsz : Gp.size G ≤ d.t.length := by
  rw [hG, vV, htx]
  exact Nat.le_trans (vD _ _) (by rw [yR]; exact Nat.le_refl _)
 have hGl : G.length ≤ i := by rw [hG]; exact Nat.le_trans (zEX _) (by rw [List.length_take]; omega)
 have hEl : E.length = G.length := by rw [hE, wM]
 by_cases hlt : i < (toks d.t).length
 ·obtain ⟨t, ht⟩ : ∃ t, (toks d.t)[i]? = some t := ⟨_, List.getElem?_eq_getElem hlt⟩
  obtain ⟨o, ho⟩ : ∃ o, (orgK L k)[i]? = some o := ⟨_, List.getElem?_eq_getElem (by omega)⟩
  have hgt : (strs (toks d.t))[i]? = some [str t] := by unfold strs; rw [List.getElem?_map, ht]; rfl
  have hgo := xO ho
  rw [hNK] at hgo
  have hzi : (orgZ L k)[i]? = some (t, o) := by
   unfold orgZ
   rw [htx, List.getElem?_zip_eq_some]
   exact ⟨ht, ho⟩
  have hG1 : gOf ((orgZ L k).take (i + 1)) = gAdd G (t, o) := by rw [List.take_succ, hzi, hG]; exact zCD _ _
  have hz1 : Gp.size (gAdd G (t, o)) = Gp.size G + t.length := by
   rw [← hG1, hG, vV, vV, htx, List.take_succ, ht, List.flatten_append, List.length_append]; simp
  have hz2 : Gp.size (gAdd G (t, o)) ≤ d.t.length := by
   rw [← hG1, vV, htx]
   exact Nat.le_trans (vD _ _) (by rw [yR]; exact Nat.le_refl _)
  generalize strs (toks d.t) = ST at *
  refine WC.rowSome (a := a9) zhs (by omega) ?_
  rintro a9 rfl
  obtain ⟨gs, hgs⟩ : ∃ gs, gs = Gp.size G := ⟨_, rfl⟩
  rw [← hgs] at hz hz1 hsz
  have hzt : z + (t.length : Int) = ((gs + t.length : Nat) : Int) := by omega
  rcases List.eq_nil_or_concat G with rfl | ⟨F, ⟨ts, d0⟩, rfl⟩
  ·have hg0 : g = 0 := hg
   subst hg0
   have hgs0 : gs = 0 := hgs
   have hEl0 : E.length = 0 := hEl
   refine st ?_; intros; rename_i b8 a8 c8
   have hfin : E ++ [[Value.int .i64 z, .int .i64 (z + (t.length : Int)), .int .i64 (o : Int)]] = ogs [([t], o)] := by
    have := j6 [] ([t], o)
    rw [List.nil_append, ← hE, show Gp.size [] = 0 from rfl] at this
    rw [hz, hgs0]
    rw [this]; simp
   rw [hfin]
   refine nxz ((toks d.t).length - (i + 1)) ⟨i + 1, a8, c8, z + (t.length : Int), E.length + 1, [([t], o)], ogs [([t], o)], rfl, rfl, rfl, rfl, rfl, ?_, ?_, ?_, ?_, ?_⟩
   ·omega
   ·rw [hG1]; rfl
   ·rfl
   ·rw [← kT (t, o), hz1]; omega
   ·rw [hEl0]; rfl
  ·rw [List.concat_eq_append] at *
   have hgl := zFI F (ts, d0)
   have hgl2 := zHt F (ts, d0) (ts ++ [t], d0) rfl
   have hgl3 := j6 (F ++ [(ts, d0)]) ([t], o)
   rw [← hE] at hgl hgl2 hgl3
   simp only at hgl hgl2 hgl3
   have hgF : g = F.length + 1 := by rw [hg, List.length_append, List.length_singleton]
   have hEF : E.length = F.length + 1 := by rw [hEl, List.length_append, List.length_singleton]
   subst hgF
   refine WC.rowSome (a := al) zhs (by omega) ?_
   rintro al rfl
   have hF1 : F.length + 1 - 1 = F.length := by omega
   have hzF : Gp.size F + ts.flatten.length = gs := by rw [hgs, Gp.size_snoc]
   rw [hzF] at hgl
   have hz3 : Gp.size F + (ts ++ [t]).flatten.length = gs + t.length := by
    rw [← hzF]; simp; omega
   rw [hz3] at hgl2
   by_cases hs : d0 = o
   ·subst hs
    try (refine st ?_; intros)
    rw [hF1, show (gs : Int) + (t.length : Int) = ((gs + t.length : Nat) : Int) by omega, hgl2]
    refine nxz ((toks d.t).length - (i + 1)) ⟨i + 1, some al, cl, z + (t.length : Int), F.length + 1, F ++ [(ts ++ [t], d0)], ogs (F ++ [(ts ++ [t], d0)]), rfl, rfl, rfl, rfl, rfl, ?_, ?_, ?_, ?_, ?_⟩
    ·omega
    ·rw [hG1, qC]
    ·rfl
    ·rw [← qC, hz1]; omega
    ·simp
   ·refine st ?_; intros; rename_i b8 a8 c8
    have hfin : E ++ [[Value.int .i64 z, .int .i64 (z + (t.length : Int)), .int .i64 (o : Int)]] = ogs (F ++ [(ts, d0)] ++ [([t], o)]) := by
     rw [hgl3, hz, ← hgs]; simp
    rw [hfin]
    refine nxz ((toks d.t).length - (i + 1)) ⟨i + 1, a8, c8, z + (t.length : Int), E.length + 1, F ++ [(ts, d0)] ++ [([t], o)], ogs (F ++ [(ts, d0)] ++ [([t], o)]), rfl, rfl, rfl, rfl, rfl, ?_, ?_, ?_, ?_, ?_⟩
    ·omega
    ·rw [hG1, kB hs]
    ·rfl
    ·rw [← kB hs, hz1]; omega
    ·rw [hEF]; simp
 ·obtain rfl : i = (toks d.t).length := by omega
  rw [← hZl, List.take_length] at hG
  have hG2 : G = orgG L k := hG
  subst hE
  subst hG2
  subst hg
  try (refine st ?_; intros)
  subst hER
  exact q_fz ⟨hle1.trans hle2, al, cl, rfl, rfl⟩
end ZP
namespace Go.Eng
open Go
theorem WC.rNil {P : Program} {ro : Option Nat} {n : Nat} {w0 : World} {Q : Exit → Act → World → Prop} {r : Env} {ds : List Dfr} {m : Mem} {H : SHeap} {c : Code} {sz : Nat} {es : List (List Value)} (hr : RowR w0 m H sz none es) (h : es = [] → WC P ro n w0 c Q r ds m H) : WC P ro n w0 c Q r ds m H :=
 fun tmps w ho hs => h (hr w hs).2 tmps w ho hs
theorem zKr (l : List Nat) : ∀ q ∈ nums l, q.all okCell = true := by
 intro q hq
 obtain ⟨p, _, rfl⟩ := List.mem_map.1 hq
 rfl
theorem zHl (l : List Nat) : ∀ q ∈ nums l, q.length = 1 := by
 intro q hq
 obtain ⟨p, _, rfl⟩ := List.mem_map.1 hq
 rfl
end Go.Eng
namespace ZP
open Go Go.Eng
attribute [local irreducible] WL WC WQ QFun zJ Does Q1 zD zB Go.Addr.add
theorem zIC {ps : List Nat} {sa : Option Addr} {sc : Nat} {w0 : World} {m : Mem} {H : SHeap} (hps : ps.length ≤ 1000) (hr : ∀ H, RowR w0 m H 1 sa (nums ps)) :
  Does Tryz.prog 44 #[.slice sa ps.length sc] w0 m H (fun v m' H' => m' = m ∧ ∃ a c, v = .slice a ps.length c ∧ H' = .row a c 3 1 (nums ps) :: H) := by
 refine Does.of_body func44 rfl ntmps44 rfl ?_
 have hnl := zQ ps
 cases sa with
 | none =>
  refine WC.rNil (hr H) ?_
  intro hnil
  have hp0 : ps = [] := by
   rw [hnil] at hnl
   exact List.length_eq_zero_iff.1 hnl.symm
  subst hp0
  refine WC.newRow (T := 3) (sz := 1) ?_
  try (refine st ?_; intros)
  exact q_fz ⟨rfl, none, 0, rfl, rfl⟩
 | some sa =>
  try (refine st ?_; intros)
  refine WL.appendR (es := []) (es' := nums ps) (by' := 8) rfl rfl rfl rfl (by (repeat (first | exact Out.here | apply Out.there))) (hr _) (zKr ps) (zHl ps) rfl rfl rfl rfl rfl hnl.symm (by rw [List.length_nil, hnl]; omega) (by omega) rfl ?_
  intro a2 c2
  rw [List.nil_append, List.length_nil, Nat.zero_add, hnl]
  try (refine st ?_; intros)
  exact q_fz ⟨rfl, a2, c2, rfl, rfl⟩
theorem zE3 {bh bm cap : Nat} {a : Option Addr} {L : List Dr} {k : Nat} {d : Dr} (hk : L[k]? = some d) (hdp : d.ps.length ≤ 2) (w0 : World) (m : Mem) (H : SHeap) (hat : PsAt m d) :
  Does Tryz.prog 12 #[.pp bh, .int .i64 (k : Int)] w0 m (.bl bh [.slice a L.length cap, .map (some bm)] 90 :: .row a cap 97 3 (drs L) :: H) (fun v m' H' => m' = m ∧ ∃ al cl, v = .tuple #[.agg #[.int .i64 (d.h : Int), .slice al d.ps.length cl], .int .i64 0] ∧ H' = .row al cl 3 1 (nums d.ps) :: .bl bh [.slice a L.length cap, .map (some bm)] 90 :: .row a cap 97 3 (drs L) :: H) := by
 refine Does.of_body func12 rfl ntmps12 rfl ?_
 obtain ⟨va, vc, hv, hr⟩ := hat
 refine st ?_; intros; rename_i b4
 refine zN func43 ?_ (hs := zDh hk hv _ _ _)
 rintro v m H1 ⟨rfl, rfl, rfl⟩
 unfold drE
 rw [hv]
 refine st ?_; intros; rename_i b6
 refine wdw 11 ([.bl b6 [.int .i64 (d.h : Int), .slice va d.ps.length vc, str d.t] 97]) ?_
 refine cm0 ?_
 refine wa1 6 ?_
 refine zA func44 ?_ (hs := zIC (by omega) (fun H => hr w0 H))
 rintro v m1 H1 ⟨rfl, al, cl, rfl, rfl⟩
 try (refine st ?_; intros)
 refine waz [] zml ?_
 refine cm0 ?_
 refine wa0 9 ?_
 try (refine st ?_; intros)
 refine wsz [] zml ?_
 refine cm0 ?_
 refine wdz ?_
 try (refine st ?_; intros)
 exact q_fz ⟨rfl, al, cl, rfl, rfl⟩
theorem zFp {bh bm cap c : Nat} {a : Option Addr} {L : List Dr} {B : Br} (s : Tx) (w0 : World) (m : Mem) (H : SHeap) :
  Does Tryz.prog 14 #[.pp bh, str s] w0 m (.bl bh [.slice a L.length cap, .map (some bm)] 90 :: .row a cap 97 3 (drs L) :: .blk bm (mapT (brE B) c) :: H) (Gives (.tuple #[.int .i64 (((yP B s).getD 0 : Nat) : Int), .int .i64 ((if (yP B s).isSome then 0 else 4 : Nat) : Int)]) m (.bl bh [.slice a L.length cap, .map (some bm)] 90 :: .row a cap 97 3 (drs L) :: .blk bm (mapT (brE B) c) :: H)) := by
 refine Does.of_body func14 rfl ntmps14 rfl ?_
 try (refine st ?_; intros)
 refine WL.lookT (es := brE B) (k := s) (z := .int .i64 0) rfl rfl zhs rfl rfl (fun _ => rfl) rfl ?_
 rw [wD]
 cases hh : yP B s with
 | none =>
  simp only [Option.map_none, Option.getD_none, Option.isSome_none]
  try (refine st ?_; intros)
  exact q_fz zgm
 | some k0 =>
  simp only [Option.map_some, Option.getD_some, Option.isSome_some, if_true]
  try (refine st ?_; intros)
  exact q_fz zgm
theorem zGg {bh bm cap : Nat} {a : Option Addr} {L : List Dr} {p q : Nat} (hp : p < L.length) (hq : q < L.length) (hL : L.length ≤ 256) (hp0 : 0 ∈ xB L p) (hq0 : 0 ∈ xB L q) (w0 : World) (m : Mem) (H : SHeap) (hat : ∀ d ∈ L, PsAt m d) (hps : ∀ (i : Nat) (d : Dr), L[i]? = some d → d.ps.length ≤ 2) :
  Does Tryz.prog 15 #[.pp bh, .int .i64 (p : Int), .int .i64 (q : Int)] w0 m (.bl bh [.slice a L.length cap, .map (some bm)] 90 :: .row a cap 97 3 (drs L) :: H) (Gives (.tuple #[.int .i64 (baseK L p q : Int), .int .i64 0]) m (.bl bh [.slice a L.length cap, .map (some bm)] 90 :: .row a cap 97 3 (drs L) :: H)) := by
 refine Does.of_body func15 rfl ntmps15 rfl ?_
 try (refine st ?_; intros)
 refine zA func38 ?_ (hs := jL (p : Int) zhs)
 rintro v m H1 ⟨rfl, rfl, rfl⟩
 rw [zE (show 0 ≤ (p : Int) ∧ (p : Int) < (L.length : Int) from by omega)]
 try (refine st ?_; intros)
 refine zA func38 ?_ (hs := jL (q : Int) zhs)
 rintro v m H1 ⟨rfl, rfl, rfl⟩
 rw [zE (show 0 ≤ (q : Int) ∧ (q : Int) < (L.length : Int) from by omega)]
 try (refine st ?_; intros)
 refine zA func42 ?_ (hs := zFw hp hq hL hp0 hq0 _ _ _ hat hps)
 rintro v m H1 ⟨rfl, rfl, rfl⟩
 try (refine st ?_; intros)
 exact q_fz zgm
theorem zEF {b n c : Nat} {a : Option Addr} {mp : Value} {p q : Int} (hk : ¬ ((0 ≤ p ∧ p < (n : Int)) ∧ (0 ≤ q ∧ q < (n : Int)))) {w0 : World} {m : Mem} {H : SHeap} (hm : Eng.Item.bl b [.slice a n c, mp] 90 ∈ H) :
  Does Tryz.prog 15 #[.pp b, .int .i64 p, .int .i64 q] w0 m H (Gives (.tuple #[.int .i64 0, .int .i64 5]) m H) := by
 refine Does.gives_memD hm fun H => ?_
 refine Does.of_body func15 rfl ntmps15 rfl ?_
 try (refine st ?_; intros)
 refine zA func38 ?_ (hs := jL p zhs)
 rintro v m H1 ⟨rfl, rfl, rfl⟩
 by_cases h1 : 0 ≤ p ∧ p < (n : Int)
 ·rw [zE h1]
  try (refine st ?_; intros)
  refine zA func38 ?_ (hs := jL q zhs)
  rintro v m H1 ⟨rfl, rfl, rfl⟩
  rw [zH (fun h2 => hk ⟨h1, h2⟩)]
  try (refine st ?_; intros)
  exact q_fz zgm
 ·rw [zH h1]
  try (refine st ?_; intros)
  exact q_fz zgm
end ZP
namespace Go.Eng
open Go
structure WOk (m : Mem) (L M : List Dr) (B : Br) (c : Nat) : Prop where
 ok : HsOk m L B c
 same : SameD L M
 atM : ∀ d ∈ M, PsAt m d
theorem WOk.le {m m' : Mem} {L M : List Dr} {B : Br} {c : Nat} (h : WOk m L M B c) (hm : m.le m') : WOk m' L M B c := ⟨h.ok.le hm, h.same, fun d hd => (h.atM d hd).le hm⟩
theorem WOk.few {m : Mem} {L M : List Dr} {B : Br} {c : Nat} (h : WOk m L M B c) : M.length ≤ 256 := by have := h.ok.few; rw [← h.same.length]; exact this
theorem WOk.falls {m : Mem} {L M : List Dr} {B : Br} {c : Nat} (h : WOk m L M B c) : Falls M := by
 intro i p hp
 rw [← h.same.pars] at hp
 exact h.ok.falls i p hp
theorem WOk.parM {m : Mem} {L M : List Dr} {B : Br} {c : Nat} (h : WOk m L M B c) {i : Nat} {d : Dr} (hd : M[i]? = some d) : d.ps.length ≤ 2 ∧ d.t.length ≤ 65536 ∧ (∀ p ∈ d.ps, p < i) ∧ (0 < i → d.ps ≠ []) ∧ d.h ≤ 999999999999999999 := by
 have hs : SameD M L := Eq.symm h.same
 obtain ⟨e, he, h1, h2, h3⟩ := hs.at_ hd
 have := h.ok.par i e he
 rw [h1, h2, h3] at this
 exact ⟨this.2.2.1, this.2.2.2.1, this.1, this.2.1, this.2.2.2.2⟩
theorem zJb {L M : List Dr} (h : SameD L M) {x k : Nat} (ha : Anc L x k) : Anc M x k := by
 induction ha with
 | self => exact .self _
 | up hp _ ih => exact .up (by rw [← h.pars]; exact hp) ih
theorem WOk.rootM {m : Mem} {L M : List Dr} {B : Br} {c : Nat} (h : WOk m L M B c) {k : Nat} (hk : k < M.length) : Anc M 0 k := zJb h.same (h.ok.root k (by rw [h.same.length]; exact hk))
end Go.Eng
namespace ZP
open Go Go.Eng
attribute [local irreducible] WL WC WQ QFun zJ Does Q1 zD zB Go.Addr.add
theorem jB {bh bm cap c br rm rc : Nat} {a ra : Option Addr} {L M : List Dr} {B : Br} (p q : Int) (w0 : World) (m : Mem) (H : SHeap) (hw : WOk m L M B c) :
  Does Tryz.prog 29 #[.agg #[.pp bh, .pp br], .int .i64 p, .int .i64 q] w0 m (.bl bh [.slice a L.length cap, .map (some bm)] 90 :: .row a cap 97 3 (drs L) :: .bl br [.slice ra M.length rc, .map (some rm)] 69 :: .row ra rc 118 3 (rdrs M) :: H) (Gives (.bool true) m (.bl bh [.slice a L.length cap, .map (some bm)] 90 :: .row a cap 97 3 (drs L) :: .bl br [.slice ra M.length rc, .map (some rm)] 69 :: .row ra rc 118 3 (rdrs M) :: H)) := by
 refine Does.of_body func29 rfl ntmps29 rfl ?_
 have hsl := hw.same.length
 have hLf := hw.ok.few
 have hps : ∀ (i : Nat) (d : Dr), L[i]? = some d → d.ps.length ≤ 2 := fun i d hd => (hw.ok.par i d hd).2.2.1
 have hpsM : ∀ (i : Nat) (d : Dr), M[i]? = some d → d.ps.length ≤ 2 := fun i d hd => (hw.parM hd).1
 by_cases hin : (0 ≤ p ∧ p < (L.length : Int)) ∧ (0 ≤ q ∧ q < (L.length : Int))
 ·obtain ⟨p, rfl⟩ : ∃ k : Nat, p = (k : Int) := ⟨p.toNat, by omega⟩
  obtain ⟨q, rfl⟩ : ∃ k : Nat, q = (k : Int) := ⟨q.toNat, by omega⟩
  have hp : p < L.length := by omega
  have hq : q < L.length := by omega
  have hf := hw.ok.falls
  refine st ?_; intros; rename_i b3
  refine zN func15 ?_ (hs := zGg hp hq hLf ((xK hf).2 (hw.ok.root p hp)) ((xK hf).2 (hw.ok.root q hq)) _ _ _ hw.ok.at_ hps)
  rintro v m H1 ⟨rfl, rfl, rfl⟩
  try (refine st ?_; intros)
  refine WL.heap (H' := .bl br [.slice ra M.length rc, .map (some rm)] 69 :: .row ra rc 118 3 (rdrs M) :: .bl bh [.slice a L.length cap, .map (some bm)] 90 :: .row a cap 97 3 (drs L) :: .bl b3 [.pp bh, .pp br] 59 :: H) zpk ?_
  refine zA func59 ?_ (hs := zDA (by omega) (by omega) (by omega) hw.falls (hw.rootM (by omega)) (hw.rootM (by omega)) _ _ _ hw.atM hpsM)
  rintro v m H1 ⟨rfl, rfl, rfl⟩
  rw [hw.same.base]
  try (refine st ?_; intros)
  rw [zE (show (baseK M p q : Int) = (baseK M p q : Int) from rfl)]
  exact q_fz zgm
 ·refine st ?_; intros; rename_i b3
  refine zA func15 ?_ (hs := zEF hin zhs)
  rintro v m H1 ⟨rfl, rfl, rfl⟩
  by_cases h0 : min p q < 0
  ·try (refine st ?_; intros)
   rw [zE (show (0 : Int) = 0 from rfl)]
   exact q_fz zgm
  ·have h1 : (M.length : Int) ≤ max p q := by omega
   try (refine st ?_; intros)
   rw [zE (show (0 : Int) = 0 from rfl)]
   exact q_fz zgm
end ZP
namespace Go.Eng
open Go
theorem SameD.log {L M : List Dr} (h : SameD L M) (k : Nat) : logK L k = logK M k := by unfold logK; rw [h.line]
theorem zJL {L : List Dr} (k : Nat) : (logK L k).length ≤ k + 1 := by
 have h : ∀ (S : List Nat) (n : Nat), (logGo S n).length ≤ n := by
  intro S n
  induction n with
  | zero => exact Nat.le_refl _
  | succ n ih =>
   by_cases hin : n ∈ S
   ·rw [kU hin, List.length_cons]; omega
   ·rw [jO hin]; omega
 exact h _ _
def wiped (E : List (List Value)) (i : Nat) : List (List Value) := List.replicate i [.int .i64 0, .int .i64 0, .int .i64 0] ++ E.drop i
theorem zEw {E : List (List Value)} {i : Nat} (h : i ≤ E.length) : (wiped E i).length = E.length := by unfold wiped; simp; omega
theorem zHj {E : List (List Value)} {i : Nat} {e : List Value} (h : E[i]? = some e) : (wiped E i)[i]? = some e := by
 unfold wiped
 rw [List.getElem?_append_right (by simp), List.length_replicate, Nat.sub_self, List.getElem?_drop, Nat.add_zero]; exact h
theorem zHO {E : List (List Value)} {i : Nat} (h : i < E.length) : (wiped E i).set i [.int .i64 0, .int .i64 0, .int .i64 0] = wiped E (i + 1) := by
 unfold wiped
 rw [List.set_append_right _ _ (by simp), List.length_replicate, Nat.sub_self, List.drop_eq_getElem_cons h, List.set_cons_zero, List.replicate_succ', List.append_assoc]
 rfl
end Go.Eng
namespace ZP
open Go Go.Eng
attribute [local irreducible] WL WC WQ QFun zJ Does Q1 zD zB Go.Addr.add
theorem zFy {bh : Nat} (k : Int) (w0 : World) (m : Mem) (H : SHeap) : Does Tryz.prog 9 #[.pp bh, .int .i64 k] w0 m H (fun v m' H' => m' = m ∧ ∃ b2 b3, v = .func (.func 37) #[] #[.pp b2, .pp b3] ∧
  H' = .bl b2 [.pp bh] 23 :: .bl b3 [.int .i64 k] 3 :: H) := by
 refine Does.of_body func9 rfl ntmps9 rfl ?_
 refine st ?_; intros; rename_i b2 b3
 exact q_fz ⟨rfl, b2, b3, rfl, rfl⟩
theorem zB5 {bh n cp : Nat} {a : Option Addr} {mp : Value} {k : Int} (hk : ¬ (0 ≤ k ∧ k < (n : Int))) (b2 b3 : Nat) :
  SeqR Tryz.prog 37 [.pp b2, .pp b3] (fun x : Nat => [.int .i64 (x : Int)]) []
   (fun _ m H => Eng.Item.bl bh [.slice a n cp, mp] 90 ∈ H ∧ m b2 = some (.cells [.pp bh].toArray 23 (0, 0)) ∧ m b3 = some (.cells [.int .i64 k].toArray 3 (0, 0))) := by
 intro w0 lp J Jx m H mJ mX hR h0 hY
 obtain ⟨hh, hb2, hb3⟩ := hR _ _ _ h0
 refine Does.of_body func37 rfl ntmps37 rfl ?_
 try (refine st ?_; intros)
 refine zA func38 ?_ (hs := jL k hh)
 rintro v m H ⟨rfl, rfl, rfl⟩
 rw [zH hk]
 try (refine st ?_; intros)
 exact q_fz (H0 := H) ⟨Mem.le.refl _, .inl h0⟩
theorem kE {b n c : Nat} {a : Option Addr} {mp : Value} {k : Int} (hk : ¬ (0 ≤ k ∧ k < (n : Int))) {w0 : World} {m : Mem} {H : SHeap} (hm : Eng.Item.bl b [.slice a n c, mp] 90 ∈ H) :
  Does Tryz.prog 16 #[.pp b, .int .i64 k] w0 m H (Gives (.tuple #[.slice none 0 0, .int .i64 5]) m H) := by
 refine Does.gives_memD hm fun H => ?_
 refine Does.of_body func16 rfl ntmps16 rfl ?_
 try (refine st ?_; intros)
 refine zA func43 ?_ (hs := zBd hk zhs)
 rintro v m H1 ⟨rfl, rfl, rfl⟩
 try (refine st ?_; intros)
 exact q_fz zgm
theorem zKA (a z d : Int) : eqB Tryz.prog 8 107 (.agg #[.int .i64 a, .int .i64 z, .int .i64 d]) (.agg #[.int .i64 a, .int .i64 z, .int .i64 d]) = some true := by
 have h : eqB Tryz.prog 8 107 (.agg #[.int .i64 a, .int .i64 z, .int .i64 d]) (.agg #[.int .i64 a, .int .i64 z, .int .i64 d]) = some (((a == a) && ((z == z) && true)) && ((d == d) && true)) := by kernel_rfl
 rw [h]
 simp
attribute [local irreducible] logK orgG ogs wiped
namespace ZD78a
theorem zal {G G' : Prop} (next : G') (h : Bx G' → G := by intro zzn; (first | (refine zJY rfl ?_; refine zJ2 ?_ (he := zKA _ _ _)) | (refine zJ3 rfl ?_; refine zJW ?_ (he := zKA _ _ _))); (repeat revert zzf); exact zzn.out) : G := h ⟨next⟩
end ZD78a
open ZD78a in
theorem jM {bh bm cap c br rm rc : Nat} {a ra : Option Addr} {L M : List Dr} {B : Br} (k : Int) (w0 : World) (m : Mem) (H : SHeap) (hw : WOk m L M B c) :
  Does Tryz.prog 28 #[.agg #[.pp bh, .pp br], .int .i64 k] w0 m (.bl bh [.slice a L.length cap, .map (some bm)] 90 :: .row a cap 97 3 (drs L) :: .bl br [.slice ra M.length rc, .map (some rm)] 69 :: .row ra rc 118 3 (rdrs M) :: H) (Tells (.bool true) m (.bl bh [.slice a L.length cap, .map (some bm)] 90 :: .row a cap 97 3 (drs L) :: .bl br [.slice ra M.length rc, .map (some rm)] 69 :: .row ra rc 118 3 (rdrs M) :: H)) := by
 refine Does.of_body func28 rfl ntmps28 rfl ?_
 have hsl := hw.same.length
 have hLf := hw.ok.few
 have hps : ∀ (i : Nat) (d : Dr), L[i]? = some d → d.ps.length ≤ 2 := fun i d hd => (hw.ok.par i d hd).2.2.1
 have hpsM : ∀ (i : Nat) (d : Dr), M[i]? = some d → d.ps.length ≤ 2 := fun i d hd => (hw.parM hd).1
 have htM : ∀ (i : Nat) (d : Dr), M[i]? = some d → d.t.length ≤ 65536 := fun i d hd => (hw.parM hd).2.1
 have hat := hw.ok.at_
 by_cases hin : 0 ≤ k ∧ k < (L.length : Int)
 ·obtain ⟨k, rfl⟩ : ∃ q : Nat, k = (q : Int) := ⟨k.toNat, by omega⟩
  have hk : k < L.length := by omega
  refine stg ?_; intros; rename_i b2 b4 b5
  refine WL.heap (H' := .bl br [.slice ra M.length rc, .map (some rm)] 69 :: .row ra rc 118 3 (rdrs M) :: .bl bh [.slice a L.length cap, .map (some bm)] 90 :: .row a cap 97 3 (drs L) :: .bl b2 [.pp bh, .pp br] 59 :: .bl b4 [.bool false] 4 :: .bl b5 [.int .i64 0] 3 :: H) zpk ?_
  refine zA func57 ?_ (hs := zBO (by omega) (by omega) hw.falls _ _ _ hw.atM hpsM)
  rintro v m H1 ⟨rfl, ll, lc, rfl, rfl⟩
  rw [← hw.same.log]
  refine stg ?_; intros; rename_i b8
  refine zA func9 ?_ (hs := zKt _ _ _)
  rintro v m H1 ⟨rfl, p2, p3, rfl, rfl⟩
  refine WL.persist (b := p2) (by (repeat (first | exact Out.here | apply Out.there))) ?_
  intro m6 hle6 hp2
  refine WL.persist (b := p3) (by (repeat (first | exact Out.here | apply Out.there))) ?_
  intro m7 hle7 hp3
  try (refine stg ?_; intros)
  have hlk := zJL (L := L) k
  have hnn := zQ (logK L k)
  refine WC.heap (H' := .bl b5 [.int .i64 (([] : List Nat).length : Int)] 3 :: .bl b8 [.slice ll (logK L k).length lc] 36 :: .row ll lc 3 1 (nums (logK L k)) :: .bl bh [.slice a L.length cap, .map (some bm)] 90 :: .row a cap 97 3 (drs L) :: .bl br [.slice ra M.length rc, .map (some rm)] 69 :: .row ra rc 118 3 (rdrs M) :: .bl b2 [.pp bh, .pp br] 59 :: .bl b4 [.bool false] 4 :: H) zpk ?_
  refine WC.rangeFuncR (encs := fun x : Nat => [.int .i64 (x : Int)]) (xs := logK L k) (lb := [.pp p2, .pp p3]) (ps := [59]) (Hc := .bl br [.slice ra M.length rc, .map (some rm)] 69 :: .row ra rc 118 3 (rdrs M) :: .bl b2 [.pp bh, .pp br] 59 :: .bl b4 [.bool false] 4 :: H)
   (J := fun pre m' Hl => m7.le m' ∧ Hl = .bl b5 [.int .i64 (pre.length : Int)] 3 :: .bl b8 [.slice ll (logK L k).length lc] 36 :: .row ll lc 3 1 (nums (logK L k)) :: .bl bh [.slice a L.length cap, .map (some bm)] 90 :: .row a cap 97 3 (drs L) :: []) (Jx := fun _ _ _ _ => False)
   rfl func37 rfl rfl (zKl (bh := bh) (bm := bm) (cap := cap) (a := a) hk hLf hps p2 p3) (fun _ => rfl) rfl (fun _ _ _ _ h hm => ⟨h.1.trans hm, h.2⟩)
   (fun pre m' Hl i j h => by
    obtain ⟨h1, rfl⟩ := h
    exact ⟨⟨by simp, by simp, fun d hd => (hat d hd).le ((hle6.trans hle7).trans h1)⟩, h1 _ _ (hle7 _ _ hp2), h1 _ _ hp3⟩) (fun _ _ _ _ _ h _ => h) (.cons (.cons (.cons (.cons (.cons .nil))))) ⟨Mem.le.refl _, rfl⟩ ?_ ?_ ?_
  ·rintro lp pre x post hx m8 Hl ⟨hle8, rfl⟩ hm8 Hfr hfr
   have hpl : pre.length < (logK L k).length := by rw [hx]; simp
   have hgx : (nums (logK L k))[pre.length]? = some [.int .i64 (x : Int)] := xO (by rw [hx]; simp)
   have hl2 : ((pre ++ [x]).length : Int) = (pre.length : Int) + 1 := by simp
   generalize hNL : nums (logK L k) = NL at *
   try (refine stg ?_; intros)
   refine WQ.assigned (.cons (.cons (.cons (.cons (.cons .nil))))) zml ?_
   intro Hfr2
   simp only [List.cons_append, List.nil_append]
   refine WC.rowSome (a := ll) zhs (by omega) ?_
   rintro ll rfl
   try (refine stg ?_; intros)
   rw [← hl2]
   exact WQ.roundOn (Hl := .bl b5 [.int .i64 ((pre ++ [x]).length : Int)] 3 :: .bl b8 [.slice (some ll) (logK L k).length lc] 36 :: .row (some ll) lc 3 1 NL :: .bl bh [.slice a L.length cap, .map (some bm)] 90 :: .row a cap 97 3 (drs L) :: []) zpk zml ⟨hle8, rfl⟩
  ·rintro D m8 Hl ⟨hle8, rfl⟩ hm8
   try (refine stg ?_; intros)
   simp only [List.cons_append, List.nil_append]
   have hle08 := (hle6.trans hle7).trans hle8
   refine WL.heap (H' := .bl br [.slice ra M.length rc, .map (some rm)] 69 :: .row ra rc 118 3 (rdrs M) :: .bl bh [.slice a L.length cap, .map (some bm)] 90 :: .row a cap 97 3 (drs L) :: .row ll lc 3 1 (nums (logK L k)) :: .bl b5 [.int .i64 ((logK L k).length : Int)] 3 :: .bl b8 [.slice ll (logK L k).length lc] 36 :: .bl b2 [.pp bh, .pp br] 59 :: .bl b4 [.bool false] 4 :: .blk D (.deferred (some [])) :: H) zpk ?_
   refine zA func58 ?_ (hs := zDz (by omega) hw.falls htM hpsM (by omega) _ _ _ (fun d hd => (hw.atM d hd).le hle08))
   rintro v m9 H9 ⟨hle9, o1, q1, rfl, rfl⟩
   rw [← hw.same.orgG]
   try (refine stg ?_; intros)
   refine zN func16 ?_ (hs := zC2 hk _ _ _ (hw.ok.le (hle08.trans hle9)))
   rintro v m10 H10 ⟨hle10, o2, q2, rfl, rfl⟩
   have hol := wM (orgG L k)
   have hog : (orgG L k).length ≤ 65536 := by
    have h1 : (orgG L k).length ≤ (orgZ L k).length := by unfold orgG; exact zEX (orgZ L k)
    obtain ⟨d, hd⟩ : ∃ d, L[k]? = some d := ⟨_, List.getElem?_eq_getElem hk⟩
    have h2 := zP (txOf L k)
    rw [kS] at h1
    rw [xU hd] at h1 h2
    have := (hw.ok.par k d hd).2.2.2.1
    omega
   have hOGe : ∀ i, i < (orgG L k).length → ∃ x : Og, (ogs (orgG L k))[i]? = some [.int .i64 (x.a : Int), .int .i64 (x.z : Int), .int .i64 (x.d : Int)] := by
    intro i hi
    obtain ⟨g, hg⟩ : ∃ g, (orgG L k)[i]? = some g := ⟨_, List.getElem?_eq_getElem hi⟩
    refine ⟨⟨0 + Gp.size ((orgG L k).take i), 0 + Gp.size ((orgG L k).take i) + g.1.flatten.length, g.2⟩, ?_⟩
    unfold ogs
    rw [List.getElem?_map, zHp _ _ _ hg]; rfl
   generalize hOG : ogs (orgG L k) = OG at *
   have hw0 : OG = wiped OG 0 := by unfold wiped; simp
   try (refine stg ?_; intros)
   refine lpz (fun j r ds m' H' => ∃ (i : Nat) (E : List (List Value)), j = (orgG L k).length - i ∧ r = [(102, .int .i64 (i : Int)), (101, .int .i64 ((orgG L k).length : Int)), (11, .slice o2 (orgG L k).length q2), (10, .slice o1 (orgG L k).length q1), (4, .pp b4)] ∧ ds = [Dfr.mark D] ∧ m10 = m' ∧ H' = .row o2 q2 107 3 E :: .row o1 q1 107 3 OG :: .bl bh [.slice a L.length cap, .map (some bm)] 90 :: .row a cap 97 3 (drs L) :: .bl br [.slice ra M.length rc, .map (some rm)] 69 :: .row ra rc 118 3 (rdrs M) :: .bl b4 [.bool false] 4 :: .blk D (.deferred (some [])) :: H ∧ (i ≤ (orgG L k).length) ∧ (E = wiped OG i)) ((orgG L k).length - (0)) ⟨0, OG, rfl, rfl, rfl, rfl, rfl, by omega, hw0⟩ ?_
   rintro j r ds m' H' ⟨i, E, rfl, rfl, rfl, rfl, rfl, hi, hE⟩
   have hEl : E.length = (orgG L k).length := by rw [hE, zEw (by omega), hol]
   by_cases hlt : i < (orgG L k).length
   ·obtain ⟨x, hx⟩ := hOGe i hlt
    have hxE := zHj hx
    rw [← hE] at hxE
    have hset : E.set i [.int .i64 0, .int .i64 0, .int .i64 0] = wiped OG (i + 1) := by rw [hE]; exact zHO (by omega)
    refine WC.rowSome (a := o1) zhs (by omega) ?_
    rintro o1 rfl
    refine WC.rowSome (a := o2) zhs (by omega) ?_
    rintro o2 rfl
    try (refine stg ?_; intros)
    rw [hset]
    refine nxz ((orgG L k).length - (i + 1)) ⟨i + 1, wiped OG (i + 1), rfl, rfl, rfl, rfl, rfl, ?_, ?_⟩
    ·omega
    ·rfl
   ·try (refine stg ?_; intros)
    refine WQ.mark (H1 := .bl b4 [.bool true] 4 :: .row o2 q2 107 3 E :: .row o1 q1 107 3 OG :: .bl bh [.slice a L.length cap, .map (some bm)] 90 :: .row a cap 97 3 (drs L) :: .bl br [.slice ra M.length rc, .map (some rm)] 69 :: .row ra rc 118 3 (rdrs M) :: H) ?_ ?_
    ·exact (List.perm_middle (l₁ := [_, _, _, _, _, _, _]) (l₂ := H)).trans (List.Perm.cons _ (List.perm_middle (l₁ := [_, _, _, _, _, _]) (l₂ := H)))
    exact q_fz (Tells.mk (hle08.trans (hle9.trans hle10)) rfl)
  ·rintro D c9 pre m8 Hl _ h _
   exact h.elim
 ·have hor : k < 0 ∨ (M.length : Int) ≤ k := by omega
  obtain h1 | h1 : k < 0 ∨ (0 ≤ k ∧ (M.length : Int) ≤ k) := by omega
  ·refine stg ?_; intros; rename_i b2 b4 b5
   refine zA func9 ?_ (hs := zFy k _ _ _)
   rintro v m H1 ⟨rfl, p2, p3, rfl, rfl⟩
   refine WL.persist (b := p2) (by (repeat (first | exact Out.here | apply Out.there))) ?_
   intro m6 hle6 hp2
   refine WL.persist (b := p3) (by (repeat (first | exact Out.here | apply Out.there))) ?_
   intro m7 hle7 hp3
   try (refine stg ?_; intros)
   refine WC.heap (H' := .bl bh [.slice a L.length cap, .map (some bm)] 90 :: .row a cap 97 3 (drs L) :: .bl br [.slice ra M.length rc, .map (some rm)] 69 :: .row ra rc 118 3 (rdrs M) :: .bl b2 [.pp bh, .pp br] 59 :: .bl b4 [.bool false] 4 :: .bl b5 [.int .i64 0] 3 :: H) zpk ?_
   refine WC.rangeFuncR (encs := fun x : Nat => [.int .i64 (x : Int)]) (xs := []) (lb := [.pp p2, .pp p3]) (ps := [30]) (Hc := .row a cap 97 3 (drs L) :: .bl br [.slice ra M.length rc, .map (some rm)] 69 :: .row ra rc 118 3 (rdrs M) :: .bl b2 [.pp bh, .pp br] 59 :: .bl b4 [.bool false] 4 :: .bl b5 [.int .i64 0] 3 :: H)
    (J := fun _ m' Hl => m7.le m' ∧ Hl = [.bl bh [.slice a L.length cap, .map (some bm)] 90]) (Jx := fun _ _ _ _ => False)
    rfl func37 rfl rfl (zB5 (bh := bh) (a := a) (cp := cap) (mp := .map (some bm)) hin p2 p3) (fun _ => rfl) rfl (fun _ _ _ _ h hm => ⟨h.1.trans hm, h.2⟩)
    (fun pre m' Hl i j h => by
     obtain ⟨h1, rfl⟩ := h
     exact ⟨by simp, h1 _ _ (hle7 _ _ hp2), h1 _ _ hp3⟩) (fun _ _ _ _ _ h _ => h) (.cons .nil) ⟨Mem.le.refl _, rfl⟩ ?_ ?_ ?_
   ·rintro lp pre x post hx
    exact absurd hx (by simp)
   ·rintro D m8 Hl ⟨hle8, rfl⟩ hm8
    try (refine stg ?_; intros)
    refine zA func16 ?_ (hs := kE hin zhs)
    rintro v m H1 ⟨rfl, rfl, rfl⟩
    try (refine stg ?_; intros)
    refine WQ.mark (H1 := .bl bh [.slice a L.length cap, .map (some bm)] 90 :: .row a cap 97 3 (drs L) :: .bl br [.slice ra M.length rc, .map (some rm)] 69 :: .row ra rc 118 3 (rdrs M) :: .bl b2 [.pp bh, .pp br] 59 :: .bl b4 [.bool (dcd ((0 : Int) = 0))] 4 :: .bl b5 [.int .i64 0] 3 :: H) (List.Perm.swap _ _ _) ?_
    rw [zE (show (0 : Int) = 0 from rfl)]
    exact q_fz (Tells.mk (hle6.trans (hle7.trans hle8)) rfl)
   ·rintro D c9 pre m8 Hl _ h _
    exact h.elim
  ·refine stg ?_; intros; rename_i b2 b4 b5
   refine zA func9 ?_ (hs := zFy k _ _ _)
   rintro v m H1 ⟨rfl, p2, p3, rfl, rfl⟩
   refine WL.persist (b := p2) (by (repeat (first | exact Out.here | apply Out.there))) ?_
   intro m6 hle6 hp2
   refine WL.persist (b := p3) (by (repeat (first | exact Out.here | apply Out.there))) ?_
   intro m7 hle7 hp3
   try (refine stg ?_; intros)
   refine WC.heap (H' := .bl bh [.slice a L.length cap, .map (some bm)] 90 :: .row a cap 97 3 (drs L) :: .bl br [.slice ra M.length rc, .map (some rm)] 69 :: .row ra rc 118 3 (rdrs M) :: .bl b2 [.pp bh, .pp br] 59 :: .bl b4 [.bool false] 4 :: .bl b5 [.int .i64 0] 3 :: H) zpk ?_
   refine WC.rangeFuncR (encs := fun x : Nat => [.int .i64 (x : Int)]) (xs := []) (lb := [.pp p2, .pp p3]) (ps := [30]) (Hc := .row a cap 97 3 (drs L) :: .bl br [.slice ra M.length rc, .map (some rm)] 69 :: .row ra rc 118 3 (rdrs M) :: .bl b2 [.pp bh, .pp br] 59 :: .bl b4 [.bool false] 4 :: .bl b5 [.int .i64 0] 3 :: H)
    (J := fun _ m' Hl => m7.le m' ∧ Hl = [.bl bh [.slice a L.length cap, .map (some bm)] 90]) (Jx := fun _ _ _ _ => False)
    rfl func37 rfl rfl (zB5 (bh := bh) (a := a) (cp := cap) (mp := .map (some bm)) hin p2 p3) (fun _ => rfl) rfl (fun _ _ _ _ h hm => ⟨h.1.trans hm, h.2⟩)
    (fun pre m' Hl i j h => by
     obtain ⟨h1, rfl⟩ := h
     exact ⟨by simp, h1 _ _ (hle7 _ _ hp2), h1 _ _ hp3⟩) (fun _ _ _ _ _ h _ => h) (.cons .nil) ⟨Mem.le.refl _, rfl⟩ ?_ ?_ ?_
   ·rintro lp pre x post hx
    exact absurd hx (by simp)
   ·rintro D m8 Hl ⟨hle8, rfl⟩ hm8
    try (refine stg ?_; intros)
    refine zA func16 ?_ (hs := kE hin zhs)
    rintro v m H1 ⟨rfl, rfl, rfl⟩
    try (refine stg ?_; intros)
    refine WQ.mark (H1 := .bl bh [.slice a L.length cap, .map (some bm)] 90 :: .row a cap 97 3 (drs L) :: .bl br [.slice ra M.length rc, .map (some rm)] 69 :: .row ra rc 118 3 (rdrs M) :: .bl b2 [.pp bh, .pp br] 59 :: .bl b4 [.bool (dcd ((0 : Int) = 0))] 4 :: .bl b5 [.int .i64 0] 3 :: H) (List.Perm.swap _ _ _) ?_
    rw [zE (show (0 : Int) = 0 from rfl)]
    exact q_fz (Tells.mk (hle6.trans (hle7.trans hle8)) rfl)
   ·rintro D c9 pre m8 Hl _ h _
    exact h.elim
end ZP
namespace Go.Eng
open Go
def noSuch : List UInt8 := [110, 111, 32, 115, 117, 99, 104]
def NamesOk (B : Br) : Prop := ∀ e ∈ B, x6 e.2.1
theorem NamesOk.no {B : Br} (h : NamesOk B) : yP B noSuch = none := by
 cases hh : yP B noSuch with
 | none => rfl
 | some k =>
  obtain ⟨e, he, h1, _⟩ := jC hh
  have := h e he
  rw [h1] at this
  exact absurd this (by decide)
end Go.Eng
namespace ZP
open Go Go.Eng
attribute [local irreducible] WL WC WQ QFun zJ Does Q1 zD zB Go.Addr.add
attribute [local irreducible] mapT brN brL x6 strs
theorem q7 {bh bm cap c br rm rc : Nat} {a ra : Option Addr} {L M : List Dr} {B : Br} (w0 : World) (m : Mem) (H : SHeap) (hw : WOk m L M B c) (hnm : yP B noSuch = none) :
  Does Tryz.prog 26 #[.agg #[.pp bh, .pp br]] w0 m (.bl bh [.slice a L.length cap, .map (some bm)] 90 :: .row a cap 97 3 (drs L) :: .blk bm (mapT (brE B) c) :: .bl br [.slice ra M.length rc, .map (some rm)] 69 :: .row ra rc 118 3 (rdrs M) :: .blk rm (mapT (brE B) c) :: H) (Tells (.bool true) m (.bl bh [.slice a L.length cap, .map (some bm)] 90 :: .row a cap 97 3 (drs L) :: .blk bm (mapT (brE B) c) :: .bl br [.slice ra M.length rc, .map (some rm)] 69 :: .row ra rc 118 3 (rdrs M) :: .blk rm (mapT (brE B) c) :: H)) := by
 refine Does.of_body func26 rfl ntmps26 rfl ?_
 have hold := hw.ok.old
 have hbn := hw.ok.borns
 have hN := hw.ok.names
 have hB := hw.ok.most
 have hLl := j5 B
 have hNl := j7 B
 have hsl := zY (brN B)
 refine st ?_; intros; rename_i b1 b2
 refine WL.heap (H' := .bl br [.slice ra M.length rc, .map (some rm)] 69 :: .row ra rc 118 3 (rdrs M) :: .blk rm (mapT (brE B) c) :: .bl bh [.slice a L.length cap, .map (some bm)] 90 :: .row a cap 97 3 (drs L) :: .blk bm (mapT (brE B) c) :: .bl b2 [.bool false] 4 :: .bl b1 [.pp bh, .pp br] 59 :: H) zpk ?_
 refine zA func55 ?_ (hs := zCr hold hbn (by omega) _ _ _)
 rintro v m H1 ⟨rfl, al, cl, rfl, rfl⟩
 refine st ?_; intros; rename_i b3
 refine zA func8 ?_ (hs := zAL _ _ _)
 rintro v m H1 ⟨rfl, bb, rfl, rfl⟩
 refine WL.persist (b := bb) (by (repeat (first | exact Out.here | apply Out.there))) ?_
 intro m1 hle1 hbb
 try (refine st ?_; intros)
 refine lpz (fun j r ds m' H' => ∃ (i : Nat) (Ds : List Nat) (mm : Mem), j = 2 - i ∧ r = [(5, .int .i64 (i : Int)), (4, .func (.func 34) #[] #[.pp bb]), (3, .pp b3), (2, .pp b2), (1, .pp b1)] ∧ ds = (List.map Dfr.mark Ds) ∧ mm = m' ∧ H' = .bl b3 [.slice al (brN B).length cl] 83 :: .row al cl 9 1 (strs (brN B)) :: .bl b1 [.pp bh, .pp br] 59 :: .bl bh [.slice a L.length cap, .map (some bm)] 90 :: .row a cap 97 3 (drs L) :: .blk bm (mapT (brE B) c) :: .bl br [.slice ra M.length rc, .map (some rm)] 69 :: .row ra rc 118 3 (rdrs M) :: .blk rm (mapT (brE B) c) :: .bl b2 [.bool false] 4 :: (List.map dfr Ds ++ H) ∧ (i ≤ 2) ∧ (m1.le mm)) (2 - (0)) ⟨0, [], m1, rfl, rfl, rfl, rfl, rfl, by omega, Mem.le.refl _⟩ ?_
 rintro j r ds m' H' ⟨i, Ds, mm, rfl, rfl, rfl, rfl, rfl, hi, hle⟩
 by_cases hlt : i < 2
 ·refine st ?_; intros; rename_i b6
  refine WC.heap (H' := .bl b6 [.int .i64 (([] : List (Tx × Nat)).length : Int)] 3 :: .bl b3 [.slice al (brN B).length cl] 83 :: .row al cl 9 1 (strs (brN B)) :: .bl b1 [.pp bh, .pp br] 59 :: .bl bh [.slice a L.length cap, .map (some bm)] 90 :: .row a cap 97 3 (drs L) :: .blk bm (mapT (brE B) c) :: .bl br [.slice ra M.length rc, .map (some rm)] 69 :: .row ra rc 118 3 (rdrs M) :: .blk rm (mapT (brE B) c) :: .bl b2 [.bool false] 4 :: (List.map dfr Ds ++ H)) zpk ?_
  refine WC.rangeFuncR (encs := fun x : Tx × Nat => [str x.1, .int .i64 (x.2 : Int)]) (xs := brL B) (lb := [.pp bb]) (ps := [26, 27]) (Hc := .bl b2 [.bool false] 4 :: (List.map dfr Ds ++ H))
   (J := fun pre m' Hl => mm.le m' ∧ Hl = .bl b6 [.int .i64 (pre.length : Int)] 3 :: .bl b3 [.slice al (brN B).length cl] 83 :: .row al cl 9 1 (strs (brN B)) :: .bl b1 [.pp bh, .pp br] 59 :: .bl bh [.slice a L.length cap, .map (some bm)] 90 :: .row a cap 97 3 (drs L) :: .blk bm (mapT (brE B) c) :: .bl br [.slice ra M.length rc, .map (some rm)] 69 :: .row ra rc 118 3 (rdrs M) :: .blk rm (mapT (brE B) c) :: []) (Jx := fun _ _ _ _ => False)
   rfl func34 rfl rfl (jF (bh := bh) (bm := bm) hold hbn hN (by omega) bb) (fun _ => rfl) rfl (fun _ _ _ _ h hm => ⟨h.1.trans hm, h.2⟩)
   (fun pre m' Hl i j h => by
    obtain ⟨h1, rfl⟩ := h
    exact ⟨⟨a, L.length, cap, by simp⟩, ⟨B, c, by simp, fun _ _ => rfl, fun _ => ⟨rfl, rfl⟩⟩, h1 _ _ (hle _ _ hbb)⟩) (fun _ _ _ _ _ h _ => h) (.cons (.cons (.cons (.cons (.cons (.cons (.cons (.cons (.cons (.cons .nil)))))))))) ⟨Mem.le.refl _, rfl⟩ ?_ ?_ ?_
  ·rintro lp pre ⟨x, kx⟩ post hx m8 Hl ⟨hle8, rfl⟩ hm8 Hfr hfr
   have hpl : pre.length < (brL B).length := by rw [hx]; simp
   have hgx : (brL B)[pre.length]? = some (x, kx) := by rw [hx]; simp
   obtain ⟨y1, y2, y3, y4⟩ := zAT hN hgx
   simp only at y1 y4
   have hgn : (strs (brN B))[pre.length]? = some [str x] := by unfold strs; rw [List.getElem?_map, y4]; rfl
   have hl2 : ((pre ++ [(x, kx)]).length : Int) = (pre.length : Int) + 1 := by simp
   generalize hSN : strs (brN B) = SN at *
   try (refine st ?_; intros)
   refine WQ.assigned (.cons (.cons (.cons (.cons (.cons (.cons (.cons (.cons (.cons (.cons .nil)))))))))) zml ?_
   intro Hfr2
   simp only [List.cons_append, List.nil_append]
   refine WC.rowSome (a := al) zhs (by omega) ?_
   rintro al rfl
   try (refine st ?_; intros)
   refine WL.lookT1 (es := brE B) (k := x) (z := .int .i64 0) rfl rfl zhs rfl rfl (fun _ => rfl) rfl ?_
   rw [wD, y1]
   simp only [Option.map_some, Option.getD_some]
   try (refine st ?_; intros)
   refine zN func14 ?_ (hs := zFp x _ _ _)
   rintro v m9 H9 ⟨rfl, rfl, rfl⟩
   rw [y1]
   simp only [Option.getD_some, Option.isSome_some, if_true]
   try (refine st ?_; intros)
   rw [← hl2]
   exact WQ.roundOn (Hl := .bl b6 [.int .i64 ((pre ++ [(x, kx)]).length : Int)] 3 :: .bl b3 [.slice (some al) (brN B).length cl] 83 :: .row (some al) cl 9 1 SN :: .bl b1 [.pp bh, .pp br] 59 :: .bl bh [.slice a L.length cap, .map (some bm)] 90 :: .row a cap 97 3 (drs L) :: .blk bm (mapT (brE B) c) :: .bl br [.slice ra M.length rc, .map (some rm)] 69 :: .row ra rc 118 3 (rdrs M) :: .blk rm (mapT (brE B) c) :: []) zpk zml ⟨hle8, rfl⟩
  ·rintro D m8 Hl ⟨hle8, rfl⟩ hm8
   try (refine st ?_; intros)
   simp only [List.cons_append, List.nil_append]
   refine WC.heap (H' := .bl b3 [.slice al (brN B).length cl] 83 :: .row al cl 9 1 (strs (brN B)) :: .bl b1 [.pp bh, .pp br] 59 :: .bl bh [.slice a L.length cap, .map (some bm)] 90 :: .row a cap 97 3 (drs L) :: .blk bm (mapT (brE B) c) :: .bl br [.slice ra M.length rc, .map (some rm)] 69 :: .row ra rc 118 3 (rdrs M) :: .blk rm (mapT (brE B) c) :: .bl b2 [.bool false] 4 :: .blk D (.deferred (some [])) :: (List.map dfr Ds ++ H)) zpk ?_
   refine WC.rangeFuncR (encs := fun x : Tx × Nat => [str x.1, .int .i64 (x.2 : Int)]) (xs := brL B) (lb := [.pp bb]) (ps := [72, 73]) (Hc := .bl b2 [.bool false] 4 :: .blk D (.deferred (some [])) :: (List.map dfr Ds ++ H))
    (J := fun pre m' Hl => m8.le m' ∧ Hl = .bl b3 [.slice al (brN B).length cl] 83 :: .row al cl 9 1 (strs (brN B)) :: .bl b1 [.pp bh, .pp br] 59 :: .bl bh [.slice a L.length cap, .map (some bm)] 90 :: .row a cap 97 3 (drs L) :: .blk bm (mapT (brE B) c) :: .bl br [.slice ra M.length rc, .map (some rm)] 69 :: .row ra rc 118 3 (rdrs M) :: .blk rm (mapT (brE B) c) :: []) (Jx := fun cx pre m' Hl => cx = .exit 4 ∧ m8.le m' ∧ Hl = .bl b3 [.slice al (brN B).length cl] 83 :: .row al cl 9 1 (strs (brN B)) :: .bl b1 [.pp bh, .pp br] 59 :: .bl bh [.slice a L.length cap, .map (some bm)] 90 :: .row a cap 97 3 (drs L) :: .blk bm (mapT (brE B) c) :: .bl br [.slice ra M.length rc, .map (some rm)] 69 :: .row ra rc 118 3 (rdrs M) :: .blk rm (mapT (brE B) c) :: [])
    rfl func34 rfl rfl (jF (bh := bh) (bm := bm) hold hbn hN (by omega) bb) (fun _ => rfl) rfl (fun _ _ _ _ h hm => ⟨h.1.trans hm, h.2⟩)
    (fun pre m' Hl i j h => by
     obtain ⟨h1, rfl⟩ := h
     exact ⟨⟨a, L.length, cap, by simp⟩, ⟨B, c, by simp, fun _ _ => rfl, fun _ => ⟨rfl, rfl⟩⟩, h1 _ _ (hle8 _ _ (hle _ _ hbb))⟩) (fun _ _ _ _ _ h hm => ⟨h.1, h.2.1.trans hm, h.2.2⟩) (.cons (.cons (.cons (.cons (.cons (.cons (.cons (.cons (.cons .nil))))))))) ⟨Mem.le.refl _, rfl⟩ ?_ ?_ ?_
   ·rintro lp pre ⟨x, kx⟩ post hx m9 Hl ⟨hle9, rfl⟩ hm9 Hfr hfr
    refine WC.skip (WQ.assigned (.cons (.cons (.cons (.cons (.cons (.cons (.cons (.cons (.cons .nil))))))))) zml ?_)
    intro Hfr2
    exact WC.block (WC.exit (WQ.blockOther (by decide) (WQ.roundExit (fun _ h => h) zml ⟨rfl, hle9, rfl⟩)))
   ·rintro D2 m9 Hl ⟨hle9, rfl⟩ hm9
    simp only [List.cons_append, List.nil_append]
    try (refine st ?_; intros)
    refine WQ.heapX (H' := .bl b3 [.slice al (brN B).length cl] 83 :: .row al cl 9 1 (strs (brN B)) :: .bl b1 [.pp bh, .pp br] 59 :: .bl bh [.slice a L.length cap, .map (some bm)] 90 :: .row a cap 97 3 (drs L) :: .blk bm (mapT (brE B) c) :: .bl br [.slice ra M.length rc, .map (some rm)] 69 :: .row ra rc 118 3 (rdrs M) :: .blk rm (mapT (brE B) c) :: .bl b2 [.bool false] 4 :: .blk D2 (.deferred (some [])) :: .blk D (.deferred (some [])) :: (List.map dfr Ds ++ H)) zpk ?_
    rw [show Eng.Item.blk D2 (.deferred (some [])) :: Eng.Item.blk D (.deferred (some [])) :: (List.map dfr Ds ++ H) = List.map dfr (D2 :: D :: Ds) ++ H from rfl]
    refine nxz (2 - (i + 1)) ⟨i + 1, D2 :: D :: Ds, m9, rfl, rfl, rfl, rfl, rfl, ?_, ?_⟩
    ·omega
    ·exact (hle.trans hle8).trans hle9
   ·rintro D2 c9 pre m9 Hl _ ⟨rfl, hle9, rfl⟩ hm9
    simp only [List.cons_append, List.nil_append]
    try (refine st ?_; intros)
    refine WQ.heapX (H' := .bl b3 [.slice al (brN B).length cl] 83 :: .row al cl 9 1 (strs (brN B)) :: .bl b1 [.pp bh, .pp br] 59 :: .bl bh [.slice a L.length cap, .map (some bm)] 90 :: .row a cap 97 3 (drs L) :: .blk bm (mapT (brE B) c) :: .bl br [.slice ra M.length rc, .map (some rm)] 69 :: .row ra rc 118 3 (rdrs M) :: .blk rm (mapT (brE B) c) :: .bl b2 [.bool false] 4 :: .blk D2 (.deferred (some [])) :: .blk D (.deferred (some [])) :: (List.map dfr Ds ++ H)) zpk ?_
    rw [show Eng.Item.blk D2 (.deferred (some [])) :: Eng.Item.blk D (.deferred (some [])) :: (List.map dfr Ds ++ H) = List.map dfr (D2 :: D :: Ds) ++ H from rfl]
    refine nxz (2 - (i + 1)) ⟨i + 1, D2 :: D :: Ds, m9, rfl, rfl, rfl, rfl, rfl, ?_, ?_⟩
    ·omega
    ·exact (hle.trans hle8).trans hle9
  ·rintro D c9 pre m8 Hl _ h _
   exact h.elim
 ·try (refine st ?_; intros)
  refine zN func14 ?_ (hs := zFp noSuch _ _ _)
  rintro v m9 H9 ⟨rfl, rfl, rfl⟩
  rw [hnm]
  simp only [Option.getD_none, Option.isSome_none, Bool.false_eq_true, if_false]
  try (refine st ?_; intros)
  rw [zE (show ((4 : Nat) : Int) = 4 from rfl)]
  refine WQ.heapX (H' := List.map dfr Ds ++ (.bl b2 [.bool true] 4 :: .bl bh [.slice a L.length cap, .map (some bm)] 90 :: .row a cap 97 3 (drs L) :: .blk bm (mapT (brE B) c) :: .bl br [.slice ra M.length rc, .map (some rm)] 69 :: .row ra rc 118 3 (rdrs M) :: .blk rm (mapT (brE B) c) :: H)) ?_ ?_
  ·intro w hw
   have h9 := (zpk : ∀ w, Sat w0 m9 _ w → Sat w0 m9 (.bl b2 [.bool true] 4 :: .bl bh [.slice a L.length cap, .map (some bm)] 90 :: .row a cap 97 3 (drs L) :: .blk bm (mapT (brE B) c) :: .bl br [.slice ra M.length rc, .map (some rm)] 69 :: .row ra rc 118 3 (rdrs M) :: .blk rm (mapT (brE B) c) :: (List.map dfr Ds ++ H)) w) w hw
   exact h9.perm (List.perm_append_comm_assoc [_, _, _, _, _, _, _] (List.map dfr Ds) H)
  refine WQ.marks (ds := Ds) (H1 := .bl b2 [.bool true] 4 :: .bl bh [.slice a L.length cap, .map (some bm)] 90 :: .row a cap 97 3 (drs L) :: .blk bm (mapT (brE B) c) :: .bl br [.slice ra M.length rc, .map (some rm)] 69 :: .row ra rc 118 3 (rdrs M) :: .blk rm (mapT (brE B) c) :: H) (List.Perm.refl _) ?_
  exact q_fz (Tells.mk (hle1.trans hle) rfl)
end ZP
namespace Go.Eng
open Go
def struck (E : List (List Value)) (i : Nat) : List (List Value) := List.replicate i [.int .i64 (-7)] ++ E.drop i
theorem zDd {E : List (List Value)} {i : Nat} (h : i ≤ E.length) : (struck E i).length = E.length := by unfold struck; simp; omega
theorem zGA {E : List (List Value)} {i : Nat} {e : List Value} (h : E[i]? = some e) : (struck E i)[i]? = some e := by
 unfold struck
 rw [List.getElem?_append_right (by simp), List.length_replicate, Nat.sub_self, List.getElem?_drop, Nat.add_zero]; exact h
theorem zGy {E : List (List Value)} {i : Nat} (h : i < E.length) : (struck E i).set i [.int .i64 (-7)] = struck E (i + 1) := by
 unfold struck
 rw [List.set_append_right _ _ (by simp), List.length_replicate, Nat.sub_self, List.drop_eq_getElem_cons h, List.set_cons_zero, List.replicate_succ', List.append_assoc]
 rfl
end Go.Eng
namespace ZP
open Go Go.Eng
attribute [local irreducible] WL WC WQ QFun zJ Does Q1 zD zB Go.Addr.add
theorem zDK (w0 : World) (m : Mem) (H : SHeap) : Does Tryz.prog 44 #[.slice none 0 0] w0 m H (Gives (.slice none 0 0) m H) := by
 refine Does.of_body func44 rfl ntmps44 rfl ?_
 try (refine st ?_; intros)
 exact q_fz zgm
theorem zD9 {b n c : Nat} {a : Option Addr} {mp : Value} {k : Int} (hk : ¬ (0 ≤ k ∧ k < (n : Int))) {w0 : World} {m : Mem} {H : SHeap} (hm : Eng.Item.bl b [.slice a n c, mp] 90 ∈ H) :
  Does Tryz.prog 12 #[.pp b, .int .i64 k] w0 m H (Gives (.tuple #[.agg #[.int .i64 0, .slice none 0 0], .int .i64 5]) m H) := by
 refine Does.gives_memD hm fun H => ?_
 refine Does.of_body func12 rfl ntmps12 rfl ?_
 refine st ?_; intros; rename_i b4
 refine zA func43 ?_ (hs := zBd hk zhs)
 rintro v m H1 ⟨rfl, rfl, rfl⟩
 refine st ?_; intros; rename_i b6
 refine wdw 11 ([.bl b6 [.int .i64 0, .slice none 0 0, str []] 97]) ?_
 refine cm0 ?_
 refine wa1 6 ?_
 refine zA func44 ?_ (hs := zDK _ _ _)
 rintro v m1 H1 ⟨rfl, rfl, rfl⟩
 try (refine st ?_; intros)
 refine waz [] zml ?_
 refine cm0 ?_
 refine wa0 9 ?_
 try (refine st ?_; intros)
 refine wsz [] zml ?_
 refine cm0 ?_
 refine wdz ?_
 try (refine st ?_; intros)
 exact q_fz zgm
attribute [local irreducible] struck
namespace ZD80a
theorem zal {G G' : Prop} (next : G') (h : Bx G' → G := by intro zzn; (first | (refine iF 19 rfl ?_; refine zU func19 ?_ (hs := zF2 zhs))); (repeat revert zzf); exact zzn.out) : G := h ⟨next⟩
end ZD80a
open ZD80a in
theorem zCv {bh bm cap c br rm rc : Nat} {a ra : Option Addr} {L M : List Dr} {B : Br} (w0 : World) (m : Mem) (H : SHeap) (hw : WOk m L M B c) :
  Does Tryz.prog 25 #[.agg #[.pp bh, .pp br]] w0 m (.bl bh [.slice a L.length cap, .map (some bm)] 90 :: .row a cap 97 3 (drs L) :: .bl br [.slice ra M.length rc, .map (some rm)] 69 :: .row ra rc 118 3 (rdrs M) :: H) (Gives (.bool true) m (.bl bh [.slice a L.length cap, .map (some bm)] 90 :: .row a cap 97 3 (drs L) :: .bl br [.slice ra M.length rc, .map (some rm)] 69 :: .row ra rc 118 3 (rdrs M) :: H)) := by
 refine Does.of_body func25 rfl ntmps25 rfl ?_
 have hsl := hw.same.length
 have hLf := hw.ok.few
 have hnlM := wE M
 refine stg ?_; intros; rename_i b1
 refine lpz (fun j r ds m' H' => ∃ (n : Nat) (z : Int), j = L.length + 2 - n ∧ r = [(3, .int .i64 z), (1, .pp b1)] ∧ ds = [] ∧ m = m' ∧ H' = .bl b1 [.pp bh, .pp br] 59 :: .bl bh [.slice a L.length cap, .map (some bm)] 90 :: .row a cap 97 3 (drs L) :: .bl br [.slice ra M.length rc, .map (some rm)] 69 :: .row ra rc 118 3 (rdrs M) :: H ∧ (n ≤ L.length + 2) ∧ (z = (n : Int) - 1)) (L.length + 2 - (0)) ⟨0, -1, rfl, rfl, rfl, rfl, rfl, by omega, by omega⟩ ?_
 rintro j r ds m' H' ⟨n, z, rfl, rfl, rfl, rfl, rfl, hn, hz⟩
 by_cases hlt : n < L.length + 2
 ·by_cases hin : 0 ≤ z ∧ z < (L.length : Int)
  ·obtain ⟨k, rfl⟩ : ∃ k : Nat, z = (k : Int) := ⟨z.toNat, by omega⟩
   have hk : k < L.length := by omega
   obtain ⟨d, hd⟩ : ∃ d, L[k]? = some d := ⟨_, List.getElem?_eq_getElem hk⟩
   obtain ⟨e, he, e1, e2, e3⟩ := hw.same.at_ hd
   obtain ⟨va, vc, hv, hr⟩ := hw.ok.at_ d (List.mem_of_getElem? hd)
   obtain ⟨ea, ec, hev, her⟩ := hw.atM e (List.mem_of_getElem? he)
   have hpar := hw.ok.par k d hd
   have hge := vE he
   unfold rdE at hge
   rw [hev, e1, e2, e3] at hge
   rw [e2] at her
   try (refine stg ?_; intros)
   refine zN func12 ?_ (hs := zE3 hd hpar.2.2.1 _ _ _ (hw.ok.at_ d (List.mem_of_getElem? hd)))
   rintro v m1 H1 ⟨rfl, al, cl, rfl, rfl⟩
   refine stg ?_; intros; rename_i b4
   refine zN func13 ?_ (hs := zGR hd hv _ _ _)
   rintro v m2 H2 ⟨rfl, rfl, rfl⟩
   generalize hRM : rdrs M = RM at *
   refine WL.rowSome (a := ra) zhs (by omega) ?_
   rintro ra rfl
   refine stg ?_; intros; rename_i b8
   have hnp := zQ d.ps
   generalize hNP : nums d.ps = NP at *
   have hst0 : NP = struck NP 0 := by unfold struck; simp
   refine lpz (fun j r ds m' H' => ∃ (i : Nat) (E : List (List Value)), j = d.ps.length - i ∧ r = [(116, .int .i64 (i : Int)), (115, .int .i64 (d.ps.length : Int)), (114, .slice al d.ps.length cl), (4, .pp b4), (8, .pp b8), (3, .int .i64 (k : Int)), (1, .pp b1)] ∧ ds = [] ∧ m2 = m' ∧ H' = .row al cl 3 1 E :: .bl b8 [str d.t, .int .i64 (d.h : Int), .slice ea d.ps.length ec] 118 :: .bl b4 [.int .i64 (d.h : Int), .slice al d.ps.length cl] 38 :: .bl b1 [.pp bh, .pp br] 59 :: .bl bh [.slice a L.length cap, .map (some bm)] 90 :: .row a cap 97 3 (drs L) :: .bl br [.slice (some ra) M.length rc, .map (some rm)] 69 :: .row (some ra) rc 118 3 RM :: H ∧ (i ≤ d.ps.length) ∧ (E = struck NP i)) (d.ps.length - (0)) ⟨0, NP, rfl, rfl, rfl, rfl, rfl, by omega, hst0⟩ ?_
   rintro j r ds m' H' ⟨i, E, rfl, rfl, rfl, rfl, rfl, hi, hE⟩
   have hEl : E.length = d.ps.length := by rw [hE, zDd (by omega), hnp]
   by_cases hlt2 : i < d.ps.length
   ·obtain ⟨p, hp⟩ : ∃ p, d.ps[i]? = some p := ⟨_, List.getElem?_eq_getElem hlt2⟩
    have hgn : NP[i]? = some [.int .i64 (p : Int)] := by rw [← hNP]; exact xO hp
    have hgE := zGA hgn
    rw [← hE] at hgE
    have hset : E.set i [.int .i64 (-7)] = struck NP (i + 1) := by rw [hE]; exact zGy (by omega)
    have her' := her w0 (.row al cl 3 1 E :: .bl b8 [str d.t, .int .i64 (d.h : Int), .slice ea d.ps.length ec] 118 :: .bl b4 [.int .i64 (d.h : Int), .slice al d.ps.length cl] 38 :: .bl b1 [.pp bh, .pp br] 59 :: .bl bh [.slice a L.length cap, .map (some bm)] 90 :: .row a cap 97 3 (drs L) :: .bl br [.slice (some ra) M.length rc, .map (some rm)] 69 :: .row (some ra) rc 118 3 RM :: H)
    refine WC.rSome her' (by omega) ?_
    rintro ea rfl
    refine WC.rowSome (a := al) zhs (by omega) ?_
    rintro al rfl
    try (refine stg ?_; intros)
    rw [hset]
    refine nxz (d.ps.length - (i + 1)) ⟨i + 1, struck NP (i + 1), rfl, rfl, rfl, rfl, rfl, ?_, ?_⟩
    ·omega
    ·rfl
   ·refine stg ?_; intros; rename_i b9
    refine WL.appendR (es := E) (es' := [[.int .i64 (-7)], [.int .i64 (-7)]]) (by' := 8) rfl rfl rfl rfl (by (repeat (first | exact Out.here | apply Out.there))) (yZ (T := 3) (fz := (0, 0)) (L := [.int .i64 (-7), .int .i64 (-7)]) zhs rfl (by simp)) (fun q hq => by simp only [List.mem_cons, List.not_mem_nil, or_false, or_self] at hq; subst hq; rfl) (by simp) rfl rfl rfl rfl hEl.symm rfl (by rw [hEl]; simp; have := hpar.2.2.1; omega) (by omega) rfl ?_
    intro a9 c9
    try (refine stg ?_; intros)
    subst hRM
    refine nxz (L.length + 2 - (n + 1)) ⟨n + 1, (k : Int) + 1, rfl, rfl, rfl, rfl, rfl, ?_, ?_⟩
    ·omega
    ·omega
  ·try (refine stg ?_; intros)
   refine zA func12 ?_ (hs := zD9 hin zhs)
   rintro v m1 H1 ⟨rfl, rfl, rfl⟩
   refine stg ?_; intros; rename_i b4
   refine zA func13 ?_ (hs := zE7 hin zhs)
   rintro v m1 H1 ⟨rfl, rfl, rfl⟩
   by_cases h0 : z < 0
   ·try (refine stg ?_; intros)
    refine nxz (L.length + 2 - (n + 1)) ⟨n + 1, z + 1, rfl, rfl, rfl, rfl, rfl, ?_, ?_⟩
    ·omega
    ·omega
   ·have hzl : z = (M.length : Int) := by omega
    try (refine stg ?_; intros)
    refine nxz (L.length + 2 - (n + 1)) ⟨n + 1, z + 1, rfl, rfl, rfl, rfl, rfl, ?_, ?_⟩
    ·omega
    ·omega
 ·have hzl : (M.length : Int) < z := by omega
  try (refine stg ?_; intros)
  exact q_fz zgm
end ZP
namespace Go.Eng
open Go
theorem NamesOk.put {B : Br} (h : NamesOk B) {c k : Nat} {s : List UInt8} (hs : (yP B s).isSome ∨ x6 s) : NamesOk (putB B c s k) := by
 unfold putB
 intro e he
 split at he
 ·have : e.2.1 ∈ (setB B s k).map (·.2.1) := List.mem_map_of_mem he
  rw [(j3 s k B).1] at this
  obtain ⟨x, hx, h1⟩ := List.mem_map.1 this
  rw [← h1]; exact h x hx
 ·rename_i hn
  rcases List.mem_append.1 he with he | he
  ·exact h e he
  ·rw [List.mem_singleton] at he
   subst he
   exact hs.resolve_left hn
theorem NamesOk.erase {B : Br} (h : NamesOk B) (s : List UInt8) : NamesOk (eraseB B s) := fun e he => h e ((vK B).mem he)
theorem WOk.add {m : Mem} {L M : List Dr} {B : Br} {c k : Nat} (h : WOk m L M B c) {s : List UInt8} {d e : Dr} (hl : L.length < 256) (hp : ∀ p ∈ d.ps, p < L.length) (h0 : d.ps ≠ []) (h2 : d.ps.length ≤ 2) (ht : d.t.length ≤ 65536) (hh : d.h ≤ 999999999999999999) (hd : PsAt m d)
  (hk : yP B s = some k) (he : PsAt m e) (h3 : d.h = e.h) (h4 : d.ps = e.ps) (h5 : d.t = e.t) : WOk m (L ++ [d]) (M ++ [e]) (putB B c s L.length) (clkB B c s) where
 ok := h.ok.add hl hp h0 h2 ht hh hd hk
 same := h.same.snoc h3 h4 h5
 atM := fun x hx => by
  rcases List.mem_append.1 hx with hx | hx
  ·exact h.atM x hx
  ·rw [List.mem_singleton] at hx
   subst hx; exact he
end Go.Eng
namespace ZP
open Go Go.Eng
attribute [local irreducible] WL WC WQ QFun zJ Does Q1 zD zB Go.Addr.add
def Turned (bh bm br rm : Nat) (B0 : Br) (m : Mem) (H : SHeap) (v : Value) (m' : Mem) (H' : SHeap) : Prop :=
 v = .bool true ∧ m.le m' ∧ ∃ (a ra : Option Addr) (cap rc c : Nat) (L M : List Dr) (B : Br), WOk m' L M B c ∧ (NamesOk B0 → NamesOk B) ∧ H' = .bl bh [.slice a L.length cap, .map (some bm)] 90 :: .row a cap 97 3 (drs L) :: .blk bm (mapT (brE B) c) :: .bl br [.slice ra M.length rc, .map (some rm)] 69 :: .row ra rc 118 3 (rdrs M) :: .blk rm (mapT (brE B) c) :: H
namespace ZD81a
theorem zal {G G' : Prop} (next : G') (h : Bx G' → G := by intro zzn; (first | (refine WL.lookT (es := brE _) (z := .int .i64 0) rfl rfl zhs rfl rfl (fun _ => rfl) rfl ?_)); (repeat revert zzf); exact zzn.out) : G := h ⟨next⟩
end ZD81a
open ZD81a in
theorem zEI {bh bm cap c br rm rc : Nat} {a ra : Option Addr} {L M : List Dr} {B : Br} (kd : Int) (s u : Tx) (hand at_ : Int) (t : Tx) (w0 : World) (m : Mem) (H : SHeap) (ht9 : t.length ≤ 9223372036854775807) (hw : WOk m L M B c) :
  Does Tryz.prog 53 #[.agg #[.pp bh, .pp br], .agg #[.int .i64 kd, str s, str u, .int .i64 hand, .int .i64 at_, str t]] w0 m (.bl bh [.slice a L.length cap, .map (some bm)] 90 :: .row a cap 97 3 (drs L) :: .blk bm (mapT (brE B) c) :: .bl br [.slice ra M.length rc, .map (some rm)] 69 :: .row ra rc 118 3 (rdrs M) :: .blk rm (mapT (brE B) c) :: H) (Turned bh bm br rm B m H) := by
 refine Does.of_body func53 rfl ntmps53 rfl ?_
 have hsl := hw.same.length
 have hLf := hw.ok.few
 refine stg ?_; intros; rename_i b2 b3
 refine zN func10 ?_ (hs := zGf s hand t hLf _ _ _)
 rintro v m5 H5 ⟨hle5, (⟨e, he, hne, rfl, rfl, rfl⟩ | ⟨k, d, a', cap', he, rfl, hk, hps, ht, hh, hpa, rfl⟩)⟩
 ·try (refine stg ?_; intros)
  rw [wD]
  unfold comErr at he
  cases hh : yP B s with
  | none =>
   rw [if_pos hh] at he
   subst he
   simp only [Option.map_none, Option.getD_none, Option.isSome_none]
   try (refine stg ?_; intros)
   rw [zE (show (0 : Int) = 0 from rfl)]
   exact q_fz ⟨rfl, Mem.le.refl _, a, ra, cap, rc, c, L, M, B, hw, id, rfl⟩
  | some k0 =>
   rw [if_neg (by rw [hh]; simp)] at he
   simp only [Option.map_some, Option.getD_some, Option.isSome_some]
   by_cases h1 : hand < 0
   ·rw [if_pos (.inl h1)] at he
    subst he
    try (refine stg ?_; intros)
    rw [zE (show (0 : Int) = 0 from rfl)]
    exact q_fz ⟨rfl, Mem.le.refl _, a, ra, cap, rc, c, L, M, B, hw, id, rfl⟩
   by_cases h2 : 999999999999999999 < hand
   ·rw [if_pos (.inr h2)] at he
    subst he
    try (refine stg ?_; intros)
    rw [zE (show (0 : Int) = 0 from rfl)]
    exact q_fz ⟨rfl, Mem.le.refl _, a, ra, cap, rc, c, L, M, B, hw, id, rfl⟩
   rw [if_neg (by omega)] at he
   by_cases h3 : 65536 < t.length
   ·rw [if_pos (.inl h3)] at he
    subst he
    try (refine stg ?_; intros)
    rw [zE (show (0 : Int) = 0 from rfl)]
    exact q_fz ⟨rfl, Mem.le.refl _, a, ra, cap, rc, c, L, M, B, hw, id, rfl⟩
   by_cases h4 : L.length = 256
   ·rw [if_pos (.inr h4)] at he
    subst he
    try (refine stg ?_; intros)
    rw [zE (show (0 : Int) = 0 from rfl)]
    exact q_fz ⟨rfl, Mem.le.refl _, a, ra, cap, rc, c, L, M, B, hw, id, rfl⟩
   rw [if_neg (by omega)] at he
   exact absurd he.symm hne
 ·try (refine stg ?_; intros)
  rw [wD, hk]
  have hcom : ¬ (hand < 0 ∨ 999999999999999999 < hand) ∧ ¬ (65536 < t.length ∨ L.length = 256) := by
   unfold comErr at he
   rw [if_neg (by rw [hk]; simp)] at he
   by_cases g1 : hand < 0 ∨ 999999999999999999 < hand
   ·rw [if_pos g1] at he; omega
   ·rw [if_neg g1] at he
    by_cases g2 : 65536 < t.length ∨ L.length = 256
    ·rw [if_pos g2] at he; omega
    ·exact ⟨g1, g2⟩
  subst hh
  subst ht
  have hkl := hw.ok.head hk
  simp only [Option.map_some, Option.getD_some, Option.isSome_some]
  refine stg ?_; intros; rename_i b9
  refine WL.persist (b := b9) (by (repeat (first | exact Out.here | apply Out.there))) ?_
  intro m2 hle hb9
  try (refine stg ?_; intros)
  refine WL.heap (H' := .bl br [.slice ra M.length rc, .map (some rm)] 69 :: .row ra rc 118 3 (rdrs M) :: .blk rm (mapT (brE B) c) :: .bl b2 [.pp bh, .pp br] 59 :: .bl b3 [.int .i64 kd, str s, str u, .int .i64 (d.h : Int), .int .i64 at_, str d.t] 64 :: .bl bh [.slice a' (L ++ [d]).length cap', .map (some bm)] 90 :: .row a' cap' 97 3 (drs (L ++ [d])) :: .blk bm (mapT (brE (putB B c s L.length)) (clkB B c s)) :: H) zpk ?_
  obtain ⟨d2, hd1, hd2⟩ : ∃ d2 : Dr, d2 = ⟨d.h, [k], .slice (some ⟨b9, 0, none⟩) 1 1, d.t⟩ ∧ PsAt m2 d2 := ⟨_, rfl, PsAt.mem hb9 rfl⟩
  refine zA func83 ?_ (hs := (by subst hd1; exact zD1 s ⟨d.h, [k], .slice (some ⟨b9, 0, none⟩) 1 1, d.t⟩ (by omega) rfl _ _ _))
  rintro v m3 H3 ⟨rfl, rfl, ra', rc', rfl⟩
  try (refine stg ?_; intros)
  rw [← hsl, zE (show (L.length : Int) = (L.length : Int) from rfl)]
  have hw2 : WOk m3 L M B c := hw.le (hle5.trans hle)
  have hw3 := hw2.add (s := s) (d := d) (e := ⟨d.h, [k], .slice (some ⟨b9, 0, none⟩) 1 1, d.t⟩) (by omega) (by rw [hps]; intro p hp; rw [List.mem_singleton] at hp; subst hp; exact hkl) (by rw [hps]; simp) (by rw [hps]; simp) (by omega) (by omega) (hpa.le hle) hk (hd1 ▸ hd2) rfl hps rfl
  exact zR (H0 := .bl bh [.slice a' (L ++ [d]).length cap', .map (some bm)] 90 :: .row a' cap' 97 3 (drs (L ++ [d])) :: .blk bm (mapT (brE (putB B c s L.length)) (clkB B c s)) ::
   .bl br [.slice ra' (M ++ [(⟨d.h, [k], .slice (some ⟨b9, 0, none⟩) 1 1, d.t⟩ : Dr)]).length rc', .map (some rm)] 69 :: .row ra' rc' 118 3 (rdrs (M ++ [⟨d.h, [k], .slice (some ⟨b9, 0, none⟩) 1 1, d.t⟩])) :: .blk rm (mapT (brE (putB B c s L.length)) (clkB B c s)) :: H)
   ⟨rfl, hle5.trans hle, a', ra', cap', rc', _, _, _, _, hw3, fun h => h.put (.inl (by rw [hk]; rfl)), rfl⟩ (hd := zpk)
end ZP
namespace ZP
open Go Go.Eng
attribute [local irreducible] WL WC WQ QFun zJ Does Q1 zD zB Go.Addr.add
attribute [local irreducible] kv mapO cfs
namespace ZD30a
theorem zal {G G' : Prop} (next : G') (h : Bx G' → G := by intro zzn; (first | (refine WL.append1 (by':=64) rfl rfl rfl rfl (by (repeat (first | exact Out.here | apply Out.there))) zhs (by exact rfl) (by exact rfl) (by exact rfl) (by exact rfl) (by exact rfl) (by exact rfl) (by first | exact rfl | omega) (by first | omega | (simp; omega)) (by decide) (by exact rfl) ?_; intro zzf zzf) | (refine WL.indexAddrA rfl rfl (by exact znz) rfl rfl (by omega) rfl rfl ?_)); (repeat revert zzf); exact zzn.out) : G := h ⟨next⟩
end ZD30a
open ZD30a in
theorem zDI {O old own other : Tx} {L : List Cf} {al : Option Addr} {bw cl : Nat} {w0 : World} {m : Mem} {H : SHeap} (hO : O.length ≤ 1099511627776) (hw : own.length ≤ 4194304) (ho : other.length ≤ 4194304) (hL : L.length ≤ 4194304) :
  Does Tryz.prog 121 #[.pp bw, str old, str own, str other] w0 m (.bl bw [str O, .slice al L.length cl] 208 :: .row al cl 138 5 (cfs L) :: H)
   (fun _ m' H' => m' = m ∧ ∃ al2 cl2, H' = .bl bw [str (O ++ sideT old own other), .slice al2 (L ++ wP O.length old own other).length cl2] 208 :: .row al2 cl2 138 5 (cfs (L ++ wP O.length old own other)) :: H) := by
 refine Does.of_body func121 rfl ntmps121 rfl ?_
 have hcf := zAq L
 by_cases h1 : other = old
 ·rw [show sideT old own other = own from if_neg (fun g => g.1 h1), show wP O.length old own other = [] from if_neg (fun g => g.1 h1), List.append_nil]
  try (refine stg ?_; intros)
  exact q_nz ⟨rfl, al, cl, rfl⟩
 by_cases h2 : own = old
 ·rw [show sideT old own other = other from if_pos ⟨h1, h2⟩, show wP O.length old own other = [] from if_neg (fun g => g.2.1 h2), List.append_nil]
  try (refine stg ?_; intros)
  exact q_nz ⟨rfl, al, cl, rfl⟩
 by_cases h3 : own = other
 ·rw [show sideT old own other = own from if_neg (fun g => h2 g.2), show wP O.length old own other = [] from if_neg (fun g => g.2.2 h3), List.append_nil]
  try (refine stg ?_; intros)
  exact q_nz ⟨rfl, al, cl, rfl⟩
 ·rw [show sideT old own other = own from if_neg (fun g => h2 g.2), show wP O.length old own other = [⟨O.length, O.length + own.length, old, own, other⟩] from if_pos ⟨h1, h2, h3⟩]
  have hll : L.length + 1 = (L ++ [(⟨O.length, O.length + own.length, old, own, other⟩ : Cf)]).length := by simp
  have hlc : cfs L ++ [[.int .i64 (O.length : Int), .int .i64 ((O.length : Int) + (own.length : Int)), str old, str own, str other]] = cfs (L ++ [⟨O.length, O.length + own.length, old, own, other⟩]) := by
   unfold cfs
   rw [List.map_append]
   simp [Cf.cs]
  try (refine stg ?_; intros)
  refine wdw 27 ([.bl bw [str O, .slice al L.length cl] 208]) ?_
  refine cmg ?_
  refine wa1 23 ?_
  refine stg ?_; intros; rename_i b9
  refine waz [.bl b9 [.int .i64 (O.length : Int), .int .i64 ((O.length : Int) + (own.length : Int)), str old, str own, str other] 138] zml ?_
  refine cmg ?_
  refine wa1 24 ?_
  refine stg ?_; intros; rename_i al2 cl2
  rw [hcf]
  refine waz [] zml ?_
  refine cmg ?_
  refine wdz ?_
  try (refine stg ?_; intros)
  rw [hll, hlc]
  exact q_nz ⟨rfl, al2, cl2, rfl⟩
open ZD30a in
theorem zHe {X Y : List Tx} {M : List (Nat × Nat)} {a : Option Addr} {cp bm bm2 : Nat} {v0 v2 va vb vc : Value} {w0 : World} {m : Mem} {H : SHeap} {Q : Exit → Act → World → Prop} (hM : PrOk X Y 0 0 M X.length Y.length) (hl : M.length ≤ 4194304) (hX : X.length ≤ 4194304 ∧ Y.length ≤ 4194304)
  (hK : WQ 133 w0 Q (.exit 0) [(11, .map (some bm)), (12, .map (some bm2)), (8, va), (9, vb), (10, vc), (0, v0), (2, v2)] [] m (.blk bm (mapO .i64 (kv M)) :: H)) :
  WC Tryz.prog none 133 w0 ((yF (Tryz.f84.body.getD .skip)).getD 0 .skip) Q [(38, .int .i64 0), (37, .int .i64 (M.length : Int)), (36, .slice a M.length cp), (11, .map (some bm)), (12, .map (some bm2)), (8, va), (9, vb), (10, vc), (0, v0), (2, v2)] [] m
   (.blk bm (mapO .i64 []) :: .row a cp 134 2 (M.map prE) :: H) := by
 have hml : (M.map prE).length = M.length := List.length_map _
 rw [show ([] : List (Int × Value)) = kv (M.take 0) from by unfold kv; rfl]
 refine lpz (fun j r ds m' H' => ∃ i, j = M.length - i ∧ r = [(38, .int .i64 (i : Int)), (37, .int .i64 (M.length : Int)), (36, .slice a M.length cp), (11, .map (some bm)), (12, .map (some bm2)), (8, va), (9, vb), (10, vc), (0, v0), (2, v2)] ∧ ds = [] ∧ m = m' ∧ H' = .blk bm (mapO .i64 (kv (M.take i))) :: .row a cp 134 2 (M.map prE) :: H ∧ (i ≤ M.length)) (M.length - (0)) ⟨0, rfl, rfl, rfl, rfl, rfl, by omega⟩ ?_
 rintro j r ds m' H' ⟨i, rfl, rfl, rfl, rfl, rfl, hi⟩
 by_cases hlt : i < M.length
 ·obtain ⟨p, hp⟩ : ∃ p, M[i]? = some p := ⟨_, List.getElem?_eq_getElem hlt⟩
  have hgp : (M.map prE)[i]? = some [.int .i64 (p.1 : Int), .int .i64 (p.2 : Int)] := by rw [List.getElem?_map, hp]; rfl
  have hnew : (kv (M.take i)).lookup (p.1 : Int) = none := by
   rw [vF, hM.fresh (A := M.take i) (p := p) (B := M.drop (i + 1)) (by
    obtain ⟨h1, h2⟩ := List.getElem?_eq_some_iff.1 hp
    conv => lhs; rw [← List.take_append_drop i M, List.drop_eq_getElem_cons h1, h2])]
   rfl
  have hsnoc : kv (M.take i) ++ [((p.1 : Int), Value.int .i64 (p.2 : Int))] = kv (M.take (i + 1)) := by
   unfold kv
   rw [List.take_succ, hp]; simp
  generalize M.map prE = ME at *
  generalize kv (M.take i) = K at *
  refine WC.rowSome zhs (by omega) ?_
  rintro a0 rfl
  refine stg ?_; intros; rename_i bp
  refine WL.mapNew (q := .i64) (q' := .i64) rfl rfl rfl rfl rfl (by repeat (first | exact Repl.here | apply Repl.there)) hnew ?_
  rw [hsnoc]
  try (refine stg ?_; intros)
  refine nxz (M.length - (i + 1)) ⟨i + 1, rfl, rfl, rfl, rfl, rfl, ?_⟩
  ·omega
 ·rw [List.take_of_length_le (by omega)]
  try (refine stg ?_; intros)
  exact WQ.weak zsb zpk hK
open ZD30a in
theorem zE1 {X Y : List Tx} {M : List (Nat × Nat)} {a : Option Addr} {cp bm bm2 : Nat} {v0 v2 va vb vc : Value} {w0 : World} {m : Mem} {H : SHeap} {Q : Exit → Act → World → Prop} (hM : PrOk X Y 0 0 M X.length Y.length) (hl : M.length ≤ 4194304) (hX : X.length ≤ 4194304 ∧ Y.length ≤ 4194304)
  (hK : WQ 133 w0 Q (.exit 2) [(12, .map (some bm)), (11, .map (some bm2)), (8, va), (9, vb), (10, vc), (0, v0), (2, v2)] [] m (.blk bm (mapO .i64 (kv M)) :: H)) :
  WC Tryz.prog none 133 w0 ((yF (Tryz.f84.body.getD .skip)).getD 1 .skip) Q [(52, .int .i64 0), (51, .int .i64 (M.length : Int)), (50, .slice a M.length cp), (12, .map (some bm)), (11, .map (some bm2)), (8, va), (9, vb), (10, vc), (0, v0), (2, v2)] [] m
   (.blk bm (mapO .i64 []) :: .row a cp 134 2 (M.map prE) :: H) := by
 have hml : (M.map prE).length = M.length := List.length_map _
 rw [show ([] : List (Int × Value)) = kv (M.take 0) from by unfold kv; rfl]
 refine lpz (fun j r ds m' H' => ∃ i, j = M.length - i ∧ r = [(52, .int .i64 (i : Int)), (51, .int .i64 (M.length : Int)), (50, .slice a M.length cp), (12, .map (some bm)), (11, .map (some bm2)), (8, va), (9, vb), (10, vc), (0, v0), (2, v2)] ∧ ds = [] ∧ m = m' ∧ H' = .blk bm (mapO .i64 (kv (M.take i))) :: .row a cp 134 2 (M.map prE) :: H ∧ (i ≤ M.length)) (M.length - (0)) ⟨0, rfl, rfl, rfl, rfl, rfl, by omega⟩ ?_
 rintro j r ds m' H' ⟨i, rfl, rfl, rfl, rfl, rfl, hi⟩
 by_cases hlt : i < M.length
 ·obtain ⟨p, hp⟩ : ∃ p, M[i]? = some p := ⟨_, List.getElem?_eq_getElem hlt⟩
  have hgp : (M.map prE)[i]? = some [.int .i64 (p.1 : Int), .int .i64 (p.2 : Int)] := by rw [List.getElem?_map, hp]; rfl
  have hnew : (kv (M.take i)).lookup (p.1 : Int) = none := by
   rw [vF, hM.fresh (A := M.take i) (p := p) (B := M.drop (i + 1)) (by
    obtain ⟨h1, h2⟩ := List.getElem?_eq_some_iff.1 hp
    conv => lhs; rw [← List.take_append_drop i M, List.drop_eq_getElem_cons h1, h2])]
   rfl
  have hsnoc : kv (M.take i) ++ [((p.1 : Int), Value.int .i64 (p.2 : Int))] = kv (M.take (i + 1)) := by
   unfold kv
   rw [List.take_succ, hp]; simp
  generalize M.map prE = ME at *
  generalize kv (M.take i) = K at *
  refine WC.rowSome zhs (by omega) ?_
  rintro a0 rfl
  refine stg ?_; intros; rename_i bp
  refine WL.mapNew (q := .i64) (q' := .i64) rfl rfl rfl rfl rfl (by repeat (first | exact Repl.here | apply Repl.there)) hnew ?_
  rw [hsnoc]
  try (refine stg ?_; intros)
  refine nxz (M.length - (i + 1)) ⟨i + 1, rfl, rfl, rfl, rfl, rfl, ?_⟩
  ·omega
 ·rw [List.take_of_length_le (by omega)]
  try (refine stg ?_; intros)
  exact WQ.weak zsb zpk hK
end ZP
namespace ZP
open Go Go.Eng
attribute [local irreducible] WL WC WQ QFun zJ Does Q1 zD zB Go.Addr.add
attribute [local irreducible] kv mapO jn strs cfs sideT wP
theorem zEK {X Y Z : List Tx} {M N : List (Nat × Nat)} {bw bm bm2 cx cy cz : Nat} {ax ay az : Option Addr} {w0 : World} {m : Mem} {H : SHeap} {Q : Exit → Act → World → Prop} {F : Wv}
  (hX : X.length ≤ 65536 ∧ X.flatten.length ≤ 65536 ∧ X.length ≤ cx) (hY : Y.length ≤ 65536 ∧ Y.flatten.length ≤ 65536 ∧ Y.length ≤ cy) (hZ : Z.length ≤ 65536 ∧ Z.flatten.length ≤ 65536 ∧ Z.length ≤ cz) (hM : MSt X Y M 0 0) (hN : MSt X Z N 0 0) (hF : wvGo X Y Z M N X 0 ⟨[], [], 0, 0, 0⟩ = F)
  (hK : ∀ (w : Wv) (al : Option Addr) (cl : Nat), w.side X Y Z X.length Y.length Z.length = F → w.p ≤ X.length → w.q ≤ Y.length → w.r ≤ Z.length → w.out.length ≤ 8589934592 → w.l.length ≤ 65536 →
   WQ 133 w0 Q (.exit 4) [(18, .int .i64 (w.p : Int)), (19, .int .i64 (w.q : Int)), (20, .int .i64 (w.r : Int)), (8, .slice ax X.length cx), (9, .slice ay Y.length cy), (10, .slice az Z.length cz), (17, .pp bw)] [] m (.row ax cx 9 1 (strs X) :: .row ay cy 9 1 (strs Y) :: .row az cz 9 1 (strs Z) :: .bl bw [str w.out, .slice al w.l.length cl] 208 :: .row al cl 138 5 (cfs w.l) :: H)) :
  WC Tryz.prog none 133 w0 ((yF (Tryz.f84.body.getD .skip)).getD 2 .skip) Q [(64, .int .i64 0), (63, .int .i64 (X.length : Int)), (18, .int .i64 0), (19, .int .i64 0), (20, .int .i64 0), (11, .map (some bm)), (12, .map (some bm2)), (8, .slice ax X.length cx), (9, .slice ay Y.length cy), (10, .slice az Z.length cz), (17, .pp bw)] [] m
   (.row ax cx 9 1 (strs X) :: .row ay cy 9 1 (strs Y) :: .row az cz 9 1 (strs Z) :: .bl bw [str [], .slice none 0 0] 208 :: .row none 0 138 5 (cfs []) :: .blk bm (mapO .i64 (kv M)) :: .blk bm2 (mapO .i64 (kv N)) :: H) := by
 have hXs : (strs X).length = X.length := by simp [strs]
 refine lpz (fun j r ds m' H' => ∃ (i : Nat) (w : Wv) (al : Option Addr) (cl : Nat), j = X.length - i ∧ r = [(64, .int .i64 (i : Int)), (63, .int .i64 (X.length : Int)), (18, .int .i64 (w.p : Int)), (19, .int .i64 (w.q : Int)), (20, .int .i64 (w.r : Int)), (11, .map (some bm)), (12, .map (some bm2)), (8, .slice ax X.length cx), (9, .slice ay Y.length cy), (10, .slice az Z.length cz), (17, .pp bw)] ∧ ds = [] ∧ m = m' ∧ H' = .row ax cx 9 1 (strs X) :: .row ay cy 9 1 (strs Y) :: .row az cz 9 1 (strs Z) :: .bl bw [str w.out, .slice al w.l.length cl] 208 :: .row al cl 138 5 (cfs w.l) :: .blk bm (mapO .i64 (kv M)) :: .blk bm2 (mapO .i64 (kv N)) :: H ∧ (i ≤ X.length) ∧ (wvGo X Y Z M N (X.drop i) i w = F) ∧ (MSt X Y M i w.q) ∧ (MSt X Z N i w.r) ∧ (w.p ≤ i) ∧ (w.out.length ≤ i * 131072) ∧ (w.l.length ≤ i)) (X.length - (0)) ⟨0, (⟨[], [], 0, 0, 0⟩ : Wv), none, 0, rfl, rfl, rfl, rfl, rfl, by omega, hF, hM, hN, Nat.le_refl _, Nat.zero_le _, Nat.zero_le _⟩ ?_
 rintro j r ds m' H' ⟨i, w, al, cl, rfl, rfl, rfl, rfl, rfl, hi, hgo, hM, hN, hp, hout, hL⟩
 by_cases hlt : i < X.length
 ·obtain ⟨t, ht⟩ : ∃ t, X[i]? = some t := ⟨_, List.getElem?_eq_getElem hlt⟩
  have hgt := xM ht
  have htl : t.length ≤ 65536 := by have := qX (List.mem_of_getElem? ht); omega
  rw [xN ht] at hgo
  obtain ⟨hM1, hM2⟩ := hM.next hlt
  obtain ⟨hN1, hN2⟩ := hN.next hlt
  have hkM := vF i M
  have hkN := vF i N
  generalize hKM : kv M = KM at *
  generalize hKN : kv N = KN at *
  generalize hSX : strs X = SX at *
  refine WC.rowSome (a := ax) (es := SX) zhs (by omega) ?_
  rintro a0 rfl
  rcases hM2 with hM2 | ⟨p, hM2, hqp, hpY, ⟨x, hx1, hx2⟩, hM3⟩
  ·rw [hM2] at hkM
   rw [zAd (.inl hM2)] at hgo
   rcases hN2 with hN2 | ⟨q, hN2, _⟩
   all_goals
    rw [hN2] at hkN
    try (refine st ?_; intros)
    refine WL.lookOk (q := .i64) (q' := .i64) (z := .int .i64 0) rfl rfl zhs rfl rfl (xG rfl) rfl ?_
    rw [hkM]
    simp only [Option.map_none, Option.map_some, Option.getD_none, Option.getD_some, Option.isSome_none, Option.isSome_some]
    try (refine st ?_; intros)
    refine WL.lookOk (q := .i64) (q' := .i64) (z := .int .i64 0) rfl rfl zhs rfl rfl (xG rfl) rfl ?_
    rw [hkN]
    simp only [Option.map_none, Option.map_some, Option.getD_none, Option.getD_some, Option.isSome_none, Option.isSome_some]
    try (refine st ?_; intros)
    subst hKM hKN hSX
    refine nxz (X.length - (i + 1)) ⟨i + 1, w, al, cl, rfl, rfl, rfl, rfl, rfl, ?_, ?_, ?_, ?_, ?_, ?_, ?_⟩
    ·omega
    ·exact hgo
    ·exact hM1
    ·exact hN1
    ·omega
    ·exact Nat.le_trans hout (Nat.mul_le_mul_right _ (Nat.le_succ i))
    ·omega
  ·rw [hM2] at hkM
   rcases hN2 with hN2 | ⟨q, hN2, hrq, hqZ, ⟨y, hy1, hy2⟩, hN3⟩
   ·rw [zAd (.inr hN2)] at hgo
    rw [hN2] at hkN
    try (refine st ?_; intros)
    refine WL.lookOk (q := .i64) (q' := .i64) (z := .int .i64 0) rfl rfl zhs rfl rfl (xG rfl) rfl ?_
    rw [hkM]
    simp only [Option.map_none, Option.map_some, Option.getD_none, Option.getD_some, Option.isSome_none, Option.isSome_some]
    try (refine st ?_; intros)
    refine WL.lookOk (q := .i64) (q' := .i64) (z := .int .i64 0) rfl rfl zhs rfl rfl (xG rfl) rfl ?_
    rw [hkN]
    simp only [Option.map_none, Option.map_some, Option.getD_none, Option.getD_some, Option.isSome_none, Option.isSome_some]
    try (refine st ?_; intros)
    subst hKM hKN hSX
    refine nxz (X.length - (i + 1)) ⟨i + 1, w, al, cl, rfl, rfl, rfl, rfl, rfl, ?_, ?_, ?_, ?_, ?_, ?_, ?_⟩
    ·omega
    ·exact hgo
    ·exact hM1
    ·exact hN1
    ·omega
    ·exact Nat.le_trans hout (Nat.mul_le_mul_right _ (Nat.le_succ i))
    ·omega
   ·rw [zEh hM2 hN2] at hgo
    rw [hN2] at hkN
    try (refine st ?_; intros)
    refine WL.lookOk (q := .i64) (q' := .i64) (z := .int .i64 0) rfl rfl zhs rfl rfl (xG rfl) rfl ?_
    rw [hkM]
    simp only [Option.map_none, Option.map_some, Option.getD_none, Option.getD_some, Option.isSome_none, Option.isSome_some]
    try (refine st ?_; intros)
    refine WL.lookOk (q := .i64) (q' := .i64) (z := .int .i64 0) rfl rfl zhs rfl rfl (xG rfl) rfl ?_
    rw [hkN]
    simp only [Option.map_none, Option.map_some, Option.getD_none, Option.getD_some, Option.isSome_none, Option.isSome_some]
    try (refine st ?_; intros)
    have hout2 : w.out.length ≤ 8589934592 := Nat.le_trans hout (Nat.le_trans (Nat.mul_le_mul_right _ (Nat.le_of_lt (Nat.lt_of_lt_of_le hlt hX.1))) (by decide))
    have h1 := zDl (jn X w.p i) (jn Y w.q p) (jn Z w.r q)
    have h2 := zAQ Y w.q p
    have h3 := zAQ Z w.r q
    have h4 := zA3 w.out.length (jn X w.p i) (jn Y w.q p) (jn Z w.r q)
    have hside : w.side X Y Z i p q = ⟨w.out ++ sideT (jn X w.p i) (jn Y w.q p) (jn Z w.r q), w.l ++ wP w.out.length (jn X w.p i) (jn Y w.q p) (jn Z w.r q), i + 1, p + 1, q + 1⟩ := rfl
    subst hKM hKN hSX
    refine wdw 15 ([.row (some a0) cx 9 1 (strs X), .row ay cy 9 1 (strs Y), .row az cz 9 1 (strs Z)]) ?_
    refine cm0 ?_
    refine wc1 4 ?_ (hwl := by intro zm zF zle; refine zA func69 ?_ (hs := yC (l := X) zhs ⟨hp, by omega⟩ (by omega) (by omega)); rintro _ _ _ ⟨rfl, rfl, rfl⟩; ((repeat (refine sp ?_; intros)); exact WQ.q1 rfl))
    refine wc1 9 ?_ (hwl := by intro zm zF zle; refine zA func69 ?_ (hs := yC (l := Y) zhs ⟨hqp, by omega⟩ (by omega) (by omega)); rintro _ _ _ ⟨rfl, rfl, rfl⟩; ((repeat (refine sp ?_; intros)); exact WQ.q1 rfl))
    refine wc1 14 ?_ (hwl := by intro zm zF zle; refine zA func69 ?_ (hs := yC (l := Z) zhs ⟨hrq, by omega⟩ (by omega) (by omega)); rintro _ _ _ ⟨rfl, rfl, rfl⟩; ((repeat (refine sp ?_; intros)); exact WQ.q1 rfl))
    refine wdz ?_
    simp only [List.cons_append, List.nil_append]
    generalize jn X w.p i = tO at *
    generalize jn Y w.q p = tA at *
    generalize jn Z w.r q = tC at *
    refine WL.heap (H' := .bl bw [str w.out, .slice al w.l.length cl] 208 :: .row al cl 138 5 (cfs w.l) :: (.row (some a0) cx 9 1 (strs X) :: .row ay cy 9 1 (strs Y) :: .row az cz 9 1 (strs Z) :: .blk bm (mapO .i64 (kv M)) :: .blk bm2 (mapO .i64 (kv N)) :: H)) zpk ?_
    refine zA func121 ?_ (hs := zDI (O := w.out) (L := w.l) (old := tO) (own := tA) (other := tC) (by omega) (by omega) (by omega) (by omega))
    rintro v m9 H9 ⟨rfl, al2, cl2, rfl⟩
    obtain ⟨w2, hw2⟩ : ∃ w2, w2 = w.side X Y Z i p q := ⟨_, rfl⟩
    have e1 : w2.out = w.out ++ sideT tO tA tC := by rw [hw2, hside]
    have e2 : w2.l = w.l ++ wP w.out.length tO tA tC := by rw [hw2, hside]
    have e3 : w2.p = i + 1 := by rw [hw2, hside]
    have e4 : w2.q = p + 1 := by rw [hw2, hside]
    have e5 : w2.r = q + 1 := by rw [hw2, hside]
    rw [← hw2] at hgo
    rw [← e1, ← e2]
    have l1 := congrArg List.length e1
    have l2 := congrArg List.length e2
    rw [List.length_append] at l1 l2
    clear hw2 hside
    obtain ⟨w3, hw3⟩ : ∃ w3, w3 = w2.add t := ⟨_, rfl⟩
    have f1 : w3.out = w2.out ++ t := by rw [hw3]; rfl
    have f2 : w3.l = w2.l := by rw [hw3]; rfl
    have f3 : w3.p = i + 1 := by rw [hw3, ← e3]; rfl
    have f4 : w3.q = p + 1 := by rw [hw3, ← e4]; rfl
    have f5 : w3.r = q + 1 := by rw [hw3, ← e5]; rfl
    have f6 : w3.out.length = w2.out.length + t.length := by rw [f1, List.length_append]
    rw [← hw3] at hgo
    try (refine st ?_; intros)
    rw [← f1, ← f2, show (i : Int) + 1 = ((i + 1 : Nat) : Int) by omega, show (p : Int) + 1 = ((p + 1 : Nat) : Int) by omega, show (q : Int) + 1 = ((q + 1 : Nat) : Int) by omega]
    refine nxz (X.length - (i + 1)) ⟨i + 1, (⟨w3.out, w3.l, i + 1, p + 1, q + 1⟩ : Wv), al2, cl2, rfl, rfl, rfl, rfl, rfl, ?_, ?_, ?_, ?_, ?_, ?_, ?_⟩
    ·omega
    ·have he : (⟨w3.out, w3.l, i + 1, p + 1, q + 1⟩ : Wv) = w3 := by rw [← f3, ← f4, ← f5]
     rw [he]; exact hgo
    ·exact hM3
    ·exact hN3
    ·exact Nat.le_refl _
    ·show w3.out.length ≤ _
     rw [Nat.succ_mul]
     generalize i * 131072 = I at *
     omega
    ·show w3.l.length ≤ _
     rw [f2]; omega
 ·rw [List.drop_of_length_le (by omega)] at hgo
  have hfin := hK w al cl hgo (by omega) hM.le hN.le (Nat.le_trans hout (Nat.le_trans (Nat.mul_le_mul_right _ (by omega : i ≤ 65536)) (by decide))) (by omega)
  try (refine st ?_; intros)
  exact WQ.weak zsb zpk hfin
end ZP
namespace ZP
open Go Go.Eng
attribute [local irreducible] WL WC WQ QFun zJ Does Q1 zD zB Go.Addr.add
attribute [local irreducible] kv mapO jn strs sideT wP xC wvGo yE toks
namespace ZD32a
theorem zal {G G' : Prop} (next : G') (h : Bx G' → G := by intro zzn; (first | (refine WL.makeMap .i64 rfl ?_; intro zzf)); (repeat revert zzf); exact zzn.out) : G := h ⟨next⟩
end ZD32a
open ZD32a in
theorem zGe (s t u : Tx) (hls : s.length ≤ 65536) (hlt : t.length ≤ 65536) (hlu : u.length ≤ 65536) (w0 : World) (m : Mem) (H : SHeap) :
  Does Tryz.prog 84 #[str s, str t, str u] w0 m H (fun v m' H' => m.le m' ∧ ∃ al cl, v = .tuple #[str (xC s t u).out, .slice al (xC s t u).l.length cl] ∧ H' = .row al cl 138 5 (cfs (xC s t u).l) :: H) := by
 refine Does.of_body func84 rfl ntmps84 rfl ?_
 try (refine stg ?_; intros)
 refine zA func90 ?_ (hs := vG s (by omega) _ _ _)
 rintro v m1 H1 ⟨hle1, ax, cx, rfl, rfl⟩
 try (refine stg ?_; intros)
 refine zA func90 ?_ (hs := vG t (by omega) _ _ _)
 rintro v m2 H1 ⟨hle2, ay, cy, rfl, rfl⟩
 try (refine stg ?_; intros)
 refine zA func90 ?_ (hs := vG u (by omega) _ _ _)
 rintro v m3 H1 ⟨hle3, az, cz, rfl, rfl⟩
 have hXl := zP s
 have hYl := zP t
 have hZl := zP u
 have hXf := congrArg List.length (yR s)
 have hYf := congrArg List.length (yR t)
 have hZf := congrArg List.length (yR u)
 have hW : wvGo (toks s) (toks t) (toks u) (yE (toks s) (toks t)) (yE (toks s) (toks u)) (toks s) 0 ⟨[], [], 0, 0, 0⟩ = xC s t u := by unfold xC; rfl
 refine WL.rowCap (a := ax) (cap := cx) (T := 9) (sz := 1) (es := strs (toks s)) zhs ?_
 intro hcx
 refine WL.rowCap (a := ay) (cap := cy) (T := 9) (sz := 1) (es := strs (toks t)) zhs ?_
 intro hcy
 refine WL.rowCap (a := az) (cap := cz) (T := 9) (sz := 1) (es := strs (toks u)) zhs ?_
 intro hcz
 rw [zY] at hcx hcy hcz
 refine stg ?_; intros; rename_i bm bm2
 refine zA func120 ?_ (hs := j8 s t (by omega) (by omega) _ _ _)
 rintro v m4 H9 ⟨hle4, a1, c1, rfl, rfl⟩
 have hM := wL (toks s) (toks t)
 have hMl := hM.len
 try (refine stg ?_; intros)
 generalize hX : toks s = X at *
 generalize hY : toks t = Y at *
 generalize hZ : toks u = Z at *
 refine WC.weak zsb zpk (zHe (bm := bm) (bm2 := bm2) (H := .row ax cx 9 1 (strs X) :: .row ay cy 9 1 (strs Y) :: .row az cz 9 1 (strs Z) :: .blk bm2 (mapO .i64 []) :: H) hM (by omega) ⟨by omega, by omega⟩ ?_)
 try (refine stg ?_; intros)
 refine zA func120 ?_ (hs := j8 s u (by omega) (by omega) _ _ _)
 rintro v m5 H9 ⟨hle5, a2, c2, rfl, rfl⟩
 rw [hX, hZ]
 have hN := wL X Z
 have hNl := hN.len
 try (refine stg ?_; intros)
 refine WC.weak zsb zpk (zE1 (bm := bm2) (bm2 := bm) (H := .row ax cx 9 1 (strs X) :: .row ay cy 9 1 (strs Y) :: .row az cz 9 1 (strs Z) :: .blk bm (mapO .i64 (kv (yE X Y))) :: H) hN (by omega) ⟨by omega, by omega⟩ ?_)
 refine stg ?_; intros; rename_i bw
 refine WC.newRow (T := 138) (sz := 5) ?_
 refine WC.weak zsb zpk (zEK (X := X) (Y := Y) (Z := Z) (M := yE X Y) (N := yE X Z) (F := xC s t u) (bw := bw) (bm := bm) (bm2 := bm2) (H := H) ⟨by omega, by omega, hcx⟩ ⟨by omega, by omega, hcy⟩ ⟨by omega, by omega, hcz⟩ MSt.start MSt.start hW ?_)
 intro w al cl hF hp hq hr hout hL
 have h2 := zAQ Y w.q Y.length
 have h3 := zAQ Z w.r Z.length
 have hFo : (xC s t u).out = w.out ++ sideT (jn X w.p X.length) (jn Y w.q Y.length) (jn Z w.r Z.length) := by rw [← hF]; rfl
 have hFl : (xC s t u).l = w.l ++ wP w.out.length (jn X w.p X.length) (jn Y w.q Y.length) (jn Z w.r Z.length) := by rw [← hF]; rfl
 have hle := hle1.trans (hle2.trans (hle3.trans (hle4.trans hle5)))
 try (refine stg ?_; intros)
 refine wdw 12 ([.row ax cx 9 1 (strs X), .row ay cy 9 1 (strs Y), .row az cz 9 1 (strs Z)]) ?_
 refine cmg ?_
 refine wc1 3 ?_ (hwl := by intro zm zF zle; refine zA func69 ?_ (hs := yC (l := X) zhs ⟨hp, Nat.le_refl _⟩ (by omega) (by omega)); rintro _ _ _ ⟨rfl, rfl, rfl⟩; exact sqg)
 refine wc1 7 ?_ (hwl := by intro zm zF zle; refine zA func69 ?_ (hs := yC (l := Y) zhs ⟨hq, Nat.le_refl _⟩ (by omega) (by omega)); rintro _ _ _ ⟨rfl, rfl, rfl⟩; exact sqg)
 refine wc1 11 ?_ (hwl := by intro zm zF zle; refine zA func69 ?_ (hs := yC (l := Z) zhs ⟨hr, Nat.le_refl _⟩ (by omega) (by omega)); rintro _ _ _ ⟨rfl, rfl, rfl⟩; exact sqg)
 refine wdz ?_
 simp only [List.cons_append, List.nil_append]
 generalize jn X w.p X.length = tO at *
 generalize jn Y w.q Y.length = tA at *
 generalize jn Z w.r Z.length = tC at *
 refine WL.heap (H' := .bl bw [str w.out, .slice al w.l.length cl] 208 :: .row al cl 138 5 (cfs w.l) :: H) zpk ?_
 refine zA func121 ?_ (hs := zDI (O := w.out) (L := w.l) (old := tO) (own := tA) (other := tC) (by omega) (by omega) (by omega) (by omega))
 rintro v m9 H9 ⟨rfl, al2, cl2, rfl⟩
 rw [← hFo, ← hFl]
 try (refine stg ?_; intros)
 exact q_fz ⟨hle, al2, cl2, rfl, rfl⟩
end ZP
namespace Go.Eng
open Go
def MS (X Y : List Tx) (M : List (Nat × Nat)) (i k : Nat) : Prop := ∃ l2, PrOk X Y i k l2 X.length Y.length ∧ ∀ j, i ≤ j → M.lookup j = l2.lookup j
theorem MS.start {X Y : List Tx} : MS X Y (yE X Y) 0 0 := ⟨_, wL X Y, fun _ _ => rfl⟩
theorem MS.le {X Y : List Tx} {M : List (Nat × Nat)} {i k : Nat} (h : MS X Y M i k) : k ≤ Y.length := by
 obtain ⟨l2, h1, _⟩ := h
 exact h1.le.2
theorem MS.next {X Y : List Tx} {M : List (Nat × Nat)} {i k : Nat} (h : MS X Y M i k) (hi : i < X.length) :
  MS X Y M (i + 1) k ∧ ∀ p, M.lookup i = some p → k ≤ p ∧ p < Y.length ∧ (∃ x, X[i]? = some x ∧ Y[p]? = some x) ∧ MS X Y M (i + 1) (p + 1) := by
 obtain ⟨l2, h1, h2⟩ := h
 rcases h1.next hi with ⟨g1, g2⟩ | ⟨p, l3, g1, g2, g3, g4, g5, g6⟩
 ·refine ⟨⟨l2, g2, fun j hj => h2 j (by omega)⟩, fun p hp => ?_⟩
  rw [h2 i (Nat.le_refl _), g1] at hp; cases hp
 ·have e : ∀ j, i + 1 ≤ j → M.lookup j = l3.lookup j := fun j hj => by rw [h2 j (by omega)]; exact g6 j (by omega)
  refine ⟨⟨l3, g5.low (Nat.le_refl _) (by omega), e⟩, fun p' hp => ?_⟩
  rw [h2 i (Nat.le_refl _), g1] at hp
  cases hp
  exact ⟨g2, g3, g4, l3, g5, e⟩
theorem zG8 {X Y Z : List Tx} {M N : List (Nat × Nat)} (I : Nat → Wv → Prop)
  (hstep : ∀ i w t p q, i < X.length → X[i]? = some t → I i w → w.p ≤ i → MS X Y M i w.q → MS X Z N i w.r → M.lookup i = some p → N.lookup i = some q → w.q ≤ p → p < Y.length → w.r ≤ q → q < Z.length → Y[p]? = some t → Z[q]? = some t → I (i + 1) ((w.side X Y Z i p q).add t))
  (hskip : ∀ i w, i < X.length → I i w → I (i + 1) w) :
  ∀ (ts : List Tx) (i : Nat) (w : Wv), ts = X.drop i → i ≤ X.length → I i w → w.p ≤ i → MS X Y M i w.q → MS X Z N i w.r →
   ∃ w', wvGo X Y Z M N ts i w = w'.side X Y Z X.length Y.length Z.length ∧ I X.length w' ∧ w'.p ≤ X.length ∧ w'.q ≤ Y.length ∧ w'.r ≤ Z.length
 | [], i, w, e, hi, hI, hp, hM, hN => by
  have hl := congrArg List.length e
  rw [List.length_nil, List.length_drop] at hl
  obtain rfl : i = X.length := by omega
  exact ⟨w, rfl, hI, hp, hM.le, hN.le⟩
 | t :: ts, i, w, e, hi, hI, hp, hM, hN => by
  have hl := congrArg List.length e
  rw [List.length_cons, List.length_drop] at hl
  have hlt : i < X.length := by omega
  have ht : X[i]? = some t := by
   have := congrArg (·[0]?) e
   simpa [List.getElem?_drop] using this.symm
  have hts : ts = X.drop (i + 1) := by rw [← List.drop_drop, ← e]; rfl
  obtain ⟨hM1, hM2⟩ := hM.next hlt
  obtain ⟨hN1, hN2⟩ := hN.next hlt
  have skip : ∃ w', wvGo X Y Z M N ts (i + 1) w = w'.side X Y Z X.length Y.length Z.length ∧ I X.length w' ∧ w'.p ≤ X.length ∧ w'.q ≤ Y.length ∧ w'.r ≤ Z.length :=
   zG8 I hstep hskip ts (i + 1) w hts hlt (hskip i w hlt hI) (by omega) hM1 hN1
  rw [wvGo]
  cases hm : M.lookup i with
  | none => simpa using skip
  | some p =>
   cases hn : N.lookup i with
   | none => simpa using skip
   | some q =>
    obtain ⟨a1, a2, ⟨x, a3, a4⟩, a5⟩ := hM2 p hm
    obtain ⟨b1, b2, ⟨y, b3, b4⟩, b5⟩ := hN2 q hn
    rw [ht] at a3 b3
    cases a3; cases b3
    exact zG8 I hstep hskip ts (i + 1) _ hts hlt (hstep i w t p q hlt ht hI hp hM hN hm hn a1 a2 b1 b2 a4 b4) (Nat.le_refl _) a5 b5
end Go.Eng
namespace Go.Eng
open Go
def SwOk : List Cf → List Cf → Prop
 | [], [] => True
 | c :: l, d :: k => (c.b = d.b ∧ c.i = d.f ∧ c.f = d.i ∧ c.i ≠ c.f) ∧ SwOk l k
 | _, _ => False
theorem SwOk.app : ∀ {l k l2 k2 : List Cf}, SwOk l k → SwOk l2 k2 → SwOk (l ++ l2) (k ++ k2)
 | [], [], _, _, _, h => h
 | [], _ :: _, _, _, h, _ => h.elim
 | _ :: _, [], _, _, h, _ => h.elim
 | _ :: l, _ :: k, _, _, ⟨h1, h2⟩, h => ⟨h1, SwOk.app h2 h⟩
theorem SwOk.length : ∀ {l k : List Cf}, SwOk l k → l.length = k.length
 | [], [], _ => rfl
 | [], _ :: _, h => h.elim
 | _ :: _, [], h => h.elim
 | _ :: l, _ :: k, ⟨_, h2⟩ => by rw [List.length_cons, List.length_cons, SwOk.length h2]
theorem SwOk.get : ∀ {l k : List Cf} {i : Nat} {c d : Cf}, SwOk l k → l[i]? = some c → k[i]? = some d → c.b = d.b ∧ c.i = d.f ∧ c.f = d.i ∧ c.i ≠ c.f
 | [], _, i, c, d, _, h, _ => by simp at h
 | _ :: _, [], i, c, d, h, _, _ => h.elim
 | a :: l, b :: k, 0, c, d, ⟨h1, _⟩, hc, hd => by cases hc; cases hd; exact h1
 | a :: l, b :: k, i + 1, c, d, ⟨_, h2⟩, hc, hd => SwOk.get h2 (by simpa using hc) (by simpa using hd)
theorem zGj (o o' : Nat) (old a c : Tx) : SwOk (wP o old a c) (wP o' old c a) := by
 unfold wP
 by_cases h : c ≠ old ∧ a ≠ old ∧ a ≠ c
 ·rw [if_pos h, if_pos ⟨h.2.1, h.1, fun g => h.2.2 g.symm⟩]
  exact ⟨⟨rfl, rfl, rfl, h.2.2⟩, trivial⟩
 ·rw [if_neg h, if_neg (fun g => h ⟨g.2.1, g.1, fun e => g.2.2 e.symm⟩)]
  trivial
theorem zGu {o : Nat} {old a c : Tx} (h : wP o old a c = []) : sideT old a c = sideT old c a := by
 unfold wP at h
 unfold sideT
 by_cases h1 : c = old
 ·by_cases h2 : a = old
  ·rw [if_neg (fun g => g.1 h1), if_neg (fun g => g.1 h2), h1, h2]
  ·rw [if_neg (fun g => g.1 h1), if_pos ⟨h2, h1⟩]
 ·by_cases h2 : a = old
  ·rw [if_pos ⟨h1, h2⟩, if_neg (fun g => g.1 h2)]
  ·by_cases h3 : a = c
   ·rw [if_neg (fun g => h2 g.2), if_neg (fun g => h1 g.2), h3]
   ·rw [if_pos ⟨h1, h2, h3⟩] at h; cases h
def WR (w w' : Wv) : Prop := w.p = w'.p ∧ w.q = w'.r ∧ w.r = w'.q ∧ SwOk w.l w'.l ∧ (w.l = [] → w.out = w'.out)
theorem WR.side {X Y Z : List Tx} {w w' : Wv} {n k1 k2 : Nat} (h : WR w w') : WR (w.side X Y Z n k1 k2) (w'.side X Z Y n k2 k1) := by
 obtain ⟨h1, h2, h3, h4, h5⟩ := h
 refine ⟨rfl, rfl, rfl, ?_, ?_⟩
 ·show SwOk (w.l ++ wP w.out.length (jn X w.p n) (jn Y w.q k1) (jn Z w.r k2)) (w'.l ++ wP w'.out.length (jn X w'.p n) (jn Z w'.q k2) (jn Y w'.r k1))
  rw [h1, h2, h3]
  exact h4.app (zGj _ _ _ _ _)
 ·intro he
  have he2 : w.l ++ wP w.out.length (jn X w.p n) (jn Y w.q k1) (jn Z w.r k2) = [] := he
  obtain ⟨g1, g2⟩ := List.append_eq_nil_iff.1 he2
  show w.out ++ sideT (jn X w.p n) (jn Y w.q k1) (jn Z w.r k2) = w'.out ++ sideT (jn X w'.p n) (jn Z w'.q k2) (jn Y w'.r k1)
  rw [h5 g1, zGu g2, h1, h2, h3]
theorem WR.add {w w' : Wv} {t : Tx} (h : WR w w') : WR (w.add t) (w'.add t) := by
 obtain ⟨h1, h2, h3, h4, h5⟩ := h
 exact ⟨h1, h2, h3, h4, fun he => by show w.out ++ t = w'.out ++ t; rw [h5 he]⟩
theorem WR.go {X Y Z : List Tx} {M N : List (Nat × Nat)} : ∀ (ts : List Tx) (i : Nat) (w w' : Wv), WR w w' → WR (wvGo X Y Z M N ts i w) (wvGo X Z Y N M ts i w')
 | [], _, w, w', h => h.side
 | t :: ts, i, w, w', h => by
  rw [wvGo, wvGo]
  cases hm : M.lookup i with
  | none => cases hn : N.lookup i <;> simpa using WR.go ts (i + 1) w w' h
  | some p =>
   cases hn : N.lookup i with
   | none => simpa using WR.go ts (i + 1) w w' h
   | some q => exact WR.go ts (i + 1) _ _ h.side.add
def SpOk (out : Tx) : Nat → List Cf → Prop
 | at_, [] => at_ ≤ out.length
 | at_, c :: l => at_ ≤ c.a ∧ c.a ≤ c.z ∧ c.z ≤ out.length ∧ (out.take c.z).drop c.a = c.i ∧ SpOk out c.z l
theorem SpOk.grow {out x : Tx} : ∀ {l : List Cf} {k : Nat}, SpOk out k l → SpOk (out ++ x) k l
 | [], k, h => by show k ≤ (out ++ x).length; rw [List.length_append]; exact Nat.le_trans h (Nat.le_add_right _ _)
 | c :: l, k, ⟨h1, h2, h3, h4, h5⟩ => ⟨h1, h2, by rw [List.length_append]; omega, by rw [List.take_append_of_le_length h3]; exact h4, h5.grow⟩
theorem SpOk.snoc {out a b f : Tx} : ∀ {l : List Cf} {k : Nat}, SpOk out k l → SpOk (out ++ a) k (l ++ [⟨out.length, out.length + a.length, b, a, f⟩])
 | [], k, h => by
  refine ⟨h, Nat.le_add_right _ _, by rw [List.length_append]; exact Nat.le_refl _, ?_, by show _ ≤ (out ++ a).length; rw [List.length_append]; exact Nat.le_refl _⟩
  show ((out ++ a).take (out.length + a.length)).drop out.length = a
  rw [List.take_of_length_le (by rw [List.length_append]; exact Nat.le_refl _), List.drop_left]
 | c :: l, k, ⟨h1, h2, h3, h4, h5⟩ => ⟨h1, h2, by rw [List.length_append]; omega, by rw [List.take_append_of_le_length h3]; exact h4, h5.snoc⟩
theorem SpOk.side {out old a c : Tx} {l : List Cf} {k : Nat} (h : SpOk out k l) : SpOk (out ++ sideT old a c) k (l ++ wP out.length old a c) := by
 unfold wP
 split
 ·next g =>
  rw [show sideT old a c = a from if_neg (fun e => g.2.1 e.2)]
  exact h.snoc
 ·rw [List.append_nil]; exact h.grow
end Go.Eng
namespace Go.Eng
open Go
theorem zEM (s t u : Tx) : (xC s t u).l.length ≤ s.length + 1 := by
 obtain ⟨w, h1, h2, _⟩ := zG8 (X := toks s) (Y := toks t) (Z := toks u) (M := yE (toks s) (toks t)) (N := yE (toks s) (toks u)) (fun i w => w.l.length ≤ i)
  (by
   intro i w x p q hi ht hI _ _ _ _ _ _ _ _ _ _ _
   show (w.l ++ wP w.out.length (jn (toks s) w.p i) (jn (toks t) w.q p) (jn (toks u) w.r q)).length ≤ i + 1
   have := zA3 w.out.length (jn (toks s) w.p i) (jn (toks t) w.q p) (jn (toks u) w.r q)
   rw [List.length_append]; omega)
  (fun i w _ h => Nat.le_succ_of_le h) (toks s) 0 ⟨[], [], 0, 0, 0⟩ rfl (Nat.zero_le _) (Nat.zero_le _) (Nat.le_refl _) MS.start MS.start
 unfold xC
 rw [h1]
 show (w.l ++ wP w.out.length (jn (toks s) w.p (toks s).length) (jn (toks t) w.q (toks t).length) (jn (toks u) w.r (toks u).length)).length ≤ _
 have := zA3 w.out.length (jn (toks s) w.p (toks s).length) (jn (toks t) w.q (toks t).length) (jn (toks u) w.r (toks u).length)
 have h3 := zP s
 rw [List.length_append]; omega
end Go.Eng
namespace ZP
open Go Go.Eng
attribute [local irreducible] WL WC WQ QFun zJ Does Q1 zD zB Go.Addr.add
attribute [local irreducible] xC cfs
namespace ZD20a
theorem zal {G G' : Prop} (next : G') (h : Bx G' → G := by intro zzn; (first | (refine iF 7 rfl ?_; refine zU func7 ?_ (hs := zAc _ _ _))); (repeat revert zzf); exact zzn.out) : G := h ⟨next⟩
end ZD20a
end ZP
namespace ZP
open Go Go.Eng
attribute [local irreducible] WL WC WQ QFun zJ Does Q1 zD zB Go.Addr.add
end ZP
namespace Go.Eng
theorem zGz (x : ByteArray) : (x == x) = true := by
 obtain ⟨d⟩ := x
 show (d == d) = true
 simp
end Go.Eng
namespace ZP
open Go Go.Eng
attribute [local irreducible] WL WC WQ QFun zJ Does Q1 zD zB Go.Addr.add
theorem zKO (c : Cf) : eqB Tryz.prog 8 138 (.agg #[.int .i64 (c.a : Int), .int .i64 (c.z : Int), str c.b, str c.i, str c.f]) (.agg #[.int .i64 (c.a : Int), .int .i64 (c.z : Int), str c.b, str c.i, str c.f]) = some true := by
 obtain ⟨a, z, b, i, f⟩ := c
 have h : ∀ (a z : Int) (b i f : ByteArray), eqB Tryz.prog 8 138 (.agg #[.int .i64 a, .int .i64 z, .string b, .string i, .string f]) (.agg #[.int .i64 a, .int .i64 z, .string b, .string i, .string f]) = some ((a == a && (z == z && true)) && (b == b && (i == i && (f == f && true)))) := fun a z b i f => by kernel_rfl
 rw [h]
 simp [zGz]
attribute [local irreducible] cfs
namespace ZD33a
theorem zal {G G' : Prop} (next : G') (h : Bx G' → G := by intro zzn; (first | (refine zJY rfl ?_; refine zJ2 ?_ (he := zKO _)) | (refine zJ3 rfl ?_; refine zJW ?_ (he := zKO _))); (repeat revert zzf); exact zzn.out) : G := h ⟨next⟩
end ZD33a
open ZD33a in
theorem zB2 {L : List Cf} {a b : Option Addr} {ca cb : Nat} {w0 : World} {m : Mem} {H : SHeap} (hl : L.length ≤ 4194304) (ha : RowR w0 m H 5 a (cfs L)) (hb : RowR w0 m H 5 b (cfs L)) :
  Does Tryz.prog 85 #[.slice a L.length ca, .slice b L.length cb] w0 m H (Gives (.bool true) m H) := by
 refine Does.of_body func85 rfl ntmps85 rfl ?_
 have hll := zAq L
 try (refine stg ?_; intros)
 refine lpz (fun j r ds m' H' => ∃ i, j = L.length - i ∧ r = [(13, .int .i64 (i : Int)), (12, .int .i64 (L.length : Int)), (0, .slice a L.length ca), (1, .slice b L.length cb)] ∧ ds = [] ∧ m = m' ∧ H' = H ∧ (i ≤ L.length)) (L.length - (0)) ⟨0, rfl, rfl, rfl, rfl, rfl, Nat.zero_le _⟩ ?_
 rintro j r ds m' H' ⟨i, rfl, rfl, rfl, rfl, rfl, hi⟩
 by_cases hlt : i < L.length
 ·obtain ⟨c, hc⟩ : ∃ c, L[i]? = some c := ⟨_, List.getElem?_eq_getElem hlt⟩
  have hgc : (cfs L)[i]? = some [.int .i64 (c.a : Int), .int .i64 (c.z : Int), str c.b, str c.i, str c.f] := by unfold cfs; rw [List.getElem?_map, hc]; rfl
  generalize cfs L = E at *
  refine WC.rSome ha (by omega) ?_
  rintro a0 rfl
  refine WC.rSome hb (by omega) ?_
  rintro b0 rfl
  try (refine stg ?_; intros)
  refine nxz (L.length - (i + 1)) ⟨i + 1, rfl, rfl, rfl, rfl, rfl, ?_⟩
  ·omega
 ·generalize H' = H at *
  try (refine stg ?_; intros)
  exact q_fz zgm
end ZP
