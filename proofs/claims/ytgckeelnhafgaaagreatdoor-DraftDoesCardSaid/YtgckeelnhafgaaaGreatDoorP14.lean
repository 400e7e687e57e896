/-
  Parts of a walk, joined. No condition.
-/
import Derived.Test.YtgckeelnhafgaaaGreatDoorP13
set_option linter.all false
set_option maxRecDepth 100000
set_option maxHeartbeats 4000000
open Go.Proofs Go.Proofs.YtgckeelnhafgaaaGreatDoor
open Tryz
open Go Go.Eng
variable {P : Program} {ro : Option Nat} {n : Nat} {w0 : World} {Q : Exit → Act → World → Prop} {r : Env} {ds : List Dfr} {m : Mem} {H : SHeap} {ops : Array Oper} {l : List Oper} {d : Nat} {ty : TypeId} {pos : String} {after : Array Edge}
attribute [local irreducible] WL WC WQ QFun zJ Does Q1 zD zB Go.Addr.add
namespace ZP
open Go Go.Eng
attribute [local irreducible] wX wT numsT headT tailT brT mapT brN brL
namespace ZD86a
theorem zal {G G' : Prop} (next : G') (h : Bx G' → G := by intro zzn; (first | (refine iF 49 rfl ?_; refine zU func49 ?_ (hs := zDu (by omega) (by assumption)))); (repeat revert zzf); exact zzn.out) : G := h ⟨next⟩
end ZD86a
open ZD86a in
theorem zGs {br rm rc c : Nat} {ra : Option Addr} {M : List Dr} {B : Br} {w0 : World} {m : Mem} {H : SHeap} (h0 : 0 < M.length) (hL : M.length ≤ 256) (hpar : ∀ i d, M[i]? = some d → (∀ p ∈ d.ps, p < i) ∧ (0 < i → d.ps ≠ []) ∧ d.ps.length ≤ 2 ∧ d.t.length ≤ 65536 ∧ d.h ≤ 999999999999999999)
  (hat : ∀ d ∈ M, PsAt m d) (hold : ∀ e ∈ B, e.1 < c) (hbn : (B.map (·.1)).Nodup) (hN : (B.map (·.2.1)).Nodup) (hB : B.length ≤ 32) (hnm : NamesOk B) (hhd : ∀ e ∈ B, e.2.2 < M.length) (hg : GTabs Tryz.prog m) :
  Does Tryz.prog 27 #[.pp br] w0 m (.bl br [.slice ra M.length rc, .map (some rm)] 69 :: .row ra rc 118 3 (rdrs M) :: .blk rm (mapT (brE B) c) :: H) (Tells (str (histT M B)) m (.bl br [.slice ra M.length rc, .map (some rm)] 69 :: .row ra rc 118 3 (rdrs M) :: .blk rm (mapT (brE B) c) :: H)) := by
 refine Does.of_body func27 rfl ntmps27 rfl ?_
 have hnl := wE M
 have hts : ∀ i, (txOf M i).length ≤ 65536 := by
  intro i
  cases hi : M[i]? with
  | none => unfold txOf; rw [hi]; simp
  | some d => rw [xU hi]; exact (hpar i d hi).2.2.2.1
 have hhl : ∀ (i : Nat) (d : Dr), M[i]? = some d → (headT d).length ≤ 100 := by
  intro i d hd
  have := hpar i d hd
  have hi := (List.getElem?_eq_some_iff.1 hd).1
  exact zEt this.2.2.2.2 (fun p hp => by have := this.1 p hp; omega) this.2.2.1
 have hll := fun n => zAD hts hhl n
 generalize hRM : rdrs M = RM at *
 refine WC.rowSome (a := ra) zhs (by omega) ?_
 rintro ra rfl
 have hst : ([] : List UInt8) = wT M 0 := by unfold wT; rfl
 try (refine stg ?_; intros)
 refine lpz (fun j r ds m' H' => ∃ (k : Nat) (s : List UInt8) (mm : Mem), j = M.length - k ∧ r = [(16, .int .i64 (k : Int)), (15, .int .i64 (M.length : Int)), (14, .slice (some ra) M.length rc), (3, str s), (0, .pp br)] ∧ ds = [] ∧ mm = m' ∧ H' = .bl br [.slice (some ra) M.length rc, .map (some rm)] 69 :: .row (some ra) rc 118 3 RM :: .blk rm (mapT (brE B) c) :: H ∧ (k ≤ M.length) ∧ (s = wT M k) ∧ (m.le mm)) (M.length - (0)) ⟨0, [], m, rfl, rfl, rfl, rfl, rfl, by omega, hst, Mem.le.refl _⟩ ?_
 rintro j r ds m' H' ⟨k, s, mm, rfl, rfl, rfl, rfl, rfl, hk, hs, hle⟩
 have hgm := hg.le hle
 have hsl := hll k
 rw [← hs] at hsl
 have hsl2 : s.length ≤ 1073792000 := Nat.le_trans hsl (by omega)
 by_cases hlt : k < M.length
 ·obtain ⟨d, hd⟩ : ∃ d, M[k]? = some d := ⟨_, List.getElem?_eq_getElem hlt⟩
  obtain ⟨va, vc, hv, hr⟩ := hat d (List.mem_of_getElem? hd)
  have hpk := hpar k d hd
  have hge := vE hd
  unfold rdE at hge
  rw [hv, hRM] at hge
  have hdl := yN 17 (d.h : Int).toNat (by omega)
  have hd6 : ([100, 114, 97, 102, 116, 32] : List UInt8).length = 6 := rfl
  have hx1 : (([100, 114, 97, 102, 116, 32] : List UInt8) ++ decL (d.h : Int).toNat).length ≤ 24 := by rw [List.length_append]; omega
  have hx2 : s ++ ([100, 114, 97, 102, 116, 32] ++ decL (d.h : Int).toNat) = s ++ (draftW ++ decL d.h ++ numsT (d.ps.take 0)) := by unfold draftW numsT; simp
  refine stg ?_; intros; rename_i b5
  rw [hx2]
  have hnp := zQ d.ps
  have hps := fun (i : Nat) => zBA (l := d.ps.take i) (fun p hp => by have := hpk.1 p (List.mem_of_mem_take hp); omega)
  have hdl2 := yN 17 d.h (by omega)
  generalize hNP : nums d.ps = NP at *
  refine lpz (fun j r ds m' H' => ∃ (i : Nat) (z : List UInt8), j = d.ps.length - i ∧ r = [(30, .int .i64 (i : Int)), (29, .int .i64 (d.ps.length : Int)), (28, .slice va d.ps.length vc), (3, str z), (5, .pp b5), (4, .int .i64 (k : Int)), (16, .int .i64 (k : Int)), (15, .int .i64 (M.length : Int)), (14, .slice (some ra) M.length rc), (0, .pp br)] ∧ ds = [] ∧ mm = m' ∧ H' = .bl b5 [str d.t, .int .i64 (d.h : Int), .slice va d.ps.length vc] 118 :: .bl br [.slice (some ra) M.length rc, .map (some rm)] 69 :: .row (some ra) rc 118 3 RM :: .blk rm (mapT (brE B) c) :: H ∧ (i ≤ d.ps.length) ∧ (z = s ++ (draftW ++ decL d.h ++ numsT (d.ps.take i)))) (d.ps.length - (0)) ⟨0, s ++ (draftW ++ decL d.h ++ numsT (d.ps.take 0)), rfl, rfl, rfl, rfl, rfl, by omega, rfl⟩ ?_
  rintro j r ds m' H' ⟨i, z, rfl, rfl, rfl, rfl, rfl, hi, hz⟩
  have hzl : z.length ≤ 1073793000 := by
   have h1 := hps i
   have h2 : (d.ps.take i).length ≤ 2 := by rw [List.length_take]; omega
   rw [hz]
   unfold draftW
   simp only [List.length_append, List.length_cons, List.length_nil]; omega
  by_cases hlt2 : i < d.ps.length
  ·obtain ⟨p, hp⟩ : ∃ p, d.ps[i]? = some p := ⟨_, List.getElem?_eq_getElem hlt2⟩
   have hpk2 := hpk.1 p (List.mem_of_getElem? hp)
   have hgn : NP[i]? = some [.int .i64 (p : Int)] := by rw [← hNP]; exact xO hp
   have hrr := (hr w0 (.bl b5 [str d.t, .int .i64 (d.h : Int), .slice va d.ps.length vc] 118 :: .bl br [.slice (some ra) M.length rc, .map (some rm)] 69 :: .row (some ra) rc 118 3 RM :: .blk rm (mapT (brE B) c) :: H)).le hle
   refine WC.rSome hrr (by omega) ?_
   rintro va rfl
   have hdp := yN 17 (p : Int).toNat (by omega)
   have hx3 : (([32] : List UInt8) ++ decL (p : Int).toNat).length ≤ 19 := by rw [List.length_append]; simp only [List.length_singleton]; omega
   have hx4 : ([32] : List UInt8).length = 1 := rfl
   try (refine stg ?_; intros)
   refine nxz (d.ps.length - (i + 1)) ⟨i + 1, z ++ ([32] ++ decL (p : Int).toNat), rfl, rfl, rfl, rfl, rfl, ?_, ?_⟩
   ·omega
   ·rw [hz, zCq hp]; simp
  ·have hie : i = d.ps.length := by omega
   have hx5 : ([58] : List UInt8).length = 1 := rfl
   have hx6 : (z ++ [58]).length ≤ 1073793001 := by rw [List.length_append]; omega
   have hsd := zBK (k := k) hts
   try (refine stg ?_; intros)
   subst hRM
   refine zN func56 ?_ (hs := zEE hlt hL (fun i d hd => ⟨(hpar i d hd).1, (hpar i d hd).2.1, (hpar i d hd).2.2.1, (hpar i d hd).2.2.2.1⟩) (fun d hd => (hat d hd).le hle))
   rintro v m8 H8 ⟨hle8, rfl, rfl⟩
   have hx7 : ([10] : List UInt8).length = 1 := rfl
   have hk1 : k = k := rfl
   by_cases hs0 : wX M k = []
   ·try (refine stg ?_; intros)
    refine nxz (M.length - (k + 1)) ⟨k + 1, z ++ [58] ++ [10], m8, rfl, rfl, rfl, rfl, rfl, ?_, ?_, ?_⟩
    ·omega
    ·rw [hz, hie, List.take_length, wT, hd, ← hs]; unfold tailT; rw [if_pos hs0]; simp [headT]
    ·exact hle.trans hle8
   ·have hx8 : (([32] : List UInt8) ++ wX M k).length ≤ 4194305 := by rw [List.length_append]; simp only [List.length_singleton]; omega
    have hx4 : ([32] : List UInt8).length = 1 := rfl
    have hx9 : (z ++ [58] ++ ([32] ++ wX M k)).length ≤ 1077987400 := by rw [List.length_append]; omega
    try (refine stg ?_; intros)
    refine nxz (M.length - (k + 1)) ⟨k + 1, z ++ [58] ++ ([32] ++ wX M k) ++ [10], m8, rfl, rfl, rfl, rfl, rfl, ?_, ?_, ?_⟩
    ·omega
    ·rw [hz, hie, List.take_length, wT, hd, ← hs]; unfold tailT; rw [if_neg hs0]; simp [headT]
    ·exact hle.trans hle8
 ·have hke : k = M.length := by omega
  subst hRM
  try (refine stg ?_; intros)
  refine zA func55 ?_ (hs := zCr hold hbn (by omega) _ _ _)
  rintro v mm H1 ⟨rfl, al, cl, rfl, rfl⟩
  try (refine stg ?_; intros)
  have hNl := j7 B
  have hLl := j5 B
  have hsl3 := zY (brN B)
  generalize hSN : strs (brN B) = SN at *
  refine lpz (fun j r ds m' H' => ∃ (i : Nat) (z : List UInt8), j = B.length - i ∧ r = [(57, .int .i64 (i : Int)), (56, .int .i64 ((brN B).length : Int)), (55, .slice al (brN B).length cl), (3, str z), (0, .pp br)] ∧ ds = [] ∧ mm = m' ∧ H' = .row al cl 9 1 SN :: .bl br [.slice (some ra) M.length rc, .map (some rm)] 69 :: .row (some ra) rc 118 3 (rdrs M) :: .blk rm (mapT (brE B) c) :: H ∧ (i ≤ B.length) ∧ (z = s ++ ((brL B).take i).flatMap brT) ∧ (z.length ≤ 1073792000 + 100 * i)) (B.length - (0)) ⟨0, s, rfl, rfl, rfl, rfl, rfl, by omega, by simp, by omega⟩ ?_
  rintro j r ds m' H' ⟨i, z, rfl, rfl, rfl, rfl, rfl, hi, hz, hzl⟩
  by_cases hlt2 : i < B.length
  ·obtain ⟨⟨x, kx⟩, hgx⟩ : ∃ x, (brL B)[i]? = some x := ⟨_, List.getElem?_eq_getElem (by omega)⟩
   obtain ⟨y1, y2, y3, y4⟩ := zAT hN hgx
   simp only at y1 y4
   have hgn : SN[i]? = some [str x] := by rw [← hSN]; unfold strs; rw [List.getElem?_map, y4]; rfl
   obtain ⟨e, he, e1, e2⟩ := jC y1
   have hx32 : x.length ≤ 32 := by have := (hnm e he).2.1; rw [e1] at this; exact this
   have hkx : kx < 256 := by have := hhd e he; omega
   have hdk := yN 17 (kx : Int).toNat (by omega)
   have g1 : ([98, 114, 97, 110, 99, 104, 32] : List UInt8).length = 7 := rfl
   have g2 : ([32] : List UInt8).length = 1 := rfl
   have g3 : ([10] : List UInt8).length = 1 := rfl
   have g4 : (([98, 114, 97, 110, 99, 104, 32] : List UInt8) ++ x).length ≤ 39 := by rw [List.length_append]; omega
   have g5 : (([98, 114, 97, 110, 99, 104, 32] : List UInt8) ++ x ++ [32]).length ≤ 40 := by rw [List.length_append]; omega
   have g6 : (([98, 114, 97, 110, 99, 104, 32] : List UInt8) ++ x ++ [32] ++ decL (kx : Int).toNat).length ≤ 60 := by rw [List.length_append]; omega
   have g7 : (([98, 114, 97, 110, 99, 104, 32] : List UInt8) ++ x ++ [32] ++ decL (kx : Int).toNat ++ [10]).length ≤ 61 := by rw [List.length_append]; omega
   refine WC.rowSome (a := al) zhs (by omega) ?_
   rintro al rfl
   try (refine stg ?_; intros)
   refine WL.lookT1 (es := brE B) (k := x) (z := .int .i64 0) rfl rfl zhs rfl rfl (fun _ => rfl) rfl ?_
   rw [wD, y1]
   simp only [Option.map_some, Option.getD_some]
   try (refine stg ?_; intros)
   refine nxz (B.length - (i + 1)) ⟨i + 1, z ++ (([98, 114, 97, 110, 99, 104, 32] : List UInt8) ++ x ++ [32] ++ decL (kx : Int).toNat ++ [10]), rfl, rfl, rfl, rfl, rfl, ?_, ?_, ?_⟩
   ·omega
   ·rw [hz, zI5 hgx]; simp [brT, branchW]
   ·rw [List.length_append]; omega
  ·have hie : i = (brL B).length := by omega
   have he : histT M B = z := by unfold histT; rw [hz, hs, hke, hie, List.take_length]
   try (refine stg ?_; intros)
   rw [he]
   exact q_fz (Tells.mk hle rfl)
end ZP
namespace ZP
open Go Go.Eng
attribute [local irreducible] wX wT numsT headT tailT brT mapT brN brL
namespace ZD87a
theorem zal {G G' : Prop} (next : G') (h : Bx G' → G := by intro zzn; (first | (refine iF 49 rfl ?_; refine zU func49 ?_ (hs := zDu (by omega) (by assumption)))); (repeat revert zzf); exact zzn.out) : G := h ⟨next⟩
end ZD87a
open ZD87a in
theorem kA {bh bm cap c : Nat} {a : Option Addr} {L : List Dr} {B : Br} {w0 : World} {m : Mem} {H : SHeap} (hok : HsOk m L B c) (hnm : NamesOk B) (hg : GTabs Tryz.prog m) :
  Does Tryz.prog 20 #[.pp bh] w0 m (.bl bh [.slice a L.length cap, .map (some bm)] 90 :: .row a cap 97 3 (drs L) :: .blk bm (mapT (brE B) c) :: H) (Tells (str (histT L B)) m (.bl bh [.slice a L.length cap, .map (some bm)] 90 :: .row a cap 97 3 (drs L) :: .blk bm (mapT (brE B) c) :: H)) := by
 refine Does.of_body func20 rfl ntmps20 rfl ?_
 have h0 := hok.some_
 have hL := hok.few
 have hpar := hok.par
 have hat := hok.at_
 have hnl := vM L
 have hts : ∀ i, (txOf L i).length ≤ 65536 := by
  intro i
  cases hi : L[i]? with
  | none => unfold txOf; rw [hi]; simp
  | some d => rw [xU hi]; exact (hpar i d hi).2.2.2.1
 have hhl : ∀ (i : Nat) (d : Dr), L[i]? = some d → (headT d).length ≤ 100 := by
  intro i d hd
  have := hpar i d hd
  have hi := (List.getElem?_eq_some_iff.1 hd).1
  exact zEt this.2.2.2.2 (fun p hp => by have := this.1 p hp; omega) this.2.2.1
 have hll := fun n => zAD hts hhl n
 generalize hE : drs L = E at *
 refine WC.rowSome (a := a) zhs (by omega) ?_
 rintro a rfl
 have hst : ([] : List UInt8) = wT L 0 := by unfold wT; rfl
 refine stg ?_; intros; rename_i bb
 refine WC.newRow (T := 5) (sz := 1) ?_
 refine lpz (fun j r ds m' H' => ∃ (k : Nat) (s : List UInt8) (ao : Option Addr) (ab : Option Addr) (cb : Nat) (mm : Mem), j = L.length - k ∧ r = [(18, .int .i64 (k : Int)), (17, .int .i64 (L.length : Int)), (16, .slice (some a) L.length cap), (3, .pp bb), (0, .pp bh)] ∧ ds = [] ∧ mm = m' ∧ H' = .bl bb [.pointer ao, .slice ab s.length cb] 111 :: .row ab cb 5 1 (bCs s) :: .bl bh [.slice (some a) L.length cap, .map (some bm)] 90 :: .row (some a) cap 97 3 E :: .blk bm (mapT (brE B) c) :: H ∧ (k ≤ L.length) ∧ (s = wT L k) ∧ (ao = none ∨ ao = some ⟨bb, 0, none⟩) ∧ (ab = none ∨ 0 < cb) ∧ (m.le mm)) (L.length - (0)) ⟨0, [], none, none, 0, m, rfl, rfl, rfl, rfl, rfl, by omega, hst, .inl rfl, .inl rfl, Mem.le.refl _⟩ ?_
 rintro j r ds m' H' ⟨k, s, ao, ab, cb, mm, rfl, rfl, rfl, rfl, rfl, hk, hs, hao, hab, hle⟩
 have hgm := hg.le hle
 have hsl := hll k
 rw [← hs] at hsl
 have hsl2 : s.length ≤ 1073792000 := Nat.le_trans hsl (by omega)
 by_cases hlt : k < L.length
 ·obtain ⟨d, hd⟩ : ∃ d, L[k]? = some d := ⟨_, List.getElem?_eq_getElem hlt⟩
  obtain ⟨va, vc, hv, hr⟩ := hat d (List.mem_of_getElem? hd)
  have hpk := hpar k d hd
  have hge := u7 hd
  unfold drE at hge
  rw [hv, hE] at hge
  have hdl := yN 17 (d.h : Int).toNat (by omega)
  have hd6 : ([100, 114, 97, 102, 116, 32] : List UInt8).length = 6 := rfl
  have hx1 : (([100, 114, 97, 102, 116, 32] : List UInt8) ++ decL (d.h : Int).toNat).length ≤ 24 := by rw [List.length_append]; simp only [List.length_cons, List.length_nil]; omega
  have hx2 : s ++ ([100, 114, 97, 102, 116, 32] ++ decL (d.h : Int).toNat) = s ++ (draftW ++ decL d.h ++ numsT (d.ps.take 0)) := by unfold draftW numsT; simp
  refine stg ?_; intros; rename_i b5
  refine WL.heap (H' := .bl bb [.pointer ao, .slice ab s.length cb] 111 :: .row ab cb 5 1 (bCs s) :: .bl b5 [.int .i64 (d.h : Int), .slice va d.ps.length vc, str d.t] 97 :: .bl bh [.slice (some a) L.length cap, .map (some bm)] 90 :: .row (some a) cap 97 3 E :: .blk bm (mapT (brE B) c) :: H) zpk ?_
  refine zA func48 ?_ (hs := zM hao hab (by unfold FitsB; omega) _ _ _)
  rintro v m2 H2 ⟨rfl, rfl, ⟨ao2, ab2, cb2, hao2, hab2, rfl⟩⟩
  rw [hx2]
  try (refine stg ?_; intros)
  have hnp := zQ d.ps
  have hps := fun (i : Nat) => zBA (l := d.ps.take i) (fun p hp => by have := hpk.1 p (List.mem_of_mem_take hp); omega)
  have hdl2 := yN 17 d.h (by omega)
  generalize hNP : nums d.ps = NP at *
  refine lpz (fun j r ds m' H' => ∃ (i : Nat) (z : List UInt8) (ao : Option Addr) (ab : Option Addr) (cb : Nat), j = d.ps.length - i ∧ r = [(33, .int .i64 (i : Int)), (32, .int .i64 (d.ps.length : Int)), (31, .slice va d.ps.length vc), (3, .pp bb), (5, .pp b5), (4, .int .i64 (k : Int)), (18, .int .i64 (k : Int)), (17, .int .i64 (L.length : Int)), (16, .slice (some a) L.length cap), (0, .pp bh)] ∧ ds = [] ∧ m2 = m' ∧ H' = .bl bb [.pointer ao, .slice ab z.length cb] 111 :: .row ab cb 5 1 (bCs z) :: .bl b5 [.int .i64 (d.h : Int), .slice va d.ps.length vc, str d.t] 97 :: .bl bh [.slice (some a) L.length cap, .map (some bm)] 90 :: .row (some a) cap 97 3 E :: .blk bm (mapT (brE B) c) :: H ∧ (i ≤ d.ps.length) ∧ (z = s ++ (draftW ++ decL d.h ++ numsT (d.ps.take i))) ∧ (ao = none ∨ ao = some ⟨bb, 0, none⟩) ∧ (ab = none ∨ 0 < cb)) (d.ps.length - (0)) ⟨0, s ++ (draftW ++ decL d.h ++ numsT (d.ps.take 0)), ao2, ab2, cb2, rfl, rfl, rfl, rfl, rfl, by omega, rfl, hao2, hab2⟩ ?_
  rintro j r ds m' H' ⟨i, z, ao, ab, cb, rfl, rfl, rfl, rfl, rfl, hi, hz, hao, hab⟩
  have hzl : z.length ≤ 1073793000 := by
   have h1 := hps i
   have h2 : (d.ps.take i).length ≤ 2 := by rw [List.length_take]; omega
   rw [hz]
   unfold draftW
   simp only [List.length_append, List.length_cons, List.length_nil]; omega
  by_cases hlt2 : i < d.ps.length
  ·obtain ⟨p, hp⟩ : ∃ p, d.ps[i]? = some p := ⟨_, List.getElem?_eq_getElem hlt2⟩
   have hpk2 := hpk.1 p (List.mem_of_getElem? hp)
   have hgn : NP[i]? = some [.int .i64 (p : Int)] := by rw [← hNP]; exact xO hp
   have hrr := (hr w0 (.bl bb [.pointer ao, .slice ab z.length cb] 111 :: .row ab cb 5 1 (bCs z) :: .bl b5 [.int .i64 (d.h : Int), .slice va d.ps.length vc, str d.t] 97 :: .bl bh [.slice (some a) L.length cap, .map (some bm)] 90 :: .row (some a) cap 97 3 E :: .blk bm (mapT (brE B) c) :: H)).le hle
   refine WC.rSome hrr (by omega) ?_
   rintro va rfl
   have hdp := yN 17 (p : Int).toNat (by omega)
   have hx3 : (([32] : List UInt8) ++ decL (p : Int).toNat).length ≤ 19 := by rw [List.length_append]; simp only [List.length_singleton]; omega
   have hx4 : ([32] : List UInt8).length = 1 := rfl
   try (refine stg ?_; intros)
   refine zA func48 ?_ (hs := zM hao hab (by unfold FitsB; omega) _ _ _)
   rintro v m3 H3 ⟨rfl, rfl, ⟨ao3, ab3, cb3, hao3, hab3, rfl⟩⟩
   try (refine stg ?_; intros)
   refine nxz (d.ps.length - (i + 1)) ⟨i + 1, z ++ ([32] ++ decL (p : Int).toNat), ao3, ab3, cb3, rfl, rfl, rfl, rfl, rfl, ?_, ?_, ?_, ?_⟩
   ·omega
   ·rw [hz, zCq hp]; simp
   ·exact hao3
   ·exact hab3
  ·have hie : i = d.ps.length := by omega
   have hx5 : ([58] : List UInt8).length = 1 := rfl
   have hx6 : (z ++ [58]).length ≤ 1073793001 := by rw [List.length_append]; omega
   have hsd := zBK (k := k) hts
   try (refine stg ?_; intros)
   refine zA func48 ?_ (hs := zM hao hab (by unfold FitsB; omega) _ _ _)
   rintro v m3 H3 ⟨rfl, rfl, ⟨ao3, ab3, cb3, hao3, hab3, rfl⟩⟩
   try (refine stg ?_; intros)
   subst hE
   refine zN func50 ?_ (hs := zJK hlt hL (fun i d hd => ⟨(hpar i d hd).1, (hpar i d hd).2.1, (hpar i d hd).2.2.1, (hpar i d hd).2.2.2.1⟩) (fun d hd => (hat d hd).le hle) (hg.le hle))
   rintro v m8 H8 ⟨hle8, rfl, rfl⟩
   have hx7 : ([10] : List UInt8).length = 1 := rfl
   by_cases hs0 : wX L k = []
   ·try (refine stg ?_; intros)
    refine WL.heap (H' := .bl bb [.pointer ao3, .slice ab3 (z ++ [58]).length cb3] 111 :: .row ab3 cb3 5 1 (bCs (z ++ [58])) :: .bl bh [.slice (some a) L.length cap, .map (some bm)] 90 :: .row (some a) cap 97 3 (drs L) :: .bl b5 [.int .i64 (d.h : Int), .slice va d.ps.length vc, str d.t] 97 :: .blk bm (mapT (brE B) c) :: H) zpk ?_
    refine zA func48 ?_ (hs := zM hao3 hab3 (by unfold FitsB; omega) _ _ _)
    rintro v m4 H4 ⟨rfl, rfl, ⟨ao4, ab4, cb4, hao4, hab4, rfl⟩⟩
    try (refine stg ?_; intros)
    refine nxz (L.length - (k + 1)) ⟨k + 1, z ++ [58] ++ [10], ao4, ab4, cb4, m4, rfl, rfl, rfl, rfl, rfl, ?_, ?_, ?_, ?_, ?_⟩
    ·omega
    ·rw [hz, hie, List.take_length, wT, hd, ← hs]; unfold tailT; rw [if_pos hs0]; simp [headT]
    ·exact hao4
    ·exact hab4
    ·exact hle.trans hle8
   ·have hx8 : (([32] : List UInt8) ++ wX L k).length ≤ 4194305 := by rw [List.length_append]; simp only [List.length_singleton]; omega
    have hx4 : ([32] : List UInt8).length = 1 := rfl
    have hx9 : (z ++ [58] ++ ([32] ++ wX L k)).length ≤ 1077987400 := by rw [List.length_append]; omega
    try (refine stg ?_; intros)
    refine WL.heap (H' := .bl bb [.pointer ao3, .slice ab3 (z ++ [58]).length cb3] 111 :: .row ab3 cb3 5 1 (bCs (z ++ [58])) :: .bl bh [.slice (some a) L.length cap, .map (some bm)] 90 :: .row (some a) cap 97 3 (drs L) :: .bl b5 [.int .i64 (d.h : Int), .slice va d.ps.length vc, str d.t] 97 :: .blk bm (mapT (brE B) c) :: H) zpk ?_
    refine zA func48 ?_ (hs := zM hao3 hab3 (by unfold FitsB; omega) _ _ _)
    rintro v m4 H4 ⟨rfl, rfl, ⟨ao4, ab4, cb4, hao4, hab4, rfl⟩⟩
    try (refine stg ?_; intros)
    refine zA func48 ?_ (hs := zM hao4 hab4 (by unfold FitsB; omega) _ _ _)
    rintro v m5 H5 ⟨rfl, rfl, ⟨ao5, ab5, cb5, hao5, hab5, rfl⟩⟩
    try (refine stg ?_; intros)
    refine nxz (L.length - (k + 1)) ⟨k + 1, z ++ [58] ++ ([32] ++ wX L k) ++ [10], ao5, ab5, cb5, m5, rfl, rfl, rfl, rfl, rfl, ?_, ?_, ?_, ?_, ?_⟩
    ·omega
    ·rw [hz, hie, List.take_length, wT, hd, ← hs]; unfold tailT; rw [if_neg hs0]; simp [headT]
    ·exact hao5
    ·exact hab5
    ·exact hle.trans hle8
 ·have hke : k = L.length := by omega
  have hold := hok.old
  have hbn := hok.borns
  have hN := hok.names
  have hB := hok.most
  have hLl := j5 B
  subst hE
  try (refine stg ?_; intros)
  refine zA func8 ?_ (hs := zAL _ _ _)
  rintro v m3 H3 ⟨rfl, b9, rfl, rfl⟩
  refine WL.persist (b := b9) (by (repeat (first | exact Out.here | apply Out.there))) ?_
  intro m4 hle4 hb9
  try (refine stg ?_; intros)
  refine WC.heap (H' := .bl bb [.pointer ao, .slice ab s.length cb] 111 :: .row ab cb 5 1 (bCs s) :: .bl bh [.slice (some a) L.length cap, .map (some bm)] 90 :: .row (some a) cap 97 3 (drs L) :: .blk bm (mapT (brE B) c) :: H) zpk ?_
  refine WC.rangeFuncR (encs := fun x : Tx × Nat => [str x.1, .int .i64 (x.2 : Int)]) (xs := brL B) (lb := [.pp b9]) (ps := [55, 56]) (Hc := H)
   (J := fun pre m' Hl => m4.le m' ∧ ∃ (ao ab : Option Addr) (cb : Nat) (z : List UInt8), z = s ++ pre.flatMap brT ∧ z.length ≤ 1073792000 + 100 * pre.length ∧ (ao = none ∨ ao = some ⟨bb, 0, none⟩) ∧ (ab = none ∨ 0 < cb) ∧ Hl = .bl bb [.pointer ao, .slice ab z.length cb] 111 :: .row ab cb 5 1 (bCs z) :: .bl bh [.slice (some a) L.length cap, .map (some bm)] 90 :: .row (some a) cap 97 3 (drs L) :: .blk bm (mapT (brE B) c) :: []) (Jx := fun _ _ _ _ => False)
   rfl func34 rfl rfl (jF (bh := bh) (bm := bm) hold hbn hN (by omega) b9) (fun _ => rfl) rfl (fun _ _ _ _ h hm => ⟨h.1.trans hm, h.2⟩)
   (fun pre m' Hl i j h => by
    obtain ⟨h1, ao, ab, cb, z, _, _, _, _, rfl⟩ := h
    exact ⟨⟨some a, L.length, cap, by simp⟩, ⟨B, c, by simp, fun _ _ => rfl, fun _ => ⟨rfl, rfl⟩⟩, h1 _ _ hb9⟩) (fun _ _ _ _ _ h _ => h) (.cons (.cons (.cons (.cons (.cons .nil))))) ⟨Mem.le.refl _, ao, ab, cb, s, by simp, by simp; omega, hao, hab, rfl⟩ ?_ ?_ ?_
  ·rintro lp pre ⟨x, kx⟩ post hx m8 Hl ⟨hle8, ao8, ab8, cb8, z, hz, hzl, hao8, hab8, rfl⟩ hm8 Hfr hfr
   have hpl : pre.length < (brL B).length := by rw [hx]; simp
   have hgx : (brL B)[pre.length]? = some (x, kx) := by rw [hx]; simp
   obtain ⟨y1, y2, y3, y4⟩ := zAT hN hgx
   simp only at y1 y4
   obtain ⟨e, he, e1, e2⟩ := jC y1
   have hx32 : x.length ≤ 32 := by have := (hnm e he).2.1; rw [e1] at this; exact this
   have hkx : kx < 256 := by have := hok.heads e he; omega
   have hdk := yN 17 (kx : Int).toNat (by omega)
   have hg8 := hgm.le (hle4.trans hle8)
   have g1 : ([98, 114, 97, 110, 99, 104, 32] : List UInt8).length = 7 := rfl
   have g2 : ([32] : List UInt8).length = 1 := rfl
   have g3 : ([10] : List UInt8).length = 1 := rfl
   have g4 : (([98, 114, 97, 110, 99, 104, 32] : List UInt8) ++ x).length ≤ 39 := by rw [List.length_append]; omega
   have g5 : (([98, 114, 97, 110, 99, 104, 32] : List UInt8) ++ x ++ [32]).length ≤ 40 := by rw [List.length_append]; omega
   have g6 : (([98, 114, 97, 110, 99, 104, 32] : List UInt8) ++ x ++ [32] ++ decL (kx : Int).toNat).length ≤ 60 := by rw [List.length_append]; omega
   have g7 : (([98, 114, 97, 110, 99, 104, 32] : List UInt8) ++ x ++ [32] ++ decL (kx : Int).toNat ++ [10]).length ≤ 61 := by rw [List.length_append]; omega
   have g8 : (pre ++ [(x, kx)]).length = pre.length + 1 := by simp
   try (refine stg ?_; intros)
   refine WQ.assigned (.cons (.cons (.cons (.cons (.cons .nil))))) zml ?_
   intro Hfr2
   simp only [List.cons_append, List.nil_append]
   try (refine stg ?_; intros)
   refine zA func48 ?_ (hs := zM hao8 hab8 (by unfold FitsB; omega) _ _ _)
   rintro v m9 H9 ⟨rfl, rfl, ⟨ao9, ab9, cb9, hao9, hab9, rfl⟩⟩
   try (refine stg ?_; intros)
   exact WQ.roundOn (Hl := .bl bb [.pointer ao9, .slice ab9 (z ++ (([98, 114, 97, 110, 99, 104, 32] : List UInt8) ++ x ++ [32] ++ decL (kx : Int).toNat ++ [10])).length cb9] 111 :: .row ab9 cb9 5 1 (bCs (z ++ (([98, 114, 97, 110, 99, 104, 32] : List UInt8) ++ x ++ [32] ++ decL (kx : Int).toNat ++ [10]))) :: .bl bh [.slice (some a) L.length cap, .map (some bm)] 90 :: .row (some a) cap 97 3 (drs L) :: .blk bm (mapT (brE B) c) :: []) zpk zml
    ⟨hle8, ao9, ab9, cb9, _, by rw [hz, List.flatMap_append]; simp [brT, branchW], by rw [List.length_append, g8]; omega, hao9, hab9, rfl⟩
  ·rintro D m8 Hl ⟨hle8, ao8, ab8, cb8, z, hz, hzl, hao8, hab8, rfl⟩ hm8
   simp only [List.cons_append, List.nil_append]
   have he : histT L B = z := by unfold histT; rw [hz, hs, hke]
   try (refine stg ?_; intros)
   refine zA func51 ?_ (hs := zBm hab8 (by omega) _ _ _)
   rintro v m9 H9 ⟨rfl, rfl, i9, hk9, rfl⟩
   try (refine stg ?_; intros)
   rw [he]
   refine WQ.heapX (H' := List.map dfr [D] ++ (.bl bb [.pointer ao8, .slice ab8 z.length cb8] 111 :: i9 :: .bl bh [.slice (some a) L.length cap, .map (some bm)] 90 :: .row (some a) cap 97 3 (drs L) :: .blk bm (mapT (brE B) c) :: H)) zpk ?_
   refine WQ.marks (ds := [D]) (H1 := .bl bb [.pointer ao8, .slice ab8 z.length cb8] 111 :: i9 :: .bl bh [.slice (some a) L.length cap, .map (some bm)] 90 :: .row (some a) cap 97 3 (drs L) :: .blk bm (mapT (brE B) c) :: H) (List.Perm.refl _) ?_
   exact q_fz (Tells.mk (hle.trans (hle4.trans hle8)) rfl)
  ·rintro D c9 pre m8 Hl _ h _
   exact h.elim
end ZP
namespace Go.Eng
open Go
def drawnIn : Code → List Code
 | .seq a b => drawnIn a ++ drawnIn b
 | .block _ c | .scope c | .loop c => drawnIn c
 | .cond _ a b => drawnIn a ++ drawnIn b
 | .rangeFunc _ _ a b => drawnIn a ++ drawnIn b
 | .region id l true => [.region id l true]
 | _ => []
theorem WOk.fresh {m : Mem} {t : List UInt8} (ht : t.length ≤ 65536) : WOk m [⟨0, [], .slice none 0 0, t⟩] [⟨0, [], .slice none 0 0, t⟩] [(0, mainN, 0)] 1 where
 ok := HsOk.fresh ht
 same := rfl
 atM := fun d hd => by
  rw [List.mem_singleton] at hd
  subst hd
  exact PsAt.nil
theorem NamesOk.fresh : NamesOk [(0, mainN, 0)] := by
 intro e he
 rw [List.mem_singleton] at he
 subst he
 decide
end Go.Eng
namespace ZP
open Go Go.Eng
theorem qS {br rm rc c : Nat} {ra : Option Addr} {L M : List Dr} {B : Br} {w0 : World} {m : Mem} {H : SHeap} (hw : WOk m L M B c) (hnm : NamesOk B) (hg : GTabs Tryz.prog m) :
  Does Tryz.prog 27 #[.pp br] w0 m (.bl br [.slice ra M.length rc, .map (some rm)] 69 :: .row ra rc 118 3 (rdrs M) :: .blk rm (mapT (brE B) c) :: H) (Tells (str (histT M B)) m (.bl br [.slice ra M.length rc, .map (some rm)] 69 :: .row ra rc 118 3 (rdrs M) :: .blk rm (mapT (brE B) c) :: H)) := by
 have hl := hw.same.length
 have h0 := hw.ok.some_
 exact zGs (by omega) hw.few (fun i d hd => ⟨(hw.parM hd).2.2.1, (hw.parM hd).2.2.2.1, (hw.parM hd).1, (hw.parM hd).2.1, (hw.parM hd).2.2.2.2⟩) hw.atM hw.ok.old hw.ok.borns hw.ok.names hw.ok.most hnm (fun e he => by have := hw.ok.heads e he; omega) hg
theorem zDF (s : Tx) (hs : 65536 < s.length) (hs9 : s.length ≤ 9223372036854775807) (w0 : World) (m : Mem) (H : SHeap) : Does Tryz.prog 21 #[str s] w0 m H (Gives (.tuple #[.pointer none, .int .i64 3]) m H) := by
 refine Does.of_body func21 rfl ntmps21 rfl ?_
 refine st ?_; intros; rename_i b3
 refine zA func40 ?_ (hs := uB (L := [s]) (by simp) (yZ (T := 9) (fz := (0, 0)) (L := [str s]) zhs rfl (by simp [strs])))
 rintro v m H9 ⟨rfl, rfl, rfl⟩
 rw [zE (show Long [s] from ⟨s, List.mem_singleton.2 rfl, hs⟩)]
 try (refine st ?_; intros)
 exact q_fz zgm
end ZP
namespace ZP
open Go Go.Eng
attribute [local irreducible] mapT brN brL x6
namespace ZD89La
theorem zal {G G' : Prop} (next : G') (h : Bx G' → G := by intro zzn; (first | (refine iF 19 rfl ?_; refine zU func19 ?_ (hs := zF2 zhs)) | (refine WL.indexAddrA rfl rfl (by exact znz) rfl rfl (by omega) rfl rfl ?_)); (repeat revert zzf); exact zzn.out) : G := h ⟨next⟩
end ZD89La
open ZD89La in
theorem zH1 {bh bm br rm bh1 bm1 br1 rm1 b7 cz : Nat} {az : Option Addr} {Z : List Hop} {L0 M0 L01 M01 : List Dr} {B0 B01 : Br} {c0 c01 cap0 rc0 cap01 rc01 : Nat} {a0 ra0 a01 ra01 : Option Addr} {w0 : World} {m : Mem} {H : SHeap} {Q : Exit → Act → World → Prop}
  (hw0 : WOk m L0 M0 B0 c0) (hw01 : WOk m L01 M01 B01 c01) (hn0 : NamesOk B0) (hn01 : NamesOk B01) (hzo : ∀ x ∈ Z, x.Ok) (hzl : Z.length ≤ 40)
  (hK : ∀ (m' : Mem) (a ra a1 ra1 : Option Addr) (cap rc c cap1 rc1 c1 : Nat) (L M L1 M1 : List Dr) (B B1 : Br), m.le m' → WOk m' L M B c → WOk m' L1 M1 B1 c1 → NamesOk B → NamesOk B1 → WQ 156 w0 Q (.exit 2) [(7, .pp b7)] [] m' (.bl bh [.slice a L.length cap, .map (some bm)] 90 :: .row a cap 97 3 (drs L) :: .blk bm (mapT (brE B) c) :: .bl br [.slice ra M.length rc, .map (some rm)] 69 :: .row ra rc 118 3 (rdrs M) :: .blk rm (mapT (brE B) c) :: .bl bh1 [.slice a1 L1.length cap1, .map (some bm1)] 90 :: .row a1 cap1 97 3 (drs L1) :: .blk bm1 (mapT (brE B1) c1) :: .bl br1 [.slice ra1 M1.length rc1, .map (some rm1)] 69 :: .row ra1 rc1 118 3 (rdrs M1) :: .blk rm1 (mapT (brE B1) c1) :: .bl b7 [.pp bh, .pp br, .pp bh1, .pp br1] 60 :: .row az cz 64 6 (Z.map Hop.cs) :: H)) :
  WC Tryz.prog none 156 w0 ((yF (Tryz.f4.body.getD .skip)).getD 1 .skip) Q [(63, .int .i64 0), (62, .int .i64 (Z.length : Int)), (61, .slice az Z.length cz), (7, .pp b7)] [] m
   (.bl bh [.slice a0 L0.length cap0, .map (some bm)] 90 :: .row a0 cap0 97 3 (drs L0) :: .blk bm (mapT (brE B0) c0) :: .bl br [.slice ra0 M0.length rc0, .map (some rm)] 69 :: .row ra0 rc0 118 3 (rdrs M0) :: .blk rm (mapT (brE B0) c0) ::
    .bl bh1 [.slice a01 L01.length cap01, .map (some bm1)] 90 :: .row a01 cap01 97 3 (drs L01) :: .blk bm1 (mapT (brE B01) c01) :: .bl br1 [.slice ra01 M01.length rc01, .map (some rm1)] 69 :: .row ra01 rc01 118 3 (rdrs M01) :: .blk rm1 (mapT (brE B01) c01) :: .bl b7 [.pp bh, .pp br, .pp bh1, .pp br1] 60 :: .row az cz 64 6 (Z.map Hop.cs) :: H) := by
 have hml : (Z.map Hop.cs).length = Z.length := List.length_map _
 refine lpz (fun j r ds m' H' => ∃ (i : Nat) (mm : Mem) (a : Option Addr) (ra : Option Addr) (a1 : Option Addr) (ra1 : Option Addr) (cap : Nat) (rc : Nat) (c : Nat) (cap1 : Nat) (rc1 : Nat) (c1 : Nat) (L : List Dr) (M : List Dr) (L1 : List Dr) (M1 : List Dr) (B : Br) (B1 : Br), j = Z.length - i ∧ r = [(63, .int .i64 (i : Int)), (62, .int .i64 (Z.length : Int)), (61, .slice az Z.length cz), (7, .pp b7)] ∧ ds = [] ∧ mm = m' ∧ H' = .bl bh [.slice a L.length cap, .map (some bm)] 90 :: .row a cap 97 3 (drs L) :: .blk bm (mapT (brE B) c) :: .bl br [.slice ra M.length rc, .map (some rm)] 69 :: .row ra rc 118 3 (rdrs M) :: .blk rm (mapT (brE B) c) :: .bl bh1 [.slice a1 L1.length cap1, .map (some bm1)] 90 :: .row a1 cap1 97 3 (drs L1) :: .blk bm1 (mapT (brE B1) c1) :: .bl br1 [.slice ra1 M1.length rc1, .map (some rm1)] 69 :: .row ra1 rc1 118 3 (rdrs M1) :: .blk rm1 (mapT (brE B1) c1) :: .bl b7 [.pp bh, .pp br, .pp bh1, .pp br1] 60 :: .row az cz 64 6 (Z.map Hop.cs) :: H ∧ (i ≤ Z.length) ∧ (m.le mm) ∧ (WOk mm L M B c) ∧ (WOk mm L1 M1 B1 c1) ∧ (NamesOk B) ∧ (NamesOk B1)) (Z.length - (0)) ⟨0, m, a0, ra0, a01, ra01, cap0, rc0, c0, cap01, rc01, c01, L0, M0, L01, M01, B0, B01, rfl, rfl, rfl, rfl, rfl, by omega, Mem.le.refl _, hw0, hw01, hn0, hn01⟩ ?_
 rintro j r ds m' H' ⟨i, mm, a, ra, a1, ra1, cap, rc, c, cap1, rc1, c1, L, M, L1, M1, B, B1, rfl, rfl, rfl, rfl, rfl, hi, hle, hw, hw1, hn, hn1⟩
 by_cases hlt : i < Z.length
 ·obtain ⟨x, hgx⟩ : ∃ x, Z[i]? = some x := ⟨_, List.getElem?_eq_getElem hlt⟩
  have hxo := hzo x (List.mem_of_getElem? hgx)
  have hgc : (Z.map Hop.cs)[i]? = some x.cs := by rw [List.getElem?_map, hgx]; rfl
  obtain ⟨SC, hSC⟩ : ∃ SC, SC = Z.map Hop.cs := ⟨_, rfl⟩
  rw [← hSC] at hgc hml
  rw [← hSC]
  obtain ⟨x0, x1, x2, x3, x4, x5⟩ := x
  unfold Hop.Ok at hxo
  unfold Hop.cs at hgc
  simp only at hgc hxo
  refine WC.rowSome (a := az) zhs (by omega) ?_
  rintro az rfl
  by_cases h3 : (i : Int) % 3 = 2
  ·refine stg ?_; intros; rename_i b12
   refine wdw 22 ((.bl b7 [.pp bh, .pp br, .pp bh1, .pp br1] 60 :: .bl b12 [.int .i64 x0, str x1, str x2, .int .i64 x3, .int .i64 x4, str x5] 64 :: [])) ?_
   refine cmg ?_
   refine wa1 4 ?_
   refine zN func24 ?_ (hs := zFo x0 x1 x2 x3 x4 x5 _ _ _ (by omega) (by omega) hw1)
   rintro v m5 H5 ⟨rfl, hle5, a9, ra9, cap9, rc9, c9, L9, M9, B9, hw9, hn9, rfl⟩
   have hs9 := hw9.same.length
   have hf9 := hw9.ok.few
   try (refine stg ?_; intros)
   refine waz (.bl bh1 [.slice a9 L9.length cap9, .map (some bm1)] 90 :: .row a9 cap9 97 3 (drs L9) :: .blk bm1 (mapT (brE B9) c9) :: .bl br1 [.slice ra9 M9.length rc9, .map (some rm1)] 69 :: .row ra9 rc9 118 3 (rdrs M9) :: .blk rm1 (mapT (brE B9) c9) :: []) hle5 ?_
   refine cmg ?_
   refine wdz ?_
   try (refine stg ?_; intros)
   subst hSC
   refine nxz (Z.length - (i + 1)) ⟨i + 1, m5, a, ra, a9, ra9, cap, rc, c, cap9, rc9, c9, L, M, L9, M9, B, B9, rfl, rfl, rfl, rfl, rfl, ?_, ?_, ?_, ?_, ?_, ?_⟩
   ·omega
   ·exact hle.trans hle5
   ·exact hw.le hle5
   ·exact hw9
   ·exact hn
   ·exact hn9 hn1
  ·refine stg ?_; intros; rename_i b12
   refine wdw 22 ((.bl b7 [.pp bh, .pp br, .pp bh1, .pp br1] 60 :: .bl b12 [.int .i64 x0, str x1, str x2, .int .i64 x3, .int .i64 x4, str x5] 64 :: [])) ?_
   refine cmg ?_
   refine wa1 4 ?_
   refine zN func24 ?_ (hs := zFo x0 x1 x2 x3 x4 x5 _ _ _ (by omega) (by omega) hw)
   rintro v m5 H5 ⟨rfl, hle5, a9, ra9, cap9, rc9, c9, L9, M9, B9, hw9, hn9, rfl⟩
   have hs9 := hw9.same.length
   have hf9 := hw9.ok.few
   try (refine stg ?_; intros)
   refine waz (.bl bh [.slice a9 L9.length cap9, .map (some bm)] 90 :: .row a9 cap9 97 3 (drs L9) :: .blk bm (mapT (brE B9) c9) :: .bl br [.slice ra9 M9.length rc9, .map (some rm)] 69 :: .row ra9 rc9 118 3 (rdrs M9) :: .blk rm (mapT (brE B9) c9) :: []) hle5 ?_
   refine cmg ?_
   refine wdz ?_
   try (refine stg ?_; intros)
   subst hSC
   refine nxz (Z.length - (i + 1)) ⟨i + 1, m5, a9, ra9, a1, ra1, cap9, rc9, c9, cap1, rc1, c1, L9, M9, L1, M1, B9, B1, rfl, rfl, rfl, rfl, rfl, ?_, ?_, ?_, ?_, ?_, ?_⟩
   ·omega
   ·exact hle.trans hle5
   ·exact hw9
   ·exact hw1.le hle5
   ·exact hn9 hn
   ·exact hn1
 ·try (refine stg ?_; intros)
  exact WQ.weak zsb zpk (hK mm a ra a1 ra1 cap rc c cap1 rc1 c1 L M L1 M1 B B1 hle hw hw1 hn hn1)
end ZP
namespace ZP
open Go Go.Eng
attribute [local irreducible] mapT brN brL x6 histT
namespace ZD89Aa
theorem zal {G G' : Prop} (next : G') (h : Bx G' → G := by intro zzn; (first | (refine WL.indexAddrA rfl rfl (by exact znz) rfl rfl (by omega) rfl rfl ?_)); (repeat revert zzf); exact zzn.out) : G := h ⟨next⟩
end ZD89Aa
open ZD89Aa in
theorem zIO {bh bm br rm bh1 bm1 br1 rm1 b7 : Nat} {L M L1 M1 : List Dr} {B B1 : Br} {c c1 cap rc cap1 rc1 : Nat} {a ra a1 ra1 : Option Addr} {w0 : World} {m : Mem} {H : SHeap} {Q : Exit → Act → World → Prop}
  (hw : WOk m L M B c) (hn : NamesOk B) (hgm : GTabs Tryz.prog m)
  (hK : ∀ m', m.le m' → WQ 156 w0 Q .normal ((153, .bool false) :: [(94, .int .i64 ((0 : Nat) : Int)), (14, .int .i64 ((0 : Nat) : Int)), (7, .pp b7)]) [] m' (.bl b7 [.pp bh, .pp br, .pp bh1, .pp br1] 60 :: .bl bh [.slice a L.length cap, .map (some bm)] 90 :: .row a cap 97 3 (drs L) :: .blk bm (mapT (brE B) c) :: .bl br [.slice ra M.length rc, .map (some rm)] 69 :: .row ra rc 118 3 (rdrs M) :: .blk rm (mapT (brE B) c) :: .bl bh1 [.slice a1 L1.length cap1, .map (some bm1)] 90 :: .row a1 cap1 97 3 (drs L1) :: .blk bm1 (mapT (brE B1) c1) :: .bl br1 [.slice ra1 M1.length rc1, .map (some rm1)] 69 :: .row ra1 rc1 118 3 (rdrs M1) :: .blk rm1 (mapT (brE B1) c1) :: H)) :
  WC Tryz.prog none 156 w0 ((drawnIn (Tryz.f4.body.getD .skip)).getD 1 .skip) Q [(94, .int .i64 ((0 : Nat) : Int)), (14, .int .i64 ((0 : Nat) : Int)), (7, .pp b7)] [] m (.bl b7 [.pp bh, .pp br, .pp bh1, .pp br1] 60 :: .bl bh [.slice a L.length cap, .map (some bm)] 90 :: .row a cap 97 3 (drs L) :: .blk bm (mapT (brE B) c) :: .bl br [.slice ra M.length rc, .map (some rm)] 69 :: .row ra rc 118 3 (rdrs M) :: .blk rm (mapT (brE B) c) :: .bl bh1 [.slice a1 L1.length cap1, .map (some bm1)] 90 :: .row a1 cap1 97 3 (drs L1) :: .blk bm1 (mapT (brE B1) c1) :: .bl br1 [.slice ra1 M1.length rc1, .map (some rm1)] 69 :: .row ra1 rc1 118 3 (rdrs M1) :: .blk rm1 (mapT (brE B1) c1) :: H) := by
 have hMf := hw.few
 have hLf := hw.ok.few
 have hpar := hw.ok.par
 have hs9 := hw.same.length
 have hst := hw.same.hist B
 refine wdw 57 ((.bl b7 [.pp bh, .pp br, .pp bh1, .pp br1] 60 :: .bl bh [.slice a L.length cap, .map (some bm)] 90 :: .row a cap 97 3 (drs L) :: .blk bm (mapT (brE B) c) :: .bl br [.slice ra M.length rc, .map (some rm)] 69 :: .row ra rc 118 3 (rdrs M) :: .blk rm (mapT (brE B) c) :: .bl bh1 [.slice a1 L1.length cap1, .map (some bm1)] 90 :: .row a1 cap1 97 3 (drs L1) :: .blk bm1 (mapT (brE B1) c1) :: .bl br1 [.slice ra1 M1.length rc1, .map (some rm1)] 69 :: .row ra1 rc1 118 3 (rdrs M1) :: .blk rm1 (mapT (brE B1) c1) :: [])) ?_
 refine wc1 0 ?_
 refine wc1 1 ?_
 refine wc1 2 ?_
 refine wa1 3 ?_
 refine zN func25 ?_ (hs := zCv _ _ _ hw)
 rintro v m2 H2 ⟨rfl, rfl, rfl⟩
 try (refine stg ?_; intros)
 refine waz [] zml ?_
 refine wc1 4 ?_
 refine wc1 5 ?_
 refine wc1 6 ?_
 refine wc1 7 ?_
 refine wc1 8 ?_
 refine wa1 9 ?_
 try (refine stg ?_; intros)
 refine zN func26 ?_ (hs := q7 _ _ _ hw (NamesOk.no hn))
 rintro v m2 H2 ⟨hle2, rfl, rfl⟩
 try (refine stg ?_; intros)
 refine waz [] hle2 ?_
 refine wc1 10 ?_
 refine wc1 11 ?_
 refine wc1 12 ?_
 refine wc1 13 ?_
 refine wc1 14 ?_
 refine wc1 15 ?_
 refine wc1 16 ?_
 refine wc1 18 ?_
 refine wc1 19 ?_
 refine wc1 20 ?_
 refine wc1 21 ?_
 have hg2 := hgm.le hle2
 have hw2 := hw.le hle2
 have hss : histT M B = histT M B := rfl
 refine WE.act2 17 22 (by decide +kernel) rfl rfl (fun c h => by cases h) rfl rfl (fun c h => by cases h) ?_ ?_
 ·try (refine stg ?_; intros)
  refine zN func20 ?_ (hs := kA hw2.ok hn hg2)
  rintro v m3 H3 ⟨hle3, rfl, rfl⟩
  rw [hst]
  try (refine stg ?_; intros)
  refine waz [] hle3 ?_
  have hle7 := hle2.trans hle3
  have hg3 := hg2.le hle3
  have hw3 := hw2.le hle3
  refine wa1 22 ?_
  try (refine stg ?_; intros)
  refine zN func27 ?_ (hs := qS hw3 hn hg3)
  rintro v m4 H4 ⟨hle4, rfl, rfl⟩
  try (refine stg ?_; intros)
  refine waz [] hle4 ?_
  generalize histT M B = HT
  have hsx : HT = HT := rfl
  refine wc1 23 ?_
  rw [zE (show HT = HT from rfl)]
  refine wc1 24 ?_
  refine wc1 25 ?_
  refine wc1 26 ?_
  refine wc1 27 ?_
  refine wc1 28 ?_
  refine wc1 29 ?_
  refine wc1 30 ?_
  refine wc1 31 ?_
  refine wc1 32 ?_
  refine wc1 33 ?_
  refine wc1 34 ?_
  refine wc1 35 ?_
  refine wc1 36 ?_
  refine wc1 37 ?_
  have hle8 := hle7.trans hle4
  have hw4 := hw3.le hle4
  refine wa1 38 ?_
  try (refine stg ?_; intros)
  refine zN func28 ?_ (hs := jM ((M.length : Int) - 1) _ _ _ hw4)
  rintro v m5 H5 ⟨hle5, rfl, rfl⟩
  try (refine stg ?_; intros)
  refine waz [] hle5 ?_
  refine wc1 39 ?_
  refine wc1 40 ?_
  refine wc1 41 ?_
  refine wc1 42 ?_
  refine wc1 43 ?_
  refine wc1 44 ?_
  refine wc1 45 ?_
  refine wc1 46 ?_
  refine wc1 47 ?_
  refine wc1 48 ?_
  refine wc1 49 ?_
  refine wc1 50 ?_
  refine wc1 51 ?_
  refine wc1 52 ?_
  refine wc1 53 ?_
  refine wa1 54 ?_
  try (refine stg ?_; intros)
  refine zN func29 ?_ (hs := jB 0 ((M.length : Int) - 1) _ _ _ (hw4.le hle5))
  rintro v m6 H6 ⟨rfl, rfl, rfl⟩
  try (refine stg ?_; intros)
  refine waz [] zml ?_
  refine wc1 55 ?_
  refine wc1 56 ?_
  refine wdz ?_
  try (refine stg ?_; intros)
  exact WQ.weak zsb zpk (hK _ (hle8.trans hle5))
 ·try (refine stg ?_; intros)
  refine zN func27 ?_ (hs := qS hw2 hn hg2)
  rintro v m3 H3 ⟨hle3, rfl, rfl⟩
  try (refine stg ?_; intros)
  refine waz [] hle3 ?_
  have hle7 := hle2.trans hle3
  have hg3 := hg2.le hle3
  have hw3 := hw2.le hle3
  refine wa1 17 ?_
  try (refine stg ?_; intros)
  refine zN func20 ?_ (hs := kA hw3.ok hn hg3)
  rintro v m4 H4 ⟨hle4, rfl, rfl⟩
  rw [hst]
  try (refine stg ?_; intros)
  refine waz [] hle4 ?_
  generalize histT M B = HT
  have hsx : HT = HT := rfl
  refine wc1 23 ?_
  rw [zE (show HT = HT from rfl)]
  refine wc1 24 ?_
  refine wc1 25 ?_
  refine wc1 26 ?_
  refine wc1 27 ?_
  refine wc1 28 ?_
  refine wc1 29 ?_
  refine wc1 30 ?_
  refine wc1 31 ?_
  refine wc1 32 ?_
  refine wc1 33 ?_
  refine wc1 34 ?_
  refine wc1 35 ?_
  refine wc1 36 ?_
  refine wc1 37 ?_
  have hle8 := hle7.trans hle4
  have hw4 := hw3.le hle4
  refine wa1 38 ?_
  try (refine stg ?_; intros)
  refine zN func28 ?_ (hs := jM ((M.length : Int) - 1) _ _ _ hw4)
  rintro v m5 H5 ⟨hle5, rfl, rfl⟩
  try (refine stg ?_; intros)
  refine waz [] hle5 ?_
  refine wc1 39 ?_
  refine wc1 40 ?_
  refine wc1 41 ?_
  refine wc1 42 ?_
  refine wc1 43 ?_
  refine wc1 44 ?_
  refine wc1 45 ?_
  refine wc1 46 ?_
  refine wc1 47 ?_
  refine wc1 48 ?_
  refine wc1 49 ?_
  refine wc1 50 ?_
  refine wc1 51 ?_
  refine wc1 52 ?_
  refine wc1 53 ?_
  refine wa1 54 ?_
  try (refine stg ?_; intros)
  refine zN func29 ?_ (hs := jB 0 ((M.length : Int) - 1) _ _ _ (hw4.le hle5))
  rintro v m6 H6 ⟨rfl, rfl, rfl⟩
  try (refine stg ?_; intros)
  refine waz [] zml ?_
  refine wc1 55 ?_
  refine wc1 56 ?_
  refine wdz ?_
  try (refine stg ?_; intros)
  exact WQ.weak zsb zpk (hK _ (hle8.trans hle5))
end ZP
namespace ZP
open Go Go.Eng
attribute [local irreducible] mapT brN brL x6 histT
namespace ZD89Ba
theorem zal {G G' : Prop} (next : G') (h : Bx G' → G := by intro zzn; (first | (refine WL.indexAddrA rfl rfl (by exact znz) rfl rfl (by omega) rfl rfl ?_)); (repeat revert zzf); exact zzn.out) : G := h ⟨next⟩
end ZD89Ba
open ZD89Ba in
theorem zIQ {bh bm br rm bh1 bm1 br1 rm1 b7 : Nat} {L M L1 M1 : List Dr} {B B1 : Br} {c c1 cap rc cap1 rc1 : Nat} {a ra a1 ra1 : Option Addr} {w0 : World} {m : Mem} {H : SHeap} {Q : Exit → Act → World → Prop}
  (hw : WOk m L1 M1 B1 c1) (hn : NamesOk B1) (hgm : GTabs Tryz.prog m)
  (hK : ∀ m', m.le m' → WQ 156 w0 Q .normal ((153, .bool false) :: [(94, .int .i64 ((1 : Nat) : Int)), (14, .int .i64 ((1 : Nat) : Int)), (7, .pp b7)]) [] m' (.bl b7 [.pp bh, .pp br, .pp bh1, .pp br1] 60 :: .bl bh [.slice a L.length cap, .map (some bm)] 90 :: .row a cap 97 3 (drs L) :: .blk bm (mapT (brE B) c) :: .bl br [.slice ra M.length rc, .map (some rm)] 69 :: .row ra rc 118 3 (rdrs M) :: .blk rm (mapT (brE B) c) :: .bl bh1 [.slice a1 L1.length cap1, .map (some bm1)] 90 :: .row a1 cap1 97 3 (drs L1) :: .blk bm1 (mapT (brE B1) c1) :: .bl br1 [.slice ra1 M1.length rc1, .map (some rm1)] 69 :: .row ra1 rc1 118 3 (rdrs M1) :: .blk rm1 (mapT (brE B1) c1) :: H)) :
  WC Tryz.prog none 156 w0 ((drawnIn (Tryz.f4.body.getD .skip)).getD 1 .skip) Q [(94, .int .i64 ((1 : Nat) : Int)), (14, .int .i64 ((1 : Nat) : Int)), (7, .pp b7)] [] m (.bl b7 [.pp bh, .pp br, .pp bh1, .pp br1] 60 :: .bl bh [.slice a L.length cap, .map (some bm)] 90 :: .row a cap 97 3 (drs L) :: .blk bm (mapT (brE B) c) :: .bl br [.slice ra M.length rc, .map (some rm)] 69 :: .row ra rc 118 3 (rdrs M) :: .blk rm (mapT (brE B) c) :: .bl bh1 [.slice a1 L1.length cap1, .map (some bm1)] 90 :: .row a1 cap1 97 3 (drs L1) :: .blk bm1 (mapT (brE B1) c1) :: .bl br1 [.slice ra1 M1.length rc1, .map (some rm1)] 69 :: .row ra1 rc1 118 3 (rdrs M1) :: .blk rm1 (mapT (brE B1) c1) :: H) := by
 have hMf := hw.few
 have hLf := hw.ok.few
 have hpar := hw.ok.par
 have hs9 := hw.same.length
 have hst := hw.same.hist B1
 refine wdw 57 ((.bl b7 [.pp bh, .pp br, .pp bh1, .pp br1] 60 :: .bl bh1 [.slice a1 L1.length cap1, .map (some bm1)] 90 :: .row a1 cap1 97 3 (drs L1) :: .blk bm1 (mapT (brE B1) c1) :: .bl br1 [.slice ra1 M1.length rc1, .map (some rm1)] 69 :: .row ra1 rc1 118 3 (rdrs M1) :: .blk rm1 (mapT (brE B1) c1) :: .bl bh [.slice a L.length cap, .map (some bm)] 90 :: .row a cap 97 3 (drs L) :: .blk bm (mapT (brE B) c) :: .bl br [.slice ra M.length rc, .map (some rm)] 69 :: .row ra rc 118 3 (rdrs M) :: .blk rm (mapT (brE B) c) :: [])) ?_
 refine wc1 0 ?_
 refine wc1 1 ?_
 refine wc1 2 ?_
 refine wa1 3 ?_
 refine zN func25 ?_ (hs := zCv _ _ _ hw)
 rintro v m2 H2 ⟨rfl, rfl, rfl⟩
 try (refine stg ?_; intros)
 refine waz [] zml ?_
 refine wc1 4 ?_
 refine wc1 5 ?_
 refine wc1 6 ?_
 refine wc1 7 ?_
 refine wc1 8 ?_
 refine wa1 9 ?_
 try (refine stg ?_; intros)
 refine zN func26 ?_ (hs := q7 _ _ _ hw (NamesOk.no hn))
 rintro v m2 H2 ⟨hle2, rfl, rfl⟩
 try (refine stg ?_; intros)
 refine waz [] hle2 ?_
 refine wc1 10 ?_
 refine wc1 11 ?_
 refine wc1 12 ?_
 refine wc1 13 ?_
 refine wc1 14 ?_
 refine wc1 15 ?_
 refine wc1 16 ?_
 refine wc1 18 ?_
 refine wc1 19 ?_
 refine wc1 20 ?_
 refine wc1 21 ?_
 have hg2 := hgm.le hle2
 have hw2 := hw.le hle2
 have hss : histT M1 B1 = histT M1 B1 := rfl
 refine WE.act2 17 22 (by decide +kernel) rfl rfl (fun c h => by cases h) rfl rfl (fun c h => by cases h) ?_ ?_
 ·try (refine stg ?_; intros)
  refine zN func20 ?_ (hs := kA hw2.ok hn hg2)
  rintro v m3 H3 ⟨hle3, rfl, rfl⟩
  rw [hst]
  try (refine stg ?_; intros)
  refine waz [] hle3 ?_
  have hle7 := hle2.trans hle3
  have hg3 := hg2.le hle3
  have hw3 := hw2.le hle3
  refine wa1 22 ?_
  try (refine stg ?_; intros)
  refine zN func27 ?_ (hs := qS hw3 hn hg3)
  rintro v m4 H4 ⟨hle4, rfl, rfl⟩
  try (refine stg ?_; intros)
  refine waz [] hle4 ?_
  generalize histT M1 B1 = HT
  have hsx : HT = HT := rfl
  refine wc1 23 ?_
  rw [zE (show HT = HT from rfl)]
  refine wc1 24 ?_
  refine wc1 25 ?_
  refine wc1 26 ?_
  refine wc1 27 ?_
  refine wc1 28 ?_
  refine wc1 29 ?_
  refine wc1 30 ?_
  refine wc1 31 ?_
  refine wc1 32 ?_
  refine wc1 33 ?_
  refine wc1 34 ?_
  refine wc1 35 ?_
  refine wc1 36 ?_
  refine wc1 37 ?_
  have hle8 := hle7.trans hle4
  have hw4 := hw3.le hle4
  refine wa1 38 ?_
  try (refine stg ?_; intros)
  refine zN func28 ?_ (hs := jM ((M1.length : Int) - 1) _ _ _ hw4)
  rintro v m5 H5 ⟨hle5, rfl, rfl⟩
  try (refine stg ?_; intros)
  refine waz [] hle5 ?_
  refine wc1 39 ?_
  refine wc1 40 ?_
  refine wc1 41 ?_
  refine wc1 42 ?_
  refine wc1 43 ?_
  refine wc1 44 ?_
  refine wc1 45 ?_
  refine wc1 46 ?_
  refine wc1 47 ?_
  refine wc1 48 ?_
  refine wc1 49 ?_
  refine wc1 50 ?_
  refine wc1 51 ?_
  refine wc1 52 ?_
  refine wc1 53 ?_
  refine wa1 54 ?_
  try (refine stg ?_; intros)
  refine zN func29 ?_ (hs := jB 0 ((M1.length : Int) - 1) _ _ _ (hw4.le hle5))
  rintro v m6 H6 ⟨rfl, rfl, rfl⟩
  try (refine stg ?_; intros)
  refine waz [] zml ?_
  refine wc1 55 ?_
  refine wc1 56 ?_
  refine wdz ?_
  try (refine stg ?_; intros)
  exact WQ.weak zsb zpk (hK _ (hle8.trans hle5))
 ·try (refine stg ?_; intros)
  refine zN func27 ?_ (hs := qS hw2 hn hg2)
  rintro v m3 H3 ⟨hle3, rfl, rfl⟩
  try (refine stg ?_; intros)
  refine waz [] hle3 ?_
  have hle7 := hle2.trans hle3
  have hg3 := hg2.le hle3
  have hw3 := hw2.le hle3
  refine wa1 17 ?_
  try (refine stg ?_; intros)
  refine zN func20 ?_ (hs := kA hw3.ok hn hg3)
  rintro v m4 H4 ⟨hle4, rfl, rfl⟩
  rw [hst]
  try (refine stg ?_; intros)
  refine waz [] hle4 ?_
  generalize histT M1 B1 = HT
  have hsx : HT = HT := rfl
  refine wc1 23 ?_
  rw [zE (show HT = HT from rfl)]
  refine wc1 24 ?_
  refine wc1 25 ?_
  refine wc1 26 ?_
  refine wc1 27 ?_
  refine wc1 28 ?_
  refine wc1 29 ?_
  refine wc1 30 ?_
  refine wc1 31 ?_
  refine wc1 32 ?_
  refine wc1 33 ?_
  refine wc1 34 ?_
  refine wc1 35 ?_
  refine wc1 36 ?_
  refine wc1 37 ?_
  have hle8 := hle7.trans hle4
  have hw4 := hw3.le hle4
  refine wa1 38 ?_
  try (refine stg ?_; intros)
  refine zN func28 ?_ (hs := jM ((M1.length : Int) - 1) _ _ _ hw4)
  rintro v m5 H5 ⟨hle5, rfl, rfl⟩
  try (refine stg ?_; intros)
  refine waz [] hle5 ?_
  refine wc1 39 ?_
  refine wc1 40 ?_
  refine wc1 41 ?_
  refine wc1 42 ?_
  refine wc1 43 ?_
  refine wc1 44 ?_
  refine wc1 45 ?_
  refine wc1 46 ?_
  refine wc1 47 ?_
  refine wc1 48 ?_
  refine wc1 49 ?_
  refine wc1 50 ?_
  refine wc1 51 ?_
  refine wc1 52 ?_
  refine wc1 53 ?_
  refine wa1 54 ?_
  try (refine stg ?_; intros)
  refine zN func29 ?_ (hs := jB 0 ((M1.length : Int) - 1) _ _ _ (hw4.le hle5))
  rintro v m6 H6 ⟨rfl, rfl, rfl⟩
  try (refine stg ?_; intros)
  refine waz [] zml ?_
  refine wc1 55 ?_
  refine wc1 56 ?_
  refine wdz ?_
  try (refine stg ?_; intros)
  exact WQ.weak zsb zpk (hK _ (hle8.trans hle5))
end ZP
