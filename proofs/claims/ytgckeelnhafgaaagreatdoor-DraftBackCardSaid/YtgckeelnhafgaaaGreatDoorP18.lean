/-
  Parts of a walk, joined. No condition.
-/
import Derived.Test.YtgckeelnhafgaaaGreatDoorP17
import Derived.Deep.Strs
import Derived.Test.YtgckeelnhafgaaaGreatDoorRows
import Derived.Shelf.Vars
import Derived.Lib.LaidU8
import Derived.LaidLaws
set_option linter.all false
set_option maxRecDepth 100000
set_option maxHeartbeats 4000000
open Go.Proofs Go.Proofs.YtgckeelnhafgaaaGreatDoor
open Tryz
open Go Go.Eng
variable {P : Program} {ro : Option Nat} {n : Nat} {w0 : World} {Q : Exit → Act → World → Prop} {r : Env} {ds : List Dfr} {m : Mem} {H : SHeap} {ops : Array Oper} {l : List Oper} {d : Nat} {ty : TypeId} {pos : String} {after : Array Edge}
namespace ZP
open Go Go.Eng
attribute [local irreducible] WL WC WQ QFun zJ Does Q1 zD zB Go.Addr.add
attribute [local irreducible] mapT brN brL drs
namespace ZD92a
theorem zal {G G' : Prop} (next : G') (h : Bx G' → G := by intro zzn; (first | (refine iF 38 rfl ?_; refine zU func38 ?_ (hs := jL _ zhs))); (repeat revert zzf); exact zzn.out) : G := h ⟨next⟩
end ZD92a
open ZD92a in
theorem zMp {R : Tx} (hr : R = [] ∨ ∃ s, R = 32 :: s) (w0 : World) (m : Mem) (H : SHeap) : Does Tryz.prog 94 #[str R, str [32]] w0 m H (Gives (.tuple #[str (R.drop 1), .bool (!R.isEmpty)]) m H) := by
 have h := zLe (s := R) (t := [32]) w0 m H
 rcases hr with rfl | ⟨s, rfl⟩
 ·exact h
 ·have e : Lib.hasPrefix (32 :: s) [32] = true := by simp [Lib.hasPrefix, List.isPrefixOf]
  rw [e] at h
  exact h
open ZD92a in
theorem zNd {bh bm cap c bw : Nat} {a : Option Addr} {L : List Dr} {B : Br} {w0 w1 : Tx} {ps : List Tx} {SW : List (List Value)} {line head rest : Tx} {ok : Value} {w00 : World} {m : Mem} {H : SHeap} {Q : Exit → Act → World → Prop} {b10 : Nat}
  (hSW : SW = strs (w0 :: w1 :: ps)) (hps : ps.length ≤ 2) (hlen : ∀ x ∈ w1 :: ps, x.length ≤ 281474976710656) (hg : GRead Tryz.prog m) (hL : L.length ≤ 256)
  (hbad : (∀ x l, numV w1 = some x → u1 L.length ps ≠ some l) → WQ 211 w00 Q .ret [(5, .int .i64 0), (4, .int .i64 281)] [] m H)
  (hK : ∀ (x : Nat) (qs : List Nat) (pa : Option Addr) (pc : Nat), numV w1 = some x → u1 L.length ps = some qs → WQ 211 w00 Q (.exit 0) [(10, .pp b10), (8, ok), (7, str rest), (6, str head), (1, str line), (0, .pp bh)] [] m
   (.bl b10 [.int .i64 (x : Int), .slice pa qs.length pc, str []] 97 :: .row pa pc 3 1 (nums qs) :: .row (some ⟨bw, 0, none⟩) (w0 :: w1 :: ps).length 9 1 SW :: .bl bh [.slice a L.length cap, .map (some bm)] 90 :: .row a cap 97 3 (drs L) :: .blk bm (mapT (brE B) c) :: H)) :
  WC Tryz.prog none 211 w00 ((yF (Tryz.f63.body.getD .skip)).getD 0 .skip) Q [(85, .int .i64 0), (84, .int .i64 (((w0 :: w1 :: ps).length - 1 : Nat) : Int)), (83, subSl (some ⟨bw, 0, none⟩) (w0 :: w1 :: ps).length 1 (w0 :: w1 :: ps).length 1), (10, .pp b10), (8, ok), (7, str rest), (6, str head), (1, str line), (0, .pp bh)] [] m
   (.bl b10 [.int .i64 0, .slice none 0 0, str []] 97 :: .row none 0 3 1 (nums []) :: .row (some ⟨bw, 0, none⟩) (w0 :: w1 :: ps).length 9 1 SW :: .bl bh [.slice a L.length cap, .map (some bm)] 90 :: .row a cap 97 3 (drs L) :: .blk bm (mapT (brE B) c) :: H) := by
 have hsw := zY (w0 :: w1 :: ps)
 rw [← hSW] at hsw
 have hwl : (w0 :: w1 :: ps).length = ps.length + 2 := rfl
 have hws : ∀ i x, (w1 :: ps)[i]? = some x → SW[1 + i]? = some [str x] := by
  intro i x hx
  rw [hSW]
  unfold strs
  rw [List.getElem?_map, Nat.add_comm, List.getElem?_cons_succ, hx]; try rfl
 refine lpz (fun j r ds m' H' => ∃ (i : Nat) (hd : Int) (pa : Option Addr) (pc : Nat) (qs : List Nat), j = ps.length + 1 - i ∧ r = [(85, .int .i64 (i : Int)), (84, .int .i64 (((w0 :: w1 :: ps).length - 1 : Nat) : Int)), (83, subSl (some ⟨bw, 0, none⟩) (w0 :: w1 :: ps).length 1 (w0 :: w1 :: ps).length 1), (10, .pp b10), (8, ok), (7, str rest), (6, str head), (1, str line), (0, .pp bh)] ∧ ds = [] ∧ m = m' ∧ H' = .bl b10 [.int .i64 hd, .slice pa qs.length pc, str []] 97 :: .row pa pc 3 1 (nums qs) :: .row (some ⟨bw, 0, none⟩) (w0 :: w1 :: ps).length 9 1 SW :: .bl bh [.slice a L.length cap, .map (some bm)] 90 :: .row a cap 97 3 (drs L) :: .blk bm (mapT (brE B) c) :: H ∧ (i ≤ ps.length + 1) ∧ ((i = 0 ∧ hd = 0 ∧ qs = []) ∨ (∃ j x, i = j + 1 ∧ numV w1 = some x ∧ hd = (x : Int) ∧ u1 L.length (ps.take j) = some qs))) (ps.length + 1 - (0)) ⟨0, 0, none, 0, [], rfl, rfl, rfl, rfl, rfl, by omega, .inl ⟨rfl, rfl, rfl⟩⟩ ?_
 rintro j r ds m' H' ⟨i, hd, pa, pc, qs, rfl, rfl, rfl, rfl, rfl, hi, hq⟩
 by_cases hlt : i < ps.length + 1
 ·obtain ⟨w, hw⟩ : ∃ w, (w1 :: ps)[i]? = some w := ⟨_, List.getElem?_eq_getElem (by simpa using hlt)⟩
  have hsw1 := hws i w hw
  have hwlen := hlen w (List.mem_of_getElem? hw)
  have hA : ((fun x : Addr => x.add (1 * 1)) ⟨bw, 0, none⟩).add (i * 1) = (⟨bw, 0, none⟩ : Addr).add ((1 + i) * 1) := by
   show ((⟨bw, 0, none⟩ : Addr).add (1 * 1)).add (i * 1) = _
   rw [addadd]; congr 1; omega
  have hnl := zQ qs
  try (refine stg ?_; intros)
  rw [hA]
  try (refine stg ?_; intros)
  refine zA func93 ?_ (hs := zLy w hwlen hg)
  rintro v m1 H1 ⟨rfl, rfl, z, rfl, hz⟩
  cases hv : numV w with
  | none =>
   have hb : ∀ x l, numV w1 = some x → u1 L.length ps ≠ some l := by
    intro x l hx hl
    rcases hq with ⟨rfl, _, _⟩ | ⟨j, y, rfl, hy, _, hp⟩
    ·rw [List.getElem?_cons_zero] at hw
     injection hw with hw
     rw [hw, hv] at hx
     cases hx
    ·rw [List.getElem?_cons_succ] at hw
     rw [zLU hw hp (fun p h => by rw [hv] at h; cases h)] at hl
     cases hl
   simp only [Option.isSome_none]
   try (refine stg ?_; intros)
   exact WQ.weak zsb zpk (hbad hb)
  | some k =>
   obtain rfl := hz k hv
   simp only [Option.isSome_some]
   rcases hq with ⟨rfl, rfl, rfl⟩ | ⟨j, y, rfl, hy, rfl, hp⟩
   ·rw [List.getElem?_cons_zero] at hw
    injection hw with hw
    try (refine stg ?_; intros)
    refine nxz (ps.length + 1 - (1)) ⟨1, (k : Int), pa, pc, [], rfl, rfl, rfl, rfl, rfl, ?_, ?_⟩
    ·omega
    ·exact .inr ⟨0, k, rfl, by rw [hw]; exact hv, rfl, rfl⟩
   ·rw [List.getElem?_cons_succ] at hw
    by_cases hk : k < L.length
    ·have hk2 : 0 ≤ (k : Int) ∧ (k : Int) < (L.length : Int) := by omega
     have hql : qs.length ≤ 2 := by
      have := (zK7 hp).1
      rw [List.length_take] at this; omega
     have hq2 : (qs ++ [k]).length = qs.length + 1 := by simp
     refine stg ?_; intros; rename_i a2 c2
     rw [← zIk, hnl, ← hq2]
     refine nxz (ps.length + 1 - (j + 1 + 1)) ⟨j + 1 + 1, (y : Int), a2, c2, qs ++ [k], rfl, rfl, rfl, rfl, rfl, ?_, ?_⟩
     ·omega
     ·exact .inr ⟨j + 1, y, rfl, hy, rfl, zM2 hw hp hv hk⟩
    ·have hk2 : ¬ (0 ≤ (k : Int) ∧ (k : Int) < (L.length : Int)) := by omega
     have hb : ∀ x l, numV w1 = some x → u1 L.length ps ≠ some l := by
      intro x l hx hl
      rw [zLU hw hp (fun p h => by rw [hv] at h; injection h with h; omega)] at hl
      cases hl
     try (refine stg ?_; intros)
     exact WQ.weak zsb zpk (hbad hb)
 ·have hie : i = ps.length + 1 := by omega
  rcases hq with ⟨h0, _, _⟩ | ⟨j, x, rfl, hx, rfl, hp⟩
  ·omega
  ·have hj : j = ps.length := by omega
   rw [hj, List.take_length] at hp
   try (refine stg ?_; intros)
   exact WQ.weak zsb zpk (hK x qs pa pc hx hp)
open ZD92a in
theorem zLH {bh bm cap c : Nat} {a : Option Addr} {L : List Dr} {B : Br} (line : Tx) (hl : line.length ≤ 1048576) {wz : World} {m : Mem} {H : SHeap} (hok : RdOk m L B c) (hg : GRead Tryz.prog m) :
  Does Tryz.prog 63 #[.pp bh, str line] wz m (.bl bh [.slice a L.length cap, .map (some bm)] 90 :: .row a cap 97 3 (drs L) :: .blk bm (mapT (brE B) c) :: H) (fun v m' H' => m.le m' ∧
   ((∃ e k : Nat, lineF L (!B.isEmpty) line = .no e k ∧ e ≠ 0 ∧ v = .tuple #[.int .i64 (e : Int), .int .i64 (k : Int)] ∧ H' = H) ∨
    (∃ (d0 d : Dr) (a' : Option Addr) (cap' : Nat), lineF L (!B.isEmpty) line = .yes d0 ∧ d.h = d0.h ∧ d.ps = d0.ps ∧ d.t = d0.t ∧ RdOk m' (L ++ [d]) B c ∧ v = .tuple #[.int .i64 0, .int .i64 0] ∧
     H' = .bl bh [.slice a' (L ++ [d]).length cap', .map (some bm)] 90 :: .row a' cap' 97 3 (drs (L ++ [d])) :: .blk bm (mapT (brE B) c) :: H))) := by
 refine Does.of_body func63 rfl ntmps63 rfl ?_
 have hgl := hg.len
 have hLf := hok.few
 have hB := hok.most
 have hdl := vM L
 have hpl := zML 58 line
 try (refine stg ?_; intros)
 refine zA func60 ?_ (hs := zNg 58 (by omega) hgl)
 rintro v m H9 ⟨rfl, rfl, rfl⟩
 try (refine stg ?_; intros)
 refine zA func64 ?_ (hs := zMl 32 (by omega) hgl)
 rintro v m H9 ⟨rfl, bw, rfl, rfl⟩
 have hsp := zN0 32 (pre 58 line)
 have hsl := zLi 32 (pre 58 line)
 have hlh := @zMZ L (!B.isEmpty) line
 have hlf := @zMt L (!B.isEmpty) line
 have hmem : ∀ x ∈ spl 32 (pre 58 line), x.length ≤ 4194304 := fun x hx => by have := zLd hx; omega
 by_cases hc : 58 ∈ line
 ·have hd := zE hc
  generalize hW : spl 32 (pre 58 line) = W at *
  by_cases h2 : W.length < 2
  ·have hno := hlh (zMr h2)
   try (refine stg ?_; intros)
   exact q_fz ⟨Mem.le.refl _, .inl ⟨281, 0, hno, by omega, rfl, rfl⟩⟩
  by_cases h4 : 4 < W.length
  ·have hno := hlh (zMV h4)
   try (refine stg ?_; intros)
   exact q_fz ⟨Mem.le.refl _, .inl ⟨281, 0, hno, by omega, rfl, rfl⟩⟩
  obtain ⟨w0, w1, ps, rfl⟩ : ∃ x y l, W = x :: y :: l := by
   match W, h2 with
   | x :: y :: l, _ => exact ⟨x, y, l, rfl⟩
   | [_], h => exact absurd (by simp) h
  have hwl : (w0 :: w1 :: ps).length = ps.length + 2 := rfl
  have g0 : (strs (w0 :: w1 :: ps))[0]? = some [str w0] := rfl
  have hsw := zY (w0 :: w1 :: ps)
  by_cases hw0 : w0 = [100, 114, 97, 102, 116]
  ·by_cases hb0 : B = []
   ·subst hb0
    have hcase : (L.length = 0 ↔ ps = []) ∨ ¬ (L.length = 0 ↔ ps = []) := Decidable.em _
    rcases hcase with hsh | hsh
    ·obtain ⟨SW, hSW⟩ : ∃ SW, SW = strs (w0 :: w1 :: ps) := ⟨_, rfl⟩
     rw [← hSW] at g0 hsw ⊢
     refine sp ?_
     refine WQ.norm ?_
     refine WC.seq ?_
     refine WC.join (fun r' ds' m' H' => r' = [(81, .bool false), (9, .slice (some ⟨bw, 0, none⟩) (w0 :: w1 :: ps).length (w0 :: w1 :: ps).length), (8, .bool (dcd (58 ∈ line))), (7, str (line.drop ((pre 58 line).length + 1))), (6, str (pre 58 line)), (1, str line), (0, .pp bh)] ∧ ds' = [] ∧ m = m' ∧ H' = .row (some ⟨bw, 0, none⟩) (w0 :: w1 :: ps).length 9 1 SW :: .bl bh [.slice a L.length cap, .map (some bm)] 90 :: .row a cap 97 3 (drs L) :: .blk bm (mapT (brE []) c) :: H) ?_ ?_
     ·by_cases hL0 : L.length = 0
      ·obtain rfl : ps = [] := hsh.1 hL0
       try (refine stg ?_; intros)
       refine WL.lenMapT (es := brE []) rfl zhs rfl rfl ?_
       rw [uF, List.length_nil]
       have hl2 : (([w0, w1] : List Tx).length : Int) = 2 := rfl
       try (refine stg ?_; intros)
       rw [zH (show ¬ (0 : Int) < (L.length : Int) by omega)]
       exact WQ.join ⟨rfl, rfl, rfl, rfl⟩ zsb zpk
      ·have hpl : 0 < ps.length := by
        cases ps with
        | nil => exact absurd (hsh.2 rfl) hL0
        | cons _ _ => simp
       try (refine stg ?_; intros)
       refine WL.lenMapT (es := brE []) rfl zhs rfl rfl ?_
       rw [uF, List.length_nil]
       try (refine stg ?_; intros)
       rw [zH (show ¬ (((w0 :: w1 :: ps).length : Nat) : Int) = 2 by omega)]
       exact WQ.join ⟨rfl, rfl, rfl, rfl⟩ zsb zpk
     rintro _ _ _ _ ⟨rfl, rfl, rfl, rfl⟩
     refine stg ?_; intros; rename_i b10
     refine WC.newRow (T := 3) (sz := 1) ?_
     refine WC.weak zsb zpk (zNd (B := []) (c := c) (b10 := b10) (bh := bh) (cap := cap) (a := a) (bm := bm) (H := H) hSW (by omega) (fun x hx => by have := hmem x (List.mem_cons_of_mem _ hx); omega) hg hLf ?_ ?_)
     ·intro hb
      have hno := hlh (zNm hb)
      try (refine stg ?_; intros)
      exact q_fz ⟨Mem.le.refl _, .inl ⟨281, 0, hno, by omega, rfl, rfl⟩⟩
     intro x qs pa pc hx hp
     have hhd := zME (n := L.length) (w0 := w0) (w1 := w1) ⟨hw0, by omega, hsh⟩ hx hp
     rw [← hW] at hhd
     obtain ⟨R, hR⟩ : ∃ R, R = line.drop ((pre 58 line).length + 1) := ⟨_, rfl⟩
     rw [← hR] at hlf ⊢
     have hRl : R.length ≤ line.length := by rw [hR, List.length_drop]; omega
     by_cases hr : R = [] ∨ ∃ s, R = 32 :: s
     ·have hln := zLQ (P := L) (nb := !([] : Br).isEmpty) hR hc rfl hhd hr
      try (refine stg ?_; intros)
      refine zA func94 ?_ (hs := zMp hr _ _ _)
      rintro v m H9 ⟨rfl, rfl, rfl⟩
      obtain ⟨S, hS⟩ : ∃ S, S = R.drop 1 := ⟨_, rfl⟩
      rw [← hS] at hln ⊢
      have hSl : S.length ≤ 1048575 := by
       rw [hS, List.length_drop]
       have : (pre 58 line).length + 1 ≤ line.length := by
        have := congrArg List.length (zLD 58 hc)
        simp only [List.length_append, List.length_cons] at this; omega
       have h2 : R.length = line.length - ((pre 58 line).length + 1) := by rw [hR, List.length_drop]
       omega
      refine sp ?_
      refine WQ.norm ?_
      refine WC.seq ?_
      refine WC.join (fun r' ds' m' H' => r' = [(15, str S), (10, .pp b10), (6, str (pre 58 line)), (1, str line), (0, .pp bh)] ∧ ds' = [] ∧ m = m' ∧ L.length ≠ 256 ∧ R ≠ [32] ∧ H' = .bl b10 [.int .i64 (x : Int), .slice pa qs.length pc, str []] 97 :: .row pa pc 3 1 (nums qs) :: .bl bh [.slice a L.length cap, .map (some bm)] 90 :: .row a cap 97 3 (drs L) :: .blk bm (mapT (brE []) c) :: H) ?_ ?_
      ·by_cases hR0 : R = []
       ·have hz : (!R.isEmpty) = false := by rw [hR0]; try rfl
        rw [hz]
        by_cases h256 : L.length = 256
        ·rw [if_pos h256] at hln
         try (refine stg ?_; intros)
         exact q_fz ⟨Mem.le.refl _, .inl ⟨3, 0, hln, by omega, rfl, rfl⟩⟩
        ·try (refine stg ?_; intros)
         exact WQ.join ⟨rfl, rfl, rfl, h256, by rw [hR0]; simp, rfl⟩ zsb zpk
       ·have hz : (!R.isEmpty) = true := by
         cases R with
         | nil => exact absurd rfl hR0
         | cons _ _ => rfl
        have hRS : R = 32 :: S := by
         rcases hr with h | ⟨s, rfl⟩
         ·exact absurd h hR0
         ·rw [hS]; try rfl
        rw [hz]
        by_cases h256 : L.length = 256
        ·rw [if_pos h256] at hln
         try (refine stg ?_; intros)
         exact q_fz ⟨Mem.le.refl _, .inl ⟨3, 0, hln, by omega, rfl, rfl⟩⟩
        ·by_cases hS0 : S = []
         ·rw [if_neg h256, if_pos (by rw [hRS, hS0])] at hln
          try (refine stg ?_; intros)
          exact q_fz ⟨Mem.le.refl _, .inl ⟨281, 0, hln, by omega, rfl, rfl⟩⟩
         ·try (refine stg ?_; intros)
          exact WQ.join ⟨rfl, rfl, rfl, h256, fun h => hS0 (by rw [hRS] at h; injection h), rfl⟩ zsb zpk
      rintro _ _ _ _ ⟨rfl, rfl, rfl, h256, hR32, rfl⟩
      rw [if_neg h256, if_neg hR32] at hln
      refine WQ.persistRow (a := pa) (by (repeat (first | exact Out.here | apply Out.there))) ?_
      intro m2 hle2 hpr
      try (refine stg ?_; intros)
      refine zA func95 ?_ (hs := zNj S (by omega) (hg.le hle2).toGTabsR)
      rintro v m3 H3 ⟨rfl, (⟨e, l, a9, c9, hrd, rfl, rfl⟩ | ⟨w, hrd, rfl, rfl⟩)⟩
      ·rw [hrd] at hln
       simp only at hln
       have hft := zNw hSl hrd
       have hql := (zK7 hp).1
       have hqp := (zK7 hp).2
       have hnl := zQ qs
       obtain ⟨old, hold⟩ : ∃ o, o = qs.head?.elim [] (txOf L) := ⟨_, rfl⟩
       rw [← hold] at hln
       refine stg ?_; intros; rename_i b18
       refine WC.join (fun r' ds' m' H' => r' = [(19, str old), (17, .slice a9 l.length c9), (15, str S), (10, .pp b10), (0, .pp bh)] ∧ ds' = [] ∧ m3 = m' ∧ H' = .row a9 c9 153 3 (l.map Stp.cs) :: .bl b10 [.int .i64 (x : Int), .slice pa qs.length pc, str []] 97 :: .bl bh [.slice a L.length cap, .map (some bm)] 90 :: .row a cap 97 3 (drs L) :: .blk bm (mapT (brE []) c) :: H) ?_ ?_
       ·cases qs with
        | nil =>
         have ho : old = [] := hold
         rw [ho]
         have h0 : ((([] : List Nat).length : Nat) : Int) = 0 := rfl
         try (refine stg ?_; intros)
         exact WQ.join ⟨rfl, rfl, rfl, rfl⟩ zsb zpk
        | cons p qs =>
         have hp0 := hqp p List.mem_cons_self
         obtain ⟨d, hd⟩ : ∃ d, L[p]? = some d := ⟨_, List.getElem?_eq_getElem hp0⟩
         obtain ⟨va, vc, hv, _⟩ := hok.at_ d (List.mem_of_getElem? hd)
         have hge := u7 hd
         unfold drE at hge
         rw [hv] at hge
         have ho : old = d.t := by rw [hold]; exact xU hd
         rw [ho]
         have hgn : (nums (p :: qs))[0]? = some [.int .i64 (p : Int)] := rfl
         have hrr := hpr wz (.bl b18 [.int .i64 0, .int .i64 0] 75 :: .row a9 c9 153 3 (l.map Stp.cs) :: .bl b10 [.int .i64 (x : Int), .slice pa (p :: qs).length pc, str []] 97 :: .bl bh [.slice a L.length cap, .map (some bm)] 90 :: .row a cap 97 3 (drs L) :: .blk bm (mapT (brE []) c) :: H)
         have hl1 : 0 < (p :: qs).length := by simp
         generalize nums (p :: qs) = NP at *
         generalize hE : drs L = E at *
         refine WC.rSome hrr (by omega) ?_
         rintro pa rfl
         refine WC.rowSome (a := a) zhs (by omega) ?_
         rintro a rfl
         try (refine stg ?_; intros)
         exact WQ.join ⟨rfl, rfl, rfl, rfl⟩ zsb zpk
       rintro _ _ _ _ ⟨rfl, rfl, rfl, rfl⟩
       have holl : old.length ≤ 65536 := by
        rw [hold]
        cases qs with
        | nil => simp
        | cons p qs =>
         obtain ⟨d, hd⟩ : ∃ d, L[p]? = some d := ⟨_, List.getElem?_eq_getElem (hqp p List.mem_cons_self)⟩
         show (txOf L p).length ≤ 65536
         rw [xU hd]
         exact (hok.par p d hd).2.2.2.1
       try (refine stg ?_; intros)
       refine zA func96 ?_ (hs := zNe hft (by omega) _ _ _ (RowR.row (T := 153) (cap := c9) zhs))
       rintro v m3 H3 ⟨rfl, rfl, rfl⟩
       rcases zL8 old l with ⟨h1, e2, he2, h2⟩ | ⟨t, h1, htl, h2⟩
       ·rw [h1] at hln
        simp only at hln
        rw [h2]
        try (refine stg ?_; intros)
        exact q_fz ⟨hle2, .inl ⟨281, 0, hln, by omega, rfl, rfl⟩⟩
       ·rw [h1] at hln
        simp only at hln
        rw [h2]
        have hnE := vM L
        obtain ⟨E, hE⟩ : ∃ E, E = drs L := ⟨_, rfl⟩
        rw [← hE] at hnE ⊢
        try (refine stg ?_; intros)
        refine wdw 10 ([.bl b10 [.int .i64 (x : Int), .slice pa qs.length pc, str t] 97, .bl bh [.slice a L.length cap, .map (some bm)] 90, .blk bm (mapT (brE []) c)]) ?_
        refine cmg ?_
        refine wa1 6 ?_
        refine stg ?_; intros; rename_i b9
        refine waz [.bl b9 [.int .i64 (x : Int), .slice pa qs.length pc, str t] 97] zml ?_
        refine cmg ?_
        refine wa1 7 ?_
        refine stg ?_; intros; rename_i a2 cp2
        refine waz [] zml ?_
        refine cmg ?_
        refine wdz ?_
        try (refine stg ?_; intros)
        obtain ⟨d1, hd1⟩ : ∃ d1 : Dr, d1 = ⟨x, qs, .slice pa qs.length pc, t⟩ := ⟨_, rfl⟩
        have hE1 : E ++ [[.int .i64 (x : Int), .slice pa qs.length pc, str t]] = drs (L ++ [d1]) := by rw [zJh, hE, hd1]; try rfl
        have hL1 : (L ++ [d1]).length = L.length + 1 := by simp
        have hi1 : ((E.length + 1 : Nat) : Int) - 1 = (L.length : Int) := by omega
        have hi2 : E.length + 1 = (L ++ [d1]).length := by omega
        have hx9 := (zMg hx).2.2.2
        have hr1 : RdOk m3 (L ++ [d1]) [] c := by
         refine (hok.le hle2).more (by omega) (by rw [hd1]; exact hqp) (fun h0 hq => ?_) (by rw [hd1]; simp only; omega) (by rw [hd1]; exact htl) (by rw [hd1]; exact hx9) (by rw [hd1]; exact ⟨pa, pc, rfl, fun w H => hpr w H⟩)
         rw [hd1] at hq
         simp only at hq
         rw [hq, List.length_nil] at hql
         have := hsh.2 (List.length_eq_zero_iff.1 hql.symm)
         omega
        have hsm : wX (L ++ [mkD x qs t]) L.length = wX (L ++ [d1]) L.length := SameD.said (SameD.snoc rfl (by rw [hd1]; rfl) (by rw [hd1]; rfl) (by rw [hd1]; try rfl)) _
        rw [hsm] at hln
        rw [hi1, hE1, hi2]
        refine WL.heap (H' := .bl bh [.slice a2 (L ++ [d1]).length cp2, .map (some bm)] 90 :: .row a2 cp2 97 3 (drs (L ++ [d1])) :: .blk bm (mapT (brE []) c) :: H) zpk ?_
        refine zA func50 ?_ (hs := zJK (k := L.length) (by omega) hr1.few (fun i d hd => ⟨(hr1.par i d hd).1, (hr1.par i d hd).2.1, (hr1.par i d hd).2.2.1, (hr1.par i d hd).2.2.2.1⟩) hr1.at_ (hg.le hle2).toGTabs)
        rintro v m4 H4 ⟨hle4, rfl, rfl⟩
        generalize wX (L ++ [d1]) L.length = Z at *
        by_cases hZ : Z = S
        ·rw [if_pos hZ] at hln
         try (refine stg ?_; intros)
         exact q_fz ⟨hle2.trans hle4, .inr ⟨mkD x qs t, d1, a2, cp2, hln, by rw [hd1]; rfl, by rw [hd1]; rfl, by rw [hd1]; try rfl, hr1.le hle4, rfl, rfl⟩⟩
        ·rw [if_neg hZ] at hln
         try (refine stg ?_; intros)
         exact q_fz ⟨hle2.trans hle4, .inl ⟨281, 0, hln, by omega, rfl, rfl⟩⟩
      ·rw [hrd] at hln
       simp only at hln
       have hwl : w ≤ S.length := zMN hrd
       unfold rdErr
       refine stg ?_; intros; rename_i b18
       exact q_fz ⟨hle2, .inl ⟨271, (pre 58 line).length + 2 + w, hln, by omega, by push_cast; rfl, rfl⟩⟩
     ·have hne : R ≠ [] := fun h => hr (.inl h)
      have hpf : Lib.hasPrefix R [32] = false := by
       cases R with
       | nil => exact absurd rfl hne
       | cons b R =>
        have : (32 == b) = false := by rw [beq_eq_false_iff_ne]; exact fun h => hr (.inr ⟨R, by rw [← h]⟩)
        simp [Lib.hasPrefix, List.isPrefixOf, this]
      have hno := hlf (.inr (.inr ⟨hne, fun h => hr (.inr ⟨R.tail, by cases R with | nil => cases h | cons b R => injection h with h; rw [h]; try rfl⟩)⟩))
      try (refine stg ?_; intros)
      refine zA func94 ?_ (hs := zLe _ _ _)
      rintro v m H9 ⟨rfl, rfl, rfl⟩
      rw [hpf]
      simp only [Bool.false_eq_true, if_false]
      try (refine stg ?_; intros)
      exact q_fz ⟨Mem.le.refl _, .inl ⟨281, 0, hno, by omega, rfl, rfl⟩⟩
    ·have hno := hlh (zLa fun h => hsh h.2.2)
     generalize strs (w0 :: w1 :: ps) = SW at *
     by_cases hL0 : L.length = 0
     ·have hpl : 0 < ps.length := by
       cases ps with
       | nil => exact absurd ⟨fun _ => rfl, fun _ => hL0⟩ hsh
       | cons _ _ => simp
      try (refine stg ?_; intros)
      refine WL.lenMapT (es := brE []) rfl zhs rfl rfl ?_
      rw [uF, List.length_nil]
      try (refine stg ?_; intros)
      exact q_fz ⟨Mem.le.refl _, .inl ⟨281, 0, hno, by omega, rfl, rfl⟩⟩
     ·have hpl : ps.length = 0 := by
       cases ps with
       | nil => rfl
       | cons _ _ => exact absurd ⟨fun h => absurd h hL0, fun h => by cases h⟩ hsh
      try (refine stg ?_; intros)
      refine WL.lenMapT (es := brE []) rfl zhs rfl rfl ?_
      rw [uF, List.length_nil]
      try (refine stg ?_; intros)
      exact q_fz ⟨Mem.le.refl _, .inl ⟨281, 0, hno, by omega, rfl, rfl⟩⟩
   ·have hno := hlf (.inr (.inl (by cases B with | nil => exact absurd rfl hb0 | cons _ _ => rfl)))
    have hbl : 0 < B.length := by
     cases B with
     | nil => exact absurd rfl hb0
     | cons _ _ => simp
    generalize strs (w0 :: w1 :: ps) = SW at *
    try (refine stg ?_; intros)
    refine WL.lenMapT (es := brE B) rfl zhs rfl rfl ?_
    rw [uF]
    try (refine stg ?_; intros)
    exact q_fz ⟨Mem.le.refl _, .inl ⟨281, 0, hno, by omega, rfl, rfl⟩⟩
  ·have hno := hlh (zLa fun h => hw0 h.1)
   generalize strs (w0 :: w1 :: ps) = SW at *
   try (refine stg ?_; intros)
   exact q_fz ⟨Mem.le.refl _, .inl ⟨281, 0, hno, by omega, rfl, rfl⟩⟩
 ·have hno := hlf (.inl hc)
  have hd := zH hc
  try (refine stg ?_; intros)
  exact q_fz ⟨Mem.le.refl _, .inl ⟨281, 0, hno, by omega, rfl, rfl⟩⟩
end ZP
namespace ZP
open Go Go.Eng
attribute [local irreducible] WL WC WQ QFun zJ Does Q1 zD zB Go.Addr.add
attribute [local irreducible] mapT brN brL drs lns readR stepR lineF branF
theorem zNo (text : Tx) (hl : text.length ≤ 9223372036854775807) {w0 : World} {m : Mem} {H : SHeap} (hg : GRead Tryz.prog m) :
  Does Tryz.prog 31 #[str text] w0 m H (fun v m' H' => m.le m' ∧
   ((∃ e k : Nat, readH text = .no e k ∧ e ≠ 0 ∧ v = .tuple #[.pointer none, .agg #[.int .i64 (e : Int), .int .i64 (k : Int)]] ∧ H' = H) ∨
    (∃ (bh bm cap c : Nat) (a : Option Addr) (P L : List Dr) (B : Br), readH text = .yes ⟨P, B, c⟩ ∧ SameD L P ∧ HsOk m' L B c ∧ NamesOk B ∧ v = .tuple #[.pp bh, .agg #[.int .i64 0, .int .i64 0]] ∧ H' = .bl bh [.slice a L.length cap, .map (some bm)] 90 :: .row a cap 97 3 (drs L) :: .blk bm (mapT (brE B) c) :: H))) := by
 refine Does.of_body func31 rfl ntmps31 rfl ?_
 by_cases hlong : 1048576 < text.length
 ·have hno : readH text = .no 3 1048576 := by unfold readH; rw [if_pos hlong]
  refine st ?_; intros; rename_i b3
  exact q_fz ⟨Mem.le.refl _, .inl ⟨3, 1048576, hno, by omega, rfl, rfl⟩⟩
 ·have hrh : readH text = match readR (lns text) 0 ⟨[], [], 0⟩ with
    | .no e k => .no e k
    | .yes st => if st.L = [] then .no 281 text.length else .yes st := by unfold readH; rw [if_neg hlong]; try rfl
  obtain ⟨T, hT⟩ : ∃ T, T = readR (lns text) 0 ⟨[], [], 0⟩ := ⟨_, rfl⟩
  rw [← hT] at hrh
  refine st ?_; intros; rename_i b3
  refine WL.makeMapT rfl ?_
  intro bm
  refine st ?_; intros; rename_i bh
  refine WC.newRow (T := 97) (sz := 3) ?_
  have e2 : drs [] = [] := by unfold drs; rfl
  have e1 : brE [] = [] := rfl
  refine WC.heap (H' := .bl bh [.slice none 0 0, .map (some bm)] 90 :: .row none 0 97 3 (drs []) :: .blk bm (mapT (brE []) 0) :: .bl b3 [.int .i64 0, .int .i64 0] 75 :: H) (by rw [e2, e1]; exact zpk) ?_
  refine lpz (fun j r ds m' H' => ∃ (at_ : Nat) (mm : Mem) (a : Option Addr) (cap : Nat) (c : Nat) (P : List Dr) (L : List Dr) (B : Br), j = text.length + 1 - at_ ∧ r = [(5, .int .i64 (at_ : Int)), (4, .pp bh), (3, .pp b3), (0, str text)] ∧ ds = [] ∧ mm = m' ∧ H' = .bl bh [.slice a L.length cap, .map (some bm)] 90 :: .row a cap 97 3 (drs L) :: .blk bm (mapT (brE B) c) :: .bl b3 [.int .i64 0, .int .i64 0] 75 :: H ∧ (at_ ≤ text.length + 1) ∧ (SameD L P) ∧ (RdOk mm L B c) ∧ (readR (lns (text.drop at_)) at_ ⟨P, B, c⟩ = T) ∧ (0 < at_ → L ≠ []) ∧ (NamesOk B) ∧ (m.le mm)) (text.length + 1 - (0)) ⟨0, m, none, 0, 0, [], [], [], rfl, rfl, rfl, rfl, rfl, by omega, rfl, RdOk.nil, hT.symm, fun h => absurd h (Nat.lt_irrefl _), (fun e he => by cases he), Mem.le.refl _⟩ ?_
  rintro j r ds m' H' ⟨at_, mm, a, cap, c, P, L, B, rfl, rfl, rfl, rfl, rfl, hat, hsm, hok, hrd, hne, hnm, hle⟩
  have hgm := hg.le hle
  have hsl := hsm.length
  have hfew := hok.few
  by_cases hlt : at_ < text.length
  ·have hdl : 0 < (text.drop at_).length := by rw [List.length_drop]; omega
   have hne2 : text.drop at_ ≠ [] := List.length_pos_iff.1 hdl
   rw [zMF hne2, readR] at hrd
   obtain ⟨ln, hln⟩ : ∃ ln, ln = pre 10 (text.drop at_) := ⟨_, rfl⟩
   have hll : ln.length ≤ (text.drop at_).length := by rw [hln]; exact zML _ _
   rw [List.length_drop] at hll
   rw [← hln, List.drop_drop] at hrd
   have hcut := zNg (c := 10) (s := text.drop at_) (by rw [List.length_drop]; omega) (w0 := w0) (m := mm) (H := .bl bh [.slice a L.length cap, .map (some bm)] 90 :: .row a cap 97 3 (drs L) :: .blk bm (mapT (brE B) c) :: .bl b3 [.int .i64 0, .int .i64 0] 75 :: H) hgm.len
   rw [← hln] at hcut
   try (refine st ?_; intros)
   refine zA func60 ?_ (hs := hcut)
   rintro v mm H9 ⟨rfl, rfl, rfl⟩
   try (refine st ?_; intros)
   refine zA func61 ?_ (hs := zDb _ _ _)
   rintro v mm H9 ⟨rfl, rfl, rfl⟩
   have hbs : branchS = [98, 114, 97, 110, 99, 104] := rfl
   rw [← hbs]
   unfold stepR at hrd
   cases hpf : Lib.hasPrefix ln branchS with
   | true =>
    rw [hpf, if_pos rfl] at hrd
    try (refine st ?_; intros)
    refine zA func62 ?_ (hs := zLx ln (by omega) hok.most hfew hgm)
    rintro v mm H9 ⟨rfl, rfl, rfl⟩
    rw [← hsl] at hrd
    cases hb : branF L.length B ln with
    | no e k =>
     rw [hb] at hrd
     obtain ⟨he, _⟩ := zNG hb
     have hno : readH text = .no e at_ := by rw [hrh, ← hrd]; try rfl
     have hbe : bsE (Ln.no e k : Ln (List UInt8 × Nat)) = e := rfl
     rw [hbe]
     have he2 : ¬ (e : Int) = 0 := by omega
     try (refine st ?_; intros)
     rw [Int.add_zero]
     exact q_fz ⟨hle, .inl ⟨e, at_, hno, he, rfl, rfl⟩⟩
    | yes x =>
     rw [hb] at hrd
     obtain ⟨q1, q2, q3, q4⟩ := zNf hb
     have hbe : bsE (Ln.yes x : Ln (List UInt8 × Nat)) = 0 := rfl
     rw [hbe]
     try (refine st ?_; intros)
     rw [show (at_ : Int) + ((ln.length : Int) + 1) = ((at_ + ln.length + 1 : Nat) : Int) by omega]
     have hb1 : bsB B c (Ln.yes x) = putB B c x.1 x.2 := rfl
     have hb2 : bsC B c (Ln.yes x) = clkB B c x.1 := rfl
     rw [hb1, hb2]
     simp only at hrd
     rw [← Nat.add_assoc] at hrd
     refine nxz (text.length + 1 - (at_ + ln.length + 1)) ⟨at_ + ln.length + 1, mm, a, cap, clkB B c x.1, P, L, putB B c x.1 x.2, rfl, rfl, rfl, rfl, rfl, ?_, ?_, ?_, ?_, ?_, ?_, ?_⟩
     ·omega
     ·exact hsm
     ·exact hok.put q1 (by have := hok.most; omega)
     ·exact hrd
     ·intro _ h; rw [h] at q1; simp at q1
     ·exact hnm.put (.inr q4)
     ·exact hle
   | false =>
    rw [hpf, if_neg (by simp)] at hrd
    try (refine st ?_; intros)
    refine zA func63 ?_ (hs := zLH ln (by omega) hok hgm)
    rintro v m2 H9 ⟨hle2, (⟨e, k, hlf, he, rfl, rfl⟩ | ⟨d0, d, a2, cap2, hlf, h1, h2, h3, hok2, rfl, rfl⟩)⟩
    ·rw [← zLR hsm, hlf] at hrd
     have hno : readH text = .no e (at_ + k) := by rw [hrh, ← hrd]
     have hkl := zMu hlf
     have he2 : ¬ (e : Int) = 0 := by omega
     try (refine st ?_; intros)
     exact q_fz ⟨hle.trans hle2, .inl ⟨e, at_ + k, hno, he, by push_cast; rfl, rfl⟩⟩
    ·rw [← zLR hsm, hlf] at hrd
     try (refine st ?_; intros)
     rw [show (at_ : Int) + ((ln.length : Int) + 1) = ((at_ + ln.length + 1 : Nat) : Int) by omega]
     simp only at hrd
     rw [← Nat.add_assoc] at hrd
     refine nxz (text.length + 1 - (at_ + ln.length + 1)) ⟨at_ + ln.length + 1, m2, a2, cap2, c, P ++ [d0], L ++ [d], B, rfl, rfl, rfl, rfl, rfl, ?_, ?_, ?_, ?_, ?_, ?_, ?_⟩
     ·omega
     ·exact hsm.snoc h1 h2 h3
     ·exact hok2
     ·exact hrd
     ·intro _ h; simp at h
     ·exact hnm
     ·exact hle.trans hle2
  ·have hdr : text.drop at_ = [] := List.drop_eq_nil_of_le (by omega)
   rw [hdr, zNX, readR] at hrd
   rw [← hrd] at hrh
   simp only at hrh
   by_cases hL0 : L = []
   ·have hP0 : P = [] := by
     cases P with
     | nil => rfl
     | cons _ _ => rw [hL0] at hsl; simp at hsl
    rw [if_pos hP0] at hrh
    have h0 : ((L.length : Nat) : Int) = 0 := by rw [hL0]; try rfl
    try (refine st ?_; intros)
    exact q_fz ⟨hle, .inl ⟨281, text.length, hrh, by omega, rfl, rfl⟩⟩
   ·have hl0 := List.length_pos_iff.2 hL0
    have hP0 : ¬ P = [] := fun h => by rw [h, List.length_nil] at hsl; omega
    rw [if_neg hP0] at hrh
    try (refine st ?_; intros)
    exact q_fz ⟨hle, .inr ⟨bh, bm, cap, c, a, P, L, B, hrh, hsm, hok.hs hl0, hnm, rfl, rfl⟩⟩
end ZP
namespace ZP
open Go Go.Eng
attribute [local irreducible] WL WC WQ QFun zJ Does Q1 zD zB Go.Addr.add
attribute [local irreducible] mapT brN brL drs x6 histT readH
theorem zNk (a z : Int) : eqB Tryz.prog 8 75 (.agg #[.int .i64 a, .int .i64 z]) (.agg #[.int .i64 a, .int .i64 z]) = some true := by
 have h : eqB Tryz.prog 8 75 (.agg #[.int .i64 a, .int .i64 z]) (.agg #[.int .i64 a, .int .i64 z]) = some ((a == a) && ((z == z) && true)) := by kernel_rfl
 rw [h]
 simp
namespace ZD102a
theorem zal {G G' : Prop} (next : G') (h : Bx G' → G := by intro zzn; (first | (refine zJY rfl ?_; refine zJ2 ?_ (he := zNk _ _)) | (refine zJ3 rfl ?_; refine zJW ?_ (he := zNk _ _)) | (refine iF 19 rfl ?_; refine zU func19 ?_ (hs := zF2 zhs))); (repeat revert zzf); exact zzn.out) : G := h ⟨next⟩
end ZD102a
open ZD102a in
theorem zLX (s : Tx) {S : List Hop} {sa : Option Addr} {sc : Nat} (hs : s.length ≤ 9223372036854775807) (hx : ∀ x ∈ S, x.Ok) (w0 : World) (m : Mem) (H : SHeap) (hr : ∀ w1 H1, RowR w1 m H1 6 sa (S.map Hop.cs)) (hg : GRead Tryz.prog m) :
  Does Tryz.prog 5 #[str s, .slice sa S.length sc] w0 m H (fun v m' _ => v = .bool true ∧ m.le m') := by
 refine Does.of_body func5 rfl ntmps5 rfl ?_
 try (refine stg ?_; intros)
 refine zA func7 ?_ (hs := zAc _ _ _)
 rintro v m1 H ⟨hle1, rfl, rfl⟩
 try (refine stg ?_; intros)
 refine zA func30 ?_ (hs := zMs s hs hx _ _ _ (fun w1 H1 => (hr w1 H1).le hle1))
 rintro v m2 H2 ⟨hle2, bh, bm, cap, c, a, L, B, rfl, hok, hnm, rfl⟩
 have hg2 := hg.le (hle1.trans hle2)
 try (refine stg ?_; intros)
 refine zA func20 ?_ (hs := kA hok hnm hg2.toGTabs)
 rintro v m3 H3 ⟨hle3, rfl, rfl⟩
 obtain ⟨HT, hHT⟩ : ∃ t, t = histT L B := ⟨_, rfl⟩
 rw [← hHT]
 have hok3 := hok.le hle3
 have hg3 := hg2.le hle3
 by_cases hlong : 1048576 < HT.length
 ·try (refine stg ?_; intros)
  refine zA func7 ?_ (hs := zAc _ _ _)
  rintro v m5 H5 ⟨hle5, rfl, rfl⟩
  try (refine stg ?_; intros)
  exact q_fz (H0 := H) ⟨rfl, hle1.trans (hle2.trans (hle3.trans hle5))⟩
 ·obtain ⟨P, B9, c9, hy, hs1, hb1⟩ := zM4 hok hnm (by rw [← hHT]; omega)
  rw [← hHT] at hy
  try (refine stg ?_; intros)
  refine zA func31 ?_ (hs := zNo HT (by omega) hg3)
  rintro v m4 H4 ⟨hle4, (⟨e, k, hno, _, _, _⟩ | ⟨bh2, bm2, cap2, c2, a2, P2, L2, B2, hyes, hsm, hok2, hnm2, rfl, rfl⟩)⟩
  ·rw [hy] at hno; cases hno
  rw [hy] at hyes
  injection hyes with hyes
  injection hyes with e1 e2 e3
  subst e1 e2 e3
  have hsame : SameD L L2 := hs1.trans hsm.symm
  have hht2 : histT L2 B9 = HT := (zMY hsame hb1).trans hHT.symm
  have hl12 : L2.length = L.length := hsame.length.symm
  have hok4 := hok3.le hle4
  have hg4 := hg3.le hle4
  refine stg ?_; intros; rename_i b8
  refine zN func20 ?_ (hs := kA hok2 hnm2 hg4.toGTabs)
  rintro v m5 H5 ⟨hle5, rfl, rfl⟩
  rw [hht2]
  have hHH : HT = HT := rfl
  have hok5 := hok4.le hle5
  have hok52 := hok2.le hle5
  have hLf := hok.few
  try (refine stg ?_; intros)
  refine lpz (fun j r ds m' H' => ∃ (k : Nat), j = L.length - k ∧ r = [(9, .int .i64 (k : Int)), (7, .pp bh2), (6, str HT), (5, .pp bh)] ∧ ds = [] ∧ m5 = m' ∧ H' = .bl bh2 [.slice a2 L2.length cap2, .map (some bm2)] 90 :: .row a2 cap2 97 3 (drs L2) :: .blk bm2 (mapT (brE B9) c9) :: .bl bh [.slice a L.length cap, .map (some bm)] 90 :: .row a cap 97 3 (drs L) :: .blk bm (mapT (brE B) c) :: H ∧ (k ≤ L.length)) (L.length - (0)) ⟨0, rfl, rfl, rfl, rfl, rfl, by omega⟩ ?_
  rintro j r ds m' H' ⟨k, rfl, rfl, rfl, rfl, rfl, hk⟩
  by_cases hlt : k < L.length
  ·obtain ⟨d, hd⟩ : ∃ d, L[k]? = some d := ⟨_, List.getElem?_eq_getElem hlt⟩
   obtain ⟨d2, hd2, q1, q2, q3⟩ := hsame.at_ hd
   have hpa := hok5.at_ d (List.mem_of_getElem? hd)
   have hpa2 := hok52.at_ d2 (List.mem_of_getElem? hd2)
   obtain ⟨va, vc, hv, _⟩ := hpa
   obtain ⟨va2, vc2, hv2, _⟩ := hpa2
   have hpk := (hok.par k d hd).2.2.1
   try (refine stg ?_; intros)
   refine zN func13 ?_ (hs := zGR hd hv _ _ _)
   rintro v m6 H6 ⟨rfl, rfl, rfl⟩
   try (refine stg ?_; intros)
   refine zN func13 ?_ (hs := zGR hd2 hv2 _ _ _)
   rintro v m6 H6 ⟨rfl, rfl, rfl⟩
   rw [q3]
   try (refine stg ?_; intros)
   refine zN func12 ?_ (hs := zE3 hd hpk _ _ _ (hok5.at_ d (List.mem_of_getElem? hd)))
   rintro v m6 H6 ⟨rfl, al, cl, rfl, rfl⟩
   refine stg ?_; intros; rename_i b14
   refine zN func12 ?_ (hs := zE3 hd2 (by rw [q2]; exact hpk) _ _ _ (hok52.at_ d2 (List.mem_of_getElem? hd2)))
   rintro v m6 H6 ⟨rfl, al2, cl2, rfl, rfl⟩
   rw [q1, q2]
   refine stg ?_; intros; rename_i b16
   refine WL.heap (H' := .bl bh [.slice a L.length cap, .map (some bm)] 90 :: .row a cap 97 3 (drs L) :: .row al cl 3 1 (nums d.ps) :: .bl b14 [.int .i64 (d.h : Int), .slice al d.ps.length cl] 38 :: .row al2 cl2 3 1 (nums d.ps) :: .bl b16 [.int .i64 (d.h : Int), .slice al2 d.ps.length cl2] 38 :: .blk bm (mapT (brE B) c) :: .bl bh2 [.slice a2 L2.length cap2, .map (some bm2)] 90 :: .row a2 cap2 97 3 (drs L2) :: .blk bm2 (mapT (brE B9) c9) :: H) zpk ?_
   refine zA func15 ?_ (hs := zGg (p := 0) (q := k) (by omega) hlt hLf ((xK hok.falls).2 (hok.root 0 (by omega))) ((xK hok.falls).2 (hok.root k hlt)) _ _ _ hok5.at_ (fun i d hd => (hok.par i d hd).2.2.1))
   rintro v m6 H6 ⟨rfl, rfl, rfl⟩
   have hb0 : baseK L 0 k = 0 := by
    have := @zAB (lineK L 0) (lineK L k) (min 0 k)
    unfold baseK; omega
   rw [hb0]
   obtain ⟨dt, hdt⟩ : ∃ t, t = d.t := ⟨_, rfl⟩
   rw [← hdt]
   have hdd : dt = dt := rfl
   try (refine stg ?_; intros)
   refine nxz (L.length - (k + 1)) ⟨k + 1, rfl, rfl, rfl, rfl, rfl, ?_⟩
   ·omega
  ·have hke : k = L.length := by omega
   have hBm := hok2.most
   try (refine stg ?_; intros)
   refine WL.heap (H' := .bl bh2 [.slice a2 L2.length cap2, .map (some bm2)] 90 :: .row a2 cap2 97 3 (drs L2) :: .blk bm2 (mapT (brE B9) c9) :: .bl bh [.slice a L.length cap, .map (some bm)] 90 :: .row a cap 97 3 (drs L) :: .blk bm (mapT (brE B) c) :: H) zpk ?_
   refine zA func17 ?_ (hs := zGK [97, 110, 111, 116, 104, 101, 114] (by simp) 0 hBm (by omega) _ _ _)
   rintro v m6 H6 ⟨rfl, rfl, rfl⟩
   generalize (if brErr L2 B9 [97, 110, 111, 116, 104, 101, 114] 0 = 0 then putB B9 c9 [97, 110, 111, 116, 104, 101, 114] (0 : Int).toNat else B9) = B3
   generalize (if brErr L2 B9 [97, 110, 111, 116, 104, 101, 114] 0 = 0 then clkB B9 c9 [97, 110, 111, 116, 104, 101, 114] else c9) = c3
   try (refine stg ?_; intros)
   refine zA func10 ?_ (hs := zGf (B := B3) (c := c3) [97, 110, 111, 116, 104, 101, 114] 1 [111, 116, 104, 101, 114, 32, 119, 111, 114, 100, 115] (by omega) _ _ _)
   rintro v m7 H7 ⟨hle7, hcm⟩
   have hcm2 : ∃ v1 v2, v = .tuple #[.int .i64 v1, .int .i64 v2] ∧ ∃ H8, H7 = H8 ++ (.bl bh [.slice a L.length cap, .map (some bm)] 90 :: .row a cap 97 3 (drs L) :: .blk bm (mapT (brE B) c) :: H) := by
    rcases hcm with ⟨e, _, _, rfl, rfl, rfl⟩ | ⟨k9, d9, a9, cap9, _, rfl, _, _, _, _, _, rfl⟩
    ·exact ⟨_, _, rfl, _ :: _ :: [_], rfl⟩
    ·exact ⟨_, _, rfl, _ :: _ :: [_], rfl⟩
   clear hcm
   obtain ⟨v1, v2, rfl, H8, rfl⟩ := hcm2
   have hok7 := hok5.le hle7
   have hg7 := (hg4.le hle5).le hle7
   refine WL.heap (H' := .bl bh [.slice a L.length cap, .map (some bm)] 90 :: .row a cap 97 3 (drs L) :: .blk bm (mapT (brE B) c) :: H) (fun w hw => hw.sublist (List.sublist_append_right _ _)) ?_
   try (refine stg ?_; intros)
   refine zA func20 ?_ (hs := kA hok7 hnm hg7.toGTabs)
   rintro v m8 H99 ⟨hle8, rfl, rfl⟩
   rw [← hHT]
   try (refine stg ?_; intros)
   rw [zE (show HT = HT from rfl)]
   try (refine stg ?_; intros)
   refine zA func7 ?_ (hs := zAc _ _ _)
   rintro v m9 H9 ⟨hle9, rfl, rfl⟩
   try (refine stg ?_; intros)
   exact q_fz (H0 := H) ⟨rfl, hle1.trans (hle2.trans (hle3.trans (hle4.trans (hle5.trans (hle7.trans (hle8.trans hle9))))))⟩
end ZP
namespace Go.Eng
open Go Go.RowKit Go.ChangeShapes Go.WideShapes Go.ChangeMaps
section
variable {H : Type} {enc : TypeId × Value → H}
theorem zIp {sz : Nat} : ∀ {es : List (List Value)}, (∀ e ∈ es, e.length = sz) → ∀ {j : Nat} {v : Value}, es.flatten[j]? = some v → ∃ i c e, es[i]? = some e ∧ c < sz ∧ j = i * sz + c ∧ e[c]? = some v
 | [], _, j, v, h => by simp at h
 | e :: es, he, j, v, h => by
  have hl : e.length = sz := he e List.mem_cons_self
  rw [List.flatten_cons] at h
  by_cases hj : j < sz
  ·rw [List.getElem?_append_left (by omega)] at h
   exact ⟨0, j, e, rfl, hj, by simp, h⟩
  ·rw [List.getElem?_append_right (by omega), hl] at h
   obtain ⟨i, c, e', h1, h2, h3, h4⟩ := zIp (fun x hx => he x (List.mem_cons_of_mem _ hx)) h
   exact ⟨i + 1, c, e', by simpa using h1, h2, by rw [Nat.add_mul, Nat.one_mul]; omega, h4⟩
theorem zHN {α : Type} [Inhabited α] (sz : Nat) (val : α → List Value) (dat : α → DataW H) (ok : α → Prop) (hsz : ∀ x, (val x).length = sz) {W : World} {r : Go.Reach} {b0 : Nat} {t e : TypeId} {v : Value} {d : DataW H} {ps : List MemPlace} (ht : P.underlying t = some (.slice e)) (hc : P.cellsOf e = sz)
  (hone : ∀ (n : Nat) (u : List Value) (y : DataW H × List MemPlace), DataW.trod enc P W 0 (fun _ => true) true n e u = some y → ∃ x, u = val x ∧ y.1 = dat x ∧ ok x)
  (hval : Value.okWide P W r b0 t v) (h : DataW.Trod enc P W 0 (fun _ => true) true t v d ps) : ∃ (a : Option Addr) (cap : Nat) (ns : List α) (spare : List (DataW H)), v = .slice a ns.length cap ∧ ns.length ≤ cap ∧ (∀ x ∈ ns, ok x) ∧
   (d = .nil ∧ ns = [] ∨ d = .slice (ns.map dat) spare) ∧ ∀ w0 Hp, RowR w0 (memOf W) Hp sz a (ns.map val) := by
 obtain ⟨a, len, cap, rfl⟩ := okWide_slice ht hval
 obtain ⟨n, hn⟩ := h
 rcases Deep.open_slice ht hn with ⟨h1, h2⟩ | ⟨a', len', cap', m, n', D, Pl, h1, _, hle, _, hm, h2, hx⟩
 ·simp [Value.cells] at h1
  obtain ⟨rfl, rfl, rfl⟩ := h1
  exact ⟨none, 0, [], [], rfl, Nat.le_refl _, (by simp), .inl ⟨congrArg Prod.fst h2, rfl⟩, fun _ _ => RowR.nil⟩
 ·simp [Value.cells] at h1
  obtain ⟨rfl, rfl, rfl⟩ := h1
  simp only [if_true] at hm
  subst hm
  rw [hc] at hx
  obtain ⟨X, hX⟩ := Deep.choose_lt (α := α) (n := m) (p := fun i x => W.cells? 0 (a'.add (i * sz)) sz = some (val x) ∧ D i = dat x ∧ ok x) (fun i hi => by
   obtain ⟨u, g1, g2⟩ := hx i hi
   obtain ⟨x, rfl, e2, e3⟩ := hone _ _ _ g2
   exact ⟨x, g1, e2, e3⟩)
  refine ⟨some a', m, (List.range len).map X, (List.range (m - len)).map fun j => D (len + j), by simp, by simpa using hle, ?_, .inr ?_, fun w0 Hp => ?_⟩
  ·intro x hxm
   obtain ⟨i, hi, rfl⟩ := List.mem_map.1 hxm
   exact (hX i (by have := List.mem_range.1 hi; omega)).2.2
  ·have := congrArg Prod.fst h2
   simp only at this
   rw [this, List.map_map]
   congr 1
   exact List.map_congr_left fun i hi => (hX i (by have := List.mem_range.1 hi; omega)).2.1
  ·have hall : ∀ e ∈ ((List.range len).map X).map val, e.length = sz := by
    intro e he
    obtain ⟨x, _, rfl⟩ := List.mem_map.1 he
    exact hsz x
   refine RowR.came hall ?_
   intro j v hj
   obtain ⟨i, c, e, h1, h2, rfl, h4⟩ := zIp hall hj
   rw [List.getElem?_map, List.getElem?_map] at h1
   obtain ⟨x, hx1, rfl⟩ := Option.map_eq_some_iff.1 h1
   obtain ⟨i', hi, rfl⟩ := Option.map_eq_some_iff.1 hx1
   obtain ⟨hjl, rfl⟩ := List.getElem?_eq_some_iff.1 hi
   rw [List.getElem_range] at h4
   have hjl' : i < len := by simpa using hjl
   have g := (World.cells?_some (hX i (by omega)).1).2.2 c h2
   rw [h4] at g
   rw [← g, Go.Addr.add_add]
end
end Go.Eng
namespace Go.Eng
open Go Go.RowKit Go.ChangeShapes Go.WideShapes Go.ChangeMaps
def Hop.dat {H : Type} (x : Hop) : DataW H := .agg [.lit (.int .i64 x.kind), .lit (.string x.br), .lit (.string x.fr), .lit (.int .i64 x.hand), .lit (.int .i64 x.at_), .lit (.string x.text)]
theorem zHh {H : Type} {enc : TypeId × Value → H} {P : Program} {f0 f1 f2 f3 f4 f5 : Field} {W : World} {r : Go.Reach} {b0 : Nat} {t e : TypeId} {v : Value} {d : DataW H} {ps : List MemPlace} (ht : P.underlying t = some (.slice e)) (he : P.underlying e = some (.struct #[f0, f1, f2, f3, f4, f5])) (hc : P.cellsOf e = 6)
  (h0 : f0.offset = 0 ∧ P.underlying f0.type = some (.int .i64) ∧ P.cellsOf f0.type = 1) (h1 : f1.offset = 1 ∧ P.underlying f1.type = some .string ∧ P.cellsOf f1.type = 1) (h2 : f2.offset = 2 ∧ P.underlying f2.type = some .string ∧ P.cellsOf f2.type = 1)
  (h3 : f3.offset = 3 ∧ P.underlying f3.type = some (.int .i64) ∧ P.cellsOf f3.type = 1) (h4 : f4.offset = 4 ∧ P.underlying f4.type = some (.int .i64) ∧ P.cellsOf f4.type = 1) (h5 : f5.offset = 5 ∧ P.underlying f5.type = some .string ∧ P.cellsOf f5.type = 1)
  (hval : Value.okWide P W r b0 t v) (h : DataW.Trod enc P W 0 (fun _ => true) true t v d ps) : ∃ (a : Option Addr) (cap : Nat) (S : List Hop), v = .slice a S.length cap ∧ S.length ≤ cap ∧ (∀ x ∈ S, x.Ok) ∧
   (∃ spare : List (DataW H), d = .nil ∧ S = [] ∨ d = .slice (S.map Hop.dat) spare) ∧ ∀ w0 Hp, RowR w0 (memOf W) Hp 6 a (S.map Hop.cs) := by
 obtain ⟨a, cap, ns, sp, e1, e2, e3, e4, e5⟩ := zHN 6 Hop.cs Hop.dat Hop.Ok (fun _ => rfl) ht hc (fun n u y hy => by
  obtain ⟨xs, n', _, hx, hl, hlen, hf⟩ := DataW.trod_struct he hy
  rw [hc] at hl
  obtain ⟨c0, c1, c2, c3, c4, c5, rfl⟩ : ∃ c0 c1 c2 c3 c4 c5, u = [c0, c1, c2, c3, c4, c5] := by
   match u, hl with
   | [c0, c1, c2, c3, c4, c5], _ => exact ⟨c0, c1, c2, c3, c4, c5, rfl⟩
  match xs, hlen with
  | [y0, y1, y2, y3, y4, y5], _ =>
   have q0 := hf 0 f0 rfl
   have q1 := hf 1 f1 rfl
   have q2 := hf 2 f2 rfl
   have q3 := hf 3 f3 rfl
   have q4 := hf 4 f4 rfl
   have q5 := hf 5 f5 rfl
   rw [h0.1, h0.2.2] at q0
   rw [h1.1, h1.2.2] at q1
   rw [h2.1, h2.2.2] at q2
   rw [h3.1, h3.2.2] at q3
   rw [h4.1, h4.2.2] at q4
   rw [h5.1, h5.2.2] at q5
   obtain ⟨x0, b0, d0, w0⟩ := DataW.trod_int h0.2.1 q0
   obtain ⟨x1, b1, d1, w1⟩ := DataW.trod_string h1.2.1 q1
   obtain ⟨x2, b2, d2, w2⟩ := DataW.trod_string h2.2.1 q2
   obtain ⟨x3, b3, d3, w3⟩ := DataW.trod_int h3.2.1 q3
   obtain ⟨x4, b4, d4, w4⟩ := DataW.trod_int h4.2.1 q4
   obtain ⟨x5, b5, d5, w5⟩ := DataW.trod_string h5.2.1 q5
   simp at b0 b1 b2 b3 b4 b5
   have hmax : maxLen ≤ 9223372036854775807 := by decide
   simp only [Lit.wf, Bool.and_eq_true, decide_eq_true_eq] at w0 w3 w4
   refine ⟨⟨x0, x1.data.toList, x2.data.toList, x3, x4, x5.data.toList⟩, ?_, ?_, w0, w3, w4, ?_, ?_, ?_⟩
   ·rw [b0, b1, b2, b3, b4, b5]; rfl
   ·have := congrArg Prod.fst hx
    simp only at this
    rw [this]
    simp [Hop.dat, d0, d1, d2, d3, d4, d5]
   ·exact Nat.le_trans (Nat.le_of_eq Array.length_toList) (Nat.le_trans w1 hmax)
   ·exact Nat.le_trans (Nat.le_of_eq Array.length_toList) (Nat.le_trans w2 hmax)
   ·exact Nat.le_trans (Nat.le_of_eq Array.length_toList) (Nat.le_trans w5 hmax)) hval h
 exact ⟨a, cap, ns, e1, e2, e3, ⟨sp, e4⟩, e5⟩
end Go.Eng
namespace Go.Eng
open Go Go.RowKit Go.ChangeShapes
theorem zNW {w : World} {g : Nat} (h : ∃ z, w.cell? ⟨g, 0, none⟩ = some (.int .i64 z)) : GInt g (memOf w) := by
 obtain ⟨z, hz⟩ := h
 unfold World.cell? at hz
 cases ho : w.heap[g]? with
 | none => simp [ho] at hz
 | some o =>
  cases o <;> simp [ho] at hz
  case cells cs T fz => exact ⟨cs, T, fz, z, ho, hz⟩
end Go.Eng
namespace ZP
open Go Go.Eng
theorem zNI {W : World} (h : laidMet Tryz.prog Rows.draftReadsRow.laid W) (hsh : W.ShapedOpen Tryz.prog) : GRead Tryz.prog (memOf W) := by
 obtain ⟨g1, t1, cs1, f1, p1, a1, b1, c1, d1⟩ := Lib.laidMet.reads h (n := "internal/strconv.uint64pow10") (d := Rows.laid_internal_strconv_uint64pow10) (.tail _ (.tail _ (.head _)))
 obtain ⟨g2, t2, cs2, f2, p2, a2, b2, c2, d2⟩ := Lib.laidMet.reads h (n := "math/bits.deBruijn64tab") (d := Rows.laid_math_bits_deBruijn64tab) (.tail _ (.head _))
 obtain ⟨g3, t3, cs3, f3, p3, a3, b3, c3, d3⟩ := Lib.laidMet.reads h (n := "strconv.ErrRange") (d := Rows.laid_strconv_ErrRange) (.tail _ (.tail _ (.tail _ (.tail _ (.head _)))))
 obtain ⟨g4, t4, cs4, f4, p4, a4, b4, c4, d4⟩ := Lib.laidMet.reads h (n := "strconv.ErrSyntax") (d := Rows.laid_strconv_ErrSyntax) (.tail _ (.tail _ (.tail _ (.tail _ (.tail _ (.head _))))))
 obtain rfl := Option.some.inj ((show Tryz.prog.globalNamed "internal/strconv.uint64pow10" = some 1 by kernel_rfl).symm.trans a1)
 obtain rfl := Option.some.inj ((show Tryz.prog.globalNamed "math/bits.deBruijn64tab" = some 7 by kernel_rfl).symm.trans a2)
 obtain rfl := Option.some.inj ((show Tryz.prog.globalNamed "strconv.ErrRange" = some 3 by kernel_rfl).symm.trans a3)
 obtain rfl := Option.some.inj ((show Tryz.prog.globalNamed "strconv.ErrSyntax" = some 2 by kernel_rfl).symm.trans a4)
 obtain rfl := Option.some.inj ((show (Tryz.prog.globals[1]?).map (·.type) = some 298 by kernel_rfl).symm.trans b1)
 obtain rfl := Option.some.inj ((show (Tryz.prog.globals[7]?).map (·.type) = some 336 by kernel_rfl).symm.trans b2)
 obtain rfl := Option.some.inj ((show (Tryz.prog.globals[3]?).map (·.type) = some 113 by kernel_rfl).symm.trans b3)
 obtain rfl := Option.some.inj ((show (Tryz.prog.globals[2]?).map (·.type) = some 113 by kernel_rfl).symm.trans b4)
 have e1 : cs1.toList = Lib.pow10Tab.map fun z => Value.int .u64 z := Lib.cells_of_tab (k := .u64) (zs := Lib.pow10Tab) underlying298 underlying243 (by kernel_rfl) (by kernel_rfl) d1
 have e2 := Lib.cells_of_tab (k := .u8) (zs := [0, 1, 56, 2, 57, 49, 28, 3, 61, 58, 42, 50, 38, 29, 17, 4, 62, 47, 59, 36, 45, 43, 51, 22, 53, 39, 33, 30, 24, 18, 12, 5, 63, 55, 48, 27, 60, 41, 37, 16, 46, 35, 44, 21, 52, 32, 23, 11, 54, 26, 40, 15, 34, 20, 31, 10, 25, 14, 19, 9, 13, 8, 7, 6]) underlying336 underlying5 (by kernel_rfl) (by kernel_rfl) d2
 obtain ⟨_, u, v, e3, _, _⟩ := iface_of_trod underlying113 d3
 obtain ⟨_, u4, v4, e4, _, _⟩ := iface_of_trod underlying113 d4
 refine ⟨⟨⟨GV.of ?_, GV.of ?_⟩, ⟨u, v, GV.of ?_⟩⟩, ⟨u4, v4, GV.of ?_⟩, ?_⟩
 ·rw [c1, ← e1]
 ·rw [c2, ← e2]
 ·rw [c3, ← e3]
 ·rw [c4, ← e4]
 ·exact zNW (cell_of_shapedOpen_int (zero := #[.int .i64 0]) (t := 3) hsh (of_decide_eq_true (by kernel_rfl)) (by kernel_rfl) rfl (by kernel_rfl) (by kernel_rfl) underlying3)
end ZP
