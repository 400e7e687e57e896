/-
  Parts of a walk, joined. No condition.
-/
import Derived.Test.YtgckeelnhafgaaaGreatDoorP8
set_option linter.all false
set_option maxRecDepth 100000
set_option maxHeartbeats 4000000
open Go.Proofs Go.Proofs.YtgckeelnhafgaaaGreatDoor
open Tryz
open Go Go.Eng
variable {P : Program} {ro : Option Nat} {n : Nat} {w0 : World} {Q : Exit → Act → World → Prop} {r : Env} {ds : List Dfr} {m : Mem} {H : SHeap} {ops : Array Oper} {l : List Oper} {d : Nat} {ty : TypeId} {pos : String} {after : Array Edge}
attribute [local irreducible] WL WC WQ QFun zJ Does Q1 zD zB Go.Addr.add
namespace Go.Eng
open Go Go.RowKit
def tkE (ts : List Tk) : List (List Value) := ts.map Tk.cs
theorem zCm (ts : List Tk) : (tkE ts).length = ts.length := List.length_map _
theorem ChU.len : ∀ {us : List Un} {a z : Nat}, ChU a us z → us.length ≤ z - a
 | [], _, _, _ => Nat.zero_le _
 | u :: us, a, z, h => by
  obtain ⟨h1, h2, h3⟩ := h
  have := ChU.len h3
  have := ChU.le h3
  rw [List.length_cons]; omega
theorem zJo (us : List Un) (n : Nat) : usE (us.drop n) = (usE us).drop n := by unfold usE; rw [List.map_drop]
end Go.Eng
namespace ZP
open Go Go.Eng
attribute [local irreducible] usE tkE yB rToks yW runU
namespace ZXD231
theorem zsx {G : Prop} (h : G := by have hVF := hV zm zF; ((repeat (refine sp ?_; intros)); exact WQ.q1 rfl)) : G := h
end ZXD231
theorem zBV (l : List UInt8) (hl : l.length ≤ 4194304) (w0 : World) (m : Mem) (H : SHeap) :
  Does Tryz.prog 127 #[str l] w0 m H (fun v m' H' => m.le m' ∧ ∃ a cp, v = .slice a (yW l).length cp ∧ H' = .row a cp 151 3 (tkE (yW l)) :: H) := by
 refine Does.of_body func127 rfl ntmps127 rfl ?_
 have hUl : (yB l).length ≤ 4194304 := by have := (zBD l).len; omega
 refine WC.newRow (T := 151) (sz := 3) ?_
 try (refine st ?_; intros)
 refine zA func171 ?_ (hs := zDD l (by omega) _ _ _)
 rintro v m1 H0 ⟨hm1, ua, uc, rfl, rfl⟩
 refine WL.rowCap (a := ua) (cap := uc) (T := 274) (sz := 5) (es := usE (yB l)) zhs ?_
 intro hUc
 rw [vO] at hUc
 try (refine st ?_; intros)
 rw [show ([] : List (List Value)) = tkE [] from by unfold tkE; rfl]
 refine lpz (fun j r ds m' H' => ∃ (V : List Un) (D : List Tk) (a : Option Addr) (c : Nat) (ao : Option Addr) (co : Nat), j = V.length ∧ r = [(4, .slice a V.length c), (3, .slice ao D.length co)] ∧ ds = [] ∧ m1 = m' ∧ H' = .row ua uc 274 5 (usE (yB l)) :: .row ao co 151 3 (tkE D) :: H ∧ (∀ (mm : Mem) (F : SHeap), RowR w0 mm (.row ua uc 274 5 (usE (yB l)) :: F) 5 a (usE V)) ∧ (V.length ≤ c) ∧ (∀ u ∈ V, UOk u) ∧ (D.length + V.length ≤ (yB l).length) ∧ (yW l = D ++ rToks V)) ((yB l).length) ⟨yB l, [], ua, uc, none, 0, rfl, rfl, rfl, rfl, rfl, fun mm F => RowR.row List.mem_cons_self, hUc, zFM l, by simp, zD3 l⟩ ?_
 rintro j r ds m' H' ⟨V, D, a, c, ao, co, rfl, rfl, rfl, rfl, rfl, hV, hc, hok, hn, hD⟩
 cases V with
 | nil =>
  rw [zHC, List.append_nil] at hD
  have h0 : ([] : List Un).length = 0 := rfl
  try (refine st ?_; intros)
  exact q_fz (H0 := .row ao co 151 3 (tkE D) :: H) ⟨hm1, ao, co, by rw [hD], by rw [hD]⟩
 | cons u vs =>
  have hVl : (u :: vs).length = vs.length + 1 := rfl
  have hgl : (usE (u :: vs))[0]? = some [.int .i64 (u.k : Int), .int .i64 (u.a : Int), .int .i64 (u.z : Int), .int .i32 (u.r : Int), .bool u.o] := zAA rfl
  have hEl : (usE (u :: vs)).length = (u :: vs).length := vO _
  have hV1 : RowR w0 m1 (.row ua uc 274 5 (usE (yB l)) :: .row ao co 151 3 (tkE D) :: H) 5 a (usE (u :: vs)) := hV m1 _
  have hTl := zCH u vs
  obtain ⟨N, hN⟩ : ∃ N, N = 1 + xH u vs := ⟨_, rfl⟩
  obtain ⟨v, hv⟩ : ∃ v, (u :: vs)[xH u vs]? = some v := ⟨_, List.getElem?_eq_getElem (by rw [hVl]; omega)⟩
  have hgN : (usE (u :: vs))[N - 1]? = some [.int .i64 (v.k : Int), .int .i64 (v.a : Int), .int .i64 (v.z : Int), .int .i32 (v.r : Int), .bool v.o] := zAA (by rw [show N - 1 = xH u vs by omega]; exact hv)
  have hD2 : yW l = (D ++ [⟨(zI u).1, u.a, v.z⟩]) ++ rToks (vs.drop (xH u vs)) := by rw [hD, zGG hv]; simp
  have hdr : (u :: vs).drop N = vs.drop (xH u vs) := by rw [hN, Nat.add_comm]; rfl
  have hsub : ∀ (mm : Mem) (F : SHeap), RowR w0 mm (.row ua uc 274 5 (usE (yB l)) :: F) 5 (if c = N then a else a.map (·.add (N * 5))) (usE ((u :: vs).drop N)) := fun mm F => by
   have := (hV mm F).sub (lo := N) (hi := (u :: vs).length) (cap := c) (by rw [vO]; omega) (by rw [vO]; omega)
   rwa [← hEl, List.take_length, ← zJo] at this
  have hlN : (u :: vs).length - N = ((u :: vs).drop N).length := (List.length_drop).symm
  have hTE : ∀ k : Nat, (zI u).1 = k → tkE D ++ [[.int .i64 (k : Int), .int .i64 (u.a : Int), .int .i64 (v.z : Int)]] = tkE (D ++ [⟨(zI u).1, u.a, v.z⟩]) := fun k hk => by rw [hk]; unfold tkE; simp [Tk.cs]
  have hDl : D.length + 1 = (D ++ [(⟨(zI u).1, u.a, v.z⟩ : Tk)]).length := by simp
  have hTl2 := zCm D
  have hok2 : ∀ w ∈ (u :: vs).drop N, UOk w := fun w hw => hok w (List.mem_of_mem_drop hw)
  have hovs : ∀ w ∈ vs, UOk w := fun w hw => hok w (List.mem_cons_of_mem _ hw)
  rw [← hdr] at hD2
  have hN1 : 1 ≤ N := by omega
  have hN2 : N ≤ (u :: vs).length := by omega
  refine WC.rSome hV1 (by omega) ?_
  rintro a0 rfl
  by_cases k1 : u.k = 1
  ·have hbk : (zI u).1 = 1 := by simp [zI, k1]
   rw [zGX hovs k1] at hN
   refine st ?_; intros; rename_i b4
   refine zA func172 ?_ (hs := zCF (us := u :: vs) (J := [39, 8217, 45, 8208]) (k := 1) (by omega) (by omega) (by decide) hV1.more (yZ (T := 21) (fz := (0, 0)) (L := [.int .i32 39, .int .i32 8217, .int .i32 45, .int .i32 8208]) zhs (by unfold jsE; rfl) (by simp [jsE])))
   rintro v2 m9 H9 ⟨rfl, rfl, rfl⟩
   rw [show (u :: vs).drop 1 = vs from rfl, ← hN]
   refine WL.heap (H' := .row ua uc 274 5 (usE (yB l)) :: .row ao co 151 3 (tkE D) :: H) zpk ?_
   try (refine st ?_; intros)
   refine wdw 17 ([.row ua uc 274 5 (usE (yB l))]) ?_
   open ZXD231 in refine cmh ?_
   refine wa1 16 ?_
   refine st ?_; intros; rename_i b9
   refine waz [.bl b9 [.int .i64 1, .int .i64 (u.a : Int), .int .i64 (v.z : Int)] 151] zml ?_
   open ZXD231 in refine cmh ?_
   refine wdz ?_
   refine st ?_; intros; rename_i a2 cp2
   have hte : tkE D ++ [[.int .i64 1, .int .i64 (u.a : Int), .int .i64 (v.z : Int)]] = tkE (D ++ [⟨(zI u).1, u.a, v.z⟩]) := hTE 1 hbk
   rw [show y9 (some a0) c N (u :: vs).length 5 = .slice (if c = N then some a0 else (some a0).map (·.add (N * 5))) ((u :: vs).drop N).length (c - N) from by unfold y9; rw [hlN], hTl2, hDl, hte]
   refine nxz (((u :: vs).drop N).length) ⟨(u :: vs).drop N, D ++ [⟨(zI u).1, u.a, v.z⟩], (if c = N then some a0 else (some a0).map (·.add (N * 5))), c - N, a2, cp2, rfl, rfl, rfl, rfl, rfl, ?_, ?_, ?_, ?_, ?_⟩
   ·exact hsub
   ·omega
   ·exact hok2
   ·rw [← hDl]; omega
   ·exact hD2
  by_cases k3 : u.k = 3
  ·have hbk : (zI u).1 = 2 := by simp [zI, k3]
   rw [zDy hovs k3] at hN
   refine st ?_; intros; rename_i b4
   refine zA func172 ?_ (hs := zCF (us := u :: vs) (J := [44, 46]) (k := 3) (by omega) (by omega) (by decide) hV1.more (yZ (T := 21) (fz := (0, 0)) (L := [.int .i32 44, .int .i32 46]) zhs (by unfold jsE; rfl) (by simp [jsE])))
   rintro v2 m9 H9 ⟨rfl, rfl, rfl⟩
   rw [show (u :: vs).drop 1 = vs from rfl, ← hN]
   refine WL.heap (H' := .row ua uc 274 5 (usE (yB l)) :: .row ao co 151 3 (tkE D) :: H) zpk ?_
   try (refine st ?_; intros)
   refine wdw 17 ([.row ua uc 274 5 (usE (yB l))]) ?_
   open ZXD231 in refine cmh ?_
   refine wa1 16 ?_
   refine st ?_; intros; rename_i b9
   refine waz [.bl b9 [.int .i64 2, .int .i64 (u.a : Int), .int .i64 (v.z : Int)] 151] zml ?_
   open ZXD231 in refine cmh ?_
   refine wdz ?_
   refine st ?_; intros; rename_i a2 cp2
   have hte : tkE D ++ [[.int .i64 2, .int .i64 (u.a : Int), .int .i64 (v.z : Int)]] = tkE (D ++ [⟨(zI u).1, u.a, v.z⟩]) := hTE 2 hbk
   rw [show y9 (some a0) c N (u :: vs).length 5 = .slice (if c = N then some a0 else (some a0).map (·.add (N * 5))) ((u :: vs).drop N).length (c - N) from by unfold y9; rw [hlN], hTl2, hDl, hte]
   refine nxz (((u :: vs).drop N).length) ⟨(u :: vs).drop N, D ++ [⟨(zI u).1, u.a, v.z⟩], (if c = N then some a0 else (some a0).map (·.add (N * 5))), c - N, a2, cp2, rfl, rfl, rfl, rfl, rfl, ?_, ?_, ?_, ?_, ?_⟩
   ·exact hsub
   ·omega
   ·exact hok2
   ·rw [← hDl]; omega
   ·exact hD2
  by_cases k5 : u.k = 5
  ·have hbk : (zI u).1 = 3 := by simp [zI, k5]
   rw [zEP k5] at hN
   try (refine st ?_; intros)
   refine zA func172 ?_ (hs := zCF (us := u :: vs) (J := []) (b := none) (cb := 0) (k := 5) (by omega) (by omega) (by decide) hV1 (by unfold jsE; exact RowR.nil))
   rintro v2 m9 H9 ⟨rfl, rfl, rfl⟩
   rw [show (u :: vs).drop 1 = vs from rfl, ← hN]
   try (refine st ?_; intros)
   refine wdw 17 ([.row ua uc 274 5 (usE (yB l))]) ?_
   open ZXD231 in refine cmh ?_
   refine wa1 16 ?_
   refine st ?_; intros; rename_i b9
   refine waz [.bl b9 [.int .i64 3, .int .i64 (u.a : Int), .int .i64 (v.z : Int)] 151] zml ?_
   open ZXD231 in refine cmh ?_
   refine wdz ?_
   refine st ?_; intros; rename_i a2 cp2
   have hte : tkE D ++ [[.int .i64 3, .int .i64 (u.a : Int), .int .i64 (v.z : Int)]] = tkE (D ++ [⟨(zI u).1, u.a, v.z⟩]) := hTE 3 hbk
   rw [show y9 (some a0) c N (u :: vs).length 5 = .slice (if c = N then some a0 else (some a0).map (·.add (N * 5))) ((u :: vs).drop N).length (c - N) from by unfold y9; rw [hlN], hTl2, hDl, hte]
   refine nxz (((u :: vs).drop N).length) ⟨(u :: vs).drop N, D ++ [⟨(zI u).1, u.a, v.z⟩], (if c = N then some a0 else (some a0).map (·.add (N * 5))), c - N, a2, cp2, rfl, rfl, rfl, rfl, rfl, ?_, ?_, ?_, ?_, ?_⟩
   ·exact hsub
   ·omega
   ·exact hok2
   ·rw [← hDl]; omega
   ·exact hD2
  by_cases k11 : u.k = 11
  ·have hbk : (zI u).1 = 7 := by simp [zI, k11]
   rw [zDS k11] at hN
   try (refine st ?_; intros)
   refine zA func172 ?_ (hs := zCF (us := u :: vs) (J := []) (b := none) (cb := 0) (k := 11) (by omega) (by omega) (by decide) hV1 (by unfold jsE; exact RowR.nil))
   rintro v2 m9 H9 ⟨rfl, rfl, rfl⟩
   rw [show (u :: vs).drop 1 = vs from rfl, ← hN]
   try (refine st ?_; intros)
   refine wdw 17 ([.row ua uc 274 5 (usE (yB l))]) ?_
   open ZXD231 in refine cmh ?_
   refine wa1 16 ?_
   refine st ?_; intros; rename_i b9
   refine waz [.bl b9 [.int .i64 7, .int .i64 (u.a : Int), .int .i64 (v.z : Int)] 151] zml ?_
   open ZXD231 in refine cmh ?_
   refine wdz ?_
   refine st ?_; intros; rename_i a2 cp2
   have hte : tkE D ++ [[.int .i64 7, .int .i64 (u.a : Int), .int .i64 (v.z : Int)]] = tkE (D ++ [⟨(zI u).1, u.a, v.z⟩]) := hTE 7 hbk
   rw [show y9 (some a0) c N (u :: vs).length 5 = .slice (if c = N then some a0 else (some a0).map (·.add (N * 5))) ((u :: vs).drop N).length (c - N) from by unfold y9; rw [hlN], hTl2, hDl, hte]
   refine nxz (((u :: vs).drop N).length) ⟨(u :: vs).drop N, D ++ [⟨(zI u).1, u.a, v.z⟩], (if c = N then some a0 else (some a0).map (·.add (N * 5))), c - N, a2, cp2, rfl, rfl, rfl, rfl, rfl, ?_, ?_, ?_, ?_, ?_⟩
   ·exact hsub
   ·omega
   ·exact hok2
   ·rw [← hDl]; omega
   ·exact hD2
  have hk0 : u.k ≠ 1 ∧ u.k ≠ 3 ∧ u.k ≠ 5 ∧ u.k ≠ 11 := ⟨k1, k3, k5, k11⟩
  by_cases k4 : u.k = 4
  ·have hbk : (zI u).1 = 4 := by unfold zI; rw [if_neg k1, if_neg k3, if_neg k5, if_neg k11, if_pos k4]
   by_cases hr : u.r = 13
   ·try (refine st ?_; intros)
    refine zA func173 ?_ (hs := zHD (us := u :: vs) (i := 1) (k := 4) (by omega) hV1)
    rintro v2 m9 H9 ⟨rfl, rfl, rfl⟩
    cases hi1 : isU (u :: vs) 1 4 with
    | false =>
     have ht0 : xH u vs = 0 := qO hk0 (.inr fun w hw => by
      unfold isU at hi1
      rw [List.getElem?_cons_succ, hw] at hi1
      intro hg
      simp [hg.1] at hi1)
     rw [ht0] at hv hN
     obtain rfl : u = v := Option.some.inj hv
     obtain rfl : N = 1 := hN
     try (refine st ?_; intros)
     refine wdw 17 ([.row ua uc 274 5 (usE (yB l))]) ?_
     open ZXD231 in refine cmh ?_
     refine wa1 16 ?_
     refine st ?_; intros; rename_i b9
     refine waz [.bl b9 [.int .i64 4, .int .i64 (u.a : Int), .int .i64 (u.z : Int)] 151] zml ?_
     open ZXD231 in refine cmh ?_
     refine wdz ?_
     refine st ?_; intros; rename_i a2 cp2
     have hte : tkE D ++ [[.int .i64 4, .int .i64 (u.a : Int), .int .i64 (u.z : Int)]] = tkE (D ++ [⟨(zI u).1, u.a, u.z⟩]) := hTE 4 hbk
     rw [show y9 (some a0) c 1 (u :: vs).length 5 = .slice (if c = 1 then some a0 else (some a0).map (·.add (1 * 5))) ((u :: vs).drop 1).length (c - 1) from by unfold y9; rw [hlN], hTl2, hDl, hte]
     refine nxz (((u :: vs).drop 1).length) ⟨(u :: vs).drop 1, D ++ [⟨(zI u).1, u.a, u.z⟩], (if c = 1 then some a0 else (some a0).map (·.add (1 * 5))), c - 1, a2, cp2, rfl, rfl, rfl, rfl, rfl, ?_, ?_, ?_, ?_, ?_⟩
     ·exact hsub
     ·omega
     ·exact hok2
     ·rw [← hDl]; omega
     ·exact hD2
    | true =>
     obtain ⟨w, hw, hwk⟩ := zCL hi1
     have hgw := zAA hw
     have hw1 := (List.getElem?_eq_some_iff.1 hw).1
     by_cases hwr : w.r = 10
     ·have ht0 : xH u vs = 1 := zEU k4 hr (v := w) (by rw [← hw]; rfl) hwk hwr
      rw [ht0] at hv hN
      rw [hv] at hw
      obtain rfl : v = w := Option.some.inj hw
      obtain rfl : N = 2 := hN
      try (refine st ?_; intros)
      refine wdw 17 ([.row ua uc 274 5 (usE (yB l))]) ?_
      open ZXD231 in refine cmh ?_
      refine wa1 16 ?_
      refine st ?_; intros; rename_i b9
      refine waz [.bl b9 [.int .i64 4, .int .i64 (u.a : Int), .int .i64 (v.z : Int)] 151] zml ?_
      open ZXD231 in refine cmh ?_
      refine wdz ?_
      refine st ?_; intros; rename_i a2 cp2
      have hte : tkE D ++ [[.int .i64 4, .int .i64 (u.a : Int), .int .i64 (v.z : Int)]] = tkE (D ++ [⟨(zI u).1, u.a, v.z⟩]) := hTE 4 hbk
      rw [show y9 (some a0) c 2 (u :: vs).length 5 = .slice (if c = 2 then some a0 else (some a0).map (·.add (2 * 5))) ((u :: vs).drop 2).length (c - 2) from by unfold y9; rw [hlN], hTl2, hDl, hte]
      refine nxz (((u :: vs).drop 2).length) ⟨(u :: vs).drop 2, D ++ [⟨(zI u).1, u.a, v.z⟩], (if c = 2 then some a0 else (some a0).map (·.add (2 * 5))), c - 2, a2, cp2, rfl, rfl, rfl, rfl, rfl, ?_, ?_, ?_, ?_, ?_⟩
      ·exact hsub
      ·omega
      ·exact hok2
      ·rw [← hDl]; omega
      ·exact hD2
     ·have ht0 : xH u vs = 0 := qO hk0 (.inr fun w2 hw2 => by
       rw [show (u :: vs)[1]? = vs[0]? from rfl, hw2] at hw
       cases hw
       exact fun hg => hwr hg.2)
      rw [ht0] at hv hN
      obtain rfl : u = v := Option.some.inj hv
      obtain rfl : N = 1 := hN
      try (refine st ?_; intros)
      refine wdw 17 ([.row ua uc 274 5 (usE (yB l))]) ?_
      open ZXD231 in refine cmh ?_
      refine wa1 16 ?_
      refine st ?_; intros; rename_i b9
      refine waz [.bl b9 [.int .i64 4, .int .i64 (u.a : Int), .int .i64 (u.z : Int)] 151] zml ?_
      open ZXD231 in refine cmh ?_
      refine wdz ?_
      refine st ?_; intros; rename_i a2 cp2
      have hte : tkE D ++ [[.int .i64 4, .int .i64 (u.a : Int), .int .i64 (u.z : Int)]] = tkE (D ++ [⟨(zI u).1, u.a, u.z⟩]) := hTE 4 hbk
      rw [show y9 (some a0) c 1 (u :: vs).length 5 = .slice (if c = 1 then some a0 else (some a0).map (·.add (1 * 5))) ((u :: vs).drop 1).length (c - 1) from by unfold y9; rw [hlN], hTl2, hDl, hte]
      refine nxz (((u :: vs).drop 1).length) ⟨(u :: vs).drop 1, D ++ [⟨(zI u).1, u.a, u.z⟩], (if c = 1 then some a0 else (some a0).map (·.add (1 * 5))), c - 1, a2, cp2, rfl, rfl, rfl, rfl, rfl, ?_, ?_, ?_, ?_, ?_⟩
      ·exact hsub
      ·omega
      ·exact hok2
      ·rw [← hDl]; omega
      ·exact hD2
   ·have ht0 : xH u vs = 0 := qO hk0 (.inl fun hg => hr hg.2)
    rw [ht0] at hv hN
    obtain rfl : u = v := Option.some.inj hv
    obtain rfl : N = 1 := hN
    try (refine st ?_; intros)
    refine wdw 17 ([.row ua uc 274 5 (usE (yB l))]) ?_
    open ZXD231 in refine cmh ?_
    refine wa1 16 ?_
    refine st ?_; intros; rename_i b9
    refine waz [.bl b9 [.int .i64 4, .int .i64 (u.a : Int), .int .i64 (u.z : Int)] 151] zml ?_
    open ZXD231 in refine cmh ?_
    refine wdz ?_
    refine st ?_; intros; rename_i a2 cp2
    have hte : tkE D ++ [[.int .i64 4, .int .i64 (u.a : Int), .int .i64 (u.z : Int)]] = tkE (D ++ [⟨(zI u).1, u.a, u.z⟩]) := hTE 4 hbk
    rw [show y9 (some a0) c 1 (u :: vs).length 5 = .slice (if c = 1 then some a0 else (some a0).map (·.add (1 * 5))) ((u :: vs).drop 1).length (c - 1) from by unfold y9; rw [hlN], hTl2, hDl, hte]
    refine nxz (((u :: vs).drop 1).length) ⟨(u :: vs).drop 1, D ++ [⟨(zI u).1, u.a, u.z⟩], (if c = 1 then some a0 else (some a0).map (·.add (1 * 5))), c - 1, a2, cp2, rfl, rfl, rfl, rfl, rfl, ?_, ?_, ?_, ?_, ?_⟩
    ·exact hsub
    ·omega
    ·exact hok2
    ·rw [← hDl]; omega
    ·exact hD2
  have ht0 : xH u vs = 0 := qO hk0 (.inl fun hg => k4 hg.1)
  rw [ht0] at hv hN
  obtain rfl : u = v := Option.some.inj hv
  obtain rfl : N = 1 := hN
  by_cases k6 : u.k = 6
  ·have hbk : (zI u).1 = 5 := by simp [zI, k6]
   try (refine st ?_; intros)
   refine wdw 17 ([.row ua uc 274 5 (usE (yB l))]) ?_
   open ZXD231 in refine cmh ?_
   refine wa1 16 ?_
   refine st ?_; intros; rename_i b9
   refine waz [.bl b9 [.int .i64 5, .int .i64 (u.a : Int), .int .i64 (u.z : Int)] 151] zml ?_
   open ZXD231 in refine cmh ?_
   refine wdz ?_
   refine st ?_; intros; rename_i a2 cp2
   have hte : tkE D ++ [[.int .i64 5, .int .i64 (u.a : Int), .int .i64 (u.z : Int)]] = tkE (D ++ [⟨(zI u).1, u.a, u.z⟩]) := hTE 5 hbk
   rw [show y9 (some a0) c 1 (u :: vs).length 5 = .slice (if c = 1 then some a0 else (some a0).map (·.add (1 * 5))) ((u :: vs).drop 1).length (c - 1) from by unfold y9; rw [hlN], hTl2, hDl, hte]
   refine nxz (((u :: vs).drop 1).length) ⟨(u :: vs).drop 1, D ++ [⟨(zI u).1, u.a, u.z⟩], (if c = 1 then some a0 else (some a0).map (·.add (1 * 5))), c - 1, a2, cp2, rfl, rfl, rfl, rfl, rfl, ?_, ?_, ?_, ?_, ?_⟩
   ·exact hsub
   ·omega
   ·exact hok2
   ·rw [← hDl]; omega
   ·exact hD2
  by_cases k7 : u.k = 7
  ·have hbk : (zI u).1 = 5 := by simp [zI, k7]
   try (refine st ?_; intros)
   refine wdw 17 ([.row ua uc 274 5 (usE (yB l))]) ?_
   open ZXD231 in refine cmh ?_
   refine wa1 16 ?_
   refine st ?_; intros; rename_i b9
   refine waz [.bl b9 [.int .i64 5, .int .i64 (u.a : Int), .int .i64 (u.z : Int)] 151] zml ?_
   open ZXD231 in refine cmh ?_
   refine wdz ?_
   refine st ?_; intros; rename_i a2 cp2
   have hte : tkE D ++ [[.int .i64 5, .int .i64 (u.a : Int), .int .i64 (u.z : Int)]] = tkE (D ++ [⟨(zI u).1, u.a, u.z⟩]) := hTE 5 hbk
   rw [show y9 (some a0) c 1 (u :: vs).length 5 = .slice (if c = 1 then some a0 else (some a0).map (·.add (1 * 5))) ((u :: vs).drop 1).length (c - 1) from by unfold y9; rw [hlN], hTl2, hDl, hte]
   refine nxz (((u :: vs).drop 1).length) ⟨(u :: vs).drop 1, D ++ [⟨(zI u).1, u.a, u.z⟩], (if c = 1 then some a0 else (some a0).map (·.add (1 * 5))), c - 1, a2, cp2, rfl, rfl, rfl, rfl, rfl, ?_, ?_, ?_, ?_, ?_⟩
   ·exact hsub
   ·omega
   ·exact hok2
   ·rw [← hDl]; omega
   ·exact hD2
  by_cases k8 : u.k = 8
  ·have hbk : (zI u).1 = 5 := by simp [zI, k8]
   try (refine st ?_; intros)
   refine wdw 17 ([.row ua uc 274 5 (usE (yB l))]) ?_
   open ZXD231 in refine cmh ?_
   refine wa1 16 ?_
   refine st ?_; intros; rename_i b9
   refine waz [.bl b9 [.int .i64 5, .int .i64 (u.a : Int), .int .i64 (u.z : Int)] 151] zml ?_
   open ZXD231 in refine cmh ?_
   refine wdz ?_
   refine st ?_; intros; rename_i a2 cp2
   have hte : tkE D ++ [[.int .i64 5, .int .i64 (u.a : Int), .int .i64 (u.z : Int)]] = tkE (D ++ [⟨(zI u).1, u.a, u.z⟩]) := hTE 5 hbk
   rw [show y9 (some a0) c 1 (u :: vs).length 5 = .slice (if c = 1 then some a0 else (some a0).map (·.add (1 * 5))) ((u :: vs).drop 1).length (c - 1) from by unfold y9; rw [hlN], hTl2, hDl, hte]
   refine nxz (((u :: vs).drop 1).length) ⟨(u :: vs).drop 1, D ++ [⟨(zI u).1, u.a, u.z⟩], (if c = 1 then some a0 else (some a0).map (·.add (1 * 5))), c - 1, a2, cp2, rfl, rfl, rfl, rfl, rfl, ?_, ?_, ?_, ?_, ?_⟩
   ·exact hsub
   ·omega
   ·exact hok2
   ·rw [← hDl]; omega
   ·exact hD2
  ·have hbk : (zI u).1 = 6 := by unfold zI; rw [if_neg k1, if_neg k3, if_neg k5, if_neg k11, if_neg k4, if_neg (by omega)]
   try (refine st ?_; intros)
   refine wdw 17 ([.row ua uc 274 5 (usE (yB l))]) ?_
   open ZXD231 in refine cmh ?_
   refine wa1 16 ?_
   refine st ?_; intros; rename_i b9
   refine waz [.bl b9 [.int .i64 6, .int .i64 (u.a : Int), .int .i64 (u.z : Int)] 151] zml ?_
   open ZXD231 in refine cmh ?_
   refine wdz ?_
   refine st ?_; intros; rename_i a2 cp2
   have hte : tkE D ++ [[.int .i64 6, .int .i64 (u.a : Int), .int .i64 (u.z : Int)]] = tkE (D ++ [⟨(zI u).1, u.a, u.z⟩]) := hTE 6 hbk
   rw [show y9 (some a0) c 1 (u :: vs).length 5 = .slice (if c = 1 then some a0 else (some a0).map (·.add (1 * 5))) ((u :: vs).drop 1).length (c - 1) from by unfold y9; rw [hlN], hTl2, hDl, hte]
   refine nxz (((u :: vs).drop 1).length) ⟨(u :: vs).drop 1, D ++ [⟨(zI u).1, u.a, u.z⟩], (if c = 1 then some a0 else (some a0).map (·.add (1 * 5))), c - 1, a2, cp2, rfl, rfl, rfl, rfl, rfl, ?_, ?_, ?_, ?_, ?_⟩
   ·exact hsub
   ·omega
   ·exact hok2
   ·rw [← hDl]; omega
   ·exact hD2
end ZP
namespace Go.Eng
open Go
theorem zKg {ts : List Tk} {i : Nat} {t : Tk} (h : ts[i]? = some t) : (tkE ts)[i]? = some [.int .i64 (t.k : Int), .int .i64 (t.a : Int), .int .i64 (t.z : Int)] := by unfold tkE; rw [List.getElem?_map, h]; rfl
theorem zHm {A : List Tx} {i : Nat} {x : Tx} (h : A[i]? = some x) : strs (A.take (i + 1)) = strs (A.take i) ++ [[str x]] := by
 unfold strs
 rw [List.take_succ, h]; simp
end Go.Eng
namespace ZP
open Go Go.Eng
attribute [local irreducible] tkE strs yW toks
theorem vG (l : List UInt8) (hl : l.length ≤ 4194304) (w0 : World) (m : Mem) (H : SHeap) :
  Does Tryz.prog 90 #[str l] w0 m H (fun v m' H' => m.le m' ∧ ∃ a cp, v = .slice a (toks l).length cp ∧ H' = .row a cp 9 1 (strs (toks l)) :: H) := by
 refine Does.of_body func90 rfl ntmps90 rfl ?_
 have hkl := jK l
 have hkl2 := zP l
 refine WC.newRow (T := 9) (sz := 1) ?_
 try (refine st ?_; intros)
 refine zA func127 ?_ (hs := zBV l (by omega) _ _ _)
 rintro v m1 H0 ⟨hm1, ta, tc, rfl, rfl⟩
 have htl := zCm (yW l)
 try (refine st ?_; intros)
 rw [show ([] : List (List Value)) = strs ((toks l).take 0) from by unfold strs; rfl]
 refine lpz (fun j r ds m' H' => ∃ (i : Nat) (a : Option Addr) (cp : Nat), j = (yW l).length - i ∧ r = [(9, .int .i64 (i : Int)), (8, .int .i64 ((yW l).length : Int)), (7, .slice ta (yW l).length tc), (3, .slice a i cp), (0, str l)] ∧ ds = [] ∧ m1 = m' ∧ H' = .row a cp 9 1 (strs ((toks l).take i)) :: .row ta tc 151 3 (tkE (yW l)) :: H ∧ (i ≤ (yW l).length)) ((yW l).length - (0)) ⟨0, none, 0, rfl, rfl, rfl, rfl, rfl, by omega⟩ ?_
 rintro j r ds m' H' ⟨i, a, cp, rfl, rfl, rfl, rfl, rfl, hi⟩
 by_cases hlt : i < (yW l).length
 ·obtain ⟨t, ht⟩ : ∃ t, (yW l)[i]? = some t := ⟨_, List.getElem?_eq_getElem hlt⟩
  have htz := (uQ l).mem t (List.mem_of_getElem? ht)
  have hgt := zKg ht
  have hx : (toks l)[i]? = some ((l.take t.z).drop t.a) := by unfold toks; rw [List.getElem?_map, ht]; rfl
  have hsn := zHm hx
  have hsl : (strs ((toks l).take i)).length = i := by rw [zY, List.length_take]; omega
  generalize strs ((toks l).take i) = SE at *
  generalize tkE (yW l) = TE at *
  refine WC.rowSome (a := ta) (es := TE) zhs (by omega) ?_
  rintro t0 rfl
  refine st ?_; intros; rename_i bt b9 a2 cp2
  rw [hsl, ← hsn]
  refine nxz ((yW l).length - (i + 1)) ⟨i + 1, a2, cp2, rfl, rfl, rfl, rfl, rfl, ?_⟩
  ·omega
 ·obtain rfl : i = (yW l).length := by omega
  rw [List.take_of_length_le (by omega), ← hkl]
  try (refine st ?_; intros)
  exact q_fz ⟨hm1, a, cp, rfl, rfl⟩
end ZP
namespace ZP
open Go Go.Eng
attribute [local irreducible] midL strs yA mid yI tailP yE toks
theorem j8 (s t : List UInt8) (hs : s.length ≤ 4194304) (ht : t.length ≤ 4194304) (w0 : World) (m : Mem) (H : SHeap) :
  Does Tryz.prog 120 #[str s, str t] w0 m H (fun v m' H' => m.le m' ∧ ∃ a cp, v = .slice a (yE (toks s) (toks t)).length cp ∧ H' = .row a cp 134 2 ((yE (toks s) (toks t)).map prE) :: H) := by
 refine Does.of_body func120 rfl ntmps120 rfl ?_
 have hA0 := zP s
 have hB0 := zP t
 try (refine st ?_; intros)
 refine zA func90 ?_ (hs := vG s (by omega) _ _ _)
 rintro v m1 H1 ⟨hm1, aa, ca, rfl, rfl⟩
 try (refine st ?_; intros)
 refine zA func90 ?_ (hs := vG t (by omega) _ _ _)
 rintro v m2 H1 ⟨hm2, ab, cb, rfl, rfl⟩
 have hm12 := hm1.trans hm2
 have hA : (toks s).length ≤ 4194304 := by omega
 have hB : (toks t).length ≤ 4194304 := by omega
 clear hA0 hB0 hm1 hm2
 generalize toks s = A at *
 generalize toks t = B at *
 refine WL.rowCap (a := aa) (cap := ca) (T := 9) (sz := 1) (es := strs A) zhs ?_
 intro hca
 refine WL.rowCap (a := ab) (cap := cb) (T := 9) (sz := 1) (es := strs B) zhs ?_
 intro hcb
 rw [zY] at hca hcb
 have ha : RowR w0 m2 (.row ab cb 9 1 (strs B) :: .row aa ca 9 1 (strs A) :: H) 1 aa (strs A) := RowR.row (T := 9) (cap := ca) zhs
 have hb : RowR w0 m2 (.row ab cb 9 1 (strs B) :: .row aa ca 9 1 (strs A) :: H) 1 ab (strs B) := RowR.row (T := 9) (cap := cb) zhs
 have hdrop : ∀ i w, Sat w0 m2 (i :: .row ab cb 9 1 (strs B) :: .row aa ca 9 1 (strs A) :: H) w → Sat w0 m2 (i :: H) w := fun i => zpk
 generalize Eng.Item.row ab cb 9 1 (strs B) :: Eng.Item.row aa ca 9 1 (strs A) :: H = Y at ha hb hdrop ⊢
 rw [zFZ]
 have hht := zCG A B
 have hhl := zAe A B
 have hTd : wF A B = yA ((A.drop (yA A B)).reverse) ((B.drop (yA A B)).reverse) := rfl
 have hmA : midA A B = (A.take (A.length - wF A B)).drop (yA A B) := rfl
 have hmB : midB A B = (B.take (B.length - wF A B)).drop (yA A B) := rfl
 try (refine st ?_; intros)
 refine WC.weak zsb zpk (zJ4 hA hB ha hb ?_)
 intro oa oc
 generalize yA A B = h at *
 try (refine st ?_; intros)
 refine WC.weak zsb zpk (zKn (H := .row oa oc 134 2 ((yI 0 0 h).map prE) :: Y) hA hB hhl ha.more hb.more ?_)
 intro t' n q ta tc ht' hn hq
 rw [← ht'] at hTd
 rw [hTd] at hht hmA hmB ⊢
 clear ht' hTd
 have hmAl : (midA A B).length = n - h := by rw [hmA, List.length_drop, List.length_take]; omega
 have hmBl : (midB A B).length = q - h := by rw [hmB, List.length_drop, List.length_take]; omega
 have hsa := ha.sub (lo := h) (hi := n) (cap := ca) (by rw [zY]; omega) (by rw [zY]; omega)
 have hsb := hb.sub (lo := h) (hi := q) (cap := cb) (by rw [zY]; omega) (by rw [zY]; omega)
 rw [show A.length - t' = n by omega] at hmA
 rw [show B.length - t' = q by omega] at hmB
 rw [zA5, ← hmA] at hsa
 rw [zA5, ← hmB] at hsb
 generalize midA A B = MA at *
 generalize midB A B = MB at *
 clear hmA hmB
 have hsl := zY A
 have hsl2 := zY B
 by_cases hmid : MA.length ≤ 1024 ∧ MB.length ≤ 1024
 ·obtain ⟨h1, h2⟩ := hmid
  have hmd : mid MA MB h = (midL MA MB 0 0).map fun p => (h + p.1, h + p.2) := by
   unfold mid
   rw [if_pos ⟨h1, h2⟩]
   exact zAy MA MB 0 0 h h
  have hml : (midL MA MB 0 0).length ≤ 1024 := by rw [vP]; have := (uZ MA MB).1; omega
  have hml2 : (midL MA MB 0 0).length ≤ MA.length := by rw [vP]; exact (uZ MA MB).1
  have hmb : ∀ p ∈ midL MA MB 0 0, p.1 ≤ 4194304 ∧ p.2 ≤ 4194304 := by
   intro p hp
   have := (zCX (a := MA) (b := MB) MA MB 0 0 MA.length MB.length (by simp) (by simp) (Nat.zero_le _) (Nat.zero_le _) (Nat.le_refl _) (Nat.le_refl _)).mem p hp
   omega
  rw [hmd]
  have hPl : (yI 0 0 h).length = h := yX _ _ _
  try (refine st ?_; intros)
  refine wdw 11 ([]) ?_
  refine cm0 ?_
  refine wa1 8 ?_
  have e1 : y9 aa ca h n 1 = .slice (if ca = h then aa else aa.map (·.add (h * 1))) MA.length (ca - h) := by unfold y9; rw [hmAl]
  have e2 : y9 ab cb h q 1 = .slice (if cb = h then ab else ab.map (·.add (h * 1))) MB.length (cb - h) := by unfold y9; rw [hmBl]
  rw [e1, e2]
  refine zA func166 ?_ (hs := zED h1 h2 hsa.more.more hsb.more.more)
  rintro v m H9 ⟨rfl, a2, cp2, rfl, rfl⟩
  try (refine st ?_; intros)
  refine waz [] zml ?_
  refine cm0 ?_
  refine wdz ?_
  generalize midL MA MB 0 0 = M at *
  try (refine st ?_; intros)
  have hoe : (Value.slice oa h oc) = .slice oa (yI 0 0 h).length oc := by rw [hPl]
  rw [hoe]
  refine WC.weak zsb zpk (zKS (P := yI 0 0 h) (M := M) (h := h) (H := .row ta tc 134 2 ((tailP A.length B.length t').map prE) :: Y) (by omega) hml (by omega) hmb ?_)
  intro a3 c3
  try (refine st ?_; intros)
  refine WC.weak zsb zpk (zIo (P := yI 0 0 h ++ M.map fun p => (h + p.1, h + p.2)) (x := A.length) (y := B.length) (t := t') (H := Y) (by rw [List.length_append, hPl, List.length_map]; omega) (by omega) (by omega) (by omega) ?_)
  intro a4 c4
  try (refine st ?_; intros)
  exact zR (H0 := .row a4 c4 134 2 ((yI 0 0 h ++ (M.map fun p => (h + p.1, h + p.2)) ++ yI (A.length - t') (B.length - t') t').map prE) :: H) ⟨hm12, a4, c4, congrArg (fun k => Value.slice a4 k c4) (show (yI 0 0 h ++ M.map fun p => (h + p.1, h + p.2)).length + t' = _ by simp only [List.length_append, yX]), rfl⟩ (hd := fun w h => hdrop _ w h)
 ·have hmd : mid MA MB h = [] := by unfold mid; rw [if_neg hmid]
  have hPl : (yI 0 0 h).length = h := yX _ _ _
  rw [hmd, List.append_nil]
  have hoe : (Value.slice oa h oc) = .slice oa (yI 0 0 h).length oc := by rw [hPl]
  have hor : ¬ MA.length ≤ 1024 ∨ (MA.length ≤ 1024 ∧ ¬ MB.length ≤ 1024) := by omega
  rcases hor with hor | ⟨hor, hor2⟩
  all_goals
   try (refine st ?_; intros)
   rw [hoe]
   refine WC.weak zsb zpk (zIo (P := yI 0 0 h) (x := A.length) (y := B.length) (t := t') (H := Y) (by omega) (by omega) (by omega) (by omega) ?_)
   intro a4 c4
   try (refine st ?_; intros)
   exact zR (H0 := .row a4 c4 134 2 ((yI 0 0 h ++ yI (A.length - t') (B.length - t') t').map prE) :: H) ⟨hm12, a4, c4, congrArg (fun k => Value.slice a4 k c4) (show (yI 0 0 h).length + t' = _ by simp only [List.length_append, yX]), rfl⟩ (hd := fun w h => hdrop _ w h)
end ZP
namespace Go.Eng
open Go
def filled (n k i : Nat) : List Nat := List.replicate i k ++ List.replicate (n - i) 0
theorem zDe {n k i : Nat} (h : i ≤ n) : (filled n k i).length = n := by unfold filled; simp; omega
theorem zGl {n k i : Nat} (h : i < n) : (nums (filled n k i)).set i [.int .i64 (k : Int)] = nums (filled n k (i + 1)) := by
 rw [zC3]
 unfold filled
 rw [List.set_append_right _ _ (by simp), List.length_replicate, Nat.sub_self, show n - i = (n - (i + 1)) + 1 by omega, List.replicate_succ, List.set_cons_zero, List.replicate_succ', List.append_assoc]
 rfl
end Go.Eng
namespace ZP
open Go Go.Eng
attribute [local irreducible] xT orgK toks filled
namespace ZD74a
theorem zal {G G' : Prop} (next : G') (h : Bx G' → G := by intro zzn; (first | (refine WL.indexAddrA rfl rfl (by exact znz) rfl rfl (by omega) rfl rfl ?_)); (repeat revert zzf); exact zzn.out) : G := h ⟨next⟩
end ZD74a
open ZD74a in
theorem zH9 {X Y : List Tx} {M : List (Nat × Nat)} {am : Option Addr} {cpm bo bs b5 br n0 : Nat} {z8 : Int} {O src : List Nat} {w0 : World} {m : Mem} {Hr : SHeap} {Q : Exit → Act → World → Prop}
  (hMok : PrOk X Y 0 0 M src.length O.length) (hMl : M.length ≤ 65536) (hsl : src.length ≤ 65536) (hnl : n0 ≤ 65536) (hOl : O.length = n0)
  (hK : WQ 78 w0 Q (.exit 4) [(6, .slice (some ⟨bo, 0, none⟩) n0 n0), (8, .int .i64 z8), (5, .pp b5), (0, .pp br)] [] m (.row (some ⟨bo, 0, none⟩) n0 3 1 (nums (xT src M O)) :: Hr)) :
  WC Tryz.prog none 78 w0 ((yF (Tryz.f89.body.getD .skip)).getD 2 .skip) Q [(63, .int .i64 0), (62, .int .i64 (M.length : Int)), (61, .slice am M.length cpm), (6, .slice (some ⟨bo, 0, none⟩) n0 n0), (10, .slice (some ⟨bs, 0, none⟩) src.length src.length), (8, .int .i64 z8), (5, .pp b5), (0, .pp br)] [] m
   (.row am cpm 134 2 (M.map prE) :: .row (some ⟨bo, 0, none⟩) n0 3 1 (nums O) :: .row (some ⟨bs, 0, none⟩) src.length 3 1 (nums src) :: Hr) := by
 refine lpz (fun j r ds m' H' => ∃ (u : Nat) (O2 : List Nat), j = M.length - u ∧ r = [(63, .int .i64 (u : Int)), (62, .int .i64 (M.length : Int)), (61, .slice am M.length cpm), (6, .slice (some ⟨bo, 0, none⟩) n0 n0), (10, .slice (some ⟨bs, 0, none⟩) src.length src.length), (8, .int .i64 z8), (5, .pp b5), (0, .pp br)] ∧ ds = [] ∧ m = m' ∧ H' = .row am cpm 134 2 (M.map prE) :: .row (some ⟨bo, 0, none⟩) n0 3 1 (nums O2) :: .row (some ⟨bs, 0, none⟩) src.length 3 1 (nums src) :: Hr ∧ (u ≤ M.length) ∧ (O2.length = n0) ∧ (O2 = xT src (M.take u) O)) (M.length - (0)) ⟨0, O, rfl, rfl, rfl, rfl, rfl, by omega, hOl, by rw [List.take_zero]; unfold xT; rfl⟩ ?_
 rintro j r ds m' H' ⟨u, O2, rfl, rfl, rfl, rfl, rfl, hu, hO2l, hO2⟩
 have hmp : (M.map prE).length = M.length := List.length_map _
 have hno := zQ O2
 by_cases hlt2 : u < M.length
 ·obtain ⟨x, hx2⟩ : ∃ x, M[u]? = some x := ⟨_, List.getElem?_eq_getElem hlt2⟩
  obtain ⟨x1, x2⟩ := x
  have hgx : (M.map prE)[u]? = some [.int .i64 (x1 : Int), .int .i64 (x2 : Int)] := by rw [List.getElem?_map, hx2]; rfl
  obtain ⟨hxa, hxb, _⟩ := hMok.memb (x1, x2) (List.mem_of_getElem? hx2)
  simp only at hxa hxb
  obtain ⟨y, hy⟩ : ∃ y, src[x1]? = some y := ⟨_, List.getElem?_eq_getElem (by omega)⟩
  have hgy := xO hy
  have hnk := zQ src
  have hset2 : (nums O2).set x2 [.int .i64 (y : Int)] = nums (xT src (M.take (u + 1)) O) := by
   rw [zC3, List.take_succ, hx2]
   show _ = nums (xT src (M.take u ++ [(x1, x2)]) O)
   rw [zA8, ← hO2, List.getD_eq_getElem?_getD, hy]; rfl
  generalize hNK : nums src = NK at *
  generalize hNO : nums O2 = NO at *
  generalize hME : M.map prE = ME at *
  refine WC.rowSome (a := am) zhs (by omega) ?_
  rintro am rfl
  refine stg ?_; intros; rename_i b13
  rw [hset2]
  subst hME
  refine nxz (M.length - (u + 1)) ⟨u + 1, xT src (M.take (u + 1)) O, rfl, rfl, rfl, rfl, rfl, ?_, ?_, ?_⟩
  ·omega
  ·rw [vC]; exact hOl
  ·rfl
 ·rw [List.take_of_length_le (by omega)] at hO2
  subst hO2
  try (refine stg ?_; intros)
  exact WQ.weak zsb zpk hK
theorem zD7 {br rc : Nat} {mp : Value} {ra : Option Addr} {L : List Dr} (hL : L.length ≤ 256) (hf : Falls L) (htx : ∀ (i : Nat) (d : Dr), L[i]? = some d → d.t.length ≤ 65536) (hps : ∀ (i : Nat) (d : Dr), L[i]? = some d → d.ps.length ≤ 2) :
  ∀ (k : Nat), k < L.length → ∀ (w0 : World) (m : Mem) (H : SHeap), (∀ d ∈ L, PsAt m d) →
  Does Tryz.prog 89 #[.pp br, .int .i64 (k : Int)] w0 m (.bl br [.slice ra L.length rc, mp] 69 :: .row ra rc 118 3 (rdrs L) :: H) (fun v m' H' => m.le m' ∧ ∃ b, v = .slice (some ⟨b, 0, none⟩) (orgK L k).length (orgK L k).length ∧ H' = .row (some ⟨b, 0, none⟩) (orgK L k).length 3 1 (nums (orgK L k)) :: .bl br [.slice ra L.length rc, mp] 69 :: .row ra rc 118 3 (rdrs L) :: H) := by
 intro k
 induction k using Nat.strongRecOn with
 | _ k ih =>
  intro hk w0 m H hat
  refine Does.of_body func89 rfl ntmps89 rfl ?_
  have hnl := wE L
  obtain ⟨d, hd⟩ : ∃ d, L[k]? = some d := ⟨_, List.getElem?_eq_getElem hk⟩
  obtain ⟨sa, sc, hv, hr⟩ := hat d (List.mem_of_getElem? hd)
  have hgd := vE hd
  unfold rdE at hgd
  rw [hv] at hgd
  have hdt := htx k d hd
  have hdp := hps k d hd
  have htl := zP d.t
  have hKl := wJ L k
  rw [xU hd] at hKl
  have hnp := zQ d.ps
  generalize hE : rdrs L = E at *
  refine WC.rowSome (a := ra) zhs (by omega) ?_
  rintro a0 rfl
  refine st ?_; intros; rename_i b5
  refine zA func90 ?_ (hs := vG d.t (by omega) _ _ _)
  rintro v m1 H1 ⟨hle1, a9, cp9, rfl, rfl⟩
  obtain ⟨n0, hn0e⟩ : ∃ n0, n0 = (toks d.t).length := ⟨_, rfl⟩
  rw [← hn0e]
  refine st ?_; intros; rename_i bo
  have hall0 : List.replicate n0 [Value.int .i64 0] = nums (filled n0 k 0) := by unfold filled nums; simp
  rw [hall0]
  refine lpz (fun j r ds m' H' => ∃ (i : Nat), j = n0 - i ∧ r = [(27, .int .i64 (i : Int)), (26, .int .i64 (n0 : Int)), (6, .slice (some ⟨bo, 0, none⟩) n0 n0), (5, .pp b5), (0, .pp br), (1, .int .i64 (k : Int))] ∧ ds = [] ∧ m1 = m' ∧ H' = .row (some ⟨bo, 0, none⟩) n0 3 1 (nums (filled n0 k i)) :: .bl b5 [str d.t, .int .i64 (d.h : Int), .slice sa d.ps.length sc] 118 :: .bl br [.slice (some a0) L.length rc, mp] 69 :: .row (some a0) rc 118 3 E :: H ∧ (i ≤ n0)) (n0 - (0)) ⟨0, rfl, rfl, rfl, rfl, rfl, by omega⟩ ?_
  rintro j r ds m' H' ⟨i, rfl, rfl, rfl, rfl, rfl, hi⟩
  have hfl := zDe (k := k) hi
  have hnfl := zQ (filled n0 k i)
  by_cases hlt : i < n0
  ·have hset := zGl (k := k) hlt
   try (refine st ?_; intros)
   rw [hset]
   refine nxz (n0 - (i + 1)) ⟨i + 1, rfl, rfl, rfl, rfl, rfl, ?_⟩
   ·omega
  ·obtain rfl : i = n0 := by omega
   have hrep : filled i k i = List.replicate i k := by unfold filled; simp
   rw [hrep]
   have hpf : ∀ p ∈ d.ps, p < k := fun p hp => hf k p (by rw [vH hd]; exact hp)
   try (refine st ?_; intros)
   refine lpz (fun j r ds m' H' => ∃ (u : Nat) (mm : Mem) (O : List Nat), j = 2 * u ∧ r = [(8, .int .i64 ((u : Int) - 1)), (6, .slice (some ⟨bo, 0, none⟩) i i), (5, .pp b5), (0, .pp br)] ∧ ds = [] ∧ mm = m' ∧ H' = .row (some ⟨bo, 0, none⟩) i 3 1 (nums O) :: .bl b5 [str d.t, .int .i64 (d.h : Int), .slice sa d.ps.length sc] 118 :: .bl br [.slice (some a0) L.length rc, mp] 69 :: .row (some a0) rc 118 3 E :: H ∧ (u ≤ d.ps.length) ∧ (m1.le mm) ∧ (O.length = i) ∧ (O = ((d.ps.drop u).reverse).foldl (orgStep L (orgK L) k) (List.replicate i k))) (2 * (d.ps.length)) ⟨d.ps.length, m1, List.replicate i k, rfl, rfl, rfl, rfl, rfl, Nat.le_refl _, Mem.le.refl _, List.length_replicate, by rw [List.drop_eq_nil_of_le (Nat.le_refl _)]; rfl⟩ ?_
   rintro j r ds m' H' ⟨u, mm, O, rfl, rfl, rfl, rfl, rfl, hu, hle, hOl, hO⟩
   cases u with
   | zero =>
    have hres : O = orgK L k := by rw [hO, List.drop_zero, zIv hf k, vH hd, xU hd, hn0e]
    have hil : i = (orgK L k).length := by omega
    subst hres
    try (refine st ?_; intros)
    refine q_fz (H0 := .row (some ⟨bo, 0, none⟩) i 3 1 (nums (orgK L k)) :: .bl br [.slice (some a0) L.length rc, mp] 69 :: .row (some a0) rc 118 3 E :: H) ⟨hle1.trans hle, bo, by rw [← hil], by rw [← hil]⟩
   | succ u =>
    obtain ⟨p, hp⟩ : ∃ p, d.ps[u]? = some p := ⟨_, List.getElem?_eq_getElem (by omega)⟩
    have hpk := hpf p (List.mem_of_getElem? hp)
    obtain ⟨dp, hdp2⟩ : ∃ dp, L[p]? = some dp := ⟨_, List.getElem?_eq_getElem (by omega)⟩
    have hdpt := htx p dp hdp2
    have hgp : E[p]? = some [str dp.t, .int .i64 (dp.h : Int), dp.v] := by rw [← hE]; exact vE hdp2
    have hgn := xO hp
    have hdrop : (d.ps.drop u).reverse = (d.ps.drop (u + 1)).reverse ++ [p] := by
     rw [List.drop_eq_getElem_cons (show u < d.ps.length by omega), List.reverse_cons]
     congr 1
     have := (List.getElem?_eq_some_iff.1 hp).2
     rw [this]
    have hKp := wJ L p
    rw [xU hdp2] at hKp
    have hptl := zP dp.t
    obtain ⟨M, hM⟩ : ∃ M, M = yE (toks dp.t) (toks d.t) := ⟨_, rfl⟩
    have hMok := wL (toks dp.t) (toks d.t)
    rw [← hM] at hMok
    have hMl : M.length ≤ 65536 := by have := hMok.len; omega
    have hOn : ((d.ps.drop u).reverse).foldl (orgStep L (orgK L) k) (List.replicate i k) = xT (orgK L p) M O := by
     rw [hdrop, List.foldl_append, ← hO, hM, ← xU hdp2, ← xU hd]; rfl
    have hz : ((u + 1 : Nat) : Int) - 1 = (u : Int) := by omega
    rw [hz]
    have hr' := (hr w0 (.row (some ⟨bo, 0, none⟩) i 3 1 (nums O) :: .bl b5 [str d.t, .int .i64 (d.h : Int), .slice sa d.ps.length sc] 118 :: .bl br [.slice (some a0) L.length rc, mp] 69 :: .row (some a0) rc 118 3 E :: H)).le (hle1.trans hle)
    generalize nums d.ps = NP at *
    refine WC.rSome hr' (by omega) ?_
    rintro sa rfl
    try (refine st ?_; intros)
    refine WL.heap (H' := .bl br [.slice (some a0) L.length rc, mp] 69 :: .row (some a0) rc 118 3 E :: .row (some ⟨bo, 0, none⟩) i 3 1 (nums O) :: .bl b5 [str d.t, .int .i64 (d.h : Int), .slice (some sa) d.ps.length sc] 118 :: H) zpk ?_
    refine zA func89 ?_ (hs := ih p hpk (by omega) _ _ _ (fun x hx => (hat x hx).le (hle1.trans hle)))
    rintro v m2 H2 ⟨hle2, bs, rfl, rfl⟩
    try (refine st ?_; intros)
    refine wdw 13 ([.bl br [.slice (some a0) L.length rc, mp] 69, .row (some a0) rc 118 3 E, .bl b5 [str d.t, .int .i64 (d.h : Int), .slice (some sa) d.ps.length sc] 118]) ?_
    refine cmg ?_
    refine wa1 10 ?_
    refine zA func120 ?_ (hs := j8 dp.t d.t (by omega) (by omega) _ _ _)
    rintro v m3 H3 ⟨hle3, am, cpm, rfl, rfl⟩
    rw [← hM]
    try (refine st ?_; intros)
    refine waz [.row am cpm 134 2 (M.map prE)] hle3 ?_
    refine cmg ?_
    refine wdz ?_
    try (refine st ?_; intros)
    refine WC.weak zsb zpk (zH9 (b5 := b5) (br := br) (Hr := .bl br [.slice (some a0) L.length rc, mp] 69 :: .row (some a0) rc 118 3 E :: .bl b5 [str d.t, .int .i64 (d.h : Int), .slice (some sa) d.ps.length sc] 118 :: H)
     (by rw [hKp, hOl, hn0e]; exact hMok) hMl (by omega) (by omega) hOl ?_)
    try (refine st ?_; intros)
    refine nxz (2 * (u)) ⟨u, m3, xT (orgK L p) M O, rfl, rfl, rfl, rfl, rfl, ?_, ?_, ?_, ?_⟩
    ·omega
    ·exact (hle.trans hle2).trans hle3
    ·rw [vC]; exact hOl
    ·exact hOn.symm
end ZP
