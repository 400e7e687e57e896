/-
  Parts of a walk, joined. No condition.
-/
import Derived.Test.YtgckeelnhafgaaaGreatDoorP13
import Derived.Shelf.Small.Wraps
import Derived.Shelf.Strings.Search2
import Derived.Shelf.Strings.Search3
import Derived.Shelf.Strings.Cut
import Derived.Shelf.Strings.Count
import Derived.Shelf.Strings.Shaped
import Derived.Shelf.Strings.Split
import Derived.Shelf.Strings.SplitShaped
import Derived.Shelf.Unicode.DecodeSlow
set_option linter.all false
set_option maxRecDepth 100000
set_option maxHeartbeats 4000000
open Go.Proofs Go.Proofs.YtgckeelnhafgaaaGreatDoor
open Tryz
open Go Go.Eng
variable {P : Program} {ro : Option Nat} {n : Nat} {w0 : World} {Q : Exit → Act → World → Prop} {r : Env} {ds : List Dfr} {m : Mem} {H : SHeap} {ops : Array Oper} {l : List Oper} {d : Nat} {ty : TypeId} {pos : String} {after : Array Edge}
namespace ZP
open Go Go.Eng
attribute [local irreducible] WL WC WQ QFun zJ Does Q1 zD zB Go.Addr.add
end ZP
namespace ZP
open Go Go.Eng
attribute [local irreducible] WL WC WQ QFun zJ Does Q1 zD zB Go.Addr.add
attribute [local irreducible] xQ zT
theorem zDB {a : Option Addr} {cap : Nat} {l : List Stp} (hf : Fit l) (w0 : World) (m : Mem) (H : SHeap) (hr : RowR w0 m H 3 a (l.map Stp.cs)) :
  Does Tryz.prog 137 #[.slice a l.length cap] w0 m H (Gives (szR (zT l)) m H) := by
 refine Does.of_body func137 rfl ntmps137 rfl ?_
 have hln : (l.map Stp.cs).length = l.length := by simp
 have hlen := hf.len
 try (refine st ?_; intros)
 refine lpz (fun j r ds m' H' => ∃ (i : _) (f : Int) (t : Int), j = l.length - i ∧ r = [(7, .int .i64 (i : Int)), (0, .slice a l.length cap), (5, .int .i64 f), (6, .int .i64 t)] ∧ ds = [] ∧ m = m' ∧ H' = H ∧ (i ≤ l.length) ∧ (0 ≤ f ∧ f ≤ 65536 ∧ 0 ≤ t ∧ t ≤ 65536) ∧ (xQ (l.drop i) f t = zT l) ∧ (RowR w0 m H 3 a (l.map Stp.cs))) (l.length - (0)) ⟨0, 0, 0, rfl, rfl, rfl, rfl, rfl, by omega, by omega, by rw [zT]; rfl, hr⟩ ?_
 rintro j r ds m' H' ⟨i, f, t, rfl, rfl, rfl, rfl, rfl, hi, hn, hs, hr⟩
 generalize H' = H at *
 by_cases hlt : i < l.length
 ·obtain ⟨x, hx, hget, htk, hmem, hdr⟩ := zBj (f := Stp.cs) hlt
  have hk := hf.k x hmem
  have hd := hf.d x hmem
  have hp := hf.p x hmem
  rw [hdr] at hs
  refine WC.rSome hr (by omega) ?_
  rintro a0 rfl
  have hdl : x.d = [] → x.d.length = 0 := fun h => by rw [h]; rfl
  have hpl : x.p = [] → x.p.length = 0 := fun h => by rw [h]; rfl
  by_cases h2 : x.d = [] <;> by_cases h3 : x.p = [] <;> rcases (show x.k < 0 ∨ x.k = 0 ∨ 0 < x.k by omega) with h1 | h1 | h1
  ·rw [zW (fun h => by rcases h.1 with g | g | g <;> omega)] at hs
   try (refine st ?_; intros)
   exact q_fz (Gives.mk (by rw [← hs]; try rfl))
  ·rw [zW (fun h => by simp [yL, h1, h2, h3] at h)] at hs
   have hb : (!(!dcd (x.p = []))) = true := by rw [zE h3]; rfl
   try (refine st ?_; intros)
   exact q_fz (Gives.mk (by rw [← hs]; try rfl))
  ·have h2' := hdl h2
   have h3' := hpl h3
   by_cases h6 : 65536 < x.k
   ·rw [zW (by omega)] at hs
    try (refine st ?_; intros)
    exact q_fz (Gives.mk (by rw [← hs]; try rfl))
   ·have hok : yL x := .inl ⟨by omega, h2, h3⟩
    by_cases h4 : f + x.k + (x.d.length : Int) ≤ 65536
    ·by_cases h7 : t + x.k + (x.p.length : Int) ≤ 65536
     ·rw [wI hok (by omega) (by omega) (by omega)] at hs
      try (refine st ?_; intros)
      refine nxz (l.length - (i + 1)) ⟨i + 1, _, _, rfl, rfl, rfl, rfl, rfl, ?_, ?_, ?_, ?_⟩
      ·omega
      ·omega
      ·exact hs
      ·assumption
     ·rw [zW (by omega)] at hs
      try (refine st ?_; intros)
      exact q_fz (Gives.mk (by rw [← hs]; try rfl))
    ·rw [zW (by omega)] at hs
     try (refine st ?_; intros)
     exact q_fz (Gives.mk (by rw [← hs]; try rfl))
  ·rw [zW (fun h => by rcases h.1 with g | g | g <;> omega)] at hs
   try (refine st ?_; intros)
   exact q_fz (Gives.mk (by rw [← hs]; try rfl))
  ·have hok : yL x := .inr (.inr ⟨h1, h2, h3⟩)
   have h2' := hdl h2
   have hb : (!(!dcd (x.p = []))) = false := by rw [zH h3]; rfl
   by_cases h4 : t + x.k + (x.p.length : Int) ≤ 65536
   ·rw [wI hok (by omega) (by omega) (by omega)] at hs
    try (refine st ?_; intros)
    refine nxz (l.length - (i + 1)) ⟨i + 1, _, _, rfl, rfl, rfl, rfl, rfl, ?_, ?_, ?_, ?_⟩
    ·omega
    ·omega
    ·exact hs
    ·assumption
   ·rw [zW (by omega)] at hs
    try (refine st ?_; intros)
    exact q_fz (Gives.mk (by rw [← hs]; try rfl))
  ·rw [zW (fun h => by rcases h.1 with g | g | g <;> first | omega | exact h3 g.2.2)] at hs
   try (refine st ?_; intros)
   exact q_fz (Gives.mk (by rw [← hs]; try rfl))
  ·rw [zW (fun h => by rcases h.1 with g | g | g <;> omega)] at hs
   try (refine st ?_; intros)
   exact q_fz (Gives.mk (by rw [← hs]; try rfl))
  ·have hok : yL x := .inr (.inl ⟨h1, h2, h3⟩)
   have h3' := hpl h3
   by_cases h4 : f + x.k + (x.d.length : Int) ≤ 65536
   ·rw [wI hok (by omega) (by omega) (by omega)] at hs
    try (refine st ?_; intros)
    refine nxz (l.length - (i + 1)) ⟨i + 1, _, _, rfl, rfl, rfl, rfl, rfl, ?_, ?_, ?_, ?_⟩
    ·omega
    ·omega
    ·exact hs
    ·assumption
   ·rw [zW (by omega)] at hs
    try (refine st ?_; intros)
    exact q_fz (Gives.mk (by rw [← hs]; try rfl))
  all_goals
   rw [zW (fun h => by rcases h.1 with g | g | g <;> first | omega | exact h2 g.2.1 | exact h3 g.2.2)] at hs
   try (refine st ?_; intros)
   exact q_fz (Gives.mk (by rw [← hs]; try rfl))
 ·obtain rfl : i = l.length := by omega
  rw [List.drop_length, xQ] at hs
  try (refine st ?_; intros)
  exact q_fz (Gives.mk (by rw [← hs]; try rfl))
end ZP
namespace Go.Eng
open Go
def sV (s : List UInt8) : List Value := [str s]
def oV (b : Bool) : List Value := [.bool b]
def uV (b : UInt8) : List Value := [.int .u8 (b.toNat : Int)]
def Gs.drops (g : Gs) (s : List UInt8) : Gs := ⟨g.done, ⟨g.cur.p, g.cur.d ++ s⟩⟩
end Go.Eng
namespace ZP
open Go Go.Eng
attribute [local irreducible] WL WC WQ QFun zJ Does Q1 zD zB Go.Addr.add
attribute [local irreducible] xQ zT putsPad dropsPad bytesPad Gs.put Gs.drops Gs.keeps Gs.byte atOf gapAt
namespace ZE11a
theorem zal {G G' : Prop} (next : G') (h : Bx G' → G := by intro zzn; (first | (refine iF 137 rfl ?_; refine zU func137 ?_ (hs := zDB (by assumption) _ _ _ (by repeat (first | assumption | apply RowR.more))))); (repeat revert zzf); exact zzn.out) : G := h ⟨next⟩
end ZE11a
end ZP
namespace ZP
open Go Go.Eng
attribute [local irreducible] WL WC WQ QFun zJ Does Q1 zD zB Go.Addr.add
end ZP
namespace Go.Eng
open Go Go.RowKit
section
end
end Go.Eng
namespace ZP
open Go Go.Eng
attribute [local irreducible] WL WC WQ QFun zJ Does Q1 zD zB Go.Addr.add
attribute [local irreducible] xQ zT putsOf z6 bytesOf zO xL z7
namespace ZXEQP1
end ZXEQP1
end ZP
namespace ZP
open Go Go.Eng
attribute [local irreducible] WL WC WQ QFun zJ Does Q1 zD zB Go.Addr.add
attribute [local irreducible] strs jn putT dropT chGo chL yE toks z7 zO putsOf z6 bytesOf zT sdA listOf
end ZP
namespace ZP
open Go Go.Eng
attribute [local irreducible] WL WC WQ QFun zJ Does Q1 zD zB Go.Addr.add
attribute [local irreducible] yM z7 chL zT
theorem zJK {bh cap k : Nat} {mp : Value} {a : Option Addr} {L : List Dr} {w0 : World} {m : Mem} {H : SHeap} (hk : k < L.length) (hL : L.length ≤ 256) (hpar : ∀ i d, L[i]? = some d → (∀ p ∈ d.ps, p < i) ∧ (0 < i → d.ps ≠ []) ∧ d.ps.length ≤ 2 ∧ d.t.length ≤ 65536)
  (hat : ∀ d ∈ L, PsAt m d) (hg : GTabs Tryz.prog m) :
  Does Tryz.prog 50 #[.pp bh, .int .i64 (k : Int)] w0 m (.bl bh [.slice a L.length cap, mp] 90 :: .row a cap 97 3 (drs L) :: H) (Tells (str (wX L k)) m (.bl bh [.slice a L.length cap, mp] 90 :: .row a cap 97 3 (drs L) :: H)) := by
 refine Does.of_body func50 rfl ntmps50 rfl ?_
 obtain ⟨d, hd⟩ : ∃ d, L[k]? = some d := ⟨_, List.getElem?_eq_getElem hk⟩
 obtain ⟨va, vc, hv, hr⟩ := hat d (List.mem_of_getElem? hd)
 obtain ⟨p1, p2, p3, p4⟩ := hpar k d hd
 have hge := u7 hd
 unfold drE at hge
 rw [hv] at hge
 have hnl := vM L
 have htx := xU hd
 have hpo := vH hd
 generalize hE : drs L = E at *
 refine WC.rowSome (a := a) zhs (by omega) ?_
 rintro a0 rfl
 refine st ?_; intros; rename_i b5 b9
 by_cases h0 : k = 0
 ·subst h0
  by_cases ht0 : d.t = []
  ·have he : wX L 0 = [] := by unfold wX; rw [if_pos rfl, htx, if_pos ht0]
   rw [ht0] at *
   try (refine st ?_; intros)
   rw [he]
   exact q_fz (Tells.mk zml rfl)
  ·have he : wX L 0 = yM [⟨0, [], d.t⟩] := by unfold wX; rw [if_pos rfl, htx, if_neg ht0]
   obtain ⟨f1, f2, f3⟩ := kM p4 ht0
   have hft : Fit [⟨0, [], d.t⟩] := ⟨by simp, by intro s hs; rw [List.mem_singleton] at hs; subst hs; simp, by intro s hs; rw [List.mem_singleton] at hs; subst hs; simp, by intro s hs; rw [List.mem_singleton] at hs; subst hs; simp only; omega⟩
   try (refine st ?_; intros)
   refine zA func82 ?_ (hs := zCe (l := [⟨0, [], d.t⟩]) hft (by intro s hs; rw [List.mem_singleton] at hs; subst hs; exact ⟨by simp, p4⟩) f3 (yZ (T := 153) (fz := (0, 0)) (L := [.int .i64 0, str [], str d.t]) zhs rfl (by simp [Stp.cs])) hg)
   rintro v m1 H1 ⟨rfl, rfl, rfl⟩
   rw [f1]
   try (refine st ?_; intros)
   rw [he]
   exact q_fz (Tells.mk zml rfl)
 ·obtain ⟨p0, hp0⟩ : ∃ p, d.ps[0]? = some p := ⟨_, List.getElem?_eq_getElem (List.length_pos_iff.2 (p2 (by omega)))⟩
  have hpl := p1 p0 (List.mem_of_getElem? hp0)
  have hps1 : 0 < d.ps.length := List.length_pos_iff.2 (p2 (by omega))
  obtain ⟨dp, hdp⟩ : ∃ d, L[p0]? = some d := ⟨_, List.getElem?_eq_getElem (by omega)⟩
  have q4 := (hpar p0 dp hdp).2.2.2
  have hgp := u7 hdp
  unfold drE at hgp
  rw [hE] at hgp
  have htx2 := xU hdp
  have he : wX L k = yM (z7 (chL dp.t d.t)) := by unfold wX; rw [if_neg h0, htx, hpo, List.headD_eq_head?_getD, List.head?_eq_getElem?, hp0, Option.getD_some, htx2]
  obtain ⟨f1, f2, f3, f4⟩ := zK3 q4 p4
  have hgn := xO hp0
  have hnp := zQ d.ps
  have hrr := hr w0 (.bl b9 [.int .i64 0, .string { data := #[] }, str d.t] 153 :: .bl b5 [.int .i64 (d.h : Int), .slice va d.ps.length vc, str d.t] 97 :: .bl bh [.slice (some a0) L.length cap, mp] 90 :: .row (some a0) cap 97 3 E :: H)
  refine WC.rSome hrr (by omega) ?_
  rintro va rfl
  try (refine st ?_; intros)
  refine WC.draw 14 rfl (by decide +kernel) ?_
  repeat (refine WD.cons rfl (fun c h => by cases h) (by (repeat (refine sp ?_; intros)); exact WQ.q1 rfl) ?_)
  refine WD.nil ?_
  try (refine st ?_; intros)
  refine zA func81 ?_ (hs := zGv q4 p4 _ _ _)
  rintro v m1 H1 ⟨hle1, c, cp, rfl, rfl⟩
  try (refine st ?_; intros)
  refine zA func82 ?_ (hs := zCe (zG2 (zAh q4 p4)) (fun x hx => (f4 x hx).2.2) f2 (RowR.row zhs) (hg.le hle1))
  rintro v m2 H2 ⟨rfl, rfl, rfl⟩
  rw [f1]
  try (refine st ?_; intros)
  rw [he]
  exact q_fz (Tells.mk hle1 rfl)
end ZP
namespace ZP
open Go Go.Eng
attribute [local irreducible] WL WC WQ QFun zJ Does Q1 zD zB Go.Addr.add
attribute [local irreducible] yM z7 chL zT
end ZP
namespace ZP
open Go Go.Eng
attribute [local irreducible] WL WC WQ QFun zJ Does Q1 zD zB Go.Addr.add
attribute [local irreducible] wX wT numsT headT tailT brT mapT brN brL
namespace ZD86a
theorem zal {G G' : Prop} (next : G') (h : Bx G' → G := by intro zzn; (first | (refine iF 49 rfl ?_; refine zU func49 ?_ (hs := zDu (by omega) (by assumption)))); (repeat revert zzf); exact zzn.out) : G := h ⟨next⟩
end ZD86a
end ZP
namespace ZP
open Go Go.Eng
attribute [local irreducible] WL WC WQ QFun zJ Does Q1 zD zB Go.Addr.add
attribute [local irreducible] wX wT numsT headT tailT brT mapT brN brL
namespace ZD87a
theorem zal {G G' : Prop} (next : G') (h : Bx G' → G := by intro zzn; (first | (refine iF 49 rfl ?_; refine zU func49 ?_ (hs := zDu (by omega) (by assumption)))); (repeat revert zzf); exact zzn.out) : G := h ⟨next⟩
end ZD87a
open ZD87a in
theorem kA {bh bm cap c : Nat} {a : Option Addr} {L : List Dr} {B : Br} {w0 : World} {m : Mem} {H : SHeap} (hok : HsOk m L B c) (hnm : NamesOk B) (hg : GTabs Tryz.prog m) :
  Does Tryz.prog 20 #[.pp bh] w0 m (.bl bh [.slice a L.length cap, .map (some bm)] 90 :: .row a cap 97 3 (drs L) :: .blk bm (mapT (brE B) c) :: H) (Tells (str (histT L B)) m (.bl bh [.slice a L.length cap, .map (some bm)] 90 :: .row a cap 97 3 (drs L) :: .blk bm (mapT (brE B) c) :: H)) := by
 refine Does.of_body func20 rfl ntmps20 rfl ?_
 have h0 := hok.some_
 have hL := hok.few
 have hpar := hok.par
 have hat := hok.at_
 have hnl := vM L
 have hts : ∀ i, (txOf L i).length ≤ 65536 := by
  intro i
  cases hi : L[i]? with
  | none => unfold txOf; rw [hi]; simp
  | some d => rw [xU hi]; exact (hpar i d hi).2.2.2.1
 have hhl : ∀ (i : Nat) (d : Dr), L[i]? = some d → (headT d).length ≤ 100 := by
  intro i d hd
  have := hpar i d hd
  have hi := (List.getElem?_eq_some_iff.1 hd).1
  exact zEt this.2.2.2.2 (fun p hp => by have := this.1 p hp; omega) this.2.2.1
 have hll := fun n => zAD hts hhl n
 generalize hE : drs L = E at *
 refine WC.rowSome (a := a) zhs (by omega) ?_
 rintro a rfl
 have hst : ([] : List UInt8) = wT L 0 := by unfold wT; rfl
 refine stg ?_; intros; rename_i bb
 refine WC.newRow (T := 5) (sz := 1) ?_
 refine lpz (fun j r ds m' H' => ∃ (k : Nat) (s : List UInt8) (ao : Option Addr) (ab : Option Addr) (cb : Nat) (mm : Mem), j = L.length - k ∧ r = [(18, .int .i64 (k : Int)), (17, .int .i64 (L.length : Int)), (16, .slice (some a) L.length cap), (3, .pp bb), (0, .pp bh)] ∧ ds = [] ∧ mm = m' ∧ H' = .bl bb [.pointer ao, .slice ab s.length cb] 111 :: .row ab cb 5 1 (bCs s) :: .bl bh [.slice (some a) L.length cap, .map (some bm)] 90 :: .row (some a) cap 97 3 E :: .blk bm (mapT (brE B) c) :: H ∧ (k ≤ L.length) ∧ (s = wT L k) ∧ (ao = none ∨ ao = some ⟨bb, 0, none⟩) ∧ (ab = none ∨ 0 < cb) ∧ (m.le mm)) (L.length - (0)) ⟨0, [], none, none, 0, m, rfl, rfl, rfl, rfl, rfl, by omega, hst, .inl rfl, .inl rfl, Mem.le.refl _⟩ ?_
 rintro j r ds m' H' ⟨k, s, ao, ab, cb, mm, rfl, rfl, rfl, rfl, rfl, hk, hs, hao, hab, hle⟩
 have hgm := hg.le hle
 have hsl := hll k
 rw [← hs] at hsl
 have hsl2 : s.length ≤ 1073792000 := Nat.le_trans hsl (by omega)
 by_cases hlt : k < L.length
 ·obtain ⟨d, hd⟩ : ∃ d, L[k]? = some d := ⟨_, List.getElem?_eq_getElem hlt⟩
  obtain ⟨va, vc, hv, hr⟩ := hat d (List.mem_of_getElem? hd)
  have hpk := hpar k d hd
  have hge := u7 hd
  unfold drE at hge
  rw [hv, hE] at hge
  have hdl := yN 17 (d.h : Int).toNat (by omega)
  have hd6 : ([100, 114, 97, 102, 116, 32] : List UInt8).length = 6 := rfl
  have hx1 : (([100, 114, 97, 102, 116, 32] : List UInt8) ++ decL (d.h : Int).toNat).length ≤ 24 := by rw [List.length_append]; simp only [List.length_cons, List.length_nil]; omega
  have hx2 : s ++ ([100, 114, 97, 102, 116, 32] ++ decL (d.h : Int).toNat) = s ++ (draftW ++ decL d.h ++ numsT (d.ps.take 0)) := by unfold draftW numsT; simp
  refine stg ?_; intros; rename_i b5
  refine WL.heap (H' := .bl bb [.pointer ao, .slice ab s.length cb] 111 :: .row ab cb 5 1 (bCs s) :: .bl b5 [.int .i64 (d.h : Int), .slice va d.ps.length vc, str d.t] 97 :: .bl bh [.slice (some a) L.length cap, .map (some bm)] 90 :: .row (some a) cap 97 3 E :: .blk bm (mapT (brE B) c) :: H) zpk ?_
  refine zA func48 ?_ (hs := zM hao hab (by unfold FitsB; omega) _ _ _)
  rintro v m2 H2 ⟨rfl, rfl, ⟨ao2, ab2, cb2, hao2, hab2, rfl⟩⟩
  rw [hx2]
  try (refine stg ?_; intros)
  have hnp := zQ d.ps
  have hps := fun (i : Nat) => zBA (l := d.ps.take i) (fun p hp => by have := hpk.1 p (List.mem_of_mem_take hp); omega)
  have hdl2 := yN 17 d.h (by omega)
  generalize hNP : nums d.ps = NP at *
  refine lpz (fun j r ds m' H' => ∃ (i : Nat) (z : List UInt8) (ao : Option Addr) (ab : Option Addr) (cb : Nat), j = d.ps.length - i ∧ r = [(33, .int .i64 (i : Int)), (32, .int .i64 (d.ps.length : Int)), (31, .slice va d.ps.length vc), (3, .pp bb), (5, .pp b5), (4, .int .i64 (k : Int)), (18, .int .i64 (k : Int)), (17, .int .i64 (L.length : Int)), (16, .slice (some a) L.length cap), (0, .pp bh)] ∧ ds = [] ∧ m2 = m' ∧ H' = .bl bb [.pointer ao, .slice ab z.length cb] 111 :: .row ab cb 5 1 (bCs z) :: .bl b5 [.int .i64 (d.h : Int), .slice va d.ps.length vc, str d.t] 97 :: .bl bh [.slice (some a) L.length cap, .map (some bm)] 90 :: .row (some a) cap 97 3 E :: .blk bm (mapT (brE B) c) :: H ∧ (i ≤ d.ps.length) ∧ (z = s ++ (draftW ++ decL d.h ++ numsT (d.ps.take i))) ∧ (ao = none ∨ ao = some ⟨bb, 0, none⟩) ∧ (ab = none ∨ 0 < cb)) (d.ps.length - (0)) ⟨0, s ++ (draftW ++ decL d.h ++ numsT (d.ps.take 0)), ao2, ab2, cb2, rfl, rfl, rfl, rfl, rfl, by omega, rfl, hao2, hab2⟩ ?_
  rintro j r ds m' H' ⟨i, z, ao, ab, cb, rfl, rfl, rfl, rfl, rfl, hi, hz, hao, hab⟩
  have hzl : z.length ≤ 1073793000 := by
   have h1 := hps i
   have h2 : (d.ps.take i).length ≤ 2 := by rw [List.length_take]; omega
   rw [hz]
   unfold draftW
   simp only [List.length_append, List.length_cons, List.length_nil]; omega
  by_cases hlt2 : i < d.ps.length
  ·obtain ⟨p, hp⟩ : ∃ p, d.ps[i]? = some p := ⟨_, List.getElem?_eq_getElem hlt2⟩
   have hpk2 := hpk.1 p (List.mem_of_getElem? hp)
   have hgn : NP[i]? = some [.int .i64 (p : Int)] := by rw [← hNP]; exact xO hp
   have hrr := (hr w0 (.bl bb [.pointer ao, .slice ab z.length cb] 111 :: .row ab cb 5 1 (bCs z) :: .bl b5 [.int .i64 (d.h : Int), .slice va d.ps.length vc, str d.t] 97 :: .bl bh [.slice (some a) L.length cap, .map (some bm)] 90 :: .row (some a) cap 97 3 E :: .blk bm (mapT (brE B) c) :: H)).le hle
   refine WC.rSome hrr (by omega) ?_
   rintro va rfl
   have hdp := yN 17 (p : Int).toNat (by omega)
   have hx3 : (([32] : List UInt8) ++ decL (p : Int).toNat).length ≤ 19 := by rw [List.length_append]; simp only [List.length_singleton]; omega
   have hx4 : ([32] : List UInt8).length = 1 := rfl
   try (refine stg ?_; intros)
   refine zA func48 ?_ (hs := zM hao hab (by unfold FitsB; omega) _ _ _)
   rintro v m3 H3 ⟨rfl, rfl, ⟨ao3, ab3, cb3, hao3, hab3, rfl⟩⟩
   try (refine stg ?_; intros)
   refine nxz (d.ps.length - (i + 1)) ⟨i + 1, z ++ ([32] ++ decL (p : Int).toNat), ao3, ab3, cb3, rfl, rfl, rfl, rfl, rfl, ?_, ?_, ?_, ?_⟩
   ·omega
   ·rw [hz, zCq hp]; simp
   ·exact hao3
   ·exact hab3
  ·have hie : i = d.ps.length := by omega
   have hx5 : ([58] : List UInt8).length = 1 := rfl
   have hx6 : (z ++ [58]).length ≤ 1073793001 := by rw [List.length_append]; omega
   have hsd := zBK (k := k) hts
   try (refine stg ?_; intros)
   refine zA func48 ?_ (hs := zM hao hab (by unfold FitsB; omega) _ _ _)
   rintro v m3 H3 ⟨rfl, rfl, ⟨ao3, ab3, cb3, hao3, hab3, rfl⟩⟩
   try (refine stg ?_; intros)
   subst hE
   refine zN func50 ?_ (hs := zJK hlt hL (fun i d hd => ⟨(hpar i d hd).1, (hpar i d hd).2.1, (hpar i d hd).2.2.1, (hpar i d hd).2.2.2.1⟩) (fun d hd => (hat d hd).le hle) (hg.le hle))
   rintro v m8 H8 ⟨hle8, rfl, rfl⟩
   have hx7 : ([10] : List UInt8).length = 1 := rfl
   by_cases hs0 : wX L k = []
   ·try (refine stg ?_; intros)
    refine WL.heap (H' := .bl bb [.pointer ao3, .slice ab3 (z ++ [58]).length cb3] 111 :: .row ab3 cb3 5 1 (bCs (z ++ [58])) :: .bl bh [.slice (some a) L.length cap, .map (some bm)] 90 :: .row (some a) cap 97 3 (drs L) :: .bl b5 [.int .i64 (d.h : Int), .slice va d.ps.length vc, str d.t] 97 :: .blk bm (mapT (brE B) c) :: H) zpk ?_
    refine zA func48 ?_ (hs := zM hao3 hab3 (by unfold FitsB; omega) _ _ _)
    rintro v m4 H4 ⟨rfl, rfl, ⟨ao4, ab4, cb4, hao4, hab4, rfl⟩⟩
    try (refine stg ?_; intros)
    refine nxz (L.length - (k + 1)) ⟨k + 1, z ++ [58] ++ [10], ao4, ab4, cb4, m4, rfl, rfl, rfl, rfl, rfl, ?_, ?_, ?_, ?_, ?_⟩
    ·omega
    ·rw [hz, hie, List.take_length, wT, hd, ← hs]; unfold tailT; rw [if_pos hs0]; simp [headT]
    ·exact hao4
    ·exact hab4
    ·exact hle.trans hle8
   ·have hx8 : (([32] : List UInt8) ++ wX L k).length ≤ 4194305 := by rw [List.length_append]; simp only [List.length_singleton]; omega
    have hx4 : ([32] : List UInt8).length = 1 := rfl
    have hx9 : (z ++ [58] ++ ([32] ++ wX L k)).length ≤ 1077987400 := by rw [List.length_append]; omega
    try (refine stg ?_; intros)
    refine WL.heap (H' := .bl bb [.pointer ao3, .slice ab3 (z ++ [58]).length cb3] 111 :: .row ab3 cb3 5 1 (bCs (z ++ [58])) :: .bl bh [.slice (some a) L.length cap, .map (some bm)] 90 :: .row (some a) cap 97 3 (drs L) :: .bl b5 [.int .i64 (d.h : Int), .slice va d.ps.length vc, str d.t] 97 :: .blk bm (mapT (brE B) c) :: H) zpk ?_
    refine zA func48 ?_ (hs := zM hao3 hab3 (by unfold FitsB; omega) _ _ _)
    rintro v m4 H4 ⟨rfl, rfl, ⟨ao4, ab4, cb4, hao4, hab4, rfl⟩⟩
    try (refine stg ?_; intros)
    refine zA func48 ?_ (hs := zM hao4 hab4 (by unfold FitsB; omega) _ _ _)
    rintro v m5 H5 ⟨rfl, rfl, ⟨ao5, ab5, cb5, hao5, hab5, rfl⟩⟩
    try (refine stg ?_; intros)
    refine nxz (L.length - (k + 1)) ⟨k + 1, z ++ [58] ++ ([32] ++ wX L k) ++ [10], ao5, ab5, cb5, m5, rfl, rfl, rfl, rfl, rfl, ?_, ?_, ?_, ?_, ?_⟩
    ·omega
    ·rw [hz, hie, List.take_length, wT, hd, ← hs]; unfold tailT; rw [if_neg hs0]; simp [headT]
    ·exact hao5
    ·exact hab5
    ·exact hle.trans hle8
 ·have hke : k = L.length := by omega
  have hold := hok.old
  have hbn := hok.borns
  have hN := hok.names
  have hB := hok.most
  have hLl := j5 B
  subst hE
  try (refine stg ?_; intros)
  refine zA func8 ?_ (hs := zAL _ _ _)
  rintro v m3 H3 ⟨rfl, b9, rfl, rfl⟩
  refine WL.persist (b := b9) (by (repeat (first | exact Out.here | apply Out.there))) ?_
  intro m4 hle4 hb9
  try (refine stg ?_; intros)
  refine WC.heap (H' := .bl bb [.pointer ao, .slice ab s.length cb] 111 :: .row ab cb 5 1 (bCs s) :: .bl bh [.slice (some a) L.length cap, .map (some bm)] 90 :: .row (some a) cap 97 3 (drs L) :: .blk bm (mapT (brE B) c) :: H) zpk ?_
  refine WC.rangeFuncR (encs := fun x : Tx × Nat => [str x.1, .int .i64 (x.2 : Int)]) (xs := brL B) (lb := [.pp b9]) (ps := [55, 56]) (Hc := H)
   (J := fun pre m' Hl => m4.le m' ∧ ∃ (ao ab : Option Addr) (cb : Nat) (z : List UInt8), z = s ++ pre.flatMap brT ∧ z.length ≤ 1073792000 + 100 * pre.length ∧ (ao = none ∨ ao = some ⟨bb, 0, none⟩) ∧ (ab = none ∨ 0 < cb) ∧ Hl = .bl bb [.pointer ao, .slice ab z.length cb] 111 :: .row ab cb 5 1 (bCs z) :: .bl bh [.slice (some a) L.length cap, .map (some bm)] 90 :: .row (some a) cap 97 3 (drs L) :: .blk bm (mapT (brE B) c) :: []) (Jx := fun _ _ _ _ => False)
   rfl func34 rfl rfl (jF (bh := bh) (bm := bm) hold hbn hN (by omega) b9) (fun _ => rfl) rfl (fun _ _ _ _ h hm => ⟨h.1.trans hm, h.2⟩)
   (fun pre m' Hl i j h => by
    obtain ⟨h1, ao, ab, cb, z, _, _, _, _, rfl⟩ := h
    exact ⟨⟨some a, L.length, cap, by simp⟩, ⟨B, c, by simp, fun _ _ => rfl, fun _ => ⟨rfl, rfl⟩⟩, h1 _ _ hb9⟩) (fun _ _ _ _ _ h _ => h) (.cons (.cons (.cons (.cons (.cons .nil))))) ⟨Mem.le.refl _, ao, ab, cb, s, by simp, by simp; omega, hao, hab, rfl⟩ ?_ ?_ ?_
  ·rintro lp pre ⟨x, kx⟩ post hx m8 Hl ⟨hle8, ao8, ab8, cb8, z, hz, hzl, hao8, hab8, rfl⟩ hm8 Hfr hfr
   have hpl : pre.length < (brL B).length := by rw [hx]; simp
   have hgx : (brL B)[pre.length]? = some (x, kx) := by rw [hx]; simp
   obtain ⟨y1, y2, y3, y4⟩ := zAT hN hgx
   simp only at y1 y4
   obtain ⟨e, he, e1, e2⟩ := jC y1
   have hx32 : x.length ≤ 32 := by have := (hnm e he).2.1; rw [e1] at this; exact this
   have hkx : kx < 256 := by have := hok.heads e he; omega
   have hdk := yN 17 (kx : Int).toNat (by omega)
   have hg8 := hgm.le (hle4.trans hle8)
   have g1 : ([98, 114, 97, 110, 99, 104, 32] : List UInt8).length = 7 := rfl
   have g2 : ([32] : List UInt8).length = 1 := rfl
   have g3 : ([10] : List UInt8).length = 1 := rfl
   have g4 : (([98, 114, 97, 110, 99, 104, 32] : List UInt8) ++ x).length ≤ 39 := by rw [List.length_append]; omega
   have g5 : (([98, 114, 97, 110, 99, 104, 32] : List UInt8) ++ x ++ [32]).length ≤ 40 := by rw [List.length_append]; omega
   have g6 : (([98, 114, 97, 110, 99, 104, 32] : List UInt8) ++ x ++ [32] ++ decL (kx : Int).toNat).length ≤ 60 := by rw [List.length_append]; omega
   have g7 : (([98, 114, 97, 110, 99, 104, 32] : List UInt8) ++ x ++ [32] ++ decL (kx : Int).toNat ++ [10]).length ≤ 61 := by rw [List.length_append]; omega
   have g8 : (pre ++ [(x, kx)]).length = pre.length + 1 := by simp
   try (refine stg ?_; intros)
   refine WQ.assigned (.cons (.cons (.cons (.cons (.cons .nil))))) zml ?_
   intro Hfr2
   simp only [List.cons_append, List.nil_append]
   try (refine stg ?_; intros)
   refine zA func48 ?_ (hs := zM hao8 hab8 (by unfold FitsB; omega) _ _ _)
   rintro v m9 H9 ⟨rfl, rfl, ⟨ao9, ab9, cb9, hao9, hab9, rfl⟩⟩
   try (refine stg ?_; intros)
   exact WQ.roundOn (Hl := .bl bb [.pointer ao9, .slice ab9 (z ++ (([98, 114, 97, 110, 99, 104, 32] : List UInt8) ++ x ++ [32] ++ decL (kx : Int).toNat ++ [10])).length cb9] 111 :: .row ab9 cb9 5 1 (bCs (z ++ (([98, 114, 97, 110, 99, 104, 32] : List UInt8) ++ x ++ [32] ++ decL (kx : Int).toNat ++ [10]))) :: .bl bh [.slice (some a) L.length cap, .map (some bm)] 90 :: .row (some a) cap 97 3 (drs L) :: .blk bm (mapT (brE B) c) :: []) zpk zml
    ⟨hle8, ao9, ab9, cb9, _, by rw [hz, List.flatMap_append]; simp [brT, branchW], by rw [List.length_append, g8]; omega, hao9, hab9, rfl⟩
  ·rintro D m8 Hl ⟨hle8, ao8, ab8, cb8, z, hz, hzl, hao8, hab8, rfl⟩ hm8
   simp only [List.cons_append, List.nil_append]
   have he : histT L B = z := by unfold histT; rw [hz, hs, hke]
   try (refine stg ?_; intros)
   refine zA func51 ?_ (hs := zBm hab8 (by omega) _ _ _)
   rintro v m9 H9 ⟨rfl, rfl, i9, hk9, rfl⟩
   try (refine stg ?_; intros)
   rw [he]
   refine WQ.heapX (H' := List.map dfr [D] ++ (.bl bb [.pointer ao8, .slice ab8 z.length cb8] 111 :: i9 :: .bl bh [.slice (some a) L.length cap, .map (some bm)] 90 :: .row (some a) cap 97 3 (drs L) :: .blk bm (mapT (brE B) c) :: H)) zpk ?_
   refine WQ.marks (ds := [D]) (H1 := .bl bb [.pointer ao8, .slice ab8 z.length cb8] 111 :: i9 :: .bl bh [.slice (some a) L.length cap, .map (some bm)] 90 :: .row (some a) cap 97 3 (drs L) :: .blk bm (mapT (brE B) c) :: H) (List.Perm.refl _) ?_
   exact q_fz (Tells.mk (hle.trans (hle4.trans hle8)) rfl)
  ·rintro D c9 pre m8 Hl _ h _
   exact h.elim
end ZP
namespace Go.Eng
open Go
def drawnIn : Code → List Code
 | .seq a b => drawnIn a ++ drawnIn b
 | .block _ c | .scope c | .loop c => drawnIn c
 | .cond _ a b => drawnIn a ++ drawnIn b
 | .rangeFunc _ _ a b => drawnIn a ++ drawnIn b
 | .region id l true => [.region id l true]
 | _ => []
theorem WOk.fresh {m : Mem} {t : List UInt8} (ht : t.length ≤ 65536) : WOk m [⟨0, [], .slice none 0 0, t⟩] [⟨0, [], .slice none 0 0, t⟩] [(0, mainN, 0)] 1 where
 ok := HsOk.fresh ht
 same := rfl
 atM := fun d hd => by
  rw [List.mem_singleton] at hd
  subst hd
  exact PsAt.nil
end Go.Eng
namespace ZP
open Go Go.Eng
attribute [local irreducible] WL WC WQ QFun zJ Does Q1 zD zB Go.Addr.add
end ZP
namespace ZP
open Go Go.Shelf Go.Proofs
def zLJ : Go.Shelf.Ren := ⟨fun | 103 => 94 | 210 => 130 | 206 => 92 | n => n, fun | 9 => 9 | 4 => 4 | 24 => 167 | 3 => 3 | n => n, fun | n => n⟩
theorem zM8 : Go.Proofs.Lays.n103 Tryz.prog zLJ := {
 mixed := by kernel_rfl
 f103 := func94.trans (congrArg some (by kernel_rfl))
 f206 := func92.trans (congrArg some (by kernel_rfl))
 f210 := func130.trans (congrArg some (by kernel_rfl))
 t3 := underlying3
 a3 := Tryz.isAgg3
 z3 := Tryz.sizeOf3
 v3 := Tryz.zeroValue3
 t4 := underlying4
 a4 := Tryz.isAgg4
 z4 := Tryz.sizeOf4
 v4 := Tryz.zeroValue4
 t9 := underlying9
 a9 := Tryz.isAgg9
 z9 := Tryz.sizeOf9
 v9 := Tryz.zeroValue9
 t24 := underlying167
 a24 := Tryz.isAgg167
 z24 := Tryz.sizeOf167
 v24 := Tryz.zeroValue167 }
open Go.RowKit in
theorem zK8 (s p : ByteArray) (w : World) :
  Calls Tryz.prog 94 #[.string s, .string p] w fun e w' => e = .returned (.tuple #[.string ⟨(Lib.trimPrefix s.data.toList p.data.toList).toArray⟩, .bool (Lib.hasPrefix s.data.toList p.data.toList)]) ∧ w' = w := Any.strings_CutPrefix zM8 s p w
open Go.RowKit in
theorem u3 (s : ByteArray) (hlim : s.size ≤ 281474976710656) (h : Lib.atoiAll s.data.toList = Lib.atoiAll []) (tp : TypeId) (p : Value) (w : World) (hvar : w.var? Tryz.prog "strconv.ErrSyntax" = some #[.iface tp p]) :
  Calls Tryz.prog 129 #[.string s] w fun e w' => ∃ N, e = .returned (.tuple #[.int .i64 0, .iface 315 (.pp N)]) ∧ w.heap.size ≤ N ∧ w'.heap[N]? = some (.cells #[.string ⟨#[65, 116, 111, 105]⟩, .string s, .iface tp p] 328 (0, 0)) ∧ Below w.heap.size w w' := Any.strconv_Atoi_syntax_var zLc s hlim h tp p w hvar
def zLK : Go.Shelf.Ren := ⟨fun | 145 => 60 | 220 => 91 | 219 => 128 | 217 => 174 | 225 => 175 | 224 => 176 | 267 => 177 | 266 => 210 | 314 => 211 | n => n, fun | 9 => 9 | 4 => 4 | 59 => 122 | 3 => 3 | 5 => 5 | 46 => 119 | 146 => 244 | 51 => 241 | n => n, fun | 1 => 0 | n => n⟩
theorem zNa : Go.Proofs.Lays.n145 Tryz.prog zLK := {
 mixed := by kernel_rfl
 f145 := func60.trans (congrArg some (by kernel_rfl))
 f217 := func174.trans (congrArg some (by kernel_rfl))
 f219 := func128.trans (congrArg some (by kernel_rfl))
 f220 := func91.trans (congrArg some (by kernel_rfl))
 f224 := func176.trans (congrArg some (by kernel_rfl))
 f225 := func175.trans (congrArg some (by kernel_rfl))
 f266 := func210.trans (congrArg some (by kernel_rfl))
 f267 := func177.trans (congrArg some (by kernel_rfl))
 f314 := func211.trans (congrArg some (by kernel_rfl))
 t3 := underlying3
 a3 := Tryz.isAgg3
 z3 := Tryz.sizeOf3
 v3 := Tryz.zeroValue3
 t4 := underlying4
 a4 := Tryz.isAgg4
 z4 := Tryz.sizeOf4
 v4 := Tryz.zeroValue4
 t5 := underlying5
 a5 := Tryz.isAgg5
 z5 := Tryz.sizeOf5
 v5 := Tryz.zeroValue5
 t9 := underlying9
 a9 := Tryz.isAgg9
 z9 := Tryz.sizeOf9
 v9 := Tryz.zeroValue9
 t46 := underlying119
 a46 := Tryz.isAgg119
 z46 := Tryz.sizeOf119
 v46 := Tryz.zeroValue119
 t51 := underlying241
 a51 := Tryz.isAgg241
 z51 := Tryz.sizeOf241
 v51 := Tryz.zeroValue241
 t59 := underlying122
 a59 := Tryz.isAgg122
 z59 := Tryz.sizeOf122
 v59 := Tryz.zeroValue122
 t146 := underlying244
 a146 := Tryz.isAgg244
 z146 := Tryz.sizeOf244
 v146 := Tryz.zeroValue244
 g1 := by kernel_rfl }
open Go.RowKit Go.Lib in
theorem zLM (s sep : ByteArray) (m : Int) (w : World) (hs : s.size < 4294967281) (hm : w.cell? ⟨0, 0, none⟩ = some (.int .i64 m)) :
  Calls Tryz.prog 60 #[.string s, .string sep] w fun e w' => e = .returned (.tuple #[.string ⟨(Lib.cut s.data.toList sep.data.toList).1.toArray⟩, .string ⟨(Lib.cut s.data.toList sep.data.toList).2.1.toArray⟩, .bool (Lib.cut s.data.toList sep.data.toList).2.2]) ∧ ∃ n, w' = w.drewN n := Any.strings_Cut zNa s sep m w hs hm
def zLL : Go.Shelf.Ren := ⟨fun | 146 => 64 | 221 => 97 | 268 => 133 | 138 => 134 | 143 => 135 | 195 => 183 | 197 => 184 | 218 => 185 | 219 => 128 | 260 => 218 | 217 => 174 | 225 => 175 | 224 => 176 | 267 => 177 | 266 => 210 | 314 => 211 | n => n, fun | 9 => 9 | 31 => 83 | 3 => 3 | 4 => 4 | 0 => 0 | 105 => 282 | 21 => 21 | 5 => 5 | 46 => 119 | 119 => 331 | 139 => 334 | 138 => 333 | 146 => 244 | 51 => 241 | n => n, fun | 1 => 0 | 3 => 4 | 4 => 5 | n => n⟩
theorem zNb : Go.Proofs.Lays.n146 Tryz.prog zLL := {
 mixed := by kernel_rfl
 f138 := func134.trans (congrArg some (by kernel_rfl))
 f143 := func135.trans (congrArg some (by kernel_rfl))
 f146 := func64.trans (congrArg some (by kernel_rfl))
 f195 := func183.trans (congrArg some (by kernel_rfl))
 f197 := func184.trans (congrArg some (by kernel_rfl))
 f217 := func174.trans (congrArg some (by kernel_rfl))
 f218 := func185.trans (congrArg some (by kernel_rfl))
 f219 := func128.trans (congrArg some (by kernel_rfl))
 f221 := func97.trans (congrArg some (by kernel_rfl))
 f224 := func176.trans (congrArg some (by kernel_rfl))
 f225 := func175.trans (congrArg some (by kernel_rfl))
 f260 := func218.trans (congrArg some (by kernel_rfl))
 f266 := func210.trans (congrArg some (by kernel_rfl))
 f267 := func177.trans (congrArg some (by kernel_rfl))
 f268 := func133.trans (congrArg some (by kernel_rfl))
 f314 := func211.trans (congrArg some (by kernel_rfl))
 t0 := underlying0
 a0 := Tryz.isAgg0
 z0 := Tryz.sizeOf0
 v0 := Tryz.zeroValue0
 t3 := underlying3
 a3 := Tryz.isAgg3
 z3 := Tryz.sizeOf3
 v3 := Tryz.zeroValue3
 t4 := underlying4
 a4 := Tryz.isAgg4
 z4 := Tryz.sizeOf4
 v4 := Tryz.zeroValue4
 t5 := underlying5
 a5 := Tryz.isAgg5
 z5 := Tryz.sizeOf5
 v5 := Tryz.zeroValue5
 t9 := underlying9
 a9 := Tryz.isAgg9
 z9 := Tryz.sizeOf9
 v9 := Tryz.zeroValue9
 t21 := underlying21
 a21 := Tryz.isAgg21
 z21 := Tryz.sizeOf21
 v21 := Tryz.zeroValue21
 t31 := underlying83
 a31 := Tryz.isAgg83
 z31 := Tryz.sizeOf83
 v31 := Tryz.zeroValue83
 t46 := underlying119
 a46 := Tryz.isAgg119
 z46 := Tryz.sizeOf119
 v46 := Tryz.zeroValue119
 t51 := underlying241
 a51 := Tryz.isAgg241
 z51 := Tryz.sizeOf241
 v51 := Tryz.zeroValue241
 t105 := underlying282
 a105 := Tryz.isAgg282
 z105 := Tryz.sizeOf282
 v105 := Tryz.zeroValue282
 t119 := underlying331
 a119 := Tryz.isAgg331
 z119 := Tryz.sizeOf331
 t138 := underlying333
 a138 := Tryz.isAgg333
 z138 := Tryz.sizeOf333
 v138 := Tryz.zeroValue333
 t139 := underlying334
 a139 := Tryz.isAgg334
 z139 := Tryz.sizeOf334
 v139 := Tryz.zeroValue334
 t146 := underlying244
 a146 := Tryz.isAgg244
 z146 := Tryz.sizeOf244
 v146 := Tryz.zeroValue244
 g1 := by kernel_rfl
 g3 := by kernel_rfl
 g4 := by kernel_rfl }
open Go.RowKit Go.Lib in
theorem zLs (s sep : ByteArray) (m : Int) (w : World) (hs : s.size < 4294967281) (hm : w.cell? ⟨0, 0, none⟩ = some (.int .i64 m)) (h1 : 1 ≤ sep.size) :
  Calls Tryz.prog 64 #[.string s, .string sep] w fun e w' =>
   e = .returned (.slice (some ⟨w.heap.size, 0, none⟩) (Lib.countB s sep + 1) (Lib.countB s sep + 1)) ∧ w' = w.alloc (.cells ((Lib.splitB sep 0 (Lib.countB s sep) s).map Value.string).toArray 9) := Any.strings_Split zNb (by kernel_rfl) s sep m w hs hm h1
end ZP
namespace Go.Eng
open Go
structure GRead (P : Program) (m : Mem) : Prop extends GTabsR P m where
 syn : ∃ tp p, GV P "strconv.ErrSyntax" #[.iface tp p] m
 len : GInt 0 m
theorem GRead.le {P : Program} {m m' : Mem} (h : GRead P m) (hm : m.le m') : GRead P m' :=
 ⟨h.toGTabsR.le hm, by obtain ⟨tp, p, h1⟩ := h.syn; exact ⟨tp, p, h1.le hm⟩, h.len.le hm⟩
theorem zMf {s : List UInt8} (h : ∀ n, n ≤ 999999999999999999 → s = decL n → s.length ≤ 18 → False) : numV s = none := by
 cases hn : numV s with
 | none => rfl
 | some n =>
  obtain ⟨h1, h2, _, h3⟩ := zMg hn
  exact (h n h3 h1 h2).elim
theorem zLn {n : Nat} (h : n ≤ 999999999999999999) : Lib.atoiAll (decL n) = .ok (n : Int) := by
 obtain ⟨h1, h2, _⟩ := zK4 n
 have h0 : decL n ≠ [] := by rw [decL]; split <;> simp
 rcases zLv h0 h1 with ⟨h3, _⟩ | ⟨_, h4⟩
 ·rw [h3, h2]
 ·omega
theorem zNZ {s : List UInt8} {v : Int} (h : Lib.atoiAll s = .ok v) : numV s = if 0 ≤ v ∧ s.length ≤ 18 ∧ decL v.toNat = s then some v.toNat else none := by
 split
 ·rename_i h1
  obtain ⟨h2, h3, h4⟩ := h1
  have h5 : decV s = v.toNat := by rw [← h4]; exact (zK4 _).2.1
  unfold numV
  rw [if_pos ⟨h3, by rw [h5]; exact h4⟩, h5]
 ·rename_i h1
  refine zMf fun n hn hs hl => h1 ?_
  subst hs
  rw [zLn hn] at h
  injection h with h
  subst h
  exact ⟨by omega, hl, by simp⟩
theorem zNJ {s : List UInt8} (h : ∀ v, Lib.atoiAll s ≠ .ok v) : numV s = none :=
 zMf fun n hn hs _ => h n (by rw [hs]; exact zLn hn)
theorem zMT {s : List UInt8} {v : Int} (h : Lib.atoiAll s = .ok v) : -9223372036854775808 ≤ v ∧ v ≤ 9223372036854775807 := by
 cases s with
 | nil => cases h
 | cons c r =>
  unfold Lib.atoiAll at h
  simp only at h
  split at h
  ·cases h
  ·cases h
  ·split at h
   ·cases h
   ·split at h
    ·cases h
    ·injection h with h
     subst h
     rename_i h1 h2
     split <;> omega
theorem zM0 (L : List ByteArray) : L.map Value.string = (L.map (·.data.toList)).map fun x => str x := by
 rw [List.map_map]
 apply List.map_congr_left
 intro b _
 rfl
end Go.Eng
namespace ZP
open Go Go.Eng
theorem zMl (c : UInt8) {s : List UInt8} (hs : s.length < 4294967281) {w0 : World} {m : Mem} {H : SHeap} (hg : GInt 0 m) :
  Does Tryz.prog 64 #[str s, str [c]] w0 m H (fun v m' H' => m' = m ∧ ∃ b, v = .slice (some ⟨b, 0, none⟩) (spl c s).length (spl c s).length ∧ H' = .row (some ⟨b, 0, none⟩) (spl c s).length 9 1 (strs (spl c s)) :: H) := by
 intro w hw
 obtain ⟨z, hz⟩ := hg.cell hw
 refine (callsIn_wide.2 (zLs ⟨s.toArray⟩ ⟨[c].toArray⟩ z w (by simpa [ByteArray.size] using hs) hz (by simp [ByteArray.size]))).mono ?_
 rintro e w' ⟨rfl, rfl⟩
 obtain ⟨h1, h2⟩ := zMm c s
 have hc : Lib.countB ⟨s.toArray⟩ ⟨[c].toArray⟩ = Lib.count s [c] := rfl
 have hm := Lib.splitB_data ⟨[c].toArray⟩ 0 (Lib.count s [c]) ⟨s.toArray⟩
 have hm2 : (Lib.splitB ⟨[c].toArray⟩ 0 (Lib.count s [c]) ⟨s.toArray⟩).map (·.data.toList) = spl c s := hm.trans h1
 rw [hc, zM0, hm2, ← h2]
 have hk := hw.alloc (.cells ((spl c s).map fun x => str x).toArray 9 (0, 0))
 have hl := Lib.splitB_length_le ⟨[c].toArray⟩ 0 (Lib.count s [c]) ⟨s.toArray⟩
 have hn : (spl c s).length ≤ s.length + 1 := by
  rw [h2]
  have : ∀ (f : Nat) (t : List UInt8), Lib.countFrom [c] f t ≤ t.length := by
   intro f
   induction f with
   | zero => intro t; simp [Lib.countFrom]
   | succ f ih =>
    intro t
    rw [Lib.countFrom]
    split
    ·omega
    ·have h3 := ih (t.drop ((Lib.index t [c]).toNat + 1))
     rw [zK5] at *
     by_cases hct : c ∈ t
     ·rw [if_pos hct] at *
      have h4 := congrArg List.length (zLD c hct)
      simp only [List.length_append, List.length_cons] at h4
      rw [List.length_drop] at h3
      simp only [Int.toNat_natCast, List.length_singleton] at h3 ⊢
      omega
     ·rename_i h5
      rw [if_neg hct] at h5
      simp at h5
  have := this (s.length + 1) s
  unfold Lib.count
  omega
 exact ⟨_, m, _, rfl, ⟨rfl, _, rfl, rfl⟩, hk.blkRow (zBf _).symm (fun e he => by unfold strs at he; obtain ⟨x, _, rfl⟩ := List.mem_map.1 he; rfl) (zY _) (by omega)⟩
theorem zNg (c : UInt8) {s : List UInt8} (hs : s.length < 4294967281) {w0 : World} {m : Mem} {H : SHeap} (hg : GInt 0 m) :
  Does Tryz.prog 60 #[str s, str [c]] w0 m H (Gives (.tuple #[str (pre c s), str (s.drop ((pre c s).length + 1)), .bool (dcd (c ∈ s))]) m H) := by
 refine Does.ofBelow fun w hw => ?_
 obtain ⟨z, hz⟩ := hg.cell hw
 refine (zLM ⟨s.toArray⟩ ⟨[c].toArray⟩ z w (by simpa [ByteArray.size] using hs) hz).mono ?_
 rintro e w' ⟨rfl, n, rfl⟩
 refine ⟨?_, ⟨rfl, rfl, rfl, Nat.le_refl _, fun _ _ => rfl⟩⟩
 have : Lib.cut s [c] = _ := zNS c s
 rw [show (⟨s.toArray⟩ : ByteArray).data.toList = s from rfl, show (⟨[c].toArray⟩ : ByteArray).data.toList = [c] from rfl, this, y6]
theorem zLe {s t : List UInt8} (w0 : World) (m : Mem) (H : SHeap) : Does Tryz.prog 94 #[str s, str t] w0 m H (Gives (.tuple #[str (if Lib.hasPrefix s t then s.drop t.length else s), .bool (Lib.hasPrefix s t)]) m H) :=
 Does.ofSame fun w _ => zK8 ⟨s.toArray⟩ ⟨t.toArray⟩ w
theorem zMo {t : List UInt8} (hs : t.length ≤ 281474976710656) {w0 : World} {m : Mem} {H : SHeap} (hg : GRead Tryz.prog m) :
  Does Tryz.prog 129 #[str t] w0 m H (fun v m' H' => m' = m ∧ H' = H ∧ ((∃ z, Lib.atoiAll t = .ok z ∧ v = .tuple #[.int .i64 z, .nilIface]) ∨ ((∀ z, Lib.atoiAll t ≠ .ok z) ∧ ∃ z T p, v = .tuple #[.int .i64 z, .iface T p]))) := by
 rcases h : Lib.atoiAll t with z | _ | _
 ·refine Does.mono (Does.ofBelow (v := .tuple #[.int .i64 z, .nilIface]) fun w hw => ?_) ?_
  ·refine (u5 ⟨t.toArray⟩ (by simp [ByteArray.size]; omega) z (by simpa using h) w).mono ?_
   rintro e w' ⟨rfl, (rfl | ⟨x, rfl⟩)⟩
   ·exact ⟨rfl, RowKit.Below.refl _ _⟩
   ·exact ⟨rfl, Lib.bytesWorld_below _ _ _⟩
  ·rintro v m' H' ⟨rfl, rfl, rfl⟩
   exact ⟨rfl, rfl, .inl ⟨z, rfl, rfl⟩⟩
 ·intro w hs'
  obtain ⟨tp, p, hr⟩ := hg.syn
  refine (callsIn_wide.2 (u3 ⟨t.toArray⟩ (by simpa [ByteArray.size] using hs) (by exact h) tp p w (hr.var hs'))).mono ?_
  rintro e w' ⟨N, he, _, _, hb⟩
  exact ⟨_, m, H, he, ⟨rfl, rfl, .inr ⟨fun z hz => (by cases hz), _, _, _, rfl⟩⟩, hs'.below_keep hb⟩
 ·intro w hs'
  obtain ⟨tp, p, hr⟩ := hg.rng
  refine (callsIn_wide.2 (u2 ⟨t.toArray⟩ (by simpa [ByteArray.size] using hs) (by simpa using h) tp p w (hr.var hs'))).mono ?_
  rintro e w' ⟨N, he, _, _, hb⟩
  exact ⟨_, m, H, he, ⟨rfl, rfl, .inr ⟨fun z hz => (by cases hz), _, _, _, rfl⟩⟩, hs'.below_keep hb⟩
attribute [local irreducible] WL WC WQ QFun zJ Does Q1 zD zB Go.Addr.add
namespace ZD90a
theorem zal {G G' : Prop} (next : G') (h : Bx G' → G := by intro zzn; (first | (refine iF 49 rfl ?_; refine zU func49 ?_ (hs := zDu (by omega) (by assumption))) | (refine zJY rfl ?_; refine WL.eqlNilI rfl (by first | exact .inr ⟨_, _, rfl, rfl⟩ | exact .inl ⟨rfl, rfl⟩) rfl rfl ?_)); (repeat revert zzf); exact zzn.out) : G := h ⟨next⟩
end ZD90a
open ZD90a in
theorem zLy (s : List UInt8) (hs : s.length ≤ 281474976710656) {w0 : World} {m : Mem} {H : SHeap} (hg : GRead Tryz.prog m) :
  Does Tryz.prog 93 #[str s] w0 m H (fun v m' H' => m' = m ∧ H' = H ∧ ∃ z : Int, v = .tuple #[.int .i64 z, .bool (numV s).isSome] ∧ ∀ k, numV s = some k → z = (k : Int)) := by
 refine Does.of_body func93 rfl ntmps93 rfl ?_
 have hgt := hg.toGTabs
 try (refine stg ?_; intros)
 refine zA func129 ?_ (hs := zMo hs hg)
 rintro v m H ⟨rfl, rfl, (⟨z, hz, rfl⟩ | ⟨hz, z, T, p, rfl⟩)⟩
 ·have hb := zMT hz
  have hv := zNZ hz
  by_cases h0 : 0 ≤ z
  ·obtain ⟨n, rfl⟩ : ∃ n : Nat, z = (n : Int) := ⟨z.toNat, by omega⟩
   by_cases h18 : s.length ≤ 18
   ·generalize hX : decL ((n : Int)).toNat = X at *
    by_cases he : X = s
    ·have hv2 : numV s = some n := by rw [hv, if_pos ⟨h0, h18, he⟩, Int.toNat_natCast]
     try (refine stg ?_; intros)
     rw [hX]
     try (refine stg ?_; intros)
     rw [zE he]
     exact q_fz (H0 := H) ⟨rfl, rfl, (n : Int), by rw [hv2], fun k hk => by rw [hv2] at hk; injection hk with hk; rw [hk]⟩
    ·have hv2 : numV s = none := by rw [hv, if_neg (fun h => he h.2.2)]
     try (refine stg ?_; intros)
     rw [hX]
     try (refine stg ?_; intros)
     rw [zH he]
     exact q_fz (H0 := H) ⟨rfl, rfl, (n : Int), by rw [hv2], fun k hk => by rw [hv2] at hk; cases hk⟩
   ·have hv2 : numV s = none := by rw [hv, if_neg (fun h => h18 h.2.1)]
    try (refine stg ?_; intros)
    rw [zH (show ¬ ((s.length : Int) ≤ 18) by omega)]
    exact q_fz (H0 := H) ⟨rfl, rfl, (n : Int), by rw [hv2], fun k hk => by rw [hv2] at hk; cases hk⟩
  ·have hv2 : numV s = none := by rw [hv, if_neg (fun h => h0 h.1)]
   try (refine stg ?_; intros)
   rw [zH h0]
   exact q_fz (H0 := H) ⟨rfl, rfl, z, by rw [hv2], fun k hk => by rw [hv2] at hk; cases hk⟩
 ·have hv := zNJ hz
  try (refine stg ?_; intros)
  exact q_fz (H0 := H) ⟨rfl, rfl, z, by rw [hv], fun k hk => by rw [hv] at hk; cases hk⟩
end ZP
