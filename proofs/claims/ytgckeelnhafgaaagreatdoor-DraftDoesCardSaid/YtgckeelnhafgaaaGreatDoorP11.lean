/-
  Parts of a walk, joined. No condition.
-/
import Derived.Test.YtgckeelnhafgaaaGreatDoorP10
import Derived.ChangeMaps5
import Derived.ReadAgain
import Derived.ChangeBook
import Derived.Deep.Slices
import Derived.WalkKit
import Derived.ProofKit
import Derived.OpenShut
import Derived.JoinedCond
import Derived.Shelf.Small.Strs
import Derived.Shelf.Strconv.Atoi
import Derived.Shelf.Strconv.Itoa0
import Derived.Shelf.Strconv.Itoa1
import Derived.Shelf.LaysM
import Derived.Shelf.Strconv.Itoa2
import Derived.Shelf.Strconv.Itoa3
import Derived.Shelf.Strconv.Itoa4
import Derived.Shelf.Strconv.AtoiErrFast
import Derived.Shelf.Strconv.ParseIntEmpty
import Derived.Shelf.Strconv.AtoiFail
import Derived.Shelf.Strconv.Clone
import Derived.Shelf.Strconv.SyntaxError
import Derived.Shelf.LaysC
import Derived.Shelf.Strconv.ToError
import Derived.Shelf.Strconv.Lower
import Derived.Shelf.Strconv.ParseUint10
import Derived.Shelf.Strconv.ParseUint10Empty
import Derived.Shelf.Strconv.ParseUint10Any
import Derived.Shelf.Strconv.ParseInt10
import Derived.Shelf.Strconv.AtoiLong
import Derived.Shelf.Strconv.AtoiInnerAll
import Derived.Shelf.Strconv.RangeError
import Derived.Shelf.Strconv.ToErrorRange
import Derived.Shelf.Strconv.AtoiAll
import Derived.Shelf.Strconv.ErrVarAll
import Derived.Shelf.Strings.Search1
import Derived.Shelf.Strings.Prefix
set_option linter.all false
set_option maxRecDepth 100000
set_option maxHeartbeats 4000000
open Go.Proofs Go.Proofs.YtgckeelnhafgaaaGreatDoor
open Tryz
open Go Go.Eng
variable {P : Program} {ro : Option Nat} {n : Nat} {w0 : World} {Q : Exit → Act → World → Prop} {r : Env} {ds : List Dfr} {m : Mem} {H : SHeap} {ops : Array Oper} {l : List Oper} {d : Nat} {ty : TypeId} {pos : String} {after : Array Edge}
namespace ZP
open Go Go.Eng
attribute [local irreducible] WL WC WQ QFun zJ Does Q1 zD zB Go.Addr.add
theorem zId {br rc : Nat} {mp : Value} {ra : Option Addr} {M : List Dr} {p q : Nat} (hp : p < M.length) (hq : q < M.length) (hL : M.length ≤ 256) (hf : Falls M) (hp0 : Anc M 0 p) (hq0 : Anc M 0 q) {w0 : World} {m : Mem} {H : SHeap} (hat : ∀ d ∈ M, PsAt m d) (hps : ∀ (i : Nat) (d : Dr), M[i]? = some d → d.ps.length ≤ 2)
  {E : List (List Value)} (hE : rdrs M = E) (h1 : Eng.Item.bl br [.slice ra M.length rc, mp] 69 ∈ H) (h2 : Eng.Item.row ra rc 118 3 E ∈ H) :
  Does Tryz.prog 59 #[.pp br, .int .i64 (p : Int), .int .i64 (q : Int)] w0 m H (Gives (.int .i64 (baseK M p q : Int)) m H) := by
 subst hE
 exact Does.gives_mem2 h1 h2 (fun h => by cases h) fun H1 => zDA hp hq hL hf hp0 hq0 w0 m H1 hat hps
attribute [local irreducible] cfs xC
namespace ZD82a
theorem zal {G G' : Prop} (next : G') (h : Bx G' → G := by intro zzn; (first | (refine WL.lookT (es := brE _) (z := .int .i64 0) rfl rfl zhs rfl rfl (fun _ => rfl) rfl ?_)); (repeat revert zzf); exact zzn.out) : G := h ⟨next⟩
end ZD82a
open ZD82a in
theorem zGE {bh bm cap c br rm rc : Nat} {a ra : Option Addr} {L M : List Dr} {B : Br} (kd : Int) (s u : Tx) (hand at_ : Int) (t : Tx) (w0 : World) (m : Mem) (H : SHeap) (hw : WOk m L M B c) :
  Does Tryz.prog 54 #[.agg #[.pp bh, .pp br], .agg #[.int .i64 kd, str s, str u, .int .i64 hand, .int .i64 at_, str t]] w0 m (.bl bh [.slice a L.length cap, .map (some bm)] 90 :: .row a cap 97 3 (drs L) :: .blk bm (mapT (brE B) c) :: .bl br [.slice ra M.length rc, .map (some rm)] 69 :: .row ra rc 118 3 (rdrs M) :: .blk rm (mapT (brE B) c) :: H) (Turned bh bm br rm B m H) := by
 refine Does.of_body func54 rfl ntmps54 rfl ?_
 have hsl := hw.same.length
 have hLf := hw.ok.few
 refine stg ?_; intros; rename_i b2 b3
 refine zN func11 ?_ (hs := zHV s u hand _ _ _ hw.ok)
 rintro v m5 H5 ⟨hle5, al, cl, hX⟩
 obtain ⟨n, ca, cn, cc, e, HX, rfl, hsat, hE⟩ : ∃ (n : Nat) (ca : Option Addr) (cn cc e : Nat) (HX : SHeap), v = .tuple #[.int .i64 (n : Int), .slice ca cn cc, .int .i64 (e : Int)] ∧
   (∀ w, Sat w0 m5 H5 w → Sat w0 m5 (.bl br [.slice ra M.length rc, .map (some rm)] 69 :: .row ra rc 118 3 (rdrs M) :: .blk rm (mapT (brE B) c) :: .bl b2 [.pp bh, .pp br] 59 :: .bl b3 [.int .i64 kd, str s, str u, .int .i64 hand, .int .i64 at_, str t] 64 :: HX) w) ∧
   ((e ≠ 0 ∧ wB L B s u hand = e ∧ n = 0 ∧ cn = 0 ∧ HX = .bl bh [.slice a L.length cap, .map (some bm)] 90 :: .row a cap 97 3 (drs L) :: .blk bm (mapT (brE B) c) :: H) ∨
    (e = 0 ∧ wB L B s u hand = 0 ∧ n = L.length ∧ ∃ (k q : Nat) (d : Dr) (a' : Option Addr) (cap' : Nat), yP B s = some k ∧ yP B u = some q ∧ cn = (merRes L k q).2.1.length ∧ (merRes L k q).2.2 = 0 ∧ d.ps = [k, q] ∧ d.t = (merRes L k q).1 ∧ (d.h : Int) = hand ∧ PsAt m5 d ∧
     HX = .bl bh [.slice a' (L ++ [d]).length cap', .map (some bm)] 90 :: .row a' cap' 97 3 (drs (L ++ [d])) :: .blk bm (mapT (brE (putB B c s L.length)) (clkB B c s)) :: .row ca cc 138 5 (cfs (merRes L k q).2.1) :: H)) := by
  rcases hX with ⟨e, he, hne, rfl, rfl⟩ | ⟨k, q, d, a', cap', he, hk, hq, hres, rfl, hps, ht, hh, hpa, rfl⟩
  ·exact ⟨0, none, 0, 0, e, .bl bh [.slice a L.length cap, .map (some bm)] 90 :: .row a cap 97 3 (drs L) :: .blk bm (mapT (brE B) c) :: H, rfl, zpk, .inl ⟨hne, he, rfl, rfl, rfl⟩⟩
  ·exact ⟨L.length, al, (merRes L k q).2.1.length, cl, 0, .bl bh [.slice a' (L ++ [d]).length cap', .map (some bm)] 90 :: .row a' cap' 97 3 (drs (L ++ [d])) :: .blk bm (mapT (brE (putB B c s L.length)) (clkB B c s)) :: .row al cl 138 5 (cfs (merRes L k q).2.1) :: H, rfl, zpk, .inr ⟨rfl, he, rfl, k, q, d, a', cap', hk, hq, rfl, hres, hps, ht, hh, hpa, rfl⟩⟩
 have hbad : ∀ x : Nat, wB L B s u hand = x → x ≠ 0 → e = x ∧ n = 0 ∧ cn = 0 ∧ HX = .bl bh [.slice a L.length cap, .map (some bm)] 90 :: .row a cap 97 3 (drs L) :: .blk bm (mapT (brE B) c) :: H := by
  intro x hx hx0
  rcases hE with ⟨h1, h2, h3, h4, h5⟩ | ⟨h1, h2, _⟩
  ·exact ⟨by omega, h3, h4, h5⟩
  ·omega
 refine WL.heap (H' := .bl br [.slice ra M.length rc, .map (some rm)] 69 :: .row ra rc 118 3 (rdrs M) :: .blk rm (mapT (brE B) c) :: .bl b2 [.pp bh, .pp br] 59 :: .bl b3 [.int .i64 kd, str s, str u, .int .i64 hand, .int .i64 at_, str t] 64 :: HX) hsat ?_
 try (refine stg ?_; intros)
 simp only [wD]
 cases hh : yP B s with
 | none =>
  obtain ⟨rfl, rfl, rfl, rfl⟩ := hbad 4 (by unfold wB; rw [hh]) (by omega)
  simp only [Option.map_none, Option.getD_none, Option.isSome_none]
  try (refine stg ?_; intros)
  rw [zE (show ((0 : Nat) : Int) = 0 from rfl)]
  exact q_fz ⟨rfl, hle5, a, ra, cap, rc, c, L, M, B, hw.le hle5, id, rfl⟩
 | some k =>
 cases hu : yP B u with
 | none =>
  obtain ⟨rfl, rfl, rfl, rfl⟩ := hbad 4 (by unfold wB; rw [hh, hu]) (by omega)
  simp only [Option.map_none, Option.getD_none, Option.isSome_none, Option.map_some, Option.getD_some, Option.isSome_some]
  try (refine stg ?_; intros)
  rw [zE (show ((0 : Nat) : Int) = 0 from rfl)]
  exact q_fz ⟨rfl, hle5, a, ra, cap, rc, c, L, M, B, hw.le hle5, id, rfl⟩
 | some q =>
 simp only [Option.map_some, Option.getD_some, Option.isSome_some]
 by_cases h1 : hand < 0
 ·obtain ⟨rfl, rfl, rfl, rfl⟩ := hbad 2 (by unfold wB; rw [hh, hu]; exact if_pos (.inl h1)) (by omega)
  try (refine stg ?_; intros)
  rw [zE (show ((0 : Nat) : Int) = 0 from rfl)]
  exact q_fz ⟨rfl, hle5, a, ra, cap, rc, c, L, M, B, hw.le hle5, id, rfl⟩
 by_cases h2 : 999999999999999999 < hand
 ·obtain ⟨rfl, rfl, rfl, rfl⟩ := hbad 2 (by unfold wB; rw [hh, hu]; exact if_pos (.inr h2)) (by omega)
  try (refine stg ?_; intros)
  rw [zE (show ((0 : Nat) : Int) = 0 from rfl)]
  exact q_fz ⟨rfl, hle5, a, ra, cap, rc, c, L, M, B, hw.le hle5, id, rfl⟩
 have h12 : ¬ (hand < 0 ∨ 999999999999999999 < hand) := by omega
 by_cases h4 : L.length = 256
 ·obtain ⟨rfl, rfl, rfl, rfl⟩ := hbad 3 (by unfold wB; rw [hh, hu]; simp only []; rw [if_neg h12, if_pos h4]) (by omega)
  try (refine stg ?_; intros)
  rw [zE (show ((0 : Nat) : Int) = 0 from rfl)]
  exact q_fz ⟨rfl, hle5, a, ra, cap, rc, c, L, M, B, hw.le hle5, id, rfl⟩
 have hk0 : k < L.length := hw.ok.head hh
 have hq0 : q < L.length := hw.ok.head hu
 have hb0 : baseK L k q < L.length := by
  have := zAB (xs := xB L k) (ys := xB L q) (n := min k q)
  unfold baseK; omega
 obtain ⟨dk, hdk⟩ : ∃ d, L[k]? = some d := ⟨_, List.getElem?_eq_getElem hk0⟩
 obtain ⟨dq, hdq⟩ : ∃ d, L[q]? = some d := ⟨_, List.getElem?_eq_getElem hq0⟩
 obtain ⟨db, hdb⟩ : ∃ d, L[baseK L k q]? = some d := ⟨_, List.getElem?_eq_getElem hb0⟩
 have tk := (hw.ok.par k dk hdk).2.2.2.1
 have tq := (hw.ok.par q dq hdq).2.2.2.1
 have tb := (hw.ok.par _ db hdb).2.2.2.1
 have hmr : merRes L k q = wres db.t dk.t dq.t := by unfold merRes; rw [hdk, hdq, hdb]; rfl
 have he : wB L B s u hand = (wres db.t dk.t dq.t).2.2 := by unfold wB; rw [hh, hu]; simp only []; rw [if_neg h12, if_neg h4, hdk, hdq, hdb]; rfl
 obtain ⟨ek, hek, _, _, k3⟩ := hw.same.at_ hdk
 obtain ⟨eq, heq, _, _, q3⟩ := hw.same.at_ hdq
 obtain ⟨eb, heb, _, _, b3t⟩ := hw.same.at_ hdb
 have hgk := vE hek
 have hgq := vE heq
 have hgb := vE heb
 unfold rdE at hgk hgq hgb
 rw [k3] at hgk
 rw [q3] at hgq
 rw [b3t] at hgb
 have hnl := wE M
 have hbase : ∀ (w0 : World) (m2 : Mem) (H : SHeap), m5.le m2 → Eng.Item.bl br [.slice ra M.length rc, .map (some rm)] 69 ∈ H → Eng.Item.row ra rc 118 3 (rdrs M) ∈ H → Does Tryz.prog 59 #[.pp br, .int .i64 (k : Int), .int .i64 (q : Int)] w0 m2 H (Gives (.int .i64 (baseK L k q : Int)) m2 H) := by
  intro w0 m2 H hm2 h1 h2
  rw [hw.same.base]
  exact zId (by omega) (by omega) (by omega) hw.falls (hw.rootM (by omega)) (hw.rootM (by omega)) (fun d hd => (hw.atM d hd).le (hle5.trans hm2)) (fun i d hd => (hw.parM hd).1) rfl h1 h2
 generalize hRM : rdrs M = RM at *
 generalize hbb : baseK L k q = b0 at *
 have hb0M : b0 < M.length := by omega
 refine WL.rowSome (a := ra) zhs (by omega) ?_
 rintro r0 rfl
 try (refine stg ?_; intros)
 refine wdw 37 ([.bl b2 [.pp bh, .pp br] 59, .bl br [.slice (some r0) M.length rc, .map (some rm)] 69, .row (some r0) rc 118 3 RM]) ?_
 refine cmg ?_
 refine wc1 9 ?_ (hwl := by intro zm zF zle; refine zA func59 ?_ (hs := hbase _ _ _ zle zhs zhs); rintro _ _ _ ⟨rfl, rfl, rfl⟩; exact sqg)
 refine cmg ?_
 refine wa1 31 ?_
 refine zA func84 ?_ (hs := zGe db.t dk.t dq.t tb tk tq _ _ _)
 rintro v m2 H2 ⟨hle2, al2, cl2, rfl, rfl⟩
 try (refine stg ?_; intros)
 refine waz [.row al2 cl2 138 5 (cfs (xC db.t dk.t dq.t).l)] hle2 ?_
 refine cmg ?_
 refine wdz ?_
 try (refine stg ?_; intros)
 by_cases hbig : 65536 < (xC db.t dk.t dq.t).out.length
 ·obtain ⟨rfl, rfl, rfl, rfl⟩ := hbad 3 (by rw [he, zBN (.inr hbig)]) (by omega)
  try (refine stg ?_; intros)
  rw [zE (show ((0 : Nat) : Int) = 0 from rfl)]
  subst hRM
  exact q_fz ⟨rfl, hle5.trans hle2, a, some r0, cap, rc, c, L, M, B, hw.le (hle5.trans hle2), id, rfl⟩
 ·have hnlg : ¬ Long [db.t, dk.t, dq.t] := by
   rintro ⟨x, hx, hx2⟩
   simp only [List.mem_cons, List.not_mem_nil, or_false] at hx
   rcases hx with rfl | rfl | rfl <;> omega
  have hw1 := zE8 hnlg hbig
  have hwc := zEM db.t dk.t dq.t
  rcases hE with ⟨g1, g2, _⟩ | ⟨rfl, _, rfl, k', q', d, a', cap', hk', hq', hcn, hres, hps, ht, hh2, hpa, hHX⟩
  ·rw [he, hw1] at g2
   exact absurd g2.symm g1
  rw [hh] at hk'
  cases hk'
  rw [hu] at hq'
  cases hq'
  rw [hmr, hw1] at hcn ht hHX
  dsimp only at hcn ht hHX
  generalize xC db.t dk.t dq.t = W at hwc hbig hcn ht hHX ⊢
  subst hcn
  subst hHX
  subst hh2
  refine stg ?_; intros; rename_i b9
  refine WL.persist (b := b9) (by (repeat (first | exact Out.here | apply Out.there))) ?_
  intro m3 hle3 hb9
  try (refine stg ?_; intros)
  subst hRM
  refine WL.heap (H' := .bl br [.slice (some r0) M.length rc, .map (some rm)] 69 :: .row (some r0) rc 118 3 (rdrs M) :: .blk rm (mapT (brE B) c) :: .bl b2 [.pp bh, .pp br] 59 :: .bl b3 [.int .i64 kd, str s, str u, .int .i64 (d.h : Int), .int .i64 at_, str t] 64 :: .bl bh [.slice a' (L ++ [d]).length cap', .map (some bm)] 90 :: .row a' cap' 97 3 (drs (L ++ [d])) :: .blk bm (mapT (brE (putB B c s L.length)) (clkB B c s)) :: .row ca cc 138 5 (cfs W.l) :: .row al2 cl2 138 5 (cfs W.l) :: H) zpk ?_
  obtain ⟨d2, hd1, hd2⟩ : ∃ d2 : Dr, d2 = ⟨d.h, [k, q], .slice (some ⟨b9, 0, none⟩) 2 2, W.out⟩ ∧ PsAt m3 d2 := ⟨_, rfl, PsAt.mem hb9 rfl⟩
  refine zA func83 ?_ (hs := (by subst hd1; exact zD1 s ⟨d.h, [k, q], .slice (some ⟨b9, 0, none⟩) 2 2, W.out⟩ (by omega) rfl _ _ _))
  rintro v m4 H3 ⟨rfl, rfl, ra', rc', rfl⟩
  try (refine stg ?_; intros)
  rw [← hsl, zE (show (L.length : Int) = (L.length : Int) from rfl)]
  try (refine stg ?_; intros)
  refine zA func85 ?_ (hs := zB2 (by omega) (RowR.row zhs) (RowR.row zhs))
  rintro v m H1 ⟨rfl, rfl, rfl⟩
  try (refine stg ?_; intros)
  have hle6 := hle5.trans (hle2.trans hle3)
  have hw3 := (hw.le hle6).add (s := s) (d := d) (e := ⟨d.h, [k, q], .slice (some ⟨b9, 0, none⟩) 2 2, W.out⟩) (by omega) (by rw [hps]; intro p hp; simp at hp; omega) (by rw [hps]; simp) (by rw [hps]; simp) (by rw [ht]; omega) (by omega) (hpa.le (hle2.trans hle3)) hh (hd1 ▸ hd2) rfl hps ht
  exact zR (H0 := .bl bh [.slice a' (L ++ [d]).length cap', .map (some bm)] 90 :: .row a' cap' 97 3 (drs (L ++ [d])) :: .blk bm (mapT (brE (putB B c s L.length)) (clkB B c s)) ::
   .bl br [.slice ra' (M ++ [(⟨d.h, [k, q], .slice (some ⟨b9, 0, none⟩) 2 2, W.out⟩ : Dr)]).length rc', .map (some rm)] 69 :: .row ra' rc' 118 3 (rdrs (M ++ [⟨d.h, [k, q], .slice (some ⟨b9, 0, none⟩) 2 2, W.out⟩])) :: .blk rm (mapT (brE (putB B c s L.length)) (clkB B c s)) :: H)
   ⟨rfl, hle6, a', ra', cap', rc', _, _, _, _, hw3, fun h => h.put (.inl (by rw [hh]; rfl)), rfl⟩ (hd := zpk)
end ZP
namespace ZP
open Go Go.Eng
attribute [local irreducible] WL WC WQ QFun zJ Does Q1 zD zB Go.Addr.add
namespace ZD83a
theorem zal {G G' : Prop} (next : G') (h : Bx G' → G := by intro zzn; (first | (refine WL.lookT (es := brE _) (z := .int .i64 0) rfl rfl zhs rfl rfl (fun _ => rfl) rfl ?_)); (repeat revert zzf); exact zzn.out) : G := h ⟨next⟩
end ZD83a
open ZD83a in
theorem zFo {bh bm cap c br rm rc : Nat} {a ra : Option Addr} {L M : List Dr} {B : Br} (kd : Int) (s u : Tx) (hand at_ : Int) (t : Tx) (w0 : World) (m : Mem) (H : SHeap) (hs9 : s.length ≤ 9223372036854775807) (ht9 : t.length ≤ 9223372036854775807) (hw : WOk m L M B c) :
  Does Tryz.prog 24 #[.agg #[.pp bh, .pp br], .agg #[.int .i64 kd, str s, str u, .int .i64 hand, .int .i64 at_, str t]] w0 m (.bl bh [.slice a L.length cap, .map (some bm)] 90 :: .row a cap 97 3 (drs L) :: .blk bm (mapT (brE B) c) :: .bl br [.slice ra M.length rc, .map (some rm)] 69 :: .row ra rc 118 3 (rdrs M) :: .blk rm (mapT (brE B) c) :: H) (Turned bh bm br rm B m H) := by
 refine Does.of_body func24 rfl ntmps24 rfl ?_
 have hsl := hw.same.length
 have hLf := hw.ok.few
 have hBm := hw.ok.most
 refine stg ?_; intros; rename_i b2 b3
 obtain ⟨q, hq⟩ : ∃ q, q = kd % 18446744073709551616 % 6 := ⟨_, rfl⟩
 rw [← hq]
 have hq6 : 0 ≤ q ∧ q < 6 := by omega
 obtain h | h | h | h | h | h : q = 0 ∨ q = 1 ∨ q = 2 ∨ q = 3 ∨ q = 4 ∨ q = 5 := by omega
 ·try (refine stg ?_; intros)
  refine zN func17 ?_ (hs := zGK s hs9 at_ hBm hLf _ _ _)
  rintro v m5 H5 ⟨rfl, rfl, rfl⟩
  rw [zAi]
  by_cases hn : x6 s
  ·cases hh : yP B s with
   | some k0 =>
    have he : brErr L B s at_ = 280 := by unfold brErr; rw [if_pos (.inl (by rw [hh]; rfl))]
    rw [he, if_neg (by omega), if_neg (by omega)]
    simp only [Option.isSome_some]
    try (refine stg ?_; intros)
    refine zA func52 ?_ (hs := qE s hs9 _ _ _)
    rintro v m6 H6 ⟨rfl, rfl, rfl⟩
    rw [zE hn]
    try (refine stg ?_; intros)
    rw [zE (show ((280 : Nat) : Int) = 280 from rfl)]
    exact q_fz ⟨rfl, Mem.le.refl _, a, ra, cap, rc, c, L, M, B, hw, id, rfl⟩
   | none =>
    have hno : ¬ (yP B s).isSome = true := by rw [hh]; simp
    simp only [Option.isSome_none]
    by_cases hk : 0 ≤ at_ ∧ at_ < (L.length : Int)
    ·by_cases hf : B.length = 32
     ·have he : brErr L B s at_ = 3 := by unfold brErr; rw [if_neg (fun h => h.elim hno (fun h => h hn)), if_neg (fun h => h hk), if_pos hf]
      rw [he, if_neg (by omega), if_neg (by omega)]
      try (refine stg ?_; intros)
      refine zA func52 ?_ (hs := qE s hs9 _ _ _)
      rintro v m6 H6 ⟨rfl, rfl, rfl⟩
      rw [zE hn]
      try (refine stg ?_; intros)
      refine WL.lenMapT (es := brE B) rfl zhs rfl rfl ?_
      rw [uF]
      try (refine stg ?_; intros)
      rw [zE (show ((3 : Nat) : Int) = 3 from rfl)]
      exact q_fz ⟨rfl, Mem.le.refl _, a, ra, cap, rc, c, L, M, B, hw, id, rfl⟩
     ·have he : brErr L B s at_ = 0 := by unfold brErr; rw [if_neg (fun h => h.elim hno (fun h => h hn)), if_neg (fun h => h hk), if_neg hf]
      rw [he, if_pos rfl, if_pos rfl]
      obtain ⟨q1, rfl⟩ : ∃ q : Nat, at_ = (q : Int) := ⟨at_.toNat, by omega⟩
      rw [Int.toNat_natCast]
      try (refine stg ?_; intros)
      refine zA func52 ?_ (hs := qE s hs9 _ _ _)
      rintro v m6 H6 ⟨rfl, rfl, rfl⟩
      rw [zE hn]
      try (refine stg ?_; intros)
      refine WL.lenMapT (es := brE B) rfl zhs rfl rfl ?_
      rw [uF]
      try (refine stg ?_; intros)
      refine WL.putU (es := brE B) (k := s) rfl rfl rfl rfl rfl (by repeat (first | exact Repl.here | apply Repl.there)) ?_
      rw [zDw, zCT]
      try (refine stg ?_; intros)
      rw [zE (show ((0 : Nat) : Int) = 0 from rfl)]
      exact zR (H0 := .bl bh [.slice a L.length cap, .map (some bm)] 90 :: .row a cap 97 3 (drs L) :: .blk bm (mapT (brE (putB B c s q1)) (clkB B c s)) :: .bl br [.slice ra M.length rc, .map (some rm)] 69 :: .row ra rc 118 3 (rdrs M) :: .blk rm (mapT (brE (putB B c s q1)) (clkB B c s)) :: H)
       ⟨rfl, Mem.le.refl _, a, ra, cap, rc, _, L, M, _, ⟨hw.ok.put (by omega) (.inr (by omega)), hw.same, hw.atM⟩, fun h => h.put (.inr hn), rfl⟩ (hd := zpk)
    ·have he : brErr L B s at_ = 5 := by unfold brErr; rw [if_neg (fun h => h.elim hno (fun h => h hn)), if_pos hk]
     rw [he, if_neg (by omega), if_neg (by omega)]
     by_cases h0 : at_ < 0
     ·try (refine stg ?_; intros)
      refine zA func52 ?_ (hs := qE s hs9 _ _ _)
      rintro v m6 H6 ⟨rfl, rfl, rfl⟩
      rw [zE hn]
      try (refine stg ?_; intros)
      rw [zE (show ((5 : Nat) : Int) = 5 from rfl)]
      exact q_fz ⟨rfl, Mem.le.refl _, a, ra, cap, rc, c, L, M, B, hw, id, rfl⟩
     ·try (refine stg ?_; intros)
      refine zA func52 ?_ (hs := qE s hs9 _ _ _)
      rintro v m6 H6 ⟨rfl, rfl, rfl⟩
      rw [zE hn]
      try (refine stg ?_; intros)
      rw [zE (show ((5 : Nat) : Int) = 5 from rfl)]
      exact q_fz ⟨rfl, Mem.le.refl _, a, ra, cap, rc, c, L, M, B, hw, id, rfl⟩
  ·have he : brErr L B s at_ = 280 := by unfold brErr; rw [if_pos (.inr hn)]
   rw [he, if_neg (by omega), if_neg (by omega)]
   try (refine stg ?_; intros)
   refine zA func52 ?_ (hs := qE s hs9 _ _ _)
   rintro v m6 H6 ⟨rfl, rfl, rfl⟩
   rw [zH hn]
   try (refine stg ?_; intros)
   rw [zE (show ((280 : Nat) : Int) = 280 from rfl)]
   exact q_fz ⟨rfl, Mem.le.refl _, a, ra, cap, rc, c, L, M, B, hw, id, rfl⟩
 ·try (refine stg ?_; intros)
  refine zN func18 ?_ (hs := zIX s _ _ _)
  rintro v m5 H5 ⟨rfl, rfl, rfl⟩
  rw [zAi]
  cases hh : yP B s with
  | none =>
   have hx : brE (eraseB B s) = brE B := by rw [← kX]; exact qU _ (by rw [wD, hh]; rfl)
   rw [hx]
   simp only [Option.isSome_none]
   rw [if_neg (by simp)]
   try (refine stg ?_; intros)
   rw [zE (show ((4 : Nat) : Int) = 4 from rfl)]
   exact q_fz ⟨rfl, Mem.le.refl _, a, ra, cap, rc, c, L, M, B, hw, id, rfl⟩
  | some k0 =>
   simp only [Option.isSome_some, if_true]
   try (refine stg ?_; intros)
   refine WL.deleteT (es := brE B) (k := s) rfl rfl rfl rfl (by repeat (first | exact Repl.here | apply Repl.there)) ?_
   rw [kX]
   try (refine stg ?_; intros)
   rw [zE (show ((0 : Nat) : Int) = 0 from rfl)]
   exact zR (H0 := .bl bh [.slice a L.length cap, .map (some bm)] 90 :: .row a cap 97 3 (drs L) :: .blk bm (mapT (brE (eraseB B s)) c) :: .bl br [.slice ra M.length rc, .map (some rm)] 69 :: .row ra rc 118 3 (rdrs M) :: .blk rm (mapT (brE (eraseB B s)) c) :: H)
    ⟨rfl, Mem.le.refl _, a, ra, cap, rc, _, L, M, _, ⟨hw.ok.erase s, hw.same, hw.atM⟩, fun h => h.erase s, rfl⟩ (hd := zpk)
 ·try (refine stg ?_; intros)
  refine zN func53 ?_ (hs := zEI kd s u hand at_ t _ _ _ ht9 hw)
  rintro v m5 H5 ⟨rfl, hle, a, ra, cap, rc, c, L, M, B, hw, hn, rfl⟩
  try (refine stg ?_; intros)
  exact q_fz ⟨rfl, hle, a, ra, cap, rc, c, L, M, B, hw, hn, rfl⟩
 ·try (refine stg ?_; intros)
  refine zN func54 ?_ (hs := zGE kd s u hand at_ t _ _ _ hw)
  rintro v m5 H5 ⟨rfl, hle, a, ra, cap, rc, c, L, M, B, hw, hn, rfl⟩
  try (refine stg ?_; intros)
  exact q_fz ⟨rfl, hle, a, ra, cap, rc, c, L, M, B, hw, hn, rfl⟩
 ·try (refine stg ?_; intros)
  refine zN func28 ?_ (hs := jM at_ _ _ _ hw)
  rintro v m5 H5 ⟨hle, rfl, rfl⟩
  try (refine stg ?_; intros)
  exact q_fz ⟨rfl, hle, a, ra, cap, rc, c, L, M, B, hw.le hle, id, rfl⟩
 ·try (refine stg ?_; intros)
  refine zN func29 ?_ (hs := jB at_ hand _ _ _ hw)
  rintro v m5 H5 ⟨rfl, rfl, rfl⟩
  try (refine stg ?_; intros)
  exact q_fz ⟨rfl, Mem.le.refl _, a, ra, cap, rc, c, L, M, B, hw, id, rfl⟩
end ZP
namespace Go.Eng
open Go
def decB (n : Nat) : UInt8 := UInt8.ofNat (48 + n)
def hexs : List UInt8 := [48, 49, 50, 51, 52, 53, 54, 55, 56, 57, 97, 98, 99, 100, 101, 102]
def hexB (n : Nat) : UInt8 := hexs.getD n 0
def decL (n : Nat) : List UInt8 := if n < 10 then [decB n] else decL (n / 10) ++ [decB (n % 10)]
termination_by n
def hexL (n : Nat) : List UInt8 := if n < 16 then [hexB n] else hexL (n / 16) ++ [hexB (n % 16)]
termination_by n
def decHi (n : Nat) : List UInt8 := if 9 < n then decL (n / 10) else []
def hexHi (n : Nat) : List UInt8 := if 15 < n then hexL (n / 16) else []
theorem zHX (n : Nat) : decHi n ++ [decB (n % 10)] = decL n := by
 rw [decL, decHi]
 by_cases h : n < 10
 ·rw [if_pos h, if_neg (by omega), Nat.mod_eq_of_lt h]; rfl
 ·rw [if_neg h, if_pos (by omega)]
theorem zII (n : Nat) : hexHi n ++ [hexB (n % 16)] = hexL n := by
 rw [hexL, hexHi]
 by_cases h : n < 16
 ·rw [if_pos h, if_neg (by omega), Nat.mod_eq_of_lt h]; rfl
 ·rw [if_neg h, if_pos (by omega)]
theorem zFF {n : Nat} (h : n < 10) : (48 + (n : Int)) = ((decB n).toNat : Int) := by
 have : (decB n).toNat = 48 + n := by
  unfold decB
  rw [UInt8.toNat_ofNat']
  omega
 rw [this]; omega
def hexV (c : UInt8) : Int := if 48 ≤ c.toNat ∧ c.toNat ≤ 57 then (c.toNat : Int) - 48 else if 97 ≤ c.toNat ∧ c.toNat ≤ 102 then (c.toNat : Int) - 87 else -1
theorem zKa {c : UInt8} {k : Nat} (h : k < 16) (e : gb hexs k = c.toNat) : hexV c = (k : Int) := by
 have all : ∀ i : Fin 16, (gb hexs i.1 < 58 → gb hexs i.1 = 48 + i.1) ∧ (¬ gb hexs i.1 < 58 → gb hexs i.1 = 87 + i.1 ∧ 10 ≤ i.1) ∧ 48 ≤ gb hexs i.1 := by decide
 obtain ⟨a1, a2, a3⟩ := all ⟨k, h⟩
 simp only at a1 a2 a3
 rw [e] at a1 a2 a3
 unfold hexV
 by_cases hc : c.toNat < 58
 ·have := a1 hc
  rw [if_pos (by omega)]; omega
 ·obtain ⟨a4, a5⟩ := a2 hc
  rw [if_neg (by omega), if_pos (by omega)]; omega
theorem zKj {c : UInt8} (h : ∀ i < 16, gb hexs i ≠ c.toNat) : hexV c = -1 := by
 have all : ∀ i : Fin 16, (i.1 < 10 → gb hexs i.1 = 48 + i.1) ∧ (¬ i.1 < 10 → gb hexs i.1 = 87 + i.1) := by decide
 unfold hexV
 by_cases h1 : 48 ≤ c.toNat ∧ c.toNat ≤ 57
 ·have h2 := (all ⟨c.toNat - 48, by omega⟩).1 (by simp only; omega)
  simp only at h2
  exact absurd (by omega) (h (c.toNat - 48) (by omega))
 ·rw [if_neg h1]
  by_cases h3 : 97 ≤ c.toNat ∧ c.toNat ≤ 102
  ·have h2 := (all ⟨c.toNat - 87, by omega⟩).2 (by simp only; omega)
   simp only at h2
   exact absurd (by omega) (h (c.toNat - 87) (by omega))
  ·rw [if_neg h3]
def zL (s : List UInt8) (p : Pc) : List UInt8 :=
 if p.b = true then [92, 120, hexB (gb s p.at_ / 16), hexB (gb s p.at_ % 16)]
 else if p.r = 34 ∨ p.r = 92 then [92, UInt8.ofNat p.r]
 else if 32 ≤ p.r ∧ p.r ≤ 126 then [UInt8.ofNat p.r]
 else [92, 123] ++ hexL p.r ++ [125]
def xX (s : List UInt8) (l : List Pc) : List UInt8 := l.flatMap (zL s)
def yG (s : List UInt8) : List UInt8 := [34] ++ xX s (zC s) ++ [34]
def stpW (x : Stp) : List UInt8 := if 0 < x.k then 61 :: decL x.k.toNat else if x.d ≠ [] then 45 :: yG x.d else 43 :: yG x.p
def yM : List Stp → List UInt8
 | [] => []
 | [x] => stpW x
 | x :: y :: l => stpW x ++ [32] ++ yM (y :: l)
end Go.Eng
namespace Go.Eng
open Go Go.RowKit Go.ChangeShapes Go.WideShapes Go.ChangeMaps
section
variable {H : Type} {enc : TypeId × Value → H}
theorem zGI {W W' : World} (hb : Below W.heap.size W W') {p : MemPlace} (hp : p.block < W.heap.size) : W.sameAt W' p := by
 cases p with
 | cell b off =>
  have h := hb.block b hp
  show W'.cell? ⟨b, off, none⟩ = W.cell? ⟨b, off, none⟩
  simp only [World.cell?, h]
 | map b => exact hb.block b hp
theorem zGC {W W' : World} {sp : Nat → Bool} {t : TypeId} {v : Value} {d : DataW H} {p : List MemPlace} (hl : laidOutB P = true) (ht : t < P.types.size) (hr : P.readableRec t = true)
  (h : DataW.Trod enc P W 0 (fun _ => true) true t v d p) (hlt : ∀ q ∈ p, q.block < W.heap.size) (hb : Below W.heap.size W W') (hs : ∀ q ∈ p, sp q.block = true) : DataW.Trod enc P W' 0 sp true t v d p := by
 obtain ⟨n, hn⟩ := h
 have h1 := DataW.trod_carry (w' := W') n _ _ _ hn (fun q hq => zGI hb (hlt q hq))
 exact ⟨n, DataW.trod_respare (kids_book hl hr) (fun t e hT hu => book_sized hr hT hu) n _ _ _ ⟨ht, book_self t⟩ h1 hs⟩
theorem zCa {W W' : World} {sp : Nat → Bool} (hl : laidOutB P = true) (hb : Below W.heap.size W W') : ∀ {ts : List TypeId} {vs : List Value} {ds : List (DataW H)} {p : List MemPlace},
  (∀ t ∈ ts, t < P.types.size ∧ P.readableRec t = true) → DataW.TrodAll enc P W 0 (fun _ => true) true ts vs ds p → (∀ q ∈ p, sp q.block = true) → DataW.TrodAll enc P W' 0 sp true ts vs ds p
 | [], [], [], _, _, h, _ => h
 | t :: ts, v :: vs, d :: ds, p, hts, h, hs => by
  have hlt := DataW.TrodAll.lt h
  obtain ⟨a, b, h1, h2, e⟩ := h
  subst e
  obtain ⟨g1, g2⟩ := hts t List.mem_cons_self
  exact ⟨a, b, zGC hl g1 g2 h1 (fun q hq => hlt q (List.mem_append_left _ hq)) hb (fun q hq => hs q (List.mem_append_left _ hq)),
   zCa hl hb (fun t ht => hts t (List.mem_cons_of_mem _ ht)) h2 (fun q hq => hs q (List.mem_append_right _ hq)), rfl⟩
theorem zHf {f : Func} {s : ChangeSpec} {apart fresh handsOn again : Bool} {W W' : World} {args : Array Value} {ds gs : List (DataW H)} {before : List MemPlace} {tb : TypeId}
  (hW : DataW.Whole enc P f.params.toList s.vars apart W args.toList ds gs before) (hvars : s.vars = []) (hfn : s.fn H (ds ++ gs) = { results := [.lit (.bool true)], args := ds })
  (hres : f.resultTypes = #[tb]) (htb : P.underlying tb = some .bool) (hl : laidOutB P = true) (hts : (f.params.toList.all fun t => decide (t < P.types.size) && P.readableRec t) = true) (hb : Below W.heap.size W W') :
  s.post enc P f apart fresh handsOn again W args (.bool true) W' := by
 have hW2 := hW
 obtain ⟨p, q, hA, hV, e, _, _⟩ := hW
 rw [hvars] at hV
 obtain ⟨rfl, rfl⟩ := trodVars_none hV
 rw [List.append_nil] at e
 subst e
 have hts' : ∀ t ∈ f.params.toList, t < P.types.size ∧ P.readableRec t = true := fun t ht => by simpa using List.all_eq_true.1 hts t ht
 refine zGN (pa := before) (pv := []) hW2 (fun _ _ _ => ?_) (fun sp hs => ?_) (fun _ _ => ?_) (by simp) hb ?_
 ·rw [hfn, hres]; exact trodAll_cons_mk (shut_bool htb _) trodAll_mk0
 ·rw [hfn]; exact zCa hl hb hts' hA hs
 ·rw [hfn, hvars]; rfl
 ·intro j t r h1 h2
  rw [hres] at h1 h2
  match j, h1 with
  | 0, h1 =>
   simp at h1; subst h1
   simp [Value.resultList] at h2
   subst h2
   exact okWide_bool_mk htb _
theorem RowR.came {w0 W : World} {Hp : SHeap} {sz : Nat} {a : Option Addr} {es : List (List Value)} (h1 : ∀ e ∈ es, e.length = sz)
  (h2 : match a with | .none => es = [] | .some b => ∀ j v, es.flatten[j]? = .some v → W.cell? (b.add j) = .some v) : RowR w0 (memOf W) Hp sz a es := by
 intro w hs
 refine ⟨h1, ?_⟩
 cases a with
 | none => exact h2
 | some b =>
  intro j v hj
  have hc := h2 j v hj
  generalize b.add j = c at hc ⊢
  obtain ⟨b, o, s⟩ := c
  cases hh : W.heap[b]? with
  | none => cases s <;> simp [World.cell?, hh] at hc
  | some ob =>
   have := hs.pers b ob hh
   cases s <;> simpa [World.cell?, this, hh] using hc
end
end Go.Eng
namespace ZP
open Go Go.Eng
attribute [local irreducible] WL WC WQ QFun zJ Does Q1 zD zB Go.Addr.add
theorem zEZ (n : Nat) (hn : n ≤ 1000000000) (w0 : World) (m : Mem) (H : SHeap) :
  Does Tryz.prog 122 #[.int .i64 (n : Int)] w0 m H (Gives (str (decL n)) m H) := by
 refine Does.of_body func122 rfl ntmps122 rfl ?_
 have e0 : (48 + (n : Int) % 10) = ((decB (n % 10)).toNat : Int) := by rw [← zFF (show n % 10 < 10 by omega)]; omega
 refine st ?_; intros; rename_i q
 rw [e0]
 refine WL.blkStr (s := [decB (n % 10)]) rfl zhs rfl rfl rfl rfl rfl rfl rfl ?_
 try (refine st ?_; intros)
 refine lpz (fun j r ds m' H' => ∃ (u : Nat) (d : List UInt8), j = 2 * u ∧ r = [(0, .int .i64 (u : Int)), (3, str d)] ∧ ds = [] ∧ m = m' ∧ H' = H ∧ (decHi u ++ d = decL n) ∧ (u ≤ n ∧ d.length + u ≤ n + 1)) (2 * (n)) ⟨n, [decB (n % 10)], rfl, rfl, rfl, rfl, rfl, zHX n, ⟨Nat.le_refl _, by simp; omega⟩⟩ ?_
 rintro j r ds m' H' ⟨u, d, rfl, rfl, rfl, rfl, rfl, hd, hv⟩
 generalize H' = H
 by_cases h9 : 9 < u
 ·have e1 : (48 + (u : Int) / 10 % 10) = ((decB (u / 10 % 10)).toNat : Int) := by rw [← zFF (show u / 10 % 10 < 10 by omega)]; omega
  have e2 : (u : Int) / 10 = ((u / 10 : Nat) : Int) := by omega
  have hl1 : ([decB (u / 10 % 10)] : List UInt8).length = 1 := rfl
  refine st ?_; intros; rename_i q
  rw [e1]
  refine WL.blkStr (s := [decB (u / 10 % 10)]) rfl zhs rfl rfl rfl rfl rfl rfl rfl ?_
  try (refine st ?_; intros)
  rw [e2]
  refine nxz (2 * (u / 10)) ⟨u / 10, [decB (u / 10 % 10)] ++ d, rfl, rfl, rfl, rfl, rfl, ?_, ?_⟩
  ·rw [← hd, ← List.append_assoc, zHX, decHi, if_pos h9]
  ·rw [List.length_append, List.length_singleton]; omega
 ·have e : d = decL n := by rw [← hd, decHi, if_neg h9]; rfl
  subst e
  try (refine st ?_; intros)
  exact q_fz zgm
theorem zKc (c : UInt8) (w0 : World) (m : Mem) (H : SHeap) : Does Tryz.prog 246 #[.int .u8 (c.toNat : Int)] w0 m H (Gives (.int .i64 (hexV c)) m H) := by
 refine Does.of_body func246 rfl ntmps246 rfl ?_
 have hl : ([48, 49, 50, 51, 52, 53, 54, 55, 56, 57, 97, 98, 99, 100, 101, 102] : List UInt8).length = 16 := rfl
 try (refine st ?_; intros)
 refine lpz (fun j r ds m' H' => ∃ (k : Nat), j = 16 - k ∧ r = [(3, .int .i64 (k : Int)), (0, .int .u8 (c.toNat : Int))] ∧ ds = [] ∧ m = m' ∧ H' = H ∧ (k ≤ 16) ∧ (∀ i < k, gb hexs i ≠ c.toNat)) (16 - (0)) ⟨0, rfl, rfl, rfl, rfl, rfl, Nat.zero_le _, fun i h => absurd h (Nat.not_lt_zero _)⟩ ?_
 rintro j r ds m' H' ⟨k, rfl, rfl, rfl, rfl, rfl, hk, hn⟩
 generalize H' = H
 by_cases h1 : k < 16
 ·by_cases h2 : gb hexs k = c.toNat
  ·have e : hexV c = (k : Int) := zKa h1 h2
   rw [e]
   have h3 : (gb [48, 49, 50, 51, 52, 53, 54, 55, 56, 57, 97, 98, 99, 100, 101, 102] k : Int) = (c.toNat : Int) := by rw [← h2]; rfl
   try (refine st ?_; intros)
   exact q_fz zgm
  ·have h3 : ¬ (gb [48, 49, 50, 51, 52, 53, 54, 55, 56, 57, 97, 98, 99, 100, 101, 102] k : Int) = (c.toNat : Int) := by intro h; exact h2 (Int.ofNat.inj h)
   try (refine st ?_; intros)
   refine nxz (16 - (k + 1)) ⟨k + 1, rfl, rfl, rfl, rfl, rfl, ?_, ?_⟩
   ·omega
   ·intro i hi
    by_cases h : i = k
    ·subst h; exact h2
    ·exact hn i (by omega)
 ·have e : hexV c = -1 := zKj fun i hi => hn i (by omega)
  rw [e]
  try (refine st ?_; intros)
  exact q_fz zgm
end ZP
namespace Go.Eng
def Stp.cs (s : Stp) : List Value := [.int .i64 s.k, str s.d, str s.p]
def refN : List Stp → Nat → Int → Bool
 | [], _, _ => true
 | s :: l, i, n =>
  let n' := n + ((s.d.length : Int) + (s.p.length : Int)) + (if 0 < s.k ∧ s.k ≤ 65536 then s.k / 8 else 0)
  if 5000 < n' ∨ 5000 < i then false else refN l (i + 1) n'
def smallOf (l : List Stp) : Bool := refN l 0 0
structure Fit (l : List Stp) : Prop where
 len : l.length ≤ 1048576
 k : ∀ s ∈ l, -9223372036854775808 ≤ s.k ∧ s.k ≤ 9223372036854775807
 d : ∀ s ∈ l, s.d.length ≤ 1048576
 p : ∀ s ∈ l, s.p.length ≤ 1048576
theorem wI {x : Stp} {l : List Stp} {f t : Int} (h1 : yL x) (h2 : x.k ≤ 65536) (h3 : f + x.k + x.d.length ≤ 65536) (h4 : t + x.k + x.p.length ≤ 65536) : xQ (x :: l) f t = xQ l (f + x.k + x.d.length) (t + x.k + x.p.length) := if_pos ⟨h1, h2, h3, h4⟩
theorem zW {x : Stp} {l : List Stp} {f t : Int} (h : ¬ (yL x ∧ x.k ≤ 65536 ∧ f + x.k + x.d.length ≤ 65536 ∧ t + x.k + x.p.length ≤ 65536)) : xQ (x :: l) f t = none := if_neg h
def szR : Option (Int × Int) → Value
 | some (a, b) => .tuple #[.int .i64 a, .int .i64 b, .bool true]
 | none => .tuple #[.int .i64 0, .int .i64 0, .bool false]
def szP : Option (Int × Int) → Value
 | some (a, b) => .tuple #[.int .i64 a, .int .i64 b, .int .i64 0]
 | none => .tuple #[.int .i64 0, .int .i64 0, .int .i64 2]
end Go.Eng
namespace ZP
open Go Go.Eng
attribute [local irreducible] WL WC WQ QFun zJ Does Q1 zD zB Go.Addr.add
end ZP
namespace Go.Eng
open Go Go.RowKit
def ListP (T : TypeId) (r : Int ⊕ List Stp) (k : IntKind) (m : Mem) (H : SHeap) : Value → Mem → SHeap → Prop := fun v m' H' => m' = m ∧ match r with
 | .inl e => v = .tuple #[.slice none 0 0, .int k e] ∧ H' = H
 | .inr l => ∃ c cp, v = .tuple #[.slice c l.length cp, .int k 0] ∧ H' = .row c cp T 3 (l.map Stp.cs) :: H
end Go.Eng
namespace Go.Eng
open Go
def cN (s : List UInt8) (at_ : Nat) (wr : Int) : Nat := if wr < 0 ∧ at_ < s.length then gb s at_ else 0
end Go.Eng
namespace ZP
open Go Go.Eng
attribute [local irreducible] WL WC WQ QFun zJ Does Q1 zD zB Go.Addr.add
theorem zJx (b : Nat) (s : List UInt8) (at_ : Nat) (wr : Int) (hs : s.length ≤ 1000000000) (ha : at_ ≤ 1000000001) (w0 : World) (m : Mem) (H : SHeap) :
  Does Tryz.prog 186 #[.pp b] w0 m (.bl b [str s, .int .i64 (at_ : Int), .int .i64 wr] 285 :: H) (Gives (.int .u8 (cN s at_ wr : Int)) m (.bl b [str s, .int .i64 (at_ : Int), .int .i64 wr] 285 :: H)) := by
 refine Does.of_body func186 rfl ntmps186 rfl ?_
 by_cases h1 : wr < 0
 ·by_cases h2 : at_ < s.length
  ·have e : cN s at_ wr = gb s at_ := by unfold cN; rw [if_pos ⟨h1, h2⟩]
   rw [e]
   try (refine st ?_; intros)
   exact q_fz zgm
  ·have e : cN s at_ wr = 0 := by unfold cN; rw [if_neg (by omega)]
   rw [e]
   try (refine st ?_; intros)
   exact q_fz zgm
 ·have e : cN s at_ wr = 0 := by unfold cN; rw [if_neg (by omega)]
  rw [e]
  try (refine st ?_; intros)
  exact q_fz zgm
end ZP
namespace Go.Eng
open Go
def digF (s : List UInt8) : Nat → Nat → Nat → Nat × Nat × Nat
 | 0, n, a => (0, n, a)
 | f + 1, n, a => if a < s.length ∧ 0 ≤ hexV (UInt8.ofNat (gb s a)) then
   ((digF s f (16 * n + (hexV (UInt8.ofNat (gb s a))).toNat) (a + 1)).1 + 1, (digF s f (16 * n + (hexV (UInt8.ofNat (gb s a))).toNat) (a + 1)).2) else (0, n, a)
end Go.Eng
namespace ZP
open Go Go.Eng
attribute [local irreducible] WL WC WQ QFun zJ Does Q1 zD zB Go.Addr.add
attribute [local irreducible] cN hexV
theorem zJg (k : Nat) (hk : k ≤ 255) (w0 : World) (m : Mem) (H : SHeap) : Does Tryz.prog 246 #[.int .u8 (k : Int)] w0 m H (Gives (.int .i64 (hexV (UInt8.ofNat k))) m H) := by
 have e : (k : Int) = ((UInt8.ofNat k).toNat : Int) := by rw [UInt8.toNat_ofNat']; omega
 rw [e]
 have := zKc (UInt8.ofNat k) w0 m H
 exact this
namespace ZEP6a
theorem zal {G G' : Prop} (next : G') (h : Bx G' → G := by intro zzn; (first | (refine iF 186 rfl ?_; refine zU func186 ?_ (hs := zJx _ _ _ _ (by omega) (by omega) _ _ _)) | (refine iF 246 rfl ?_; refine zU func246 ?_ (hs := zJg _ (by assumption) _ _ _))); (repeat revert zzf); exact zzn.out) : G := h ⟨next⟩
end ZEP6a
end ZP
namespace Go.Eng
open Go
inductive Got (α : Type)
 | yes (a : Nat) (v : α)
 | no (w : Nat)
def partF (s : List UInt8) (a : Nat) : Got (List UInt8) :=
 if a < s.length ∧ (gb s a = 34 ∨ gb s a = 92) then .yes (a + 1) [UInt8.ofNat (gb s a)]
 else if a < s.length ∧ gb s a = 120 then
  if (digF s 2 0 (a + 1)).1 < 2 then .no (digF s 2 0 (a + 1)).2.2 else .yes (digF s 2 0 (a + 1)).2.2 [UInt8.ofNat (digF s 2 0 (a + 1)).2.1]
 else if a < s.length ∧ gb s a = 123 then
  if (digF s 6 0 (a + 1)).1 = 0 ∨ ¬ ((digF s 6 0 (a + 1)).2.2 < s.length ∧ gb s (digF s 6 0 (a + 1)).2.2 = 125) then .no (digF s 6 0 (a + 1)).2.2
  else .yes ((digF s 6 0 (a + 1)).2.2 + 1) (fmb (rn ((digF s 6 0 (a + 1)).2.1 : Int)))
 else .no a
def quoF (s : List UInt8) : Nat → Nat → List UInt8 → Got (List UInt8)
 | 0, a, _ => .no a
 | f + 1, a, o =>
  if a < s.length ∧ gb s a = 34 then .yes (a + 1) o
  else if a < s.length ∧ gb s a = 92 then
   match partF s (a + 1) with
   | .no w => .no w
   | .yes e t => quoF s f e (o ++ t)
  else if a < s.length ∧ 32 ≤ gb s a ∧ gb s a ≤ 126 then quoF s f (a + 1) (o ++ [UInt8.ofNat (gb s a)])
  else .no a
def quotF (s : List UInt8) (a : Nat) : Got (List UInt8) := if a < s.length ∧ gb s a = 34 then quoF s (s.length + 1) (a + 1) [] else .no a
def sub (s : List UInt8) (a e : Nat) : List UInt8 := (s.drop a).take (e - a)
def qokF (s : List UInt8) (a room : Nat) : Got (List UInt8) :=
 match quotF s a with
 | .no w => .no w
 | .yes e t => if t = [] ∨ yG t ≠ sub s a e ∨ room < t.length then .no a else .yes e t
def numE (s : List UInt8) : Nat → Nat → Nat
 | 0, a => a
 | f + 1, a => if a < s.length ∧ 48 ≤ gb s a ∧ gb s a ≤ 57 then numE s f (a + 1) else a
def decV (l : List UInt8) : Nat := l.foldl (fun n c => 10 * n + (c.toNat - 48)) 0
def capV (l : List UInt8) : Nat := l.foldl (fun n c => if n < 1099511627776 then 10 * n + (c.toNat - 48) else n) 0
def numF (s : List UInt8) (a fr to : Nat) : Got Nat :=
 if a < s.length ∧ 49 ≤ gb s a ∧ gb s a ≤ 57 then
  if 65536 - fr < decV (sub s a (numE s (s.length + 1) a)) ∨ 65536 - to < decV (sub s a (numE s (s.length + 1) a)) then .no a
  else .yes (numE s (s.length + 1) a) (decV (sub s a (numE s (s.length + 1) a)))
 else .no a
def stepF (s : List UInt8) (a fr to : Nat) : Got Stp :=
 if a < s.length ∧ gb s a = 61 then
  match numF s (a + 1) fr to with
  | .no w => .no w
  | .yes e n => .yes e ⟨(n : Int), [], []⟩
 else if a < s.length ∧ gb s a = 45 then
  match qokF s (a + 1) (65536 - fr) with
  | .no w => .no w
  | .yes e t => .yes e ⟨0, t, []⟩
 else if a < s.length ∧ gb s a = 43 then
  match qokF s (a + 1) (65536 - to) with
  | .no w => .no w
  | .yes e t => .yes e ⟨0, [], t⟩
 else .no a
def readF (s : List UInt8) : Nat → Nat → Nat → Nat → List Stp → Got (List Stp)
 | 0, a, _, _, _ => .no a
 | f + 1, a, fr, to, l =>
  if a < s.length then
   if l ≠ [] ∧ gb s a ≠ 32 then .no a
   else match stepF s (if l = [] then a else a + 1) fr to with
    | .no w => .no w
    | .yes e x => readF s f e (fr + x.k.toNat + x.d.length) (to + x.k.toNat + x.p.length) (l ++ [x])
  else .yes a l
end Go.Eng
namespace Go.Eng
open Go
def Pc.nb (p : Pc) : List Value := [.int .i64 (p.at_ : Int), .int .i64 (p.w : Int), .int .i32 (p.r : Int), .bool false]
def Pc.nz (p : Pc) : List Value := [.int .i64 (p.at_ : Int), .int .i64 0, .int .i32 (p.r : Int), .bool false]
theorem uS (l : List UInt8) : ∀ (d k : Nat), l.length - k ≤ d → (xD l k).length ≤ l.length - k
 | d, k, h => by
  by_cases hk : k < l.length
  ·have hw := wQ hk
   rw [yQ hk, List.length_cons]
   cases d with
   | zero => omega
   | succ d =>
    have := uS l d (k + (zK l k).w) (by omega)
    omega
  ·rw [xZ hk]; exact Nat.zero_le _
end Go.Eng
namespace ZP
open Go Go.Eng
attribute [local irreducible] WL WC WQ QFun zJ Does Q1 zD zB Go.Addr.add
attribute [local irreducible] zK zC dl xD
theorem zKT (l : List UInt8) (hl : l.length ≤ 1000000) (w0 : World) (m : Mem) (H : SHeap) :
  Does Tryz.prog 167 #[str l] w0 m H (fun v m' H' => m' = m ∧ ∃ c cp, v = .slice c (zC l).length cp ∧ H' = .row c cp 267 4 ((zC l).map Pc.cs) :: H) := by
 refine Does.of_body func167 rfl ntmps167 rfl ?_
 have hcnt := uS l _ 0 (Nat.le_refl _)
 have hp0 : zC l = xD l 0 := by unfold zC; rfl
 refine st ?_; intros; rename_i it
 refine WC.newRow (T := 267) (sz := 4) ?_
 refine lpz (fun j r ds m' H' => ∃ (k : Nat) (c : Option Addr) (cp : Nat) (es : List (List Value)) (pre : List Pc), j = l.length - k ∧ r = [(8, .pp it), (3, .slice c pre.length cp), (0, str l)] ∧ ds = [] ∧ m = m' ∧ H' = .row c cp 267 4 es :: .blk it (.stringIter ⟨l.toArray⟩ k) :: H ∧ (zC l = pre ++ xD l k) ∧ ((pre = [] ∧ es = []) ∨ ∃ ps p, pre = ps ++ [p] ∧ es = ps.map Pc.nb ++ [p.nz] ∧ p.at_ + p.w = k) ∧ (k ≤ l.length)) (l.length - (0)) ⟨0, none, 0, ([] : List (List Value)), ([] : List Pc), rfl, rfl, rfl, rfl, rfl, hp0, .inl ⟨rfl, rfl⟩, Nat.zero_le _⟩ ?_
 rintro j r ds m' H' ⟨k, c, cp, es, pre, rfl, rfl, rfl, rfl, rfl, hp, hes, hkl⟩
 have hpl : pre.length ≤ l.length := by have := congrArg List.length hp; rw [List.length_append] at this; rw [hp0] at this; omega
 have hel : es.length = pre.length := by
  rcases hes with ⟨rfl, rfl⟩ | ⟨ps, p, rfl, rfl, _⟩
  ·rfl
  ·simp
 by_cases hk : k < l.length
 ·have hw := wQ hk
  have hwe := qG l k
  have hre := qD l k
  have em : [Value.int .i64 (k : Int), .int .i64 0, .int .i32 ((dl (l.drop k)).1 : Int), .bool false] = (zK l k).nz := by unfold Pc.nz; rw [vJ, qD]
  rw [yQ hk] at hp
  rcases hes with ⟨rfl, rfl⟩ | ⟨ps, p, rfl, rfl, hpk⟩
  ·have h0 : ([] : List Pc).length = 0 := rfl
   refine st ?_; intros; rename_i q c2 cp2
   rw [List.nil_append, em]
   refine nxz (l.length - (k + (dl (l.drop k)).2)) ⟨k + (dl (l.drop k)).2, c2, cp2, [(zK l k).nz], [zK l k], rfl, rfl, rfl, rfl, rfl, ?_, ?_, ?_⟩
   ·rw [hp, hwe]; rfl
   ·refine .inr ⟨[], zK l k, rfl, rfl, ?_⟩
    rw [vJ, hwe]
   ·omega
  ·have h1 : (ps ++ [p]).length = ps.length + 1 := by simp
   have hget : (ps.map Pc.nb ++ [p.nz])[(ps ++ [p]).length - 1]? = some p.nz := by rw [h1]; simp
   have hset : ∀ e, (ps.map Pc.nb ++ [p.nz]).set ((ps ++ [p]).length - 1) e = ps.map Pc.nb ++ [e] := fun e => by rw [h1]; simp
   have hwp : (k : Int) - (p.at_ : Int) = (p.w : Int) := by omega
   refine WC.rowSome (a := c) (es := ps.map Pc.nb ++ [p.nz]) zhs (by simp) ?_
   rintro c0 rfl
   generalize hE : ps.map Pc.nb ++ [p.nz] = E at *
   have e : [Value.int .i64 (p.at_ : Int), .int .i64 ((k : Int) - (p.at_ : Int)), .int .i32 (p.r : Int), .bool false] = p.nb := by rw [hwp]; rfl
   have hFl : (ps.map Pc.nb ++ [p.nb]).length = (ps ++ [p]).length := by simp
   have en : (ps ++ [p]).length + 1 = (ps ++ [p] ++ [zK l k]).length := by simp
   refine st ?_; intros; rename_i q
   rw [hset, e]
   generalize hF : ps.map Pc.nb ++ [p.nb] = F at *
   refine st ?_; intros; rename_i c2 cp2
   rw [em, hFl, en]
   refine nxz (l.length - (k + (dl (l.drop k)).2)) ⟨k + (dl (l.drop k)).2, c2, cp2, F ++ [(zK l k).nz], ps ++ [p] ++ [zK l k], rfl, rfl, rfl, rfl, rfl, ?_, ?_, ?_⟩
   ·rw [hp, hwe]; simp
   ·refine .inr ⟨ps ++ [p], zK l k, rfl, ?_, ?_⟩
    ·rw [← hF]; simp
    ·rw [vJ, hwe]
   ·omega
 ·obtain rfl : k = l.length := by omega
  rw [xZ hk, List.append_nil] at hp
  rw [hp]
  rcases hes with ⟨rfl, rfl⟩ | ⟨ps, p, rfl, rfl, hpk⟩
  ·have h0 : ([] : List Pc).length = 0 := rfl
   try (refine st ?_; intros)
   refine lpz (fun j r ds m' H' => ∃ (u : Nat), j = 2 * u ∧ r = [(6, .int .i64 0), (3, .slice c ([] : List Pc).length cp)] ∧ ds = [] ∧ m = m' ∧ H' = .row c cp 267 4 [] :: H) (2 * (0)) ⟨0, rfl, rfl, rfl, rfl, rfl⟩ ?_
   rintro j r ds m' H' ⟨u, rfl, rfl, rfl, rfl, rfl⟩
   try (refine st ?_; intros)
   exact q_fz ⟨rfl, c, cp, rfl, rfl⟩
  ·have h1 : (ps ++ [p]).length = ps.length + 1 := by simp
   have hget : (ps.map Pc.nb ++ [p.nz])[(ps ++ [p]).length - 1]? = some p.nz := by rw [h1]; simp
   have hset : ∀ e, (ps.map Pc.nb ++ [p.nz]).set ((ps ++ [p]).length - 1) e = ps.map Pc.nb ++ [e] := fun e => by rw [h1]; simp
   have hwp : (l.length : Int) - (p.at_ : Int) = (p.w : Int) := by omega
   refine WC.rowSome (a := c) (es := ps.map Pc.nb ++ [p.nz]) zhs (by simp) ?_
   rintro c0 rfl
   generalize hE : ps.map Pc.nb ++ [p.nz] = E at *
   have e : [Value.int .i64 (p.at_ : Int), .int .i64 ((l.length : Int) - (p.at_ : Int)), .int .i32 (p.r : Int), .bool false] = p.nb := by rw [hwp]; rfl
   have hps : ps ++ [p] = zC l := hp.symm
   have hE2 : ps.map Pc.nb ++ [p.nb] = (zC l).map Pc.nb := by rw [hp]; simp
   have hcn : (zC l).length ≤ 1000000 := by rw [hp0]; omega
   try (refine st ?_; intros)
   rw [hset, e, hE2]
   rw [hps] at h1 hel ⊢
   refine lpz (fun j r ds m' H' => ∃ (i : Nat) (es : List (List Value)), j = (zC l).length - i ∧ r = [(6, .int .i64 (i : Int)), (3, .slice (some c0) (zC l).length cp)] ∧ ds = [] ∧ m = m' ∧ H' = .row (some c0) cp 267 4 es :: H ∧ (i ≤ (zC l).length) ∧ (es = ((zC l).take i).map Pc.cs ++ ((zC l).drop i).map Pc.nb)) ((zC l).length - (0)) ⟨0, (zC l).map Pc.nb, rfl, rfl, rfl, rfl, rfl, Nat.zero_le _, by simp⟩ ?_
   rintro j r ds m' H' ⟨i, es, rfl, rfl, rfl, rfl, rfl, hi, hes⟩
   have hel2 : es.length = (zC l).length := by rw [hes]; simp; omega
   by_cases hlt : i < (zC l).length
   ·have hmem : (zC l)[i] ∈ zC l := List.getElem_mem hlt
    have hbr := zG9 hmem
    generalize hpi : (zC l)[i] = pi at *
    have hget : es[i]? = some pi.nb := by
     rw [hes, List.getElem?_append_right (by simp; omega)]
     simp only [List.length_map, List.length_take, Nat.min_eq_left (Nat.le_of_lt hlt), Nat.sub_self]
     rw [List.drop_eq_getElem_cons hlt, hpi]; rfl
    have hset2 : es.set i pi.cs = ((zC l).take (i + 1)).map Pc.cs ++ ((zC l).drop (i + 1)).map Pc.nb := by
     rw [hes, List.set_append_right _ _ (by simp; omega)]
     simp only [List.length_map, List.length_take, Nat.min_eq_left (Nat.le_of_lt hlt), Nat.sub_self]
     rw [List.drop_eq_getElem_cons hlt, hpi, List.take_succ_eq_append_getElem hlt, hpi]
     simp
    by_cases hr : pi.r = 65533
    ·by_cases hw1 : pi.w = 1
     ·have hb : pi.b = true := hbr.2 ⟨hr, hw1⟩
      have ec : [Value.int .i64 (pi.at_ : Int), .int .i64 (pi.w : Int), .int .i32 (pi.r : Int), .bool (dcd ((pi.w : Int) = 1))] = pi.cs := by unfold Pc.cs; rw [hb, zE (by omega)]
      try (refine st ?_; intros)
      rw [ec, hset2]
      refine nxz ((zC l).length - (i + 1)) ⟨i + 1, ((zC l).take (i + 1)).map Pc.cs ++ ((zC l).drop (i + 1)).map Pc.nb, rfl, rfl, rfl, rfl, rfl, ?_, ?_⟩
      ·omega
      ·rfl
     ·have hb : pi.b = false := by
       cases hh : pi.b with
       | false => rfl
       | true => exact absurd (hbr.1 hh).2 hw1
      have ec : [Value.int .i64 (pi.at_ : Int), .int .i64 (pi.w : Int), .int .i32 (pi.r : Int), .bool (dcd ((pi.w : Int) = 1))] = pi.cs := by unfold Pc.cs; rw [hb, zH (by omega)]
      try (refine st ?_; intros)
      rw [ec, hset2]
      refine nxz ((zC l).length - (i + 1)) ⟨i + 1, ((zC l).take (i + 1)).map Pc.cs ++ ((zC l).drop (i + 1)).map Pc.nb, rfl, rfl, rfl, rfl, rfl, ?_, ?_⟩
      ·omega
      ·rfl
    ·have hb : pi.b = false := by
      cases hh : pi.b with
      | false => rfl
      | true => exact absurd (hbr.1 hh).1 hr
     have ec : [Value.int .i64 (pi.at_ : Int), .int .i64 (pi.w : Int), .int .i32 (pi.r : Int), .bool false] = pi.cs := by unfold Pc.cs; rw [hb]
     try (refine st ?_; intros)
     rw [ec, hset2]
     refine nxz ((zC l).length - (i + 1)) ⟨i + 1, ((zC l).take (i + 1)).map Pc.cs ++ ((zC l).drop (i + 1)).map Pc.nb, rfl, rfl, rfl, rfl, rfl, ?_, ?_⟩
     ·omega
     ·rfl
   ·obtain rfl : i = (zC l).length := by omega
    rw [List.take_length, List.drop_length, List.map_nil, List.append_nil] at hes
    subst hes
    try (refine st ?_; intros)
    exact q_fz ⟨rfl, some c0, cp, rfl, rfl⟩
end ZP
namespace Go.Eng
open Go Go.RowKit
section
variable {x y : Operand} {t t' : TypeId} {a b : Int}
theorem WL.quo8 (hx : r.ev x = some (.int .u8 a)) (hy : r.ev y = some (.int .u8 b)) (hd : Nat.blt d n = true) (ha : 0 ≤ a ∧ a ≤ 255) (hb : 1 ≤ b)
  (h : WL P ro n w0 ops Q l ((d, .int .u8 (a / b)) :: r) ds m H) : WL P ro n w0 ops Q (⟨some d, .binOp .quo t x y t', ty, pos, after, none⟩ :: l) r ds m H := by
 refine .quo hx hy hd (by omega) ?_
 have h1 : a.tdiv b = a / b := Int.tdiv_eq_ediv_of_nonneg ha.1
 have h2 : a / b ≤ a := Int.ediv_le_self _ ha.1
 have h3 : 0 ≤ a / b := Int.ediv_nonneg ha.1 (by omega)
 rw [h1, qH ⟨h3, by omega⟩]
 exact h
theorem WL.rem8 (hx : r.ev x = some (.int .u8 a)) (hy : r.ev y = some (.int .u8 b)) (hd : Nat.blt d n = true) (ha : 0 ≤ a) (hb : 1 ≤ b)
  (h : WL P ro n w0 ops Q l ((d, .int .u8 (a % b)) :: r) ds m H) : WL P ro n w0 ops Q (⟨some d, .binOp .rem t x y t', ty, pos, after, none⟩ :: l) r ds m H := by
 refine .rem hx hy hd (by omega) ?_
 rw [Int.tmod_eq_emod_of_nonneg ha]
 exact h
end
theorem qT (s t : List UInt8) : bCs s ++ bCs t = bCs (s ++ t) := by simp [bCs]
theorem zHo (s : List UInt8) : ∀ q ∈ bCs s, q.all okCell = true := fun q hq => by
 obtain ⟨c, _, rfl⟩ := List.mem_map.1 hq; rfl
theorem zAV (s : List UInt8) : ∀ q ∈ bCs s, q.length = 1 := fun q hq => by
 obtain ⟨c, _, rfl⟩ := List.mem_map.1 hq; rfl
theorem uM : ∀ (k n : Nat), n < 16 ^ (k + 1) → (hexL n).length ≤ k + 1
 | 0, n, h => by
  rw [hexL, if_pos (by simpa using h)]; exact Nat.le_refl _
 | k + 1, n, h => by
  rw [hexL]
  by_cases h1 : n < 16
  ·rw [if_pos h1]; simp
  ·rw [if_neg h1, List.length_append, List.length_singleton]
   have := uM k (n / 16) (by rw [Nat.div_lt_iff_lt_mul (by omega)]; rw [Nat.pow_succ] at h; exact h)
   omega
theorem qJ (s : List UInt8) (p : Pc) (h : p.r ≤ 1114111) : (zL s p).length ≤ 12 := by
 have := uM 5 p.r (by omega)
 unfold zL
 split
 ·simp
 ·split
  ·simp
  ·split
   ·simp
   ·simp only [List.length_append, List.length_cons, List.length_nil]; omega
end Go.Eng
namespace ZP
open Go Go.Eng
attribute [local irreducible] WL WC WQ QFun zJ Does Q1 zD zB Go.Addr.add
namespace ZEP3a
theorem zal {G G' : Prop} (next : G') (h : Bx G' → G := by intro zzn; (first | (refine WL.quo8 rfl rfl rfl (by omega) (by omega) ?_) | (refine WL.rem8 rfl rfl rfl (by omega) (by omega) ?_)); (repeat revert zzf); exact zzn.out) : G := h ⟨next⟩
end ZEP3a
attribute [local irreducible] zK zC dl xD zL hexHi
open ZEP3a in
theorem zDn (s : List UInt8) (hs : s.length ≤ 1000000) (w0 : World) (m : Mem) (H : SHeap) :
  Does Tryz.prog 123 #[str s] w0 m H (Gives (str (yG s)) m H) := by
 refine Does.of_body func123 rfl ntmps123 rfl ?_
 refine WC.newRow (T := 5) (sz := 1) ?_
 have eG : ∀ (z : Int) (k : Nat), z = (k : Int) → (gb [48, 49, 50, 51, 52, 53, 54, 55, 56, 57, 97, 98, 99, 100, 101, 102] z.toNat : Int) = ((hexB k).toNat : Int) := by rintro z k rfl; rfl
 have hp0 : zC s = xD s 0 := by unfold zC; rfl
 have hpl : (zC s).length ≤ s.length := by have := uS s _ 0 (Nat.le_refl _); rw [hp0]; omega
 have h0 : ([] : List (List Value)).length = 0 := rfl
 refine stg ?_; intros; rename_i a1 a2 c1
 refine zA func167 ?_ (hs := zKT s hs _ _ _)
 rintro v m H1 ⟨rfl, cp0, kp, rfl, rfl⟩
 rw [List.nil_append, show ([[Value.int .u8 34]] : List (List Value)) = bCs [34] from rfl]
 try (refine stg ?_; intros)
 refine lpz (fun j r ds m' H' => ∃ (i : Nat) (a9 : Option Addr) (c9 : Nat) (n9 : Nat) (O : List UInt8), j = (zC s).length - i ∧ r = [(5, .int .i64 (i : Int)), (4, .slice cp0 (zC s).length kp), (0, str s), (3, .slice a9 n9 c9)] ∧ ds = [] ∧ m = m' ∧ H' = .row a9 c9 5 1 (bCs O) :: .row cp0 kp 267 4 ((zC s).map Pc.cs) :: H ∧ (i ≤ (zC s).length) ∧ (n9 = O.length) ∧ (O = [34] ++ xX s ((zC s).take i)) ∧ (O.length ≤ 1 + 12 * i)) ((zC s).length - (0)) ⟨0, a2, c1, 1, [34], rfl, rfl, rfl, rfl, rfl, Nat.zero_le _, rfl, rfl, by simp⟩ ?_
 rintro j r ds m' H' ⟨i, a9, c9, n9, O, rfl, rfl, rfl, rfl, rfl, hi, hn9, hO, hOl⟩
 subst hn9
 have hbl := zS O
 by_cases hlt : i < (zC s).length
 ·obtain ⟨x, hx, hget, htk, hmem, hdr⟩ := zBj (f := Pc.cs) hlt
  refine WC.rowSome (a := cp0) (es := (zC s).map Pc.cs) zhs (by simp; omega) ?_
  rintro p0 rfl
  obtain ⟨_, hax, hrx⟩ := vT hmem
  have hrl : x.r ≤ 1114111 := by have := qZ (jZ hax); rw [← hrx] at this; exact this
  have hW := qJ s x hrl
  have hnext : O ++ zL s x = [34] ++ xX s ((zC s).take (i + 1)) := by
   rw [hO, htk]; unfold xX; rw [List.flatMap_append]; simp
  have e0 : (x.cs)[0]? = some (.int .i64 (x.at_ : Int)) := rfl
  have e2 : (x.cs)[2]? = some (.int .i32 (x.r : Int)) := rfl
  have e3 : (x.cs)[3]? = some (.bool x.b) := rfl
  generalize hE : (zC s).map Pc.cs = E at *
  have h256 : x.r < 256 → (x.r : Int) = ((UInt8.ofNat x.r).toNat : Int) := fun h => by rw [UInt8.toNat_ofNat']; omega
  have hOn : O.length + (zL s x).length ≤ 1 + 12 * (i + 1) := by omega
  cases hb : x.b with
  | true =>
   rw [hb] at e3
   have hg : gb s x.at_ < 256 := zIz s x.at_
   have hw : zL s x = [92, 120, hexB (gb s x.at_ / 16), hexB (gb s x.at_ % 16)] := by unfold zL; rw [if_pos hb]
   have hl16 : ([48, 49, 50, 51, 52, 53, 54, 55, 56, 57, 97, 98, 99, 100, 101, 102] : List UInt8).length = 16 := rfl
   have hwl : (bCs (zL s x)).length = 4 := by rw [hw]; rfl
   have eL : [Value.int .u8 92, .int .u8 120, .int .u8 ((hexB (gb s x.at_ / 16)).toNat : Int), .int .u8 ((hexB (gb s x.at_ % 16)).toNat : Int)] = (bCs (zL s x)).flatten := by rw [hw]; rfl
   have el : (bCs O).length + (bCs (zL s x)).length = (O ++ zL s x).length := by rw [zS, zS, List.length_append]
   try (refine stg ?_; intros)
   refine wdw 9 ([]) ?_
   refine cmg ?_
   refine wa1 7 ?_
   refine stg ?_; intros; rename_i q
   rw [eG ((gb s x.at_ : Int) / 16) (gb s x.at_ / 16) (by omega), eG ((gb s x.at_ : Int) % 16) (gb s x.at_ % 16) (by omega)]
   refine waz [.bl q [.int .u8 92, .int .u8 120, .int .u8 ((hexB (gb s x.at_ / 16)).toNat : Int), .int .u8 ((hexB (gb s x.at_ % 16)).toNat : Int)] 5] zml ?_
   refine wa1 8 ?_
   refine WL.appendR (es := bCs O) (es' := bCs (zL s x)) (by' := 1) rfl rfl rfl rfl (by (repeat (first | exact Out.here | apply Out.there))) (yZ (T := 5) (fz := (0, 0)) (L := [.int .u8 92, .int .u8 120, .int .u8 ((hexB (gb s x.at_ / 16)).toNat : Int), .int .u8 ((hexB (gb s x.at_ % 16)).toNat : Int)]) zhs eL (zAV _)) (zHo _) (zAV _) rfl rfl rfl rfl hbl.symm hwl.symm (by rw [hbl, hwl]; omega) (by omega) rfl ?_
   intro a8 c8
   rw [qT, el]
   try (refine stg ?_; intros)
   refine waz [] zml ?_
   refine wdz ?_
   try (refine stg ?_; intros)
   refine nxz ((zC s).length - (i + 1)) ⟨i + 1, a8, c8, (O ++ zL s x).length, O ++ zL s x, rfl, rfl, rfl, rfl, rfl, ?_, ?_, ?_, ?_⟩
   ·omega
   ·rfl
   ·exact hnext
   ·rw [List.length_append]; omega
  | false =>
   rw [hb] at e3
   by_cases h34 : x.r = 34 ∨ x.r = 92
   ·have hw : zL s x = [92, UInt8.ofNat x.r] := by unfold zL; rw [if_neg (by rw [hb]; decide), if_pos h34]
    have hwl : (bCs (zL s x)).length = 2 := by rw [hw]; rfl
    have eL : [Value.int .u8 92, .int .u8 (x.r : Int)] = (bCs (zL s x)).flatten := by rw [h256 (by omega), hw]; rfl
    have el : (bCs O).length + (bCs (zL s x)).length = (O ++ zL s x).length := by rw [zS, zS, List.length_append]
    rcases h34 with h34 | h34
    all_goals
     refine stg ?_; intros; rename_i q
     refine WL.appendR (es := bCs O) (es' := bCs (zL s x)) (by' := 1) rfl rfl rfl rfl (by (repeat (first | exact Out.here | apply Out.there))) (yZ (T := 5) (fz := (0, 0)) (L := [.int .u8 92, .int .u8 (x.r : Int)]) zhs eL (zAV _)) (zHo _) (zAV _) rfl rfl rfl rfl hbl.symm hwl.symm (by rw [hbl, hwl]; omega) (by omega) rfl ?_
     intro a8 c8
     rw [qT, el]
     try (refine stg ?_; intros)
     refine nxz ((zC s).length - (i + 1)) ⟨i + 1, a8, c8, (O ++ zL s x).length, O ++ zL s x, rfl, rfl, rfl, rfl, rfl, ?_, ?_, ?_, ?_⟩
     ·omega
     ·rfl
     ·exact hnext
     ·rw [List.length_append]; omega
   ·by_cases h32 : 32 ≤ x.r ∧ x.r ≤ 126
    ·have hw : zL s x = [UInt8.ofNat x.r] := by unfold zL; rw [if_neg (by rw [hb]; decide), if_neg h34, if_pos h32]
     have ea : bCs O ++ [[Value.int .u8 (x.r : Int)]] = bCs (O ++ zL s x) := by rw [h256 (by omega), hw, ← qT]; rfl
     have el : (bCs O).length + 1 = (O ++ zL s x).length := by rw [hbl, hw]; simp
     refine stg ?_; intros; rename_i q a8 c8
     rw [ea, el]
     refine nxz ((zC s).length - (i + 1)) ⟨i + 1, a8, c8, (O ++ zL s x).length, O ++ zL s x, rfl, rfl, rfl, rfl, rfl, ?_, ?_, ?_, ?_⟩
     ·omega
     ·rfl
     ·exact hnext
     ·rw [List.length_append]; omega
    ·have hw : zL s x = [92, 123] ++ hexL x.r ++ [125] := by unfold zL; rw [if_neg (by rw [hb]; decide), if_neg h34, if_neg h32]
     have hl16 : ([48, 49, 50, 51, 52, 53, 54, 55, 56, 57, 97, 98, 99, 100, 101, 102] : List UInt8).length = 16 := rfl
     rcases (show x.r < 32 ∨ (32 ≤ x.r ∧ 126 < x.r) by omega) with h33 | h33
     all_goals
      refine stg ?_; intros; rename_i q
      rw [eG _ (x.r % 16) (by omega)]
      refine WL.blkStr (s := [hexB (x.r % 16)]) rfl zhs rfl rfl rfl rfl rfl rfl rfl ?_
      try (refine stg ?_; intros)
      refine lpz (fun j r ds m' H' => ∃ (u : Nat) (d : List UInt8), j = 2 * u ∧ r = [(6, .int .i32 (u : Int)), (8, str d), (5, .int .i64 (i : Int)), (4, .slice (some p0) (zC s).length kp), (0, str s), (3, .slice a9 O.length c9)] ∧ ds = [] ∧ m = m' ∧ H' = .row a9 c9 5 1 (bCs O) :: .row (some p0) kp 267 4 E :: H ∧ (hexHi u ++ d = hexL x.r) ∧ (u ≤ x.r ∧ d.length + u ≤ x.r + 1)) (2 * (x.r)) ⟨x.r, [hexB (x.r % 16)], rfl, rfl, rfl, rfl, rfl, zII x.r, ⟨Nat.le_refl _, by simp; omega⟩⟩ ?_
      rintro j r ds m' H' ⟨u, d, rfl, rfl, rfl, rfl, rfl, hd, hv⟩
      by_cases h9 : 15 < u
      ·have e2 : (u : Int) / 16 = ((u / 16 : Nat) : Int) := by omega
       have hl1 : ([hexB (u / 16 % 16)] : List UInt8).length = 1 := rfl
       refine stg ?_; intros; rename_i q2
       rw [eG _ (u / 16 % 16) (by omega)]
       refine WL.blkStr (s := [hexB (u / 16 % 16)]) rfl zhs rfl rfl rfl rfl rfl rfl rfl ?_
       try (refine stg ?_; intros)
       rw [e2]
       refine nxz (2 * (u / 16)) ⟨u / 16, [hexB (u / 16 % 16)] ++ d, rfl, rfl, rfl, rfl, rfl, ?_, ?_⟩
       ·rw [← hd, ← List.append_assoc, zII, hexHi, if_pos h9]
       ·rw [List.length_append, List.length_singleton]; omega
      ·have ed : d = hexL x.r := by rw [← hd, hexHi, if_neg h9]; rfl
       subst ed
       have hx5 := uM 5 x.r (by omega)
       have l2 : ([92, 123] : List UInt8).length = 2 := rfl
       have l3 : ([92, 123] ++ hexL x.r).length = 2 + (hexL x.r).length := by rw [List.length_append]; rfl
       have l1 : ([125] : List UInt8).length = 1 := rfl
       have l4 : ([92, 123] ++ hexL x.r ++ [125]).length = (zL s x).length := by rw [hw]
       have el : (bCs O).length + (zL s x).length = (O ++ zL s x).length := by rw [zS, List.length_append]
       have em : (bCs O ++ List.map (fun b => [Value.int .u8 (b.toNat : Int)]) ([92, 123] ++ hexL x.r ++ [125])) = bCs (O ++ zL s x) := by rw [← hw, ← qT]; rfl
       refine stg ?_; intros; rename_i a8 c8
       rw [em, l4, el]
       refine nxz ((zC s).length - (i + 1)) ⟨i + 1, a8, c8, (O ++ zL s x).length, O ++ zL s x, rfl, rfl, rfl, rfl, rfl, ?_, ?_, ?_, ?_⟩
       ·omega
       ·rfl
       ·exact hnext
       ·rw [List.length_append]; omega
 ·obtain rfl : i = (zC s).length := by omega
  rw [List.take_length] at hO
  have hq : O ++ [34] = yG s := by rw [hO]; rfl
  have ea : bCs O ++ [[Value.int .u8 34]] = bCs (O ++ [34]) := by rw [← qT]; rfl
  have el : (bCs O).length + 1 = (O ++ [34]).length := by rw [hbl]; simp
  try (refine stg ?_; intros)
  rw [ea, el]
  refine WL.rowStr (s := O ++ [34]) rfl rfl zhs rfl rfl rfl rfl rfl ?_
  rw [hq]
  try (refine stg ?_; intros)
  exact q_fz zgm
end ZP
namespace Go.Eng
open Go Go.RowKit
theorem yN : ∀ (k n : Nat), n < 10 ^ (k + 1) → (decL n).length ≤ k + 1
 | 0, n, h => by
  rw [decL, if_pos (by simpa using h)]; exact Nat.le_refl _
 | k + 1, n, h => by
  rw [decL]
  by_cases h1 : n < 10
  ·rw [if_pos h1]; simp
  ·rw [if_neg h1, List.length_append, List.length_singleton]
   have := yN k (n / 10) (by rw [Nat.div_lt_iff_lt_mul (by omega)]; rw [Nat.pow_succ] at h; exact h)
   omega
theorem kH (s : List UInt8) : ∀ (l : List Pc), (∀ p ∈ l, p.r ≤ 1114111) → (xX s l).length ≤ 12 * l.length
 | [], _ => Nat.le_refl _
 | p :: l, h => by
  have h1 := qJ s p (h p List.mem_cons_self)
  have h2 := kH s l fun q hq => h q (List.mem_cons_of_mem _ hq)
  unfold xX at h2 ⊢
  rw [List.flatMap_cons, List.length_append, List.length_cons]; omega
theorem wS (s : List UInt8) : (yG s).length ≤ 2 + 12 * s.length := by
 have h1 := kH s (zC s) fun p hp => by
  obtain ⟨_, h2, h3⟩ := vT hp
  have := qZ (jZ h2)
  rw [← h3] at this; exact this
 have h2 : (zC s).length ≤ s.length := by have := uS s _ 0 (Nat.le_refl _); rw [show zC s = xD s 0 by unfold zC; rfl]; omega
 unfold yG
 simp only [List.length_append, List.length_cons, List.length_nil]; omega
theorem zBP : ∀ (l : List Stp) (x : Stp), l ≠ [] → yM (l ++ [x]) = yM l ++ [32] ++ stpW x
 | [], x, h => absurd rfl h
 | [y], x, _ => rfl
 | y :: z :: l, x, _ => by
  have := zBP (z :: l) x (by simp)
  simp only [List.cons_append] at this ⊢
  rw [yM, yM, this]; simp
end Go.Eng
namespace ZP
open Go Go.Eng
attribute [local irreducible] WL WC WQ QFun zJ Does Q1 zD zB Go.Addr.add
attribute [local irreducible] yG stpW yM
theorem zEA (z : Int) (hz : 0 ≤ z ∧ z ≤ 1000000000) (w0 : World) (m : Mem) (H : SHeap) : Does Tryz.prog 122 #[.int .i64 z] w0 m H (Gives (str (decL z.toNat)) m H) := by
 obtain ⟨n, rfl⟩ : ∃ n : Nat, z = n := ⟨z.toNat, by omega⟩
 exact zEZ n (by omega) w0 m H
namespace ZEP4a
theorem zal {G G' : Prop} (next : G') (h : Bx G' → G := by intro zzn; (first | (refine iF 122 rfl ?_; refine zU func122 ?_ (hs := zEA _ (by omega) _ _ _)) | (refine iF 123 rfl ?_; refine zU func123 ?_ (hs := zDn _ (by omega) _ _ _))); (repeat revert zzf); exact zzn.out) : G := h ⟨next⟩
end ZEP4a
open ZEP4a in
theorem zAM {a : Option Addr} {cap : Nat} {l : List Stp} (hok : ∀ x ∈ l, yL x ∧ x.k ≤ 65536 ∧ x.d.length ≤ 65536 ∧ x.p.length ≤ 65536) (hl : l.length ≤ 1000000) (w0 : World) (m : Mem) (H : SHeap) (hr : RowR w0 m H 3 a (l.map Stp.cs)) :
  Does Tryz.prog 87 #[.slice a l.length cap] w0 m H (Gives (str (yM l)) m H) := by
 refine Does.of_body func87 rfl ntmps87 rfl ?_
 have hln : (l.map Stp.cs).length = l.length := by simp
 refine WC.newRow (T := 5) (sz := 1) ?_
 try (refine stg ?_; intros)
 refine lpz (fun j r ds m' H' => ∃ (i : Nat) (a9 : Option Addr) (c9 : Nat) (n9 : Nat) (O : List UInt8), j = l.length - i ∧ r = [(4, .int .i64 (i : Int)), (0, .slice a l.length cap), (3, .slice a9 n9 c9)] ∧ ds = [] ∧ m = m' ∧ H' = .row a9 c9 5 1 (bCs O) :: H ∧ (i ≤ l.length) ∧ (n9 = O.length) ∧ (O = yM (l.take i)) ∧ (O.length ≤ 1000000 * i)) (l.length - (0)) ⟨0, none, 0, 0, ([] : List UInt8), rfl, rfl, rfl, rfl, rfl, Nat.zero_le _, rfl, by rw [List.take_zero]; unfold yM; rfl, by simp⟩ ?_
 rintro j r ds m' H' ⟨i, a9, c9, n9, O, rfl, rfl, rfl, rfl, rfl, hi, hn9, hO, hOl⟩
 subst hn9
 have hbl := zS O
 by_cases hlt : i < l.length
 ·obtain ⟨x, hx, hget, htk, hmem, hdr⟩ := zBj (f := Stp.cs) hlt
  have hr1 := hr.more (i := .row a9 c9 5 1 (bCs O))
  refine WC.rSome hr1 (by omega) ?_
  rintro a0 rfl
  obtain ⟨hxok, hk1, hd1, hp1⟩ := hok x hmem
  have hk0 : 0 ≤ x.k := by rcases hxok with ⟨h, _, _⟩ | ⟨h, _, _⟩ | ⟨h, _, _⟩ <;> omega
  have hdl := yN 8 x.k.toNat (by omega)
  have hqd := wS x.d
  have hqp := wS x.p
  have e0 : (x.cs)[0]? = some (.int .i64 x.k) := rfl
  have e1 : (x.cs)[1]? = some (str x.d) := rfl
  have e2 : (x.cs)[2]? = some (str x.p) := rfl
  have l61 : ([61] : List UInt8).length = 1 := rfl
  have l45 : ([45] : List UInt8).length = 1 := rfl
  have l43 : ([43] : List UInt8).length = 1 := rfl
  have a61 : ([61] ++ decL x.k.toNat).length = 1 + (decL x.k.toNat).length := by rw [List.length_append]; rfl
  have a45 : ([45] ++ yG x.d).length = 1 + (yG x.d).length := by rw [List.length_append]; rfl
  have a43 : ([43] ++ yG x.p).length = 1 + (yG x.p).length := by rw [List.length_append]; rfl
  refine WC.seq ?_
  refine WC.seq (WC.region ?_)
  refine sp ?_
  refine WQ.norm ?_
  refine WC.yes rfl (by omega) ?_
  refine WC.skip ?_
  refine WQ.norm ?_
  refine WC.seq (WC.block ?_)
  refine WC.seq ?_
  refine WC.seq (WC.region ?_)
  refine sp ?_
  refine WQ.norm ?_
  refine WC.join (fun r' ds' m' H' => ∃ (a8 : Option Addr) (c8 : Nat) (O2 : List UInt8), r' = [(4, .int .i64 (i : Int)), (0, .slice (some a0) l.length cap), (3, .slice a8 O2.length c8)] ∧ ds' = [] ∧ m' = m ∧ H' = .row a8 c8 5 1 (bCs O2) :: H ∧ yM (l.take (i + 1)) = O2 ++ stpW x ∧ O2.length ≤ 1000000 * i + 1) ?_ ?_
  ·rcases (show i = 0 ∨ 0 < i by omega) with hi0 | hi0
   ·have hO0 : O = [] := by rw [hO, hi0, List.take_zero]; unfold yM; rfl
    have hpx : yM (l.take (i + 1)) = O ++ stpW x := by rw [htk, hO0, hi0, List.take_zero]; unfold yM; rfl
    have hO2 : O.length ≤ 1000000 * i + 1 := by omega
    try (refine stg ?_; intros)
    exact WQ.join ⟨a9, c9, O, rfl, rfl, rfl, rfl, hpx, hO2⟩ zsb zpk
   ·have hpx : yM (l.take (i + 1)) = O ++ [32] ++ stpW x := by
     rw [htk, zBP _ _ (by intro h; have := congrArg List.length h; rw [List.length_take, List.length_nil] at this; omega), ← hO]
    have e32 : bCs O ++ [[Value.int .u8 32]] = bCs (O ++ [32]) := by rw [← qT]; rfl
    have el32 : (bCs O).length + 1 = (O ++ [32]).length := by rw [hbl]; simp
    have hO2 : (O ++ [32]).length ≤ 1000000 * i + 1 := by rw [← el32]; omega
    refine stg ?_; intros; rename_i qb ax cx
    rw [e32, el32]
    exact WQ.join ⟨ax, cx, O ++ [32], rfl, rfl, rfl, rfl, hpx, hO2⟩ zsb zpk
  ·clear hr1
   rintro _ _ _ _ ⟨b9, d9, O2, rfl, rfl, rfl, rfl, hpx, hO2⟩
   have hbl2 := zS O2
   have hr2 := hr.more (i := .row b9 d9 5 1 (bCs O2))
   rcases hxok with ⟨h1, h2, h3⟩ | ⟨h1, h2, h3⟩ | ⟨h1, h2, h3⟩
   ·have hkp : 0 < x.k := by omega
    have hs : stpW x = [61] ++ decL x.k.toNat := by unfold stpW; rw [if_pos h1]; rfl
    have el : (bCs O2).length + ([61] ++ decL x.k.toNat).length = (O2 ++ stpW x).length := by rw [zS, hs]; simp only [List.length_append]
    have em : bCs O2 ++ List.map (fun b => [Value.int .u8 (b.toNat : Int)]) ([61] ++ decL x.k.toNat) = bCs (O2 ++ stpW x) := by rw [hs, ← qT]; rfl
    refine stg ?_; intros; rename_i a8 c8
    rw [em, el]
    refine nxz (l.length - (i + 1)) ⟨i + 1, a8, c8, (O2 ++ stpW x).length, O2 ++ stpW x, rfl, rfl, rfl, rfl, rfl, ?_, ?_, ?_, ?_⟩
    ·omega
    ·rfl
    ·exact hpx.symm
    ·rw [List.length_append, hs]; omega
   ·have hkp : ¬ 0 < x.k := by omega
    have hs : stpW x = [45] ++ yG x.d := by unfold stpW; rw [if_neg (by omega), if_pos h2]; rfl
    have el : (bCs O2).length + ([45] ++ yG x.d).length = (O2 ++ stpW x).length := by rw [zS, hs]; simp only [List.length_append]
    have em : bCs O2 ++ List.map (fun b => [Value.int .u8 (b.toNat : Int)]) ([45] ++ yG x.d) = bCs (O2 ++ stpW x) := by rw [hs, ← qT]; rfl
    refine stg ?_; intros; rename_i a8 c8
    rw [em, el]
    refine nxz (l.length - (i + 1)) ⟨i + 1, a8, c8, (O2 ++ stpW x).length, O2 ++ stpW x, rfl, rfl, rfl, rfl, rfl, ?_, ?_, ?_, ?_⟩
    ·omega
    ·rfl
    ·exact hpx.symm
    ·rw [List.length_append, hs]; omega
   ·have hkp : ¬ 0 < x.k := by omega
    have hs : stpW x = [43] ++ yG x.p := by unfold stpW; rw [if_neg (by omega), if_neg (by rw [h2]; exact fun h => h rfl)]; rfl
    have el : (bCs O2).length + ([43] ++ yG x.p).length = (O2 ++ stpW x).length := by rw [zS, hs]; simp only [List.length_append]
    have em : bCs O2 ++ List.map (fun b => [Value.int .u8 (b.toNat : Int)]) ([43] ++ yG x.p) = bCs (O2 ++ stpW x) := by rw [hs, ← qT]; rfl
    refine stg ?_; intros; rename_i a8 c8
    rw [em, el]
    refine nxz (l.length - (i + 1)) ⟨i + 1, a8, c8, (O2 ++ stpW x).length, O2 ++ stpW x, rfl, rfl, rfl, rfl, rfl, ?_, ?_, ?_, ?_⟩
    ·omega
    ·rfl
    ·exact hpx.symm
    ·rw [List.length_append, hs]; omega
 ·obtain rfl : i = l.length := by omega
  rw [List.take_length] at hO
  try (refine stg ?_; intros)
  refine WL.rowStr (s := O) rfl rfl zhs rfl rfl rfl rfl rfl ?_
  rw [hO]
  try (refine stg ?_; intros)
  exact q_fz zgm
end ZP
namespace Go.Eng
open Go
theorem zDU {d : Nat} (h : d < 16) : hexV (hexB d) = (d : Int) := by
 have all : ∀ i : Fin 16, hexV (hexB i.1) = (i.1 : Int) := by decide
 exact all ⟨d, h⟩
theorem zE4 (n : Nat) : (∀ c ∈ hexL n, 0 ≤ hexV c) ∧ (hexL n).foldl (fun n c => 16 * n + (hexV c).toNat) 0 = n ∧ 1 ≤ (hexL n).length := by
 rw [hexL]
 by_cases h : n < 16
 ·rw [if_pos h]
  have e := zDU h
  refine ⟨fun c hc => ?_, ?_, Nat.le_refl _⟩
  ·rw [List.mem_singleton] at hc; subst hc; omega
  ·simp [e]
 ·rw [if_neg h]
  have e := zDU (show n % 16 < 16 by omega)
  obtain ⟨i1, i2, i3⟩ := zE4 (n / 16)
  refine ⟨fun c hc => ?_, ?_, by rw [List.length_append]; omega⟩
  ·rcases List.mem_append.1 hc with hc | hc
   ·exact i1 c hc
   ·rw [List.mem_singleton] at hc; subst hc; omega
  ·rw [List.foldl_append, i2]
   simp only [List.foldl_cons, List.foldl_nil, e]
   omega
termination_by n
theorem zCx (t : List UInt8) : ∀ (d i : Nat), t.length - i ≤ d → t.length - i ≤ (xX t (xD t i)).length
 | d, i, hd => by
  by_cases hi : i < t.length
  ·have hw := wQ hi
   rw [yQ hi]
   have e : xX t (zK t i :: xD t (i + (zK t i).w)) = zL t (zK t i) ++ xX t (xD t (i + (zK t i).w)) := by unfold xX; rw [List.flatMap_cons]
   rw [e, List.length_append]
   cases d with
   | zero => omega
   | succ d =>
    have h1 := zCx t d (i + (zK t i).w) (by omega)
    have h2 : (zK t i).w ≤ (zL t (zK t i)).length := by
     have hok := jZ hi
     rcases uO hi with ⟨e1, e2, e3⟩ | ⟨e1, e2, e3⟩
     ·rw [e2]; unfold zL; rw [if_pos e1]; simp
     ·rw [e2]
      unfold zL
      rw [if_neg (by rw [e1]; decide)]
      have hwd := zBB (zK t i).r
      split
      ·next h => unfold wd; rw [if_pos (by omega)]; simp
      ·split
       ·next h => unfold wd; rw [if_pos (by omega)]; simp
       ·have := (zE4 (zK t i).r).2.2
        simp only [List.length_append, List.length_cons, List.length_nil]; omega
    omega
  ·omega
theorem zBb (t : List UInt8) : t.length + 2 ≤ (yG t).length := by
 have := zCx t t.length 0 (by omega)
 unfold yG
 simp only [List.length_append, List.length_cons, List.length_nil]
 have e : xX t (xD t 0) = xX t (zC t) := rfl
 rw [e] at this
 omega
def frS (l : List Stp) : Nat := (l.map fun x => x.k.toNat + x.d.length).sum
def toS (l : List Stp) : Nat := (l.map fun x => x.k.toNat + x.p.length).sum
end Go.Eng
namespace ZP
open Go Go.Shelf Go.Proofs
def zIJ : Go.Shelf.Ren := ⟨fun | 137 => 244 | 217 => 174 | 266 => 210 | n => n, fun | 9 => 9 | 5 => 5 | 3 => 3 | n => n, fun | n => n⟩
def zBJ : Go.Shelf.Ren := ⟨fun | 171 => 49 | 243 => 80 | 246 => 115 | 283 => 158 | 284 => 159 | 285 => 160 | 286 => 161 | 129 => 149 | 317 => 200 | 318 => 201 | 319 => 202 | 320 => 203 | 337 => 224 | 338 => 225 | n => n, fun | 3 => 3 | 9 => 9 | 2 => 2 | 4 => 4 | 171 => 257 | 0 => 0 | 53 => 243 | 37 => 109 | 5 => 5 | 173 => 259 | 212 => 298 | 51 => 241 | 20 => 20 | 213 => 299 | 46 => 119 | 232 => 335 | 233 => 336 | n => n, fun | 17 => 1 | 18 => 6 | 19 => 7 | n => n⟩
theorem zET : Go.Proofs.LaysM.n171 Tryz.prog zBJ := {
 mixed := by kernel_rfl
 f129 := func149.trans (congrArg some (by kernel_rfl))
 f171 := func49.trans (congrArg some (by kernel_rfl))
 f243 := func80.trans (congrArg some (by kernel_rfl))
 f246 := func115.trans (congrArg some (by kernel_rfl))
 f283 := func158.trans (congrArg some (by kernel_rfl))
 f284 := func159.trans (congrArg some (by kernel_rfl))
 f285 := func160.trans (congrArg some (by kernel_rfl))
 f286 := func161.trans (congrArg some (by kernel_rfl))
 f317 := func200.trans (congrArg some (by kernel_rfl))
 f318 := func201.trans (congrArg some (by kernel_rfl))
 f319 := func202.trans (congrArg some (by kernel_rfl))
 f320 := func203.trans (congrArg some (by kernel_rfl))
 f337 := func224.trans (congrArg some (by kernel_rfl))
 f338 := func225.trans (congrArg some (by kernel_rfl))
 t0 := underlying0
 a0 := Tryz.isAgg0
 z0 := Tryz.sizeOf0
 v0 := Tryz.zeroValue0
 t2 := underlying2
 a2 := Tryz.isAgg2
 z2 := Tryz.sizeOf2
 v2 := Tryz.zeroValue2
 t3 := underlying3
 a3 := Tryz.isAgg3
 z3 := Tryz.sizeOf3
 v3 := Tryz.zeroValue3
 t4 := underlying4
 a4 := Tryz.isAgg4
 z4 := Tryz.sizeOf4
 v4 := Tryz.zeroValue4
 t5 := underlying5
 a5 := Tryz.isAgg5
 z5 := Tryz.sizeOf5
 v5 := Tryz.zeroValue5
 t9 := underlying9
 a9 := Tryz.isAgg9
 z9 := Tryz.sizeOf9
 v9 := Tryz.zeroValue9
 t20 := underlying20
 a20 := Tryz.isAgg20
 z20 := Tryz.sizeOf20
 v20 := Tryz.zeroValue20
 t37 := underlying109
 a37 := Tryz.isAgg109
 z37 := Tryz.sizeOf109
 v37 := Tryz.zeroValue109
 t46 := underlying119
 a46 := Tryz.isAgg119
 z46 := Tryz.sizeOf119
 v46 := Tryz.zeroValue119
 t51 := underlying241
 a51 := Tryz.isAgg241
 z51 := Tryz.sizeOf241
 v51 := Tryz.zeroValue241
 t53 := underlying243
 a53 := Tryz.isAgg243
 z53 := Tryz.sizeOf243
 v53 := Tryz.zeroValue243
 t171 := underlying257
 a171 := Tryz.isAgg257
 z171 := Tryz.sizeOf257
 v171 := Tryz.zeroValue257
 t173 := underlying259
 a173 := Tryz.isAgg259
 z173 := Tryz.sizeOf259
 v173 := Tryz.zeroValue259
 t212 := underlying298
 a212 := Tryz.isAgg298
 z212 := Tryz.sizeOf298
 v212 := Tryz.zeroValue298
 t213 := underlying299
 a213 := Tryz.isAgg299
 z213 := Tryz.sizeOf299
 t232 := underlying335
 a232 := Tryz.isAgg335
 z232 := Tryz.sizeOf335
 v232 := Tryz.zeroValue335
 t233 := underlying336
 a233 := Tryz.isAgg336
 z233 := Tryz.sizeOf336
 v233 := Tryz.zeroValue336
 g17 := by kernel_rfl
 g18 := by kernel_rfl
 g19 := by kernel_rfl
 i0 := by kernel_rfl
 i2 := by kernel_rfl
 i3 := by kernel_rfl
 i4 := by kernel_rfl
 i5 := by kernel_rfl
 i9 := by kernel_rfl
 i20 := by kernel_rfl
 i37 := by kernel_rfl
 i46 := by kernel_rfl
 i51 := by kernel_rfl
 i53 := by kernel_rfl
 i171 := by kernel_rfl
 i173 := by kernel_rfl
 i212 := by kernel_rfl
 i232 := by kernel_rfl
 i233 := by kernel_rfl
 m17 := by kernel_rfl
 m18 := by kernel_rfl
 m19 := by kernel_rfl }
open Go.RowKit Go.Sort Go.Lib in
theorem zBv (n : Int) (h0 : -9223372036854775808 ≤ n) (h1 : n ≤ 9223372036854775807) (w : World) (htab : Lib.TabIs Tryz.prog w "internal/strconv.uint64pow10" .u64 Lib.pow10Tab) :
  Calls Tryz.prog 49 #[.int .i64 n] w fun e w' => e = .returned (.string ⟨(Lib.itoa n).toArray⟩) ∧ ∃ k os, w' = grow (w.drewN k) os := Any.strconv_Itoa zET n h0 h1 w htab
def zH7 : Go.Shelf.Ren := ⟨fun | 172 => 129 | 244 => 178 | 245 => 179 | 247 => 212 | 279 => 213 | 280 => 214 | 281 => 215 | 282 => 216 | 287 => 233 | 316 => 234 | 171 => 49 | 205 => 235 | 321 => 242 | 322 => 243 | 243 => 80 | 246 => 115 | 283 => 158 | 284 => 159 | 285 => 160 | 286 => 161 | 129 => 149 | 317 => 200 | 318 => 201 | 319 => 202 | 320 => 203 | 337 => 224 | 338 => 225 | n => n, fun | 9 => 9 | 3 => 3 | 75 => 113 | 76 => 114 | 4 => 4 | 5 => 5 | 167 => 312 | 37 => 109 | 0 => 0 | 85 => 313 | 2 => 2 | 168 => 315 | 53 => 243 | 175 => 325 | 46 => 119 | 210 => 328 | 127 => 157 | 145 => 341 | 143 => 339 | 21 => 21 | 171 => 257 | 173 => 259 | 212 => 298 | 51 => 241 | 20 => 20 | 213 => 299 | 232 => 335 | 233 => 336 | 80 => 52 | n => n, fun | 15 => 2 | 16 => 3 | 17 => 1 | 18 => 6 | 19 => 7 | n => n⟩
def zDg : Go.Shelf.Ren := ⟨fun | 99 => 61 | 206 => 92 | n => n, fun | 9 => 9 | 4 => 4 | 3 => 3 | n => n, fun | n => n⟩
theorem zHu : Go.Proofs.Lays.n99 Tryz.prog zDg := {
 mixed := by kernel_rfl
 f99 := func61.trans (congrArg some (by kernel_rfl))
 f206 := func92.trans (congrArg some (by kernel_rfl))
 t3 := underlying3
 a3 := Tryz.isAgg3
 z3 := Tryz.sizeOf3
 v3 := Tryz.zeroValue3
 t4 := underlying4
 a4 := Tryz.isAgg4
 z4 := Tryz.sizeOf4
 v4 := Tryz.zeroValue4
 t9 := underlying9
 a9 := Tryz.isAgg9
 z9 := Tryz.sizeOf9
 v9 := Tryz.zeroValue9 }
open Go.RowKit Go.Lib in
theorem kD (s p : ByteArray) (w : World) :
  Calls Tryz.prog 61 #[.string s, .string p] w fun e w' => e = .returned (.bool (Lib.hasPrefix s.data.toList p.data.toList)) ∧ w' = w := Any.strings_HasPrefix zHu s p w
end ZP
namespace Go.Eng
open Go Go.RowKit
def GV (P : Program) (name : String) (cs : Array Value) (m : Mem) : Prop := ∃ g T fz, P.globalNamed name = some g ∧ m g = some (.cells cs T fz)
theorem GV.le {P : Program} {name : String} {cs : Array Value} {m m' : Mem} (h : GV P name cs m) (hm : m.le m') : GV P name cs m' := by
 obtain ⟨g, T, fz, h1, h2⟩ := h
 exact ⟨g, T, fz, h1, hm _ _ h2⟩
theorem GV.var {P : Program} {name : String} {cs : Array Value} {m : Mem} {w0 w : World} {H : SHeap} (h : GV P name cs m) (hs : Sat w0 m H w) : w.var? P name = some cs := by
 obtain ⟨g, T, fz, h1, h2⟩ := h
 simp [World.var?, h1, hs.pers _ _ h2]
theorem GV.of {P : Program} {name : String} {cs : Array Value} {w : World} (h : w.var? P name = some cs) : GV P name cs (memOf w) := by
 unfold World.var? at h
 cases hg : P.globalNamed name with
 | none => rw [hg] at h; cases h
 | some g =>
  rw [hg] at h
  simp only [Option.bind_some] at h
  cases ho : w.heap[g]? with
  | none => rw [ho] at h; cases h
  | some o =>
   rw [ho] at h
   cases o <;> simp at h
   case cells cs' T fz => subst h; exact ⟨g, T, fz, hg, ho⟩
structure GTabs (P : Program) (m : Mem) : Prop where
 pow : GV P "internal/strconv.uint64pow10" (Lib.pow10Tab.map fun z => Value.int .u64 z).toArray m
 brj : GV P "math/bits.deBruijn64tab" (([0, 1, 56, 2, 57, 49, 28, 3, 61, 58, 42, 50, 38, 29, 17, 4, 62, 47, 59, 36, 45, 43, 51, 22, 53, 39, 33, 30, 24, 18, 12, 5, 63, 55, 48, 27, 60, 41, 37, 16, 46, 35, 44, 21, 52, 32, 23, 11, 54, 26, 40, 15, 34, 20, 31, 10, 25, 14, 19, 9, 13, 8, 7, 6] : List Int).map fun z => Value.int .u8 z).toArray m
theorem GTabs.le {P : Program} {m m' : Mem} (h : GTabs P m) (hm : m.le m') : GTabs P m' :=
 ⟨h.pow.le hm, h.brj.le hm⟩
structure GTabsR (P : Program) (m : Mem) : Prop extends GTabs P m where
 rng : ∃ tp p, GV P "strconv.ErrRange" #[.iface tp p] m
theorem GTabsR.le {P : Program} {m m' : Mem} (h : GTabsR P m) (hm : m.le m') : GTabsR P m' :=
 ⟨h.toGTabs.le hm, by obtain ⟨tp, p, h1⟩ := h.rng; exact ⟨tp, p, h1.le hm⟩⟩
theorem zAJ (n : Nat) : Lib.decDigits n = decL n := by
 rw [Lib.decDigits, decL]
 by_cases h : n < 10
 ·rw [dif_pos h, if_pos h]; rfl
 ·rw [dif_neg h, if_neg h, zAJ (n / 10)]; rfl
termination_by n
theorem zE5 (w : World) (q : Nat) (os : Array Obj) : RowKit.Below w.heap.size w (Sort.grow (w.drewN q) os) :=
 ⟨rfl, rfl, rfl, by first | (simp [Sort.grow]; done) | (simp [Sort.grow]; omega), fun i hi => by
  show ((w.drewN q).heap ++ os)[i]? = _
  rw [Array.getElem?_append_left (by show i < w.heap.size; omega)]
  rfl⟩
theorem zJp (xs : List (List UInt8)) : (xs.map fun x => [str x]).flatten = xs.map str := by
 induction xs with
 | nil => rfl
 | cons z zs ih => rw [List.map_cons, List.flatten_cons, ih]; rfl
end Go.Eng
namespace ZP
open Go Go.Eng
theorem zDu {n : Int} (h : 0 ≤ n ∧ n ≤ 9223372036854775807) {w0 : World} {m : Mem} {H : SHeap} (hg : GTabs Tryz.prog m) : Does Tryz.prog 49 #[.int .i64 n] w0 m H (Gives (str (decL n.toNat)) m H) := by
 refine Does.ofBelow fun w hw => ?_
 refine (zBv n (by omega) h.2 w (hg.pow.var hw)).mono ?_
 rintro e w' ⟨rfl, k, os, rfl⟩
 have e1 : Lib.itoa n = decL n.toNat := by unfold Lib.itoa; rw [if_neg (by omega), zAJ]
 rw [e1]
 exact ⟨rfl, zE5 _ _ _⟩
theorem zDb {s t : List UInt8} (w0 : World) (m : Mem) (H : SHeap) : Does Tryz.prog 61 #[str s, str t] w0 m H (Gives (.bool (Lib.hasPrefix s t)) m H) :=
 Does.ofSame fun w _ => kD ⟨s.toArray⟩ ⟨t.toArray⟩ w
theorem zDE {a : Option Addr} {c : Nat} {t : List UInt8} (w0 : World) (m : Mem) (H : SHeap) : Does Tryz.prog 69 #[.slice a 0 c, str t] w0 m H (Gives (str []) m H) :=
 Does.ofSame fun w _ => vX a c ⟨t.toArray⟩ w
theorem zIN {a : Addr} {c : Nat} {T : TypeId} {xs : List (List UInt8)} {t : List UInt8} {w0 : World} {m : Mem} {H : SHeap} (hm : Item.row (some a) c T 1 (xs.map fun x => [str x]) ∈ H) (hn : xs.length ≤ 140737488355328) (hl : (Lib.join xs t).length ≤ 140737488355328) :
  Does Tryz.prog 69 #[.slice (some a) xs.length c, str t] w0 m H (Gives (str (Lib.join xs t)) m H) := by
 refine Does.ofBelow fun w hw => ?_
 have hr := (RowR.row (w0 := w0) (m := m) hm w hw).2
 have hi := hw.own _ hm
 obtain ⟨arr, fz, h1, h2, h3, h4, _⟩ := hi
 have hx : (xs.map fun x => (⟨x.toArray⟩ : ByteArray)).map (·.data.toList) = xs := by rw [List.map_map]; simp [Function.comp_def]
 have key := jI a.block a.off c (xs.map fun x => ⟨x.toArray⟩) ⟨t.toArray⟩ w (by
  intro j x hj
  rw [List.getElem?_map] at hj
  cases hq : xs[j]? with
  | none => rw [hq] at hj; cases hj
  | some y =>
   rw [hq] at hj
   simp only [Option.map_some, Option.some.injEq] at hj
   subst hj
   have e1 : (xs.map fun x => [str x]).flatten[j]? = some (str y) := by
    rw [zJp, List.getElem?_map, hq]; rfl
   have := hr j _ e1
   rw [w9 (by rw [h1])] at this
   exact this) (Array.getElem?_eq_some_iff.1 h2).1 (by rw [List.length_map]; exact hn) (by rw [List.length_map]; simpa using h4) (by rw [hx]; exact hl)
 rw [hx, List.length_map] at key
 have ea : (⟨a.block, a.off, none⟩ : Addr) = a := by rw [h1]
 rw [ea] at key
 exact key
end ZP
namespace ZP
open Go Go.Eng
attribute [local irreducible] WL WC WQ QFun zJ Does Q1 zD zB Go.Addr.add
theorem zIL (w0 : World) (m : Mem) (H : SHeap) : Does Tryz.prog 202 #[.int .i64 16] w0 m H (Gives (.bool true) m H) := by
 refine Does.of_body func202 rfl ntmps202 rfl ?_
 try (refine st ?_; intros)
 refine WL.and64i rfl rfl rfl (by omega) (by omega) ?_
 try (refine st ?_; intros)
 exact q_fz (Gives.mk (show Value.bool (dcd ((((16 : Int).toNat &&& (16 - 1 : Int).toNat : Nat) : Int) = 0)) = .bool true by rw [zE (by decide)]))
theorem zKz {w0 : World} {m : Mem} {H : SHeap} (hg : GTabs Tryz.prog m) : Does Tryz.prog 225 #[.int .u64 16] w0 m H (Gives (.int .i64 4) m H) := by
 refine Does.of_body func225 rfl ntmps225 rfl ?_
 have h0 : ¬ (16 : Int) = 0 := by decide
 obtain ⟨g, T, fz, h1, h2⟩ := hg.brj
 have hg5 : g = 7 := Option.some.inj (h1.symm.trans (by kernel_rfl))
 subst hg5
 try (refine st ?_; intros)
 refine WL.neg rfl rfl ?_
 rw [show IntKind.u64.wrap (-16) = 18446744073709551600 by decide]
 refine WL.and64u rfl rfl rfl (by omega) (by omega) ?_
 rw [show (((16 : Int).toNat &&& (18446744073709551600 : Int).toNat : Nat) : Int) = 16 by decide]
 refine WL.mul rfl rfl rfl ?_
 rw [show IntKind.u64.wrap (16 * 285870213051353865) = 4573923408821661840 by decide]
 try (refine st ?_; intros)
 refine WL.indexAddrA (i := 15) rfl rfl (by decide) rfl rfl (by omega) rfl rfl ?_
 try (refine st ?_; intros)
 exact q_fz zgm
namespace ZEQFa
theorem zal {G G' : Prop} (next : G') (h : Bx G' → G := by intro zzn; (first | (refine iF 225 rfl ?_; refine zU func225 ?_ (hs := zKz (by assumption)))); (repeat revert zzf); exact zzn.out) : G := h ⟨next⟩
end ZEQFa
open ZEQFa in
theorem zHa {w0 : World} {m : Mem} {H : SHeap} (hg : GTabs Tryz.prog m) : Does Tryz.prog 203 #[.int .u64 16] w0 m H (Gives (.int .i64 4) m H) := by
 refine Does.of_body func203 rfl ntmps203 rfl ?_
 try (refine stg ?_; intros)
 exact q_fz zgm
namespace ZEQFb
theorem zal {G G' : Prop} (next : G') (h : Bx G' → G := by intro zzn; (first | (refine ZEQFa.zal ?_; (repeat intro zzf)) | (refine iF 203 rfl ?_; refine zU func203 ?_ (hs := zHa (by assumption))) | (refine iF 202 rfl ?_; refine zU func202 ?_ (hs := zIL _ _ _))); (repeat revert zzf); exact zzn.out) : G := h ⟨next⟩
end ZEQFb
def digs36 : List UInt8 := [48, 49, 50, 51, 52, 53, 54, 55, 56, 57, 97, 98, 99, 100, 101, 102, 103, 104, 105, 106, 107, 108, 109, 110, 111, 112, 113, 114, 115, 116, 117, 118, 119, 120, 121, 122]
open ZEQFb in
theorem zCy {k : Nat} (h : k < 16) : gb digs36 k = (hexB k).toNat := by
 have all : ∀ i : Fin 16, gb digs36 i.1 = (hexB i.1).toNat := by decide
 exact all ⟨k, h⟩
open ZEQFb in
theorem zJs {L : List Value} {j : Nat} {v : Value} {M : List Value} (h : j < L.length) (hM : L.drop (j + 1) = M) : (L.set j v).drop j = v :: M := by
 rw [List.drop_eq_getElem_cons (by rw [List.length_set]; exact h), List.getElem_set_self, List.drop_set_of_lt (Nat.lt_succ_self j), hM]
open ZEQFb in
theorem zBX (u0 : Nat) (hu : u0 ≤ 1114111) {w0 : World} {m : Mem} {H : SHeap} (hg : GTabs Tryz.prog m) :
  Does Tryz.prog 161 #[.slice none 0 0, .int .u64 (u0 : Int), .int .i64 16, .bool false, .bool false] w0 m H (Gives (.tuple #[.slice none 0 0, str (hexL u0)]) m H) := by
 refine Does.of_body func161 rfl ntmps161 rfl ?_
 refine stg ?_; intros; rename_i bA
 refine WL.sub64u rfl rfl rfl (by omega) ?_
 try (refine stg ?_; intros)
 refine lpz (fun j r ds m' H' => ∃ (u : Nat) (i : Nat) (d : List UInt8) (L : List Value), j = 2 * u ∧ r = [(1, .int .u64 (u : Int)), (13, .int .i64 (i : Int)), (12, .pp bA), (14, .int .u64 4), (15, .int .u64 16), (16, .int .u64 15), (3, .bool false), (4, .bool false), (10, .slice none 0 0)] ∧ ds = [] ∧ m = m' ∧ H' = .blk bA (.cells L.toArray 299 (0, 0)) :: H ∧ (u ≤ 1114111) ∧ (hexL u ++ d = hexL u0) ∧ (i + d.length = 65) ∧ (L.length = 65) ∧ (L.drop i = d.map (fun b => Value.int .u8 (b.toNat : Int)))) (2 * (u0)) ⟨u0, 65, [], List.replicate 65 (Value.int .u8 0), rfl, rfl, rfl, rfl, rfl, hu, List.append_nil _, rfl, rfl, rfl⟩ ?_
 rintro j r ds m' H' ⟨u, i, d, L, rfl, rfl, rfl, rfl, rfl, hu1, hd, hid, hL, hLd⟩
 have hln := congrArg List.length hd
 rw [List.length_append] at hln
 have h6 := uM 5 u0 (by omega)
 have hge := (zE4 u).2.2
 obtain ⟨j, rfl⟩ : ∃ j, i = j + 1 := ⟨i - 1, by omega⟩
 have ei : ((j + 1 : Nat) : Int) - 1 = (j : Int) := by omega
 have hset : ∀ (c : UInt8), (L.set j (.int .u8 (c.toNat : Int))).drop j = (c :: d).map (fun b => Value.int .u8 (b.toNat : Int)) := fun c => by
  rw [List.map_cons]; exact zJs (by omega) hLd
 have hl36 : digs36.length = 36 := rfl
 by_cases h16 : 16 ≤ u
 ·have hx : hexL u = hexL (u / 16) ++ [hexB (u % 16)] := by rw [hexL, if_neg (by omega)]
  have e1 : (u : Int) / 2 ^ 4 = ((u / 16 : Nat) : Int) := by omega
  try (refine stg ?_; intros)
  refine WL.and64u rfl rfl rfl (by omega) (by omega) ?_
  rw [Int.toNat_natCast, show (15 : Int).toNat = 15 from rfl, and15, ei]
  try (refine stg ?_; intros)
  refine WL.indexS (s := digs36) (k := u % 16) rfl rfl rfl rfl rfl (by omega) ?_
  rw [zCy (show u % 16 < 16 by omega)]
  refine WL.indexAddrA (i := j) (q := j) rfl rfl rfl rfl rfl (by omega) rfl (by rw [kF]; congr 1; omega) ?_
  refine WL.store1 rfl rfl rfl rfl (by (repeat (first | exact Repl.here | apply Repl.there))) (by omega) rfl ?_
  try (refine stg ?_; intros)
  rw [e1]
  refine nxz (2 * (u / 16)) ⟨u / 16, j, hexB (u % 16) :: d, L.set j (.int .u8 ((hexB (u % 16)).toNat : Int)), rfl, rfl, rfl, rfl, rfl, ?_, ?_, ?_, ?_, ?_⟩
  ·omega
  ·rw [← hd, hx, List.append_assoc]; rfl
  ·rw [List.length_cons]; omega
  ·rw [List.length_set]; exact hL
  ·exact hset _
 ·have hx : hexL u = [hexB u] := by rw [hexL, if_pos (by omega)]
  rw [hx] at hd
  try (refine stg ?_; intros)
  rw [ei]
  try (refine stg ?_; intros)
  refine WL.indexS (s := digs36) (k := u) rfl rfl rfl rfl rfl (by omega) ?_
  rw [zCy (show u < 16 by omega)]
  refine WL.indexAddrA (i := j) (q := j) rfl rfl rfl rfl rfl (by omega) rfl (by rw [kF]; congr 1; omega) ?_
  refine WL.store1 rfl rfl rfl rfl (by (repeat (first | exact Repl.here | apply Repl.there))) (by omega) rfl ?_
  try (refine stg ?_; intros)
  refine WL.slArrL (q := j) rfl rfl rfl rfl rfl rfl (by omega) ?_
  refine WL.bytesBlkO (s := hexL u0) rfl zhs (by rw [hset, ← hd, List.take_of_length_le (by simp; omega)]; rfl) (by rw [← hd]; simp; omega) rfl rfl rfl rfl rfl ?_
  try (refine stg ?_; intros)
  exact q_fz zgm
namespace ZEQFc
theorem zal {G G' : Prop} (next : G') (h : Bx G' → G := by intro zzn; (first | (refine ZEQFb.zal ?_; (repeat intro zzf)) | (refine iF 161 rfl ?_; refine zU func161 ?_ (hs := zBX _ (by assumption) (by assumption)))); (repeat revert zzf); exact zzn.out) : G := h ⟨next⟩
end ZEQFc
open ZEQFc in
theorem zBU (u0 : Nat) (hu : u0 ≤ 1114111) {w0 : World} {m : Mem} {H : SHeap} (hg : GTabs Tryz.prog m) :
  Does Tryz.prog 115 #[.int .i64 (u0 : Int), .int .i64 16] w0 m H (Gives (str (hexL u0)) m H) := by
 refine Does.of_body func115 rfl ntmps115 rfl ?_
 have e0 : dcd ((u0 : Int) < 0) = false := zH (by omega)
 try (refine stg ?_; intros)
 rw [e0]
 try (refine stg ?_; intros)
 exact q_fz zgm
namespace ZEQFd
theorem zal {G G' : Prop} (next : G') (h : Bx G' → G := by intro zzn; (first | (refine ZEQFc.zal ?_; (repeat intro zzf)) | (refine iF 115 rfl ?_; refine zU func115 ?_ (hs := zBU _ (by assumption) (by assumption)))); (repeat revert zzf); exact zzn.out) : G := h ⟨next⟩
end ZEQFd
open ZEQFd in
theorem zC1 (u0 : Nat) (hu : u0 ≤ 1114111) {w0 : World} {m : Mem} {H : SHeap} (hg : GTabs Tryz.prog m) :
  Does Tryz.prog 165 #[.int .i64 (u0 : Int), .int .i64 16] w0 m H (Gives (str (hexL u0)) m H) := by
 refine Does.of_body func165 rfl ntmps165 rfl ?_
 try (refine stg ?_; intros)
 exact q_fz zgm
end ZP
