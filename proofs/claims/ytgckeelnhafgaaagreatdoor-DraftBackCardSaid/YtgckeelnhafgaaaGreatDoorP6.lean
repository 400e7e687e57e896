/-
  Parts of a walk, joined. No condition.
-/
import Derived.Test.YtgckeelnhafgaaaGreatDoorP5
import Derived.Shelf.Sort.Plain
import Derived.Shelf.Bits.Mul64
import Derived.Shelf.Slices.In.SortNone
set_option linter.all false
set_option maxRecDepth 100000
set_option maxHeartbeats 4000000
open Go.Proofs Go.Proofs.YtgckeelnhafgaaaGreatDoor
open Tryz
open Go Go.Eng
variable {P : Program} {ro : Option Nat} {n : Nat} {w0 : World} {Q : Exit → Act → World → Prop} {r : Env} {ds : List Dfr} {m : Mem} {H : SHeap} {ops : Array Oper} {l : List Oper} {d : Nat} {ty : TypeId} {pos : String} {after : Array Edge}
namespace ZP
open Go Go.Eng
attribute [local irreducible] WL WC WQ QFun zJ Does Q1 zD zB Go.Addr.add
theorem zIe {bh bm cap c : Nat} {a : Option Addr} {L : List Dr} {B : Br} (s : Tx) (d : Dr) (hL : L.length ≤ 256) {sa : Option Addr} {sn sc : Nat} (hdv : d.v = .slice sa sn sc) (w0 : World) (m : Mem) (H : SHeap) :
  Does Tryz.prog 41 #[.pp bh, str s, .agg (drE d).toArray] w0 m (.bl bh [.slice a L.length cap, .map (some bm)] 90 :: .row a cap 97 3 (drs L) :: .blk bm (mapT (brE B) c) :: H) (fun v m' H' => m' = m ∧ v = .int .i64 (L.length : Int) ∧ ∃ a' cap',
   H' = .bl bh [.slice a' (L ++ [d]).length cap', .map (some bm)] 90 :: .row a' cap' 97 3 (drs (L ++ [d])) :: .blk bm (mapT (brE (putB B c s L.length)) (clkB B c s)) :: H) := by
 refine Does.of_body func41 rfl ntmps41 rfl ?_
 have hnl := vM L
 rw [← zDw, ← zCT, List.length_append, List.length_singleton, zJh]
 unfold drE
 rw [hdv]
 generalize drs L = E at *
 refine st ?_; intros; rename_i be
 refine wdw 10 ([.bl be [.int .i64 (d.h : Int), .slice sa sn sc, str d.t] 97, .bl bh [.slice a L.length cap, .map (some bm)] 90, .blk bm (mapT (brE B) c)]) ?_
 refine cm0 ?_
 refine wa1 6 ?_
 refine st ?_; intros; rename_i b9
 refine waz [.bl b9 [.int .i64 (d.h : Int), .slice sa sn sc, str d.t] 97] zml ?_
 refine cm0 ?_
 refine wa1 7 ?_
 refine st ?_; intros; rename_i a2 cp2
 refine waz [] zml ?_
 refine cm0 ?_
 refine wdz ?_
 try (refine st ?_; intros)
 have hE : ((E.length + 1 : Nat) : Int) - 1 = (L.length : Int) := by omega
 rw [hE]
 refine WL.putU (es := brE B) (k := s) (v := .int .i64 (L.length : Int)) rfl rfl rfl rfl rfl (by repeat (first | exact Repl.here | apply Repl.there)) ?_
 try (refine st ?_; intros)
 rw [hE, hnl]
 exact q_fz ⟨rfl, rfl, a2, cp2, rfl⟩
def comErr (L : List Dr) (B : Br) (s : Tx) (hand : Int) (t : Tx) : Nat :=
 if (yP B s) = none then 4 else if hand < 0 ∨ 999999999999999999 < hand then 2 else if 65536 < t.length ∨ L.length = 256 then 3 else 0
theorem zGf {bh bm cap c : Nat} {a : Option Addr} {L : List Dr} {B : Br} (s : Tx) (hand : Int) (t : Tx) (hL : L.length ≤ 256) (w0 : World) (m : Mem) (H : SHeap) :
  Does Tryz.prog 10 #[.pp bh, str s, .int .i64 hand, str t] w0 m (.bl bh [.slice a L.length cap, .map (some bm)] 90 :: .row a cap 97 3 (drs L) :: .blk bm (mapT (brE B) c) :: H) (fun v m' H' => m.le m' ∧
   ((∃ e : Nat, comErr L B s hand t = e ∧ e ≠ 0 ∧ v = .tuple #[.int .i64 0, .int .i64 (e : Int)] ∧ m' = m ∧ H' = .bl bh [.slice a L.length cap, .map (some bm)] 90 :: .row a cap 97 3 (drs L) :: .blk bm (mapT (brE B) c) :: H) ∨
    (∃ (k : Nat) (d : Dr) (a' : Option Addr) (cap' : Nat), comErr L B s hand t = 0 ∧ v = .tuple #[.int .i64 (L.length : Int), .int .i64 0] ∧ yP B s = some k ∧ d.ps = [k] ∧ d.t = t ∧ (d.h : Int) = hand ∧ PsAt m' d ∧
     H' = .bl bh [.slice a' (L ++ [d]).length cap', .map (some bm)] 90 :: .row a' cap' 97 3 (drs (L ++ [d])) :: .blk bm (mapT (brE (putB B c s L.length)) (clkB B c s)) :: H))) := by
 refine Does.of_body func10 rfl ntmps10 rfl ?_
 try (refine st ?_; intros)
 refine WL.lookT (es := brE B) (k := s) (z := .int .i64 0) rfl rfl zhs rfl rfl (fun _ => rfl) rfl ?_
 rw [wD]
 cases hh : yP B s with
 | none =>
  have he : comErr L B s hand t = 4 := by unfold comErr; rw [if_pos hh]
  simp only [Option.map_none, Option.getD_none, Option.isSome_none]
  try (refine st ?_; intros)
  exact q_fz ⟨Mem.le.refl _, .inl ⟨4, he, by omega, rfl, rfl, rfl⟩⟩
 | some k0 =>
  have hne : ¬ yP B s = none := by rw [hh]; simp
  simp only [Option.map_some, Option.getD_some, Option.isSome_some]
  by_cases h1 : hand < 0
  ·have he : comErr L B s hand t = 2 := by unfold comErr; rw [if_neg hne, if_pos (.inl h1)]
   try (refine st ?_; intros)
   exact q_fz ⟨Mem.le.refl _, .inl ⟨2, he, by omega, rfl, rfl, rfl⟩⟩
  by_cases h2 : 999999999999999999 < hand
  ·have he : comErr L B s hand t = 2 := by unfold comErr; rw [if_neg hne, if_pos (.inr h2)]
   try (refine st ?_; intros)
   exact q_fz ⟨Mem.le.refl _, .inl ⟨2, he, by omega, rfl, rfl, rfl⟩⟩
  have h12 : ¬ (hand < 0 ∨ 999999999999999999 < hand) := by omega
  obtain ⟨hd, rfl⟩ : ∃ q : Nat, hand = (q : Int) := ⟨hand.toNat, by omega⟩
  by_cases h3 : 65536 < t.length
  ·have he : comErr L B s (hd : Int) t = 3 := by unfold comErr; rw [if_neg hne, if_neg h12, if_pos (.inl h3)]
   refine st ?_; intros; rename_i b3
   refine zA func40 ?_ (hs := uB (L := [t]) (by simp) (yZ (T := 9) (fz := (0, 0)) (L := [str t]) zhs rfl (by simp [strs])))
   rintro v m H9 ⟨rfl, rfl, rfl⟩
   rw [zE (show Long [t] from ⟨t, by simp, h3⟩)]
   try (refine st ?_; intros)
   exact q_fz ⟨Mem.le.refl _, .inl ⟨3, he, by omega, rfl, rfl, rfl⟩⟩
  ·have hnl : ¬ Long [t] := by rintro ⟨x, hx, hx2⟩; rw [List.mem_singleton] at hx; subst hx; omega
   by_cases h4 : L.length = 256
   ·have he : comErr L B s (hd : Int) t = 3 := by unfold comErr; rw [if_neg hne, if_neg h12, if_pos (.inr h4)]
    refine st ?_; intros; rename_i b3
    refine zA func40 ?_ (hs := uB (L := [t]) (by simp) (yZ (T := 9) (fz := (0, 0)) (L := [str t]) zhs rfl (by simp [strs])))
    rintro v m H9 ⟨rfl, rfl, rfl⟩
    rw [zH hnl]
    try (refine st ?_; intros)
    exact q_fz ⟨Mem.le.refl _, .inl ⟨3, he, by omega, rfl, rfl, rfl⟩⟩
   ·have he : comErr L B s (hd : Int) t = 0 := by unfold comErr; rw [if_neg hne, if_neg h12, if_neg (by omega)]
    refine st ?_; intros; rename_i b3
    refine zA func40 ?_ (hs := uB (L := [t]) (by simp) (yZ (T := 9) (fz := (0, 0)) (L := [str t]) zhs rfl (by simp [strs])))
    rintro v m H9 ⟨rfl, rfl, rfl⟩
    rw [zH hnl]
    refine st ?_; intros; rename_i b9
    refine WL.persist (b := b9) (by (repeat (first | exact Out.here | apply Out.there))) ?_
    intro m2 hle hb9
    try (refine st ?_; intros)
    refine WL.heap (H' := .bl bh [.slice a L.length cap, .map (some bm)] 90 :: .row a cap 97 3 (drs L) :: .blk bm (mapT (brE B) c) :: H) zpk ?_
    obtain ⟨d, hd1, hd2⟩ : ∃ d : Dr, d = ⟨hd, [k0], .slice (some ⟨b9, 0, none⟩) 1 1, t⟩ ∧ PsAt m2 d := ⟨_, rfl, PsAt.mem hb9 rfl⟩
    refine zA func41 ?_ (hs := (by subst hd1; exact zIe s ⟨hd, [k0], .slice (some ⟨b9, 0, none⟩) 1 1, t⟩ hL rfl _ _ _))
    rintro v m3 H3 ⟨rfl, rfl, a', cap', rfl⟩
    try (refine st ?_; intros)
    exact zR (H0 := .bl bh [.slice a' (L ++ [(⟨hd, [k0], .slice (some ⟨b9, 0, none⟩) 1 1, t⟩ : Dr)]).length cap', .map (some bm)] 90 :: .row a' cap' 97 3 (drs (L ++ [(⟨hd, [k0], .slice (some ⟨b9, 0, none⟩) 1 1, t⟩ : Dr)])) :: .blk bm (mapT (brE (putB B c s L.length)) (clkB B c s)) :: H)
     ⟨hle, .inr ⟨k0, ⟨hd, [k0], .slice (some ⟨b9, 0, none⟩) 1 1, t⟩, a', cap', he, rfl, rfl, rfl, rfl, rfl, hd1 ▸ hd2, rfl⟩⟩ (hd := zpk)
theorem zDh {bh bm cap : Nat} {a : Option Addr} {L : List Dr} {k : Nat} {d : Dr} (hk : L[k]? = some d) {sa : Option Addr} {sn sc : Nat} (hdv : d.v = .slice sa sn sc) (w0 : World) (m : Mem) (H : SHeap) :
  Does Tryz.prog 43 #[.pp bh, .int .i64 (k : Int)] w0 m (.bl bh [.slice a L.length cap, .map (some bm)] 90 :: .row a cap 97 3 (drs L) :: H) (Gives (.tuple #[.agg (drE d).toArray, .int .i64 0]) m (.bl bh [.slice a L.length cap, .map (some bm)] 90 :: .row a cap 97 3 (drs L) :: H)) := by
 refine Does.of_body func43 rfl ntmps43 rfl ?_
 have hkl : k < L.length := (List.getElem?_eq_some_iff.1 hk).1
 have hnl := vM L
 have hg := u7 hk
 unfold drE at hg ⊢
 rw [hdv] at hg ⊢
 generalize drs L = E at *
 refine WC.rowSome zhs (by omega) ?_
 rintro a0 rfl
 try (refine st ?_; intros)
 refine zA func38 ?_ (hs := jL (k : Int) zhs)
 rintro v m H1 ⟨rfl, rfl, rfl⟩
 rw [zE (show 0 ≤ (k : Int) ∧ (k : Int) < (L.length : Int) from by omega)]
 try (refine st ?_; intros)
 exact q_fz zgm
theorem zGR {bh bm cap : Nat} {a : Option Addr} {L : List Dr} {k : Nat} {d : Dr} (hk : L[k]? = some d) {sa : Option Addr} {sn sc : Nat} (hdv : d.v = .slice sa sn sc) (w0 : World) (m : Mem) (H : SHeap) :
  Does Tryz.prog 13 #[.pp bh, .int .i64 (k : Int)] w0 m (.bl bh [.slice a L.length cap, .map (some bm)] 90 :: .row a cap 97 3 (drs L) :: H) (Gives (.tuple #[str d.t, .int .i64 0]) m (.bl bh [.slice a L.length cap, .map (some bm)] 90 :: .row a cap 97 3 (drs L) :: H)) := by
 refine Does.of_body func13 rfl ntmps13 rfl ?_
 try (refine st ?_; intros)
 refine zA func43 ?_ (hs := zDh hk hdv _ _ _)
 rintro v m H1 ⟨rfl, rfl, rfl⟩
 unfold drE
 rw [hdv]
 try (refine st ?_; intros)
 exact q_fz zgm
end ZP
namespace Go.Eng
open Go
def addN (ks : List Nat) (p : Nat) : List Nat := if p ∈ ks then ks else ks ++ [p]
def parsOf (L : List Dr) (i : Nat) : List Nat := (L[i]?).elim [] (·.ps)
theorem vH {L : List Dr} {i : Nat} {d : Dr} (h : L[i]? = some d) : parsOf L i = d.ps := by unfold parsOf; rw [h]; rfl
def lnStep (L : List Dr) (ks : List Nat) (i : Nat) : List Nat := if i ∈ ks then (parsOf L i).foldl addN ks else ks
def lnGo (L : List Dr) : Nat → List Nat → List Nat
 | 0, ks => ks
 | n + 1, ks => lnGo L n (lnStep L ks n)
def lineK (L : List Dr) (k : Nat) : List Nat := lnGo L (k + 1) [k]
def lnM (ks : List Nat) : List (Int × Value) := ks.map fun (k : Nat) => ((k : Int), .bool true)
theorem yY (i : Nat) : ∀ (ks : List Nat), (lnM ks).lookup (i : Int) = if i ∈ ks then some (.bool true) else none
 | [] => by simp [lnM]
 | x :: ks => by
  show ((((x : Int), Value.bool true)) :: lnM ks).lookup (i : Int) = _
  rw [List.lookup_cons]
  by_cases h : i = x
  ·subst h; simp
  ·have hb : ((i : Int) == (x : Int)) = false := by simp; omega
   rw [hb, yY i ks]
   simp [h]
theorem zFT (ks : List Nat) (p : Nat) : lnM (ks ++ [p]) = lnM ks ++ [((p : Int), .bool true)] := by unfold lnM; simp
theorem zJl {ks : List Nat} {p x : Nat} : x ∈ addN ks p ↔ x ∈ ks ∨ x = p := by
 unfold addN
 by_cases h : p ∈ ks
 ·rw [if_pos h]
  exact ⟨.inl, fun h2 => h2.elim id (fun e => e ▸ h)⟩
 ·rw [if_neg h]; simp
theorem addAll_mem {x : Nat} : ∀ {ps ks : List Nat}, x ∈ ps.foldl addN ks ↔ x ∈ ks ∨ x ∈ ps
 | [], ks => by simp
 | p :: ps, ks => by
  rw [List.foldl_cons, addAll_mem, zJl, List.mem_cons, or_assoc]
inductive Anc (L : List Dr) : Nat → Nat → Prop
 | self (x : Nat) : Anc L x x
 | up {x y p : Nat} : p ∈ parsOf L y → Anc L x p → Anc L x y
theorem zAF {L : List Dr} {ks : List Nat} {i x : Nat} (h : x ∈ ks) : x ∈ lnStep L ks i := by
 unfold lnStep
 split
 ·exact addAll_mem.2 (.inl h)
 ·exact h
def Falls (L : List Dr) : Prop := ∀ i, ∀ p ∈ parsOf L i, p < i
theorem HsOk.falls {m : Mem} {L : List Dr} {B : Br} {c : Nat} (h : HsOk m L B c) : Falls L := by
 intro i p hp
 unfold parsOf at hp
 cases hi : L[i]? with
 | none => rw [hi] at hp; cases hp
 | some d => rw [hi] at hp; exact (h.par i d hi).1 p hp
theorem zDq {L : List Dr} (hf : Falls L) {x : Nat} : ∀ {n : Nat} {ks : List Nat}, x ∈ lnGo L n ks ↔ x ∈ ks ∨ ∃ y ∈ ks, y < n ∧ Anc L x y
 | 0, ks => by
  show x ∈ ks ↔ _
  exact ⟨.inl, fun h => h.elim id (fun ⟨y, _, h, _⟩ => absurd h (by omega))⟩
 | n + 1, ks => by
  show x ∈ lnGo L n (lnStep L ks n) ↔ _
  rw [zDq hf]
  constructor
  ·rintro (h | ⟨y, hy, hyn, ha⟩)
   ·unfold lnStep at h
    split at h
    ·next hn =>
     rcases addAll_mem.1 h with h | h
     ·exact .inl h
     ·exact .inr ⟨n, hn, by omega, .up h (.self x)⟩
    ·exact .inl h
   ·unfold lnStep at hy
    split at hy
    ·next hn =>
     rcases addAll_mem.1 hy with h | h
     ·exact .inr ⟨y, h, by omega, ha⟩
     ·exact .inr ⟨n, hn, by omega, .up h ha⟩
    ·exact .inr ⟨y, hy, by omega, ha⟩
  ·rintro (h | ⟨y, hy, hyn, ha⟩)
   ·exact .inl (zAF h)
   ·by_cases hyn2 : y = n
    ·subst hyn2
     cases ha with
     | self => exact .inl (zAF hy)
     | up hp ha =>
      refine .inr ⟨_, ?_, hf _ _ hp, ha⟩
      unfold lnStep
      rw [if_pos hy]
      exact addAll_mem.2 (.inr hp)
    ·exact .inr ⟨y, zAF hy, by omega, ha⟩
theorem xK {L : List Dr} (hf : Falls L) {x k : Nat} : x ∈ lineK L k ↔ Anc L x k := by
 unfold lineK
 rw [zDq hf]
 constructor
 ·rintro (h | ⟨y, hy, _, ha⟩)
  ·rw [List.mem_singleton] at h; subst h; exact .self x
  ·rw [List.mem_singleton] at hy; subst hy; exact ha
 ·intro h
  exact .inr ⟨k, List.mem_singleton.2 rfl, by omega, h⟩
theorem Anc.le {L : List Dr} (hf : Falls L) {x y : Nat} (h : Anc L x y) : x ≤ y := by
 induction h with
 | self => exact Nat.le_refl _
 | up hp _ ih => exact Nat.le_trans ih (Nat.le_of_lt (hf _ _ hp))
theorem Anc.trans {L : List Dr} {x y z : Nat} (h1 : Anc L x y) (h2 : Anc L y z) : Anc L x z := by
 induction h2 with
 | self => exact h1
 | up hp _ ih => exact .up hp ih
theorem HsOk.root {m : Mem} {L : List Dr} {B : Br} {c : Nat} (h : HsOk m L B c) : ∀ (k : Nat), k < L.length → Anc L 0 k := by
 intro k
 induction k using Nat.strongRecOn with
 | _ k ih =>
  intro hk
  by_cases h0 : k = 0
  ·subst h0; exact .self 0
  ·obtain ⟨d, hd⟩ : ∃ d, L[k]? = some d := ⟨_, List.getElem?_eq_getElem hk⟩
   obtain ⟨h1, h2, _⟩ := h.par k d hd
   obtain ⟨p, hp⟩ := List.exists_mem_of_ne_nil _ (h2 (by omega))
   have hlt := h1 p hp
   exact .up (by rw [vH hd]; exact hp) (ih p hlt (by omega))
def bothTop (xs ys : List Nat) : Nat → Nat
 | 0 => 0
 | n + 1 => if n + 1 ∈ xs ∧ n + 1 ∈ ys then n + 1 else bothTop xs ys n
def baseK (L : List Dr) (a b : Nat) : Nat := bothTop (lineK L a) (lineK L b) (min a b)
theorem zAB {xs ys : List Nat} : ∀ {n : Nat}, bothTop xs ys n ≤ n
 | 0 => Nat.le_refl 0
 | n + 1 => by
  rw [bothTop]
  split
  ·exact Nat.le_refl _
  ·exact Nat.le_succ_of_le zAB
end Go.Eng
namespace ZP
open Go Go.Eng
attribute [local irreducible] WL WC WQ QFun zJ Does Q1 zD zB Go.Addr.add
attribute [local irreducible] lnM mapO lnGo lnStep
theorem zA0 {bh bm cap : Nat} {a : Option Addr} {L : List Dr} {k : Nat} (hk : k < L.length) (hL : L.length ≤ 256) (w0 : World) (m : Mem) (H : SHeap) (hat : ∀ d ∈ L, PsAt m d) (hps : ∀ (i : Nat) (d : Dr), L[i]? = some d → d.ps.length ≤ 2) :
  Does Tryz.prog 39 #[.pp bh, .int .i64 (k : Int)] w0 m (.bl bh [.slice a L.length cap, .map (some bm)] 90 :: .row a cap 97 3 (drs L) :: H) (fun v m' H' => m' = m ∧ ∃ b, v = .map (some b) ∧ H' = .blk b (mapO .i64 (lnM (lineK L k))) :: .bl bh [.slice a L.length cap, .map (some bm)] 90 :: .row a cap 97 3 (drs L) :: H) := by
 refine Does.of_body func39 rfl ntmps39 rfl ?_
 have hnl := vM L
 have e0 : (lnM ([] : List Nat)) ++ [((k : Int), Value.bool true)] = lnM [k] := by unfold lnM; rfl
 have e1 : (lnM ([] : List Nat)) = [] := by unfold lnM; rfl
 try (refine st ?_; intros)
 refine WL.makeMap .i64 rfl ?_
 intro bq
 try (refine st ?_; intros)
 rw [← e1]
 refine WL.mapOne (q := .i64) (q' := .i64) (k := (k : Int)) (v := .bool true) rfl rfl rfl rfl rfl (by repeat (first | exact Repl.here | apply Repl.there)) (by rw [e1]; rfl) ?_
 rw [e0]
 try (refine st ?_; intros)
 refine lpz (fun j r ds m' H' => ∃ (n : _) (ks : List Nat) (z : Int), j = 2 * n ∧ r = [(6, .int .i64 z), (5, .map (some bq)), (0, .pp bh), (1, .int .i64 (k : Int))] ∧ ds = [] ∧ m = m' ∧ H' = .blk bq (mapO .i64 (lnM ks)) :: .bl bh [.slice a L.length cap, .map (some bm)] 90 :: .row a cap 97 3 (drs L) :: H ∧ (n ≤ k + 1) ∧ (z = (n : Int) - 1) ∧ (lnGo L n ks = lineK L k)) (2 * (k + 1)) ⟨k + 1, [k], (k : Int), rfl, rfl, rfl, rfl, rfl, by omega, by omega, by unfold lineK; rfl⟩ ?_
 rintro j r ds m' H' ⟨n, ks, z, rfl, rfl, rfl, rfl, rfl, hn, hz, hg⟩
 cases n with
 | zero =>
  have hz0 : z = -1 := by omega
  have hg0 : ks = lineK L k := by rw [← hg]; unfold lnGo; rfl
  subst hz0
  try (refine st ?_; intros)
  rw [hg0]
  exact q_fz ⟨rfl, bq, rfl, rfl⟩
 | succ n =>
  have hz0 : z = (n : Int) := by omega
  have hstep : lnGo L (n + 1) ks = lnGo L n (lnStep L ks n) := by rw [lnGo]
  rw [hstep] at hg
  subst hz0
  obtain ⟨d, hd⟩ : ∃ d, L[n]? = some d := ⟨_, List.getElem?_eq_getElem (by omega)⟩
  have hls : lnStep L ks n = if n ∈ ks then d.ps.foldl addN ks else ks := by unfold lnStep; rw [vH hd]
  rw [hls] at hg
  try (refine st ?_; intros)
  refine WL.look1 (q := .i64) (q' := .i64) (k := (n : Int)) (z := .bool false) (kvs := lnM ks) rfl rfl zhs rfl rfl (fun _ => rfl) rfl ?_
  rw [yY]
  by_cases hin : n ∈ ks
  ·rw [if_pos hin] at hg ⊢
   obtain ⟨sa, sc, hv, hr⟩ := hat d (List.mem_of_getElem? hd)
   have hlen := hps n d hd
   have hgd := u7 hd
   unfold drE at hgd
   rw [hv] at hgd
   have hnp := zQ d.ps
   generalize hE : drs L = E at *
   simp only [Option.getD_some]
   refine WL.rowSome (a := a) zhs (by omega) ?_
   rintro a0 rfl
   try (refine st ?_; intros)
   refine lpz (fun j r ds m' H' => ∃ (i : _) (ks2 : List Nat), j = d.ps.length - i ∧ r = [(30, .int .i64 (i : Int)), (29, .int .i64 (d.ps.length : Int)), (28, .slice sa d.ps.length sc), (6, .int .i64 (n : Int)), (5, .map (some bq)), (0, .pp bh), (1, .int .i64 (k : Int))] ∧ ds = [] ∧ m = m' ∧ H' = .blk bq (mapO .i64 (lnM ks2)) :: .bl bh [.slice (some a0) L.length cap, .map (some bm)] 90 :: .row (some a0) cap 97 3 E :: H ∧ (i ≤ d.ps.length) ∧ (ks2 = (d.ps.take i).foldl addN ks)) (d.ps.length - (0)) ⟨0, ks, rfl, rfl, rfl, rfl, rfl, by omega, by rw [List.take_zero]; rfl⟩ ?_
   rintro j r ds m' H' ⟨i, ks2, rfl, rfl, rfl, rfl, rfl, hi, hk2⟩
   by_cases hlt : i < d.ps.length
   ·obtain ⟨p, hp⟩ : ∃ p, d.ps[i]? = some p := ⟨_, List.getElem?_eq_getElem hlt⟩
    have hgp := xO hp
    have hr' := hr w0 (.blk bq (mapO .i64 (lnM ks2)) :: .bl bh [.slice (some a0) L.length cap, .map (some bm)] 90 :: .row (some a0) cap 97 3 E :: H)
    have hk3 : addN ks2 p = (d.ps.take (i + 1)).foldl addN ks := by rw [List.take_succ, hp, List.foldl_append, ← hk2]; rfl
    generalize nums d.ps = NP at *
    refine WC.rSome hr' (by omega) ?_
    rintro s0 rfl
    try (refine st ?_; intros)
    by_cases hp2 : p ∈ ks2
    ·have hsame : addN ks2 p = ks2 := by unfold addN; rw [if_pos hp2]
     refine WL.mapSame (q := .i64) (q' := .i64) (k := (p : Int)) (v := .bool true) (kvs := lnM ks2) rfl rfl rfl zhs rfl rfl (by rw [yY, if_pos hp2]) ?_
     try (refine st ?_; intros)
     refine nxz (d.ps.length - (i + 1)) ⟨i + 1, ks2, rfl, rfl, rfl, rfl, rfl, ?_, ?_⟩
     ·omega
     ·rw [← hk3, hsame]
    ·have hmore : lnM (addN ks2 p) = lnM ks2 ++ [((p : Int), .bool true)] := by unfold addN; rw [if_neg hp2, zFT]
     refine WL.mapNew (q := .i64) (q' := .i64) (k := (p : Int)) (v := .bool true) (kvs := lnM ks2) rfl rfl rfl rfl rfl (by repeat (first | exact Repl.here | apply Repl.there)) (by rw [yY, if_neg hp2]) ?_
     rw [← hmore]
     try (refine st ?_; intros)
     refine nxz (d.ps.length - (i + 1)) ⟨i + 1, addN ks2 p, rfl, rfl, rfl, rfl, rfl, ?_, ?_⟩
     ·omega
     ·exact hk3
   ·rw [List.take_of_length_le (by omega)] at hk2
    rw [← hk2] at hg
    try (refine st ?_; intros)
    refine nxz (2 * (n)) ⟨n, ks2, (n : Int) - 1, rfl, rfl, rfl, rfl, rfl, ?_, ?_, ?_⟩
    ·omega
    ·rfl
    ·exact hg
  ·rw [if_neg hin] at hg ⊢
   simp only [Option.getD_none]
   try (refine st ?_; intros)
   refine nxz (2 * (n)) ⟨n, ks, (n : Int) - 1, rfl, rfl, rfl, rfl, rfl, ?_, ?_, ?_⟩
   ·omega
   ·rfl
   ·exact hg
theorem zFw {bh bm cap : Nat} {a : Option Addr} {L : List Dr} {p q : Nat} (hp : p < L.length) (hq : q < L.length) (hL : L.length ≤ 256) (hp0 : 0 ∈ lineK L p) (hq0 : 0 ∈ lineK L q) (w0 : World) (m : Mem) (H : SHeap) (hat : ∀ d ∈ L, PsAt m d) (hps : ∀ (i : Nat) (d : Dr), L[i]? = some d → d.ps.length ≤ 2) :
  Does Tryz.prog 42 #[.pp bh, .int .i64 (p : Int), .int .i64 (q : Int)] w0 m (.bl bh [.slice a L.length cap, .map (some bm)] 90 :: .row a cap 97 3 (drs L) :: H) (Gives (.int .i64 (baseK L p q : Int)) m (.bl bh [.slice a L.length cap, .map (some bm)] 90 :: .row a cap 97 3 (drs L) :: H)) := by
 refine Does.of_body func42 rfl ntmps42 rfl ?_
 try (refine st ?_; intros)
 refine zA func39 ?_ (hs := zA0 hp hL _ _ _ hat hps)
 rintro v m H1 ⟨rfl, bx, rfl, rfl⟩
 try (refine st ?_; intros)
 refine zN func39 ?_ (hs := zA0 hq hL _ _ _ hat hps)
 rintro v m H1 ⟨rfl, by_, rfl, rfl⟩
 have hmin : min (p : Int) (q : Int) = ((min p q : Nat) : Int) := by omega
 have hbk : baseK L p q = bothTop (lineK L p) (lineK L q) (min p q) := rfl
 generalize lineK L p = X at *
 generalize lineK L q = Y at *
 try (refine st ?_; intros)
 rw [hmin]
 refine lpz (fun j r ds m' H' => ∃ (n : _) (z : Int), j = 2 * n ∧ r = [(9, .int .i64 z), (7, .map (some bx)), (8, .map (some by_))] ∧ ds = [] ∧ m = m' ∧ H' = .blk by_ (mapO .i64 (lnM Y)) :: .bl bh [.slice a L.length cap, .map (some bm)] 90 :: .row a cap 97 3 (drs L) :: .blk bx (mapO .i64 (lnM X)) :: H ∧ (n ≤ min p q) ∧ (z = (n : Int)) ∧ (bothTop X Y n = baseK L p q)) (2 * (min p q)) ⟨min p q, ((min p q : Nat) : Int), rfl, rfl, rfl, rfl, rfl, by omega, by omega, by rw [hbk]⟩ ?_
 rintro j r ds m' H' ⟨n, z, rfl, rfl, rfl, rfl, rfl, hn, hz, hg⟩
 subst hz
 by_cases hx : n ∈ X
 ·by_cases hy : n ∈ Y
  ·have hres : baseK L p q = n := by
    rw [← hg]
    cases n with
    | zero => rfl
    | succ n => rw [bothTop, if_pos ⟨hx, hy⟩]
   try (refine st ?_; intros)
   refine WL.look1 (q := .i64) (q' := .i64) (k := (n : Int)) (z := .bool false) (kvs := lnM X) rfl rfl zhs rfl rfl (fun _ => rfl) rfl ?_
   rw [yY, if_pos hx]
   simp only [Option.getD_some]
   try (refine st ?_; intros)
   refine WL.look1 (q := .i64) (q' := .i64) (k := (n : Int)) (z := .bool false) (kvs := lnM Y) rfl rfl zhs rfl rfl (fun _ => rfl) rfl ?_
   rw [yY, if_pos hy]
   simp only [Option.getD_some]
   try (refine st ?_; intros)
   rw [hres]
   exact q_fz zgm
  ·obtain ⟨n', rfl⟩ : ∃ n', n = n' + 1 := ⟨n - 1, by have : n ≠ 0 := (fun e => hy (e ▸ hq0)); omega⟩
   have hg' : bothTop X Y n' = baseK L p q := by rw [← hg, bothTop, if_neg (fun h => hy h.2)]
   try (refine st ?_; intros)
   refine WL.look1 (q := .i64) (q' := .i64) (k := ((n' + 1 : Nat) : Int)) (z := .bool false) (kvs := lnM X) rfl rfl zhs rfl rfl (fun _ => rfl) rfl ?_
   rw [yY, if_pos hx]
   simp only [Option.getD_some]
   try (refine st ?_; intros)
   refine WL.look1 (q := .i64) (q' := .i64) (k := ((n' + 1 : Nat) : Int)) (z := .bool false) (kvs := lnM Y) rfl rfl zhs rfl rfl (fun _ => rfl) rfl ?_
   rw [yY, if_neg hy]
   simp only [Option.getD_none]
   try (refine st ?_; intros)
   refine nxz (2 * (n')) ⟨n', ((n' + 1 : Nat) : Int) - 1, rfl, rfl, rfl, rfl, rfl, ?_, ?_, ?_⟩
   ·omega
   ·omega
   ·exact hg'
 ·obtain ⟨n', rfl⟩ : ∃ n', n = n' + 1 := ⟨n - 1, by have : n ≠ 0 := (fun e => hx (e ▸ hp0)); omega⟩
  have hg' : bothTop X Y n' = baseK L p q := by rw [← hg, bothTop, if_neg (fun h => hx h.1)]
  try (refine st ?_; intros)
  refine WL.look1 (q := .i64) (q' := .i64) (k := ((n' + 1 : Nat) : Int)) (z := .bool false) (kvs := lnM X) rfl rfl zhs rfl rfl (fun _ => rfl) rfl ?_
  rw [yY, if_neg hx]
  simp only [Option.getD_none]
  try (refine st ?_; intros)
  refine nxz (2 * (n')) ⟨n', ((n' + 1 : Nat) : Int) - 1, rfl, rfl, rfl, rfl, rfl, ?_, ?_, ?_⟩
  ·omega
  ·omega
  ·exact hg'
end ZP
namespace Go.Eng
open Go Go.RowKit
theorem Does.gives_mem2 {P : Program} {w0 : World} {m : Mem} {H : SHeap} {f : FuncId} {args : Array Value} {v : Value} {i k : Item} (hi : i ∈ H) (hk : k ∈ H) (hne : i ≠ k) (h : ∀ H1, Does P f args w0 m (i :: k :: H1) (Gives v m (i :: k :: H1))) : Does P f args w0 m H (Gives v m H) := by
 intro w hs
 obtain ⟨H1, hp⟩ := hs.at_ hi
 have hk1 : k ∈ H1 := by
  rcases List.mem_cons.1 ((hp.mem_iff).1 hk) with e | e
  ·exact absurd e.symm hne
  ·exact e
 obtain ⟨H2, hp2⟩ := (hs.perm hp).drop.at_ hk1
 have hp3 : List.Perm H (i :: k :: H2) := hp.trans (List.Perm.cons _ hp2)
 refine (h H2 w (hs.perm hp3)).mono ?_
 rintro e w' ⟨v', m', H', he, ⟨rfl, rfl, rfl⟩, hs'⟩
 exact ⟨_, _, _, he, ⟨rfl, rfl, rfl⟩, hs'.perm hp3.symm⟩
end Go.Eng
namespace ZP
open Go Go.Eng
attribute [local irreducible] WL WC WQ QFun zJ Does Q1 zD zB Go.Addr.add
theorem zJe {bh bm cap : Nat} {a : Option Addr} {L : List Dr} {p q : Nat} (hp : p < L.length) (hq : q < L.length) (hL : L.length ≤ 256) (hp0 : 0 ∈ lineK L p) (hq0 : 0 ∈ lineK L q) {w0 : World} {m : Mem} {H : SHeap} (hat : ∀ d ∈ L, PsAt m d) (hps : ∀ (i : Nat) (d : Dr), L[i]? = some d → d.ps.length ≤ 2)
  {E : List (List Value)} (hE : drs L = E) (h1 : Eng.Item.bl bh [.slice a L.length cap, .map (some bm)] 90 ∈ H) (h2 : Eng.Item.row a cap 97 3 E ∈ H) :
  Does Tryz.prog 42 #[.pp bh, .int .i64 (p : Int), .int .i64 (q : Int)] w0 m H (Gives (.int .i64 (baseK L p q : Int)) m H) := by
 subst hE
 exact Does.gives_mem2 h1 h2 (fun h => by cases h) fun H1 => zFw hp hq hL hp0 hq0 w0 m H1 hat hps
def merErr (L : List Dr) (B : Br) (s u : Tx) (hand : Int) : Nat :=
 match yP B s, yP B u with
 | some k, some q => if hand < 0 ∨ 999999999999999999 < hand then 2 else if L.length = 256 then 3 else
   (wres (((L[baseK L k q]?).elim [] (·.t))) ((L[k]?).elim [] (·.t)) ((L[q]?).elim [] (·.t))).2.2
 | _, _ => 4
def merRes (L : List Dr) (k q : Nat) : Tx × List Cf × Nat := wres (((L[baseK L k q]?).elim [] (·.t))) ((L[k]?).elim [] (·.t)) ((L[q]?).elim [] (·.t))
theorem zHV {bh bm cap c : Nat} {a : Option Addr} {L : List Dr} {B : Br} (s u : Tx) (hand : Int) (w0 : World) (m : Mem) (H : SHeap) (hok : HsOk m L B c) :
  Does Tryz.prog 11 #[.pp bh, str s, str u, .int .i64 hand] w0 m (.bl bh [.slice a L.length cap, .map (some bm)] 90 :: .row a cap 97 3 (drs L) :: .blk bm (mapT (brE B) c) :: H) (fun v m' H' => m.le m' ∧ ∃ al cl, 
   ((∃ e : Nat, merErr L B s u hand = e ∧ e ≠ 0 ∧ v = .tuple #[.int .i64 0, .slice none 0 0, .int .i64 (e : Int)] ∧ H' = .bl bh [.slice a L.length cap, .map (some bm)] 90 :: .row a cap 97 3 (drs L) :: .blk bm (mapT (brE B) c) :: H) ∨
    (∃ (k q : Nat) (d : Dr) (a' : Option Addr) (cap' : Nat), merErr L B s u hand = 0 ∧ yP B s = some k ∧ yP B u = some q ∧ (merRes L k q).2.2 = 0 ∧
     v = .tuple #[.int .i64 (L.length : Int), .slice al (merRes L k q).2.1.length cl, .int .i64 0] ∧ d.ps = [k, q] ∧ d.t = (merRes L k q).1 ∧ (d.h : Int) = hand ∧ PsAt m' d ∧
     H' = .bl bh [.slice a' (L ++ [d]).length cap', .map (some bm)] 90 :: .row a' cap' 97 3 (drs (L ++ [d])) :: .blk bm (mapT (brE (putB B c s L.length)) (clkB B c s)) :: .row al cl 138 5 (cfs (merRes L k q).2.1) :: H))) := by
 refine Does.of_body func11 rfl ntmps11 rfl ?_
 try (refine st ?_; intros)
 refine WL.lookT (es := brE B) (k := s) (z := .int .i64 0) rfl rfl zhs rfl rfl (fun _ => rfl) rfl ?_
 rw [wD]
 cases hh : yP B s with
 | none =>
  have he : merErr L B s u hand = 4 := by unfold merErr; rw [hh]
  simp only [Option.map_none, Option.getD_none, Option.isSome_none]
  try (refine st ?_; intros)
  refine WL.lookT (es := brE B) (k := u) (z := .int .i64 0) rfl rfl zhs rfl rfl (fun _ => rfl) rfl ?_
  rw [wD]
  obtain ⟨z2, hz2⟩ : ∃ z : Int, (Option.map (fun (k : Nat) => Value.int .i64 (k : Int)) (yP B u)).getD (.int .i64 0) = .int .i64 z := by
   cases yP B u with
   | none => exact ⟨0, rfl⟩
   | some k => exact ⟨(k : Int), rfl⟩
  rw [hz2]
  try (refine st ?_; intros)
  exact q_fz ⟨Mem.le.refl _, none, 0, .inl ⟨4, he, by omega, rfl, rfl⟩⟩
 | some k0 =>
  simp only [Option.map_some, Option.getD_some, Option.isSome_some]
  try (refine st ?_; intros)
  refine WL.lookT (es := brE B) (k := u) (z := .int .i64 0) rfl rfl zhs rfl rfl (fun _ => rfl) rfl ?_
  rw [wD]
  cases hu : yP B u with
  | none =>
   have he : merErr L B s u hand = 4 := by unfold merErr; rw [hh, hu]
   simp only [Option.map_none, Option.getD_none, Option.isSome_none]
   try (refine st ?_; intros)
   exact q_fz ⟨Mem.le.refl _, none, 0, .inl ⟨4, he, by omega, rfl, rfl⟩⟩
  | some q0 =>
   simp only [Option.map_some, Option.getD_some, Option.isSome_some]
   by_cases h1 : hand < 0
   ·have he : merErr L B s u hand = 2 := by unfold merErr; rw [hh, hu]; exact if_pos (.inl h1)
    try (refine st ?_; intros)
    exact q_fz ⟨Mem.le.refl _, none, 0, .inl ⟨2, he, by omega, rfl, rfl⟩⟩
   by_cases h2 : 999999999999999999 < hand
   ·have he : merErr L B s u hand = 2 := by unfold merErr; rw [hh, hu]; exact if_pos (.inr h2)
    try (refine st ?_; intros)
    exact q_fz ⟨Mem.le.refl _, none, 0, .inl ⟨2, he, by omega, rfl, rfl⟩⟩
   have h12 : ¬ (hand < 0 ∨ 999999999999999999 < hand) := by omega
   obtain ⟨hd, rfl⟩ : ∃ q : Nat, hand = (q : Int) := ⟨hand.toNat, by omega⟩
   have hL := hok.few
   by_cases h4 : L.length = 256
   ·have he : merErr L B s u (hd : Int) = 3 := by unfold merErr; rw [hh, hu]; simp only []; rw [if_neg h12, if_pos h4]
    try (refine st ?_; intros)
    exact q_fz ⟨Mem.le.refl _, none, 0, .inl ⟨3, he, by omega, rfl, rfl⟩⟩
   have hk0 : k0 < L.length := hok.head hh
   have hq0 : q0 < L.length := hok.head hu
   have hb0 : baseK L k0 q0 < L.length := by
    have := zAB (xs := lineK L k0) (ys := lineK L q0) (n := min k0 q0)
    unfold baseK; omega
   obtain ⟨dk, hdk⟩ : ∃ d, L[k0]? = some d := ⟨_, List.getElem?_eq_getElem hk0⟩
   obtain ⟨dq, hdq⟩ : ∃ d, L[q0]? = some d := ⟨_, List.getElem?_eq_getElem hq0⟩
   obtain ⟨db, hdb⟩ : ∃ d, L[baseK L k0 q0]? = some d := ⟨_, List.getElem?_eq_getElem hb0⟩
   have hmr : merRes L k0 q0 = wres db.t dk.t dq.t := by unfold merRes; rw [hdk, hdq, hdb]; rfl
   have he : merErr L B s u (hd : Int) = (wres db.t dk.t dq.t).2.2 := by unfold merErr; rw [hh, hu]; simp only []; rw [if_neg h12, if_neg h4, hdk, hdq, hdb]; rfl
   have hgk := u7 hdk
   have hgq := u7 hdq
   have hgb := u7 hdb
   unfold drE at hgk hgq hgb
   have hnl := vM L
   have hf := hok.falls
   have hk00 : 0 ∈ lineK L k0 := (xK hf).2 (hok.root k0 hk0)
   have hq00 : 0 ∈ lineK L q0 := (xK hf).2 (hok.root q0 hq0)
   have hat := hok.at_
   have hps : ∀ (i : Nat) (d : Dr), L[i]? = some d → d.ps.length ≤ 2 := fun i d hd => (hok.par i d hd).2.2.1
   generalize hE : drs L = E at *
   have hbase : ∀ (w0 : World) (m2 : Mem) (H : SHeap), m.le m2 → Eng.Item.bl bh [.slice a L.length cap, .map (some bm)] 90 ∈ H → Eng.Item.row a cap 97 3 E ∈ H → Does Tryz.prog 42 #[.pp bh, .int .i64 (k0 : Int), .int .i64 (q0 : Int)] w0 m2 H (Gives (.int .i64 (baseK L k0 q0 : Int)) m2 H) :=
    fun w0 m2 H hm2 h1 h2 => zJe hk0 hq0 hL hk00 hq00 (fun d hd => (hat d hd).le hm2) hps hE h1 h2
   generalize hbb : baseK L k0 q0 = b0 at *
   refine WL.rowSome (a := a) zhs (by omega) ?_
   rintro a0 rfl
   try (refine st ?_; intros)
   refine wdw 35 ([.bl bh [.slice (some a0) L.length cap, .map (some bm)] 90, .row (some a0) cap 97 3 E, .blk bm (mapT (brE B) c)]) ?_
   refine cm0 ?_
   refine wc1 7 ?_ (hwl := by intro zm zF zle; refine zA func42 ?_ (hs := hbase _ _ _ zle zhs zhs); rintro _ _ _ ⟨rfl, rfl, rfl⟩; ((repeat (refine sp ?_; intros)); exact WQ.q1 rfl))
   refine cm0 ?_
   generalize hW : wres db.t dk.t dq.t = W at *
   refine wa1 27 ?_
   refine zA func33 ?_ (hs := zEg db.t dk.t dq.t _ _ _)
   rintro v m2 H2 ⟨hle2, al, cl, rfl, rfl⟩
   rw [hW]
   try (refine st ?_; intros)
   refine waz [.row al cl 138 5 (cfs W.2.1)] hle2 ?_
   refine cm0 ?_
   refine wdz ?_
   try (refine st ?_; intros)
   by_cases hw0 : W.2.2 = 0
   ·have hw0' : ((W.2.2 : Nat) : Int) = 0 := by omega
    refine st ?_; intros; rename_i b9
    refine WL.persist (b := b9) (by (repeat (first | exact Out.here | apply Out.there))) ?_
    intro m3 hle3 hb9
    try (refine st ?_; intros)
    subst hE
    refine zN func41 ?_ (hs := (zIe s ⟨hd, [k0, q0], .slice (some ⟨b9, 0, none⟩) 2 2, W.1⟩ hL rfl _ _ _))
    rintro v m4 H3 ⟨rfl, rfl, a', cap', rfl⟩
    try (refine st ?_; intros)
    exact zR (H0 := .bl bh [.slice a' (L ++ [(⟨hd, [k0, q0], .slice (some ⟨b9, 0, none⟩) 2 2, W.1⟩ : Dr)]).length cap', .map (some bm)] 90 :: .row a' cap' 97 3 (drs (L ++ [(⟨hd, [k0, q0], .slice (some ⟨b9, 0, none⟩) 2 2, W.1⟩ : Dr)])) :: .blk bm (mapT (brE (putB B c s L.length)) (clkB B c s)) :: .row al cl 138 5 (cfs W.2.1) :: H)
     ⟨hle2.trans hle3, al, cl, .inr ⟨k0, q0, ⟨hd, [k0, q0], .slice (some ⟨b9, 0, none⟩) 2 2, W.1⟩, a', cap', by rw [he, hw0], rfl, rfl, by rw [hmr, hw0], by rw [hmr], rfl, by rw [hmr], rfl, PsAt.mem hb9 rfl, by rw [hmr]⟩⟩ (hd := zpk)
   ·have hw0' : ¬ ((W.2.2 : Nat) : Int) = 0 := by omega
    try (refine st ?_; intros)
    exact q_fz ⟨hle2, none, 0, .inl ⟨W.2.2, he, hw0, rfl, rfl⟩⟩
end ZP
namespace Go.Eng
open Go Go.RowKit
theorem RowR.take {w0 : World} {m : Mem} {H : SHeap} {sz : Nat} {a : Option Addr} {es : List (List Value)} (h : RowR w0 m H sz a es) (n : Nat) : RowR w0 m H sz a (es.take n) := by
 intro w hs
 obtain ⟨h1, h2⟩ := h w hs
 refine ⟨fun e he => h1 e (List.mem_of_mem_take he), ?_⟩
 cases a with
 | none => simp only at h2 ⊢; subst h2; exact List.take_nil
 | some b =>
  simp only at h2 ⊢
  intro j v hj
  refine h2 j v ?_
  have e : es.flatten = (es.take n).flatten ++ (es.drop n).flatten := by rw [← List.flatten_append, List.take_append_drop]
  rw [e]
  rw [List.getElem?_append_left (List.getElem?_eq_some_iff.1 hj).1]
  exact hj
section
variable {t tx : TypeId} {x y : Operand}
end
end Go.Eng
namespace ZP
open Go Go.Shelf Go.Proofs
def zBY : Go.Shelf.Ren := ⟨fun | 190 => 72 | 125 => 105 | 258 => 104 | 128 => 148 | 129 => 149 | 302 => 139 | 303 => 140 | 304 => 141 | 305 => 142 | 306 => 143 | 307 => 144 | 308 => 145 | 309 => 146 | 310 => 147 | 333 => 191 | 329 => 192 | 330 => 193 | 334 => 194 | 335 => 195 | 336 => 196 | 344 => 220 | n => n, fun | 31 => 83 | 9 => 9 | 3 => 3 | 46 => 119 | 0 => 0 | 51 => 241 | 53 => 243 | 4 => 4 | 183 => 235 | 182 => 234 | 131 => 93 | 5 => 5 | 218 => 288 | 222 => 292 | 228 => 320 | 229 => 129 | n => n, fun | n => n⟩
theorem zB6 : Go.Proofs.Lays.n190 Tryz.prog zBY := {
 mixed := by kernel_rfl
 f125 := func105.trans (congrArg some (by kernel_rfl))
 f128 := func148.trans (congrArg some (by kernel_rfl))
 f129 := func149.trans (congrArg some (by kernel_rfl))
 f190 := func72.trans (congrArg some (by kernel_rfl))
 f258 := func104.trans (congrArg some (by kernel_rfl))
 f302 := func139.trans (congrArg some (by kernel_rfl))
 f303 := func140.trans (congrArg some (by kernel_rfl))
 f304 := func141.trans (congrArg some (by kernel_rfl))
 f305 := func142.trans (congrArg some (by kernel_rfl))
 f306 := func143.trans (congrArg some (by kernel_rfl))
 f307 := func144.trans (congrArg some (by kernel_rfl))
 f308 := func145.trans (congrArg some (by kernel_rfl))
 f309 := func146.trans (congrArg some (by kernel_rfl))
 f310 := func147.trans (congrArg some (by kernel_rfl))
 f329 := func192.trans (congrArg some (by kernel_rfl))
 f330 := func193.trans (congrArg some (by kernel_rfl))
 f333 := func191.trans (congrArg some (by kernel_rfl))
 f334 := func194.trans (congrArg some (by kernel_rfl))
 f335 := func195.trans (congrArg some (by kernel_rfl))
 f336 := func196.trans (congrArg some (by kernel_rfl))
 f344 := func220.trans (congrArg some (by kernel_rfl))
 t0 := underlying0
 a0 := Tryz.isAgg0
 z0 := Tryz.sizeOf0
 v0 := Tryz.zeroValue0
 t3 := underlying3
 a3 := Tryz.isAgg3
 z3 := Tryz.sizeOf3
 v3 := Tryz.zeroValue3
 t4 := underlying4
 a4 := Tryz.isAgg4
 z4 := Tryz.sizeOf4
 v4 := Tryz.zeroValue4
 t5 := underlying5
 a5 := Tryz.isAgg5
 z5 := Tryz.sizeOf5
 v5 := Tryz.zeroValue5
 t9 := underlying9
 a9 := Tryz.isAgg9
 z9 := Tryz.sizeOf9
 v9 := Tryz.zeroValue9
 t31 := underlying83
 a31 := Tryz.isAgg83
 z31 := Tryz.sizeOf83
 v31 := Tryz.zeroValue83
 t46 := underlying119
 a46 := Tryz.isAgg119
 z46 := Tryz.sizeOf119
 v46 := Tryz.zeroValue119
 t51 := underlying241
 a51 := Tryz.isAgg241
 z51 := Tryz.sizeOf241
 v51 := Tryz.zeroValue241
 t53 := underlying243
 a53 := Tryz.isAgg243
 z53 := Tryz.sizeOf243
 v53 := Tryz.zeroValue243
 t131 := underlying93
 a131 := Tryz.isAgg93
 z131 := Tryz.sizeOf93
 v131 := Tryz.zeroValue93
 t182 := underlying234
 a182 := Tryz.isAgg234
 z182 := Tryz.sizeOf234
 v182 := Tryz.zeroValue234
 t183 := underlying235
 a183 := Tryz.isAgg235
 z183 := Tryz.sizeOf235
 v183 := Tryz.zeroValue235
 t218 := underlying288
 a218 := Tryz.isAgg288
 z218 := Tryz.sizeOf288
 v218 := Tryz.zeroValue288
 t222 := underlying292
 a222 := Tryz.isAgg292
 z222 := Tryz.sizeOf292
 v222 := Tryz.zeroValue292
 t228 := underlying320
 a228 := Tryz.isAgg320
 z228 := Tryz.sizeOf320
 v228 := Tryz.zeroValue320
 t229 := underlying129
 a229 := Tryz.isAgg129
 z229 := Tryz.sizeOf129
 v229 := Tryz.zeroValue129 }
open Go.Sort Go.RowKit in
theorem zK6 (blk off cap : Nat) (ss : List (List UInt8)) (w : World) (hH : Holds encStr w blk off ss.toArray) (hblk : blk < w.heap.size) (hsz : ss.length < 4611686018427387904) :
  Calls Tryz.prog 72 #[.slice (some ⟨blk, off, none⟩) ss.length cap] w fun e w' =>
   e = .returned (.tuple #[]) ∧ ∃ n os, w' = grow (putRow encStr (Sort.ahead w n) blk off (ss.mergeSort fun x y => decide (x ≤ y)).toArray) os := Any.slices_Sort_string zB6 blk off cap ss w hH hblk hsz
def zB1 : Go.Shelf.Ren := ⟨fun | 212 => 107 | 263 => 150 | 264 => 151 | n => n, fun | 46 => 119 | 51 => 241 | 146 => 244 | 53 => 243 | 148 => 246 | n => n, fun | n => n⟩
open Go.RowKit Go.Sort in
theorem uP (p : Option Addr) (cap : Nat) (w : World) :
  Calls Tryz.prog 72 #[.slice p 0 cap] w fun e w' => e = .returned (.tuple #[]) ∧ w' = w := Any.slices_Sort_string_none zB6 p cap w
end ZP
namespace ZP
open Go Go.Eng
attribute [local irreducible] WL WC WQ QFun zJ Does Q1 zD zB Go.Addr.add
def rep (n : Nat) (v : Int) (N : Nat) : List (List Value) := List.replicate n [.int .i64 v] ++ List.replicate (N - n) [.int .i64 0]
end ZP
namespace Go.Eng
open Go Go.RowKit
def backs (ps : List Nat) : List (Nat × Nat) := ps.zipIdx.reverse
def NumsAt (b : Nat) (a : Option Addr) (cap : Nat) (T : TypeId) (ps : List Nat) (m : Mem) : Prop := m b = some (.cells [.slice a ps.length cap].toArray T (0, 0)) ∧ ∀ w0 H, RowR w0 m H 1 a (nums ps)
end Go.Eng
namespace ZP
open Go Go.Eng
attribute [local irreducible] WL WC WQ QFun zJ Does Q1 zD zB Go.Addr.add
end ZP
namespace Go.Eng
open Go
structure Stp where
 k : Int
 d : List UInt8
 p : List UInt8
 deriving DecidableEq
structure Gap where
 p : List UInt8
 d : List UInt8
 deriving DecidableEq
def yL (s : Stp) : Prop := (0 < s.k ∧ s.d = [] ∧ s.p = []) ∨ (s.k = 0 ∧ s.d ≠ [] ∧ s.p = []) ∨ (s.k = 0 ∧ s.d = [] ∧ s.p ≠ [])
instance (s : Stp) : Decidable (yL s) := by unfold yL; infer_instance
def maxT : Nat := 65536
def xQ : List Stp → Int → Int → Option (Int × Int)
 | [], f, t => some (f, t)
 | s :: l, f, t => if yL s ∧ s.k ≤ maxT ∧ f + s.k + s.d.length ≤ maxT ∧ t + s.k + s.p.length ≤ maxT then xQ l (f + s.k + s.d.length) (t + s.k + s.p.length) else none
def zT (l : List Stp) : Option (Int × Int) := xQ l 0 0
structure Bld where
 l : List Stp
 p : List UInt8
 d : List UInt8
def Bld.close (b : Bld) : Bld := ⟨b.l ++ (if b.p = [] then [] else [⟨0, [], b.p⟩]) ++ (if b.d = [] then [] else [⟨0, b.d, []⟩]), [], []⟩
def yV (l : List Stp) (n : Int) : List Stp := match l.getLast? with
 | some s => if 0 < s.k then l.dropLast ++ [⟨s.k + n, s.d, s.p⟩] else l ++ [⟨n, [], []⟩]
 | none => [⟨n, [], []⟩]
def Bld.keep (b : Bld) (n : Int) : Bld := if n = 0 then b else ⟨yV b.close.l n, [], []⟩
def Bld.step (b : Bld) (s : Stp) : Bld := if 0 < s.k then b.keep s.k else if s.d ≠ [] then ⟨b.l, b.p, b.d ++ s.d⟩ else ⟨b.l, b.p ++ s.p, b.d⟩
def Bld.start : Bld := ⟨[], [], []⟩
def z7 (l : List Stp) : List Stp := (l.foldl Bld.step Bld.start).close.l
structure Gs where
 done : List Gap
 cur : Gap
def Gs.step (g : Gs) (s : Stp) : Gs := if 0 < s.k then ⟨g.done ++ g.cur :: List.replicate (s.k.toNat - 1) ⟨[], []⟩, ⟨[], []⟩⟩ else if s.d ≠ [] then ⟨g.done, ⟨g.cur.p, g.cur.d ++ s.d⟩⟩ else ⟨g.done, ⟨g.cur.p ++ s.p, g.cur.d⟩⟩
def Gs.start : Gs := ⟨[], ⟨[], []⟩⟩
def zO (l : List Stp) : Gs := l.foldl Gs.step Gs.start
def xJ (b : Bld) (g : Gap) : Bld := (⟨b.l, b.p ++ g.p, b.d ++ g.d⟩ : Bld).keep 1
def bldGs (g : Gs) : Bld := let b := g.done.foldl xJ Bld.start; ⟨b.l, b.p ++ g.cur.p, b.d ++ g.cur.d⟩
theorem zFe (b : Bld) (n : Int) (hn : n ≠ 0) : (b.keep n).p = [] ∧ (b.keep n).d = [] := by unfold Bld.keep; rw [if_neg hn]; exact ⟨rfl, rfl⟩
theorem zEL (l : List Stp) (m n : Int) (hm : 0 < m) : yV (yV l m) n = yV l (m + n) := by
 unfold yV
 cases h : l.getLast? with
 | none => simp [hm]
 | some s =>
  by_cases hs : 0 < s.k
  ·simp only [hs, if_true]
   have : 0 < s.k + m := by omega
   simp [this, Int.add_assoc]
  ·simp only [hs, if_false]
   simp [hm]
theorem zGB (b : Bld) (n : Int) (hn : 0 < n) : (b.keep n).close = b.keep n := by
 unfold Bld.close
 obtain ⟨h1, h2⟩ := zFe b n (by omega)
 rw [h1, h2]
 cases hb : b.keep n with
 | mk l p d =>
  rw [hb] at h1 h2
  simp only at h1 h2
  subst h1; subst h2
  simp
theorem zD2 (b : Bld) (m n : Int) (hm : 0 < m) (hn : 0 < n) : (b.keep m).keep n = b.keep (m + n) := by
 have h1 : (b.keep m).keep n = ⟨yV (b.keep m).close.l n, [], []⟩ := by
  conv => lhs; unfold Bld.keep
  rw [if_neg (by omega)]; rfl
 rw [h1, zGB b m hm]
 unfold Bld.keep
 rw [if_neg (by omega), if_neg (by omega)]
 simp only []
 rw [zEL _ _ _ hm]
theorem zDO (b : Bld) : ∀ n : Nat, (List.replicate n (⟨[], []⟩ : Gap)).foldl xJ (b.keep 1) = b.keep ((n : Int) + 1)
 | 0 => rfl
 | n + 1 => by
  rw [List.replicate_succ', List.foldl_append, zDO b n]
  simp only [List.foldl_cons, List.foldl_nil, xJ, List.append_nil]
  have h := zFe b ((n : Int) + 1) (by omega)
  rw [show (⟨(b.keep ((n : Int) + 1)).l, (b.keep ((n : Int) + 1)).p, (b.keep ((n : Int) + 1)).d⟩ : Bld) = b.keep ((n : Int) + 1) from rfl]
  rw [zD2 b _ 1 (by omega) (by omega)]
  congr 1
theorem zFP : ∀ (l : List Stp) (g : Gs), l.foldl Bld.step (bldGs g) = bldGs (l.foldl Gs.step g)
 | [], _ => rfl
 | s :: l, g => by
  rw [List.foldl_cons, List.foldl_cons, ← zFP l]
  congr 1
  unfold Bld.step Gs.step
  by_cases h1 : 0 < s.k
  ·simp only [h1, if_true]
   rw [bldGs, bldGs]
   simp only [List.foldl_append, List.foldl_cons, List.append_nil]
   have := zDO (⟨(g.done.foldl xJ Bld.start).l, (g.done.foldl xJ Bld.start).p ++ g.cur.p, (g.done.foldl xJ Bld.start).d ++ g.cur.d⟩ : Bld) (s.k.toNat - 1)
   rw [show xJ (g.done.foldl xJ Bld.start) g.cur = (⟨(g.done.foldl xJ Bld.start).l, (g.done.foldl xJ Bld.start).p ++ g.cur.p, (g.done.foldl xJ Bld.start).d ++ g.cur.d⟩ : Bld).keep 1 from rfl, this]
   rw [show ((s.k.toNat - 1 : Nat) : Int) + 1 = s.k by omega]
  ·simp only [h1, if_false]
   by_cases h2 : s.d = []
   ·simp [h2, bldGs]
   ·simp [h2, bldGs]
theorem zAz (l : List Stp) : z7 l = (bldGs (zO l)).close.l := by
 rw [z7, zO, ← zFP]; rfl
end Go.Eng
namespace Go.Eng
open Go
def wC (g : Gap) : List (List UInt8) := g.p :: List.replicate g.d.length []
def dropsG (g : Gap) : List Bool := List.replicate g.d.length true ++ [false]
def bytesG (g : Gap) : List UInt8 := g.d ++ [0]
def putsOf (g : Gs) : List (List UInt8) := g.done.flatMap wC ++ wC g.cur
def z6 (g : Gs) : List Bool := g.done.flatMap dropsG ++ List.replicate g.cur.d.length true
def bytesOf (g : Gs) : List UInt8 := g.done.flatMap bytesG ++ g.cur.d
theorem vL (g : Gap) : (dropsG g).length = g.d.length + 1 := by simp [dropsG]
theorem vN (g : Gap) : (bytesG g).length = g.d.length + 1 := by simp [bytesG]
theorem qB (g : Gap) : (wC g).length = g.d.length + 1 := by simp [wC]
theorem zDk (g : Gs) : (bytesOf g).length = (z6 g).length ∧ (putsOf g).length = (z6 g).length + 1 := by
 have h : ∀ l : List Gap, (l.flatMap bytesG).length = (l.flatMap dropsG).length ∧ (l.flatMap wC).length = (l.flatMap dropsG).length := by
  intro l
  induction l with
  | nil => exact ⟨rfl, rfl⟩
  | cons a l ih => simp only [List.flatMap_cons, List.length_append, vN, qB, vL]; omega
 obtain ⟨h1, h2⟩ := h g.done
 simp only [bytesOf, z6, putsOf, List.length_append, List.length_replicate, qB]
 omega
def posStep (b : Bld) (x : List UInt8 × Bool × UInt8) : Bld := if x.2.1 then ⟨b.l, b.p ++ x.1, b.d ++ [x.2.2]⟩ else (⟨b.l, b.p ++ x.1, b.d⟩ : Bld).keep 1
def posOf (g : Gs) : List (List UInt8 × Bool × UInt8) := (putsOf g).zip ((z6 g).zip (bytesOf g))
theorem zBt (b : Bld) : ∀ d : List UInt8, ((List.replicate d.length ([] : List UInt8)).zip ((List.replicate d.length true).zip d)).foldl posStep b = ⟨b.l, b.p, b.d ++ d⟩
 | [] => by cases b; simp
 | x :: d => by
  simp only [List.length_cons, List.replicate_succ, List.zip_cons_cons, List.foldl_cons]
  rw [zBt _ d]
  simp [posStep]
theorem zJ5 (b : Bld) (g : Gap) : ((wC g).zip ((dropsG g).zip (bytesG g))).foldl posStep b = xJ b g := by
 unfold wC dropsG bytesG xJ
 cases hd : g.d with
 | nil => simp [posStep]
 | cons x d =>
  have e1 : (List.replicate (x :: d).length true ++ [false]).zip (x :: d ++ [0]) = (true, x) :: ((List.replicate d.length true).zip d ++ [(false, (0 : UInt8))]) := by
   simp only [List.length_cons, List.replicate_succ, List.cons_append, List.zip_cons_cons]
   rw [List.zip_append (by simp)]
   simp
  rw [e1]
  have e2 : (g.p :: List.replicate (x :: d).length ([] : List UInt8)).zip ((true, x) :: ((List.replicate d.length true).zip d ++ [(false, (0 : UInt8))])) =
    (g.p, true, x) :: ((List.replicate d.length ([] : List UInt8)).zip ((List.replicate d.length true).zip d) ++ [([], false, 0)]) := by
   rw [List.zip_cons_cons, List.length_cons, List.replicate_succ', List.zip_append (by simp)]
   simp
  rw [e2, List.foldl_cons, List.foldl_append, zBt]
  simp [posStep]
theorem zFt : ∀ (l : List Gap) (b : Bld), ((l.flatMap wC).zip ((l.flatMap dropsG).zip (l.flatMap bytesG))).foldl posStep b = l.foldl xJ b
 | [], _ => rfl
 | g :: l, b => by
  rw [List.flatMap_cons, List.flatMap_cons, List.flatMap_cons, List.zip_append (by rw [vL, vN]), List.zip_append (by rw [qB, List.length_zip, vL, vN]; simp), List.foldl_append, zJ5, zFt l, List.foldl_cons]
theorem zKs (g : Gs) : let b := (posOf g).foldl posStep Bld.start; (⟨b.l, b.p ++ (putsOf g).getD (z6 g).length [], b.d⟩ : Bld) = bldGs g := by
 have hl := zDk ⟨g.done, ⟨[], []⟩⟩
 have h : ∀ l : List Gap, (l.flatMap bytesG).length = (l.flatMap dropsG).length ∧ (l.flatMap wC).length = (l.flatMap dropsG).length := by
  intro l
  induction l with
  | nil => exact ⟨rfl, rfl⟩
  | cons a l ih => simp only [List.flatMap_cons, List.length_append, vN, qB, vL]; omega
 obtain ⟨h1, h2⟩ := h g.done
 have e : posOf g = (g.done.flatMap wC).zip ((g.done.flatMap dropsG).zip (g.done.flatMap bytesG)) ++ (wC g.cur).zip ((List.replicate g.cur.d.length true).zip g.cur.d) := by
  rw [posOf, putsOf, z6, bytesOf, List.zip_append (by omega), List.zip_append (by rw [List.length_zip]; omega)]
 simp only []
 rw [e, List.foldl_append, zFt]
 unfold bldGs
 simp only []
 have hlen : (z6 g).length = (g.done.flatMap wC).length + g.cur.d.length := by rw [z6, List.length_append, List.length_replicate]; omega
 have hget : (putsOf g).getD (z6 g).length [] = (wC g.cur).getD g.cur.d.length [] := by
  rw [hlen, putsOf, List.getD_eq_getElem?_getD, List.getD_eq_getElem?_getD, List.getElem?_append_right (by omega)]
  congr 2; omega
 rw [hget]
 cases hd : g.cur.d with
 | nil => simp [wC, hd]
 | cons x d =>
  have e2 : (wC g.cur).zip ((List.replicate (x :: d).length true).zip (x :: d)) = (g.cur.p, true, x) :: (List.replicate d.length ([] : List UInt8)).zip ((List.replicate d.length true).zip d) := by
   have e3 : (List.replicate (x :: d).length true).zip (x :: d) = (true, x) :: (List.replicate d.length true).zip d := by rw [List.length_cons, List.replicate_succ, List.zip_cons_cons]
   rw [e3, wC, hd, List.zip_cons_cons]
   congr 1
   rw [List.length_cons, List.replicate_succ']
   have hz : (List.replicate d.length true).zip d = (List.replicate d.length true).zip d ++ [] := by simp
   conv => lhs; rw [hz]
   rw [List.zip_append (by simp)]
   simp
  rw [e2, List.foldl_cons, zBt]
  simp [posStep, wC, hd]
theorem zH8 (l : List Stp) : let b := (posOf (zO l)).foldl posStep Bld.start; z7 l = (⟨b.l, b.p ++ (putsOf (zO l)).getD (z6 (zO l)).length [], b.d⟩ : Bld).close.l := by
 simp only []
 rw [zAz, ← zKs]
end Go.Eng
namespace Go.Eng
open Go
def pad {α : Type} (l : List α) (n : Nat) (x : α) : List α := l ++ List.replicate (n - l.length) x
def gapAt (g : Gs) : Nat := (g.done.flatMap dropsG).length
def atOf (g : Gs) : Nat := gapAt g + g.cur.d.length
def putsPad (N : Nat) (g : Gs) : List (List UInt8) := pad (g.done.flatMap wC ++ [g.cur.p]) (N + 1) []
def dropsPad (N : Nat) (g : Gs) : List Bool := pad (z6 g) N false
def bytesPad (N : Nat) (g : Gs) : List UInt8 := pad (bytesOf g) N 0
theorem jJ (l : List Gap) : (l.flatMap bytesG).length = (l.flatMap dropsG).length ∧ (l.flatMap wC).length = (l.flatMap dropsG).length := by
 induction l with
 | nil => exact ⟨rfl, rfl⟩
 | cons a l ih => simp only [List.flatMap_cons, List.length_append, vN, qB, vL]; omega
def Gs.byte (g : Gs) (b : UInt8) : Gs := ⟨g.done, ⟨g.cur.p, g.cur.d ++ [b]⟩⟩
def Gs.put (g : Gs) (s : List UInt8) : Gs := ⟨g.done, ⟨g.cur.p ++ s, g.cur.d⟩⟩
def Gs.keeps (g : Gs) (n : Nat) : Gs := ⟨g.done ++ g.cur :: List.replicate (n - 1) ⟨[], []⟩, ⟨[], []⟩⟩
end Go.Eng
namespace Go.Eng
open Go
inductive Atm where
 | k
 | d (b : UInt8)
 | p (b : UInt8)
 deriving DecidableEq
def Stp.atoms (s : Stp) : List Atm := List.replicate s.k.toNat .k ++ s.d.map .d ++ s.p.map .p
def zG (l : List Stp) : List Atm := l.flatMap Stp.atoms
def Bld.atom (b : Bld) : Atm → Bld
 | .k => b.keep 1
 | .d c => ⟨b.l, b.p, b.d ++ [c]⟩
 | .p c => ⟨b.l, b.p ++ [c], b.d⟩
def Bld.run (b : Bld) (l : List Atm) : Bld := l.foldl Bld.atom b
theorem vR (b : Bld) (x y : List Atm) : b.run (x ++ y) = (b.run x).run y := List.foldl_append ..
theorem zKB (b : Bld) : ∀ ds : List UInt8, b.run (ds.map .d) = ⟨b.l, b.p, b.d ++ ds⟩
 | [] => by cases b; simp [Bld.run]
 | x :: ds => by
  have h := zKB (b.atom (.d x)) ds
  simp only [Bld.run, List.map_cons, List.foldl_cons] at h ⊢
  rw [h]; simp [Bld.atom]
theorem zGw (b : Bld) : ∀ ds : List UInt8, b.run (ds.map .p) = ⟨b.l, b.p ++ ds, b.d⟩
 | [] => by cases b; simp [Bld.run]
 | x :: ds => by
  have h := zGw (b.atom (.p x)) ds
  simp only [Bld.run, List.map_cons, List.foldl_cons] at h ⊢
  rw [h]; simp [Bld.atom]
theorem zKN (b : Bld) : ∀ n : Nat, b.run (List.replicate n .k) = b.keep (n : Int)
 | 0 => rfl
 | n + 1 => by
  rw [List.replicate_succ', vR, zKN b n]
  show (b.keep (n : Int)).keep 1 = _
  by_cases hn : n = 0
  ·subst hn; rfl
  ·rw [zD2 b _ 1 (by omega) (by omega)]; rfl
theorem zFK (b : Bld) (s : Stp) (h : yL s) : b.run s.atoms = b.step s := by
 obtain ⟨k, d, p⟩ := s
 rcases h with ⟨h1, h2, h3⟩ | ⟨h1, h2, h3⟩ | ⟨h1, h2, h3⟩
 ·simp only at h1 h2 h3
  subst h2; subst h3
  simp only [Stp.atoms, List.map_nil, List.append_nil, Bld.step, h1, if_true]
  rw [zKN, Int.toNat_of_nonneg (by omega)]
 ·simp only at h1 h2 h3
  subst h1; subst h3
  simp [Stp.atoms, Bld.step, h2, zKB]
 ·simp only at h1 h2 h3
  subst h1; subst h2
  simp [Stp.atoms, Bld.step, zGw]
def gapA (g : Gap) : List Atm := g.p.map .p ++ g.d.map .d
def Bld.atoms (b : Bld) : List Atm := zG b.l ++ gapA ⟨b.p, b.d⟩
def nfOf (g : Gs) : List Atm := g.done.flatMap (fun x => gapA x ++ [.k]) ++ gapA g.cur
theorem zV (x y : List Stp) : zG (x ++ y) = zG x ++ zG y := List.flatMap_append ..
theorem jH (s : Stp) : zG [s] = s.atoms := by simp [zG]
theorem w7 (s : Stp) (l : List Stp) : zG (s :: l) = s.atoms ++ zG l := rfl
theorem kL (b : Bld) : zG b.close.l = b.atoms := by
 unfold Bld.close Bld.atoms gapA
 simp only [zV]
 rw [List.append_assoc]
 congr 1
 congr 1
 ·by_cases h : b.p = [] <;> simp [h, zG, Stp.atoms]
 ·by_cases h : b.d = [] <;> simp [h, zG, Stp.atoms]
theorem zDp (b : Bld) (h : ∀ s ∈ b.l, yL s) : ∀ s ∈ b.close.l, yL s := by
 intro s hs
 unfold Bld.close at hs
 simp only [List.mem_append] at hs
 rcases hs with (hs | hs) | hs
 ·exact h s hs
 ·by_cases hp : b.p = []
  ·simp [hp] at hs
  ·simp [hp] at hs; subst hs; exact .inr (.inr ⟨rfl, rfl, hp⟩)
 ·by_cases hp : b.d = []
  ·simp [hp] at hs
  ·simp [hp] at hs; subst hs; exact .inr (.inl ⟨rfl, hp, rfl⟩)
theorem zCM (l : List Stp) (n : Int) (hn : 0 < n) (h : ∀ s ∈ l, yL s) : zG (yV l n) = zG l ++ List.replicate n.toNat .k ∧ ∀ s ∈ yV l n, yL s := by
 unfold yV
 cases hl : l.getLast? with
 | none =>
  have : l = [] := by simpa using hl
  subst this
  refine ⟨by simp [zG, Stp.atoms], fun s hs => ?_⟩
  simp at hs; subst hs; exact .inl ⟨hn, rfl, rfl⟩
 | some s =>
  obtain ⟨ys, e⟩ := List.getLast?_eq_some_iff.1 hl
  have e2 : l.dropLast = ys := by rw [e]; simp
  rw [e2]
  have hs := h s (by rw [e]; simp)
  by_cases h0 : 0 < s.k
  ·simp only [h0, if_true]
   rcases hs with ⟨_, h2, h3⟩ | ⟨h1, _, _⟩ | ⟨h1, _, _⟩
   ·refine ⟨?_, fun x hx => ?_⟩
    ·conv => rhs; rw [e]
     rw [zV, zV, jH, jH, List.append_assoc]
     congr 1
     simp only [Stp.atoms, h2, h3, List.map_nil, List.append_nil]
     rw [List.replicate_append_replicate]
     congr 1; omega
    ·simp only [List.mem_append, List.mem_singleton] at hx
     rcases hx with hx | rfl
     ·exact h x (by rw [e]; simp [hx])
     ·exact .inl ⟨by simp only; omega, h2, h3⟩
   ·omega
   ·omega
  ·simp only [h0, if_false]
   refine ⟨by rw [zV, jH]; simp [Stp.atoms], fun x hx => ?_⟩
   simp only [List.mem_append, List.mem_singleton] at hx
   rcases hx with hx | rfl
   ·exact h x hx
   ·exact .inl ⟨hn, rfl, rfl⟩
theorem zF9 (b : Bld) (n : Int) (hn : 0 < n) (h : ∀ s ∈ b.l, yL s) : (b.keep n).atoms = b.atoms ++ List.replicate n.toNat .k ∧ ∀ s ∈ (b.keep n).l, yL s := by
 unfold Bld.keep
 rw [if_neg (by omega)]
 obtain ⟨h1, h2⟩ := zCM b.close.l n hn (zDp b h)
 refine ⟨?_, h2⟩
 unfold Bld.atoms
 simp only [gapA, List.map_nil, List.append_nil]
 rw [h1, kL]; rfl
theorem zDQ (b : Bld) (g : Gap) (h : ∀ s ∈ b.l, yL s) (hp : b.p = []) (hd : b.d = []) : (xJ b g).atoms = b.atoms ++ (gapA g ++ [.k]) ∧ (∀ s ∈ (xJ b g).l, yL s) ∧ (xJ b g).p = [] ∧ (xJ b g).d = [] := by
 obtain ⟨h1, h2⟩ := zF9 ⟨b.l, b.p ++ g.p, b.d ++ g.d⟩ 1 (by omega) h
 have h3 := zFe ⟨b.l, b.p ++ g.p, b.d ++ g.d⟩ 1 (by omega)
 refine ⟨?_, h2, h3.1, h3.2⟩
 rw [xJ, h1]
 unfold Bld.atoms
 simp [hp, hd, gapA]
theorem zCt : ∀ (l : List Gap) (b : Bld), (∀ s ∈ b.l, yL s) → b.p = [] → b.d = [] → (l.foldl xJ b).atoms = b.atoms ++ l.flatMap (fun x => gapA x ++ [.k]) ∧ (∀ s ∈ (l.foldl xJ b).l, yL s) ∧ (l.foldl xJ b).p = [] ∧ (l.foldl xJ b).d = []
 | [], b, h, hp, hd => ⟨by simp, h, hp, hd⟩
 | g :: l, b, h, hp, hd => by
  obtain ⟨h1, h2, h3, h4⟩ := zDQ b g h hp hd
  obtain ⟨k1, k2, k3, k4⟩ := zCt l (xJ b g) h2 h3 h4
  refine ⟨?_, k2, k3, k4⟩
  rw [List.foldl_cons, k1, h1, List.flatMap_cons, List.append_assoc]
theorem qM (g : Gs) : (bldGs g).atoms = nfOf g ∧ ∀ s ∈ (bldGs g).l, yL s := by
 obtain ⟨h1, h2, h3, h4⟩ := zCt g.done Bld.start (by simp [Bld.start]) rfl rfl
 refine ⟨?_, h2⟩
 unfold bldGs nfOf
 simp only []
 rw [show (Bld.atoms ⟨(g.done.foldl xJ Bld.start).l, (g.done.foldl xJ Bld.start).p ++ g.cur.p, (g.done.foldl xJ Bld.start).d ++ g.cur.d⟩) = (g.done.foldl xJ Bld.start).atoms ++ gapA g.cur by simp [Bld.atoms, h3, h4, gapA], h1]
 simp [Bld.atoms, Bld.start, zG, gapA]
theorem uL (l : List Stp) : zG (z7 l) = nfOf (zO l) := by rw [zAz, kL, (qM _).1]
theorem zJa (l : List Stp) : ∀ s ∈ z7 l, yL s := by rw [zAz]; exact zDp _ (qM _).2
abbrev Pos := List UInt8 × Bool × UInt8
def Pos.atoms (x : Pos) : List Atm := x.1.map .p ++ [if x.2.1 then .d x.2.2 else .k]
def lastOf (g : Gs) : List UInt8 := (putsOf g).getD (z6 g).length []
def sdA (ps : List Pos) (last : List UInt8) : List Atm := ps.flatMap Pos.atoms ++ last.map .p
theorem zKx (b : Bld) (x : Pos) : b.run x.atoms = posStep b x := by
 rw [Pos.atoms, vR, zGw, posStep]
 cases h : x.2.1 <;> simp [Bld.run, Bld.atom]
theorem zCW : ∀ d : List UInt8, ((List.replicate d.length ([] : List UInt8)).zip ((List.replicate d.length true).zip d)).flatMap Pos.atoms = d.map .d
 | [] => rfl
 | x :: d => by
  simp only [List.length_cons, List.replicate_succ, List.zip_cons_cons, List.flatMap_cons, zCW d]
  rfl
theorem zKW (g : Gap) : ((wC g).zip ((dropsG g).zip (bytesG g))).flatMap Pos.atoms = gapA g ++ [.k] := by
 unfold wC dropsG bytesG gapA
 cases hd : g.d with
 | nil => simp [Pos.atoms]
 | cons x d =>
  have e1 : (List.replicate (x :: d).length true ++ [false]).zip (x :: d ++ [0]) = (true, x) :: ((List.replicate d.length true).zip d ++ [(false, (0 : UInt8))]) := by
   simp only [List.length_cons, List.replicate_succ, List.cons_append, List.zip_cons_cons]
   rw [List.zip_append (by simp)]
   simp
  rw [e1]
  have e2 : (g.p :: List.replicate (x :: d).length ([] : List UInt8)).zip ((true, x) :: ((List.replicate d.length true).zip d ++ [(false, (0 : UInt8))])) =
    (g.p, true, x) :: ((List.replicate d.length ([] : List UInt8)).zip ((List.replicate d.length true).zip d) ++ [([], false, 0)]) := by
   rw [List.zip_cons_cons, List.length_cons, List.replicate_succ', List.zip_append (by simp)]
   simp
  rw [e2, List.flatMap_cons, List.flatMap_append, zCW]
  simp [Pos.atoms]
theorem zHs : ∀ l : List Gap, ((l.flatMap wC).zip ((l.flatMap dropsG).zip (l.flatMap bytesG))).flatMap Pos.atoms = l.flatMap (fun x => gapA x ++ [.k])
 | [] => rfl
 | g :: l => by
  rw [List.flatMap_cons, List.flatMap_cons, List.flatMap_cons, List.zip_append (by rw [vL, vN]), List.zip_append (by rw [qB, List.length_zip, vL, vN]; simp), List.flatMap_append, zKW, zHs l, List.flatMap_cons]
theorem zCJ (g : Gs) : sdA (posOf g) (lastOf g) = nfOf g := by
 have hl := jJ g.done
 have e : posOf g = (g.done.flatMap wC).zip ((g.done.flatMap dropsG).zip (g.done.flatMap bytesG)) ++ (wC g.cur).zip ((List.replicate g.cur.d.length true).zip g.cur.d) := by
  rw [posOf, putsOf, z6, bytesOf, List.zip_append (by omega), List.zip_append (by rw [List.length_zip]; omega)]
 have hlen : (z6 g).length = (g.done.flatMap wC).length + g.cur.d.length := by rw [z6, List.length_append, List.length_replicate]; omega
 have hget : lastOf g = (wC g.cur).getD g.cur.d.length [] := by
  rw [lastOf, hlen, putsOf, List.getD_eq_getElem?_getD, List.getD_eq_getElem?_getD, List.getElem?_append_right (by omega)]
  congr 2; omega
 unfold sdA nfOf
 rw [e, hget, List.flatMap_append, zHs, List.append_assoc]
 congr 1
 cases hd : g.cur.d with
 | nil => simp [wC, hd, gapA]
 | cons x d =>
  have e2 : (wC g.cur).zip ((List.replicate (x :: d).length true).zip (x :: d)) = (g.cur.p, true, x) :: (List.replicate d.length ([] : List UInt8)).zip ((List.replicate d.length true).zip d) := by
   have e3 : (List.replicate (x :: d).length true).zip (x :: d) = (true, x) :: (List.replicate d.length true).zip d := by rw [List.length_cons, List.replicate_succ, List.zip_cons_cons]
   rw [e3, wC, hd, List.zip_cons_cons]
   congr 1
   rw [List.length_cons, List.replicate_succ']
   have hz : (List.replicate d.length true).zip d = (List.replicate d.length true).zip d ++ [] := by simp
   conv => lhs; rw [hz]
   rw [List.zip_append (by simp)]
   simp
  rw [e2, List.flatMap_cons, zCW]
  simp [Pos.atoms, wC, hd, gapA]
theorem zHz (l : List Stp) : z7 l = (Bld.start.run (nfOf (zO l))).close.l := by
 rw [← zCJ, sdA, vR, zGw]
 have h : ∀ (ps : List Pos) (b : Bld), b.run (ps.flatMap Pos.atoms) = ps.foldl posStep b := by
  intro ps
  induction ps with
  | nil => intro b; rfl
  | cons x ps ih => intro b; rw [List.flatMap_cons, vR, zKx, ih, List.foldl_cons]
 rw [h]
 exact zH8 l
end Go.Eng
namespace Go.Eng
open Go
def moveStep (at_ : Int) (b : Bool) (st : Int × Int) (s : Stp) : Int × Int :=
 if s.p ≠ [] then (if st.2 < at_ ∨ (st.2 = at_ ∧ b = true) then st.1 + s.p.length else st.1, st.2)
 else if s.d ≠ [] then (st.1, st.2 + s.d.length)
 else (st.1 + max 0 (min s.k (at_ - st.2)), st.2 + s.k)
def moveAtm (at_ : Int) (b : Bool) (st : Int × Int) : Atm → Int × Int
 | .p _ => (if st.2 < at_ ∨ (st.2 = at_ ∧ b = true) then st.1 + 1 else st.1, st.2)
 | .d _ => (st.1, st.2 + 1)
 | .k => (if st.2 < at_ then st.1 + 1 else st.1, st.2 + 1)
def mvF : List Pos → List UInt8 → Nat → Bool → Nat
 | [], last, _, b => if b then last.length else 0
 | x :: _, _, 0, b => if b then x.1.length else 0
 | x :: ps, last, at_ + 1, b => x.1.length + (if x.2.1 then 0 else 1) + mvF ps last at_ b
def moveOf (l : List Stp) (at_ : Int) (b : Bool) : Int := (l.foldl (moveStep at_ b) (0, 0)).1
def movedF (l : List Stp) (at_ : Nat) (b : Bool) : Nat := mvF (posOf (zO l)) (lastOf (zO l)) at_ b
end Go.Eng
namespace Go.Eng
open Go
def compA : List Atm → List Atm → Option (List Atm)
 | xs, .p b :: ys => (compA xs ys).map (.p b :: ·)
 | .d b :: xs, [] => (compA xs []).map (.d b :: ·)
 | .d b :: xs, .k :: ys => (compA xs (.k :: ys)).map (.d b :: ·)
 | .d b :: xs, .d c :: ys => (compA xs (.d c :: ys)).map (.d b :: ·)
 | [], [] => some []
 | [], .k :: _ => some []
 | [], .d _ :: _ => some []
 | .k :: _, [] => some []
 | .p _ :: _, [] => some []
 | .k :: xs, .k :: ys => (compA xs ys).map (.k :: ·)
 | .k :: xs, .d c :: ys => (compA xs ys).map (.d c :: ·)
 | .p b :: xs, .k :: ys => (compA xs ys).map (.p b :: ·)
 | .p b :: xs, .d c :: ys => if b = c then compA xs ys else none
termination_by xs ys => xs.length + ys.length
def notPut : List Atm → Bool
 | .p _ :: _ => false
 | _ => true
def yO : List Atm → Nat
 | [] => 0
 | .k :: l => yO l + 1
 | .d _ :: l => yO l + 1
 | .p _ :: l => yO l
def toA : List Atm → Nat
 | [] => 0
 | .k :: l => toA l + 1
 | .d _ :: l => toA l
 | .p _ :: l => toA l + 1
theorem yD : ∀ x y : List Atm, yO (x ++ y) = yO x + yO y
 | [], y => by simp [yO]
 | .k :: x, y => by simp only [List.cons_append, yO, yD x y]; omega
 | .d _ :: x, y => by simp only [List.cons_append, yO, yD x y]; omega
 | .p _ :: x, y => by simp only [List.cons_append, yO, yD x y]
theorem x7 : ∀ x y : List Atm, toA (x ++ y) = toA x + toA y
 | [], y => by simp [toA]
 | .k :: x, y => by simp only [List.cons_append, toA, x7 x y]; omega
 | .d _ :: x, y => by simp only [List.cons_append, toA, x7 x y]
 | .p _ :: x, y => by simp only [List.cons_append, toA, x7 x y]; omega
theorem zC6 (l : List UInt8) : yO (l.map .d) = l.length := by induction l with
 | nil => rfl
 | cons a l ih => simp [yO, ih]
theorem zAt (l : List UInt8) : yO (l.map .p) = 0 := by induction l with
 | nil => rfl
 | cons a l ih => simp [yO, ih]
theorem zKQ (l : List UInt8) : toA (l.map .d) = 0 := by induction l with
 | nil => rfl
 | cons a l ih => simp [toA, ih]
theorem zJ6 (l : List UInt8) : toA (l.map .p) = l.length := by induction l with
 | nil => rfl
 | cons a l ih => simp [toA, ih]
theorem zHE (n : Nat) : yO (List.replicate n .k) = n := by induction n with
 | zero => rfl
 | succ n ih => simp [List.replicate_succ, yO, ih]
theorem zKZ (n : Nat) : toA (List.replicate n .k) = n := by induction n with
 | zero => rfl
 | succ n ih => simp [List.replicate_succ, toA, ih]
theorem zBF (s : Stp) : yO s.atoms = s.k.toNat + s.d.length := by simp [Stp.atoms, yD, zHE, zC6, zAt]
theorem zIa (s : Stp) : toA s.atoms = s.k.toNat + s.p.length := by simp [Stp.atoms, x7, zKZ, zKQ, zJ6]
theorem zBg : ∀ (l : List Stp) (f t a b : Int), 0 ≤ f → 0 ≤ t → xQ l f t = some (a, b) → (∀ s ∈ l, yL s ∧ s.k ≤ maxT) ∧ a = f + (yO (zG l) : Int) ∧ b = t + (toA (zG l) : Int) ∧ (l ≠ [] → a ≤ maxT ∧ b ≤ maxT)
 | [], f, t, a, b, _, _, h => by
  simp only [xQ, Option.some.injEq, Prod.mk.injEq] at h
  obtain ⟨rfl, rfl⟩ := h
  simp [zG, yO, toA]
 | s :: l, f, t, a, b, hf, ht, h => by
  rw [xQ] at h
  split at h
  ·rename_i hc
   obtain ⟨h1, h2, h3, h4⟩ := hc
   have hk : 0 ≤ s.k := by rcases h1 with ⟨h, _, _⟩ | ⟨h, _, _⟩ | ⟨h, _, _⟩ <;> omega
   obtain ⟨g1, g2, g3, g4⟩ := zBg l _ _ a b (by omega) (by omega) h
   refine ⟨?_, ?_, ?_, fun _ => ?_⟩
   ·intro x hx
    rcases List.mem_cons.1 hx with rfl | hx
    ·exact ⟨h1, h2⟩
    ·exact g1 x hx
   ·rw [g2, w7, yD, zBF]; omega
   ·rw [g3, w7, x7, zIa]; omega
   ·by_cases hl : l = []
    ·subst hl
     simp only [xQ, Option.some.injEq, Prod.mk.injEq] at h
     omega
    ·exact g4 hl
  ·cases h
theorem uR {l : List Stp} {a b : Int} (h : zT l = some (a, b)) : (∀ s ∈ l, yL s ∧ s.k ≤ maxT) ∧ a = (yO (zG l) : Int) ∧ b = (toA (zG l) : Int) ∧ a ≤ maxT ∧ b ≤ maxT := by
 obtain ⟨h1, h2, h3, h4⟩ := zBg l 0 0 a b (by omega) (by omega) h
 refine ⟨h1, by omega, by omega, ?_⟩
 by_cases hl : l = []
 ·subst hl
  simp only [zT, xQ, Option.some.injEq, Prod.mk.injEq] at h
  unfold maxT; omega
 ·exact h4 hl
def Gs.atom (g : Gs) : Atm → Gs
 | .k => ⟨g.done ++ [g.cur], ⟨[], []⟩⟩
 | .d c => ⟨g.done, ⟨g.cur.p, g.cur.d ++ [c]⟩⟩
 | .p c => ⟨g.done, ⟨g.cur.p ++ [c], g.cur.d⟩⟩
def Gs.run (g : Gs) (l : List Atm) : Gs := l.foldl Gs.atom g
theorem zBS (b : Gs) (x y : List Atm) : b.run (x ++ y) = (b.run x).run y := List.foldl_append ..
theorem zJ1 (b : Gs) : ∀ ds : List UInt8, b.run (ds.map .d) = ⟨b.done, ⟨b.cur.p, b.cur.d ++ ds⟩⟩
 | [] => by cases b; simp [Gs.run]
 | x :: ds => by
  have h := zJ1 (b.atom (.d x)) ds
  simp only [Gs.run, List.map_cons, List.foldl_cons] at h ⊢
  rw [h]; simp [Gs.atom]
theorem zJ0 (b : Gs) : ∀ ds : List UInt8, b.run (ds.map .p) = ⟨b.done, ⟨b.cur.p ++ ds, b.cur.d⟩⟩
 | [] => by cases b; simp [Gs.run]
 | x :: ds => by
  have h := zJ0 (b.atom (.p x)) ds
  simp only [Gs.run, List.map_cons, List.foldl_cons] at h ⊢
  rw [h]; simp [Gs.atom]
theorem zJX (b : Gs) : ∀ n : Nat, b.run (List.replicate (n + 1) .k) = b.keeps (n + 1)
 | 0 => by simp [Gs.run, Gs.atom, Gs.keeps, List.replicate]
 | n + 1 => by
  rw [List.replicate_succ', zBS, zJX b n]
  simp only [Gs.run, List.foldl_cons, List.foldl_nil, Gs.atom, Gs.keeps]
  simp [List.replicate_succ']
theorem zIf (g : Gs) (s : Stp) (h : yL s) : g.run s.atoms = g.step s := by
 obtain ⟨k, d, p⟩ := s
 rcases h with ⟨h1, h2, h3⟩ | ⟨h1, h2, h3⟩ | ⟨h1, h2, h3⟩
 ·simp only at h1 h2 h3
  subst h2; subst h3
  simp only [Stp.atoms, List.map_nil, List.append_nil, Gs.step, h1, if_true]
  obtain ⟨n, hn⟩ : ∃ n, k.toNat = n + 1 := ⟨k.toNat - 1, by omega⟩
  rw [hn, zJX]; simp [Gs.keeps]
 ·simp only at h1 h2 h3
  subst h1; subst h3
  simp [Stp.atoms, Gs.step, h2, zJ1]
 ·simp only at h1 h2 h3
  subst h1; subst h2
  simp [Stp.atoms, Gs.step, zJ0]
theorem zFR : ∀ (l : List Stp) (g : Gs), (∀ s ∈ l, yL s) → g.run (zG l) = l.foldl Gs.step g
 | [], g, _ => rfl
 | s :: l, g, h => by
  rw [w7, zBS, zIf g s (h s List.mem_cons_self), zFR l _ (fun x hx => h x (List.mem_cons_of_mem _ hx)), List.foldl_cons]
theorem zGV (l : List Stp) (h : ∀ s ∈ l, yL s) : zO l = Gs.start.run (zG l) := (zFR l _ h).symm
theorem zKm (g : Gs) (a : Atm) : yO (nfOf (g.atom a)) = yO (nfOf g) + yO [a] ∧ toA (nfOf (g.atom a)) = toA (nfOf g) + toA [a] := by
 cases a <;> simp only [Gs.atom, nfOf, gapA, List.flatMap_append, List.flatMap_cons, List.flatMap_nil, yD, x7, List.map_append, zAt, zC6, zJ6, zKQ, yO, toA, List.map_cons, List.map_nil, List.append_nil] <;> omega
theorem zHw : ∀ (l : List Atm) (g : Gs), yO (nfOf (g.run l)) = yO (nfOf g) + yO l ∧ toA (nfOf (g.run l)) = toA (nfOf g) + toA l
 | [], g => ⟨rfl, rfl⟩
 | a :: l, g => by
  obtain ⟨h1, h2⟩ := zHw l (g.atom a)
  obtain ⟨h3, h4⟩ := zKm g a
  have e1 : yO (a :: l) = yO [a] + yO l := yD [a] l
  have e2 : toA (a :: l) = toA [a] + toA l := x7 [a] l
  rw [show g.run (a :: l) = (g.atom a).run l from rfl, h1, h2, h3, h4, e1, e2]
  omega
theorem kY (l : List Stp) (h : ∀ s ∈ l, yL s) : yO (nfOf (zO l)) = yO (zG l) ∧ toA (nfOf (zO l)) = toA (zG l) := by
 obtain ⟨h1, h2⟩ := zHw (zG l) Gs.start
 rw [zGV l h, h1, h2]
 simp [Gs.start, nfOf, gapA, yO, toA]
end Go.Eng
namespace Go.Eng
open Go
structure BFit (N : Nat) (B : Bld) : Prop where
 len : B.l.length ≤ N
 k : ∀ s ∈ B.l, 0 ≤ s.k ∧ s.k ≤ N
 p : B.p.length ≤ N
 d : B.d.length ≤ N
theorem BFit.mono {N M : Nat} {B : Bld} (h : BFit N B) (hm : N ≤ M) : BFit M B :=
 ⟨by have := h.len; omega, fun s hs => by have := h.k s hs; omega, by have := h.p; omega, by have := h.d; omega⟩
theorem BFit.start : BFit 0 Bld.start := ⟨Nat.le_refl _, fun s hs => by simp [Bld.start] at hs, Nat.le_refl _, Nat.le_refl _⟩
theorem BFit.close {N : Nat} {B : Bld} (h : BFit N B) : BFit (N + 2) B.close := by
 refine ⟨?_, fun s hs => ?_, by simp [Bld.close], by simp [Bld.close]⟩
 ·have := h.len
  unfold Bld.close
  split <;> split <;> simp <;> omega
 ·unfold Bld.close at hs
  simp only [List.mem_append] at hs
  rcases hs with (hs | hs) | hs
  ·have := h.k s hs; omega
  ·split at hs <;> simp at hs; subst hs; simp; omega
  ·split at hs <;> simp at hs; subst hs; simp; omega
theorem zHH {N : Nat} {l : List Stp} {n : Nat} (h : ∀ s ∈ l, 0 ≤ s.k ∧ s.k ≤ N) : (∀ s ∈ yV l n, 0 ≤ s.k ∧ s.k ≤ ((N + n : Nat) : Int)) ∧ (yV l n).length ≤ l.length + 1 := by
 unfold yV
 cases hl : l.getLast? with
 | none => simp; omega
 | some s =>
  obtain ⟨ys, e⟩ := List.getLast?_eq_some_iff.1 hl
  have hs := h s (by rw [e]; simp)
  have e2 : l.dropLast = ys := by rw [e]; simp
  simp only [e2]
  split
  ·refine ⟨fun x hx => ?_, by rw [e]; simp⟩
   simp only [List.mem_append, List.mem_singleton] at hx
   rcases hx with hx | rfl
   ·have := h x (by rw [e]; simp [hx]); omega
   ·simp; omega
  ·refine ⟨fun x hx => ?_, by simp⟩
   simp only [List.mem_append, List.mem_singleton] at hx
   rcases hx with hx | rfl
   ·have := h x hx; omega
   ·simp; omega
theorem BFit.keep {N n : Nat} {B : Bld} (h : BFit N B) : BFit (N + n + 3) (B.keep n) := by
 unfold Bld.keep
 split
 ·exact h.mono (by omega)
 ·have hc := h.close
  obtain ⟨h1, h2⟩ := zHH (n := n) hc.k
  exact ⟨by have := hc.len; simp only; omega, fun s hs => by have := h1 s hs; omega, by simp, by simp⟩
theorem BFit.atom {N : Nat} {B : Bld} (h : BFit N B) (a : Atm) : BFit (N + 4) (B.atom a) := by
 cases a with
 | k => exact h.keep (n := 1)
 | d c => exact ⟨by have := h.len; simp only [Bld.atom]; omega, fun s hs => by have := h.k s hs; omega, by have := h.p; simp only [Bld.atom]; omega, by have := h.d; simp [Bld.atom]; omega⟩
 | p c => exact ⟨by have := h.len; simp only [Bld.atom]; omega, fun s hs => by have := h.k s hs; omega, by have := h.p; simp [Bld.atom]; omega, by have := h.d; simp only [Bld.atom]; omega⟩
theorem BFit.run : ∀ (l : List Atm) {N : Nat} {B : Bld}, BFit N B → BFit (N + 4 * l.length) (B.run l)
 | [], _, _, h => h
 | a :: l, N, B, h => by
  have := BFit.run l (h.atom a)
  exact this.mono (by simp; omega)
theorem BFit.runs (l : List Atm) : BFit (4 * l.length) (Bld.start.run l) := (BFit.run l BFit.start).mono (by omega)
theorem zBH (s : Stp) : s.atoms.length = s.k.toNat + s.d.length + s.p.length := by simp [Stp.atoms]; omega
theorem qW : ∀ l : List Atm, l.length ≤ yO l + toA l
 | [] => Nat.le_refl _
 | .k :: l => by have := qW l; simp only [yO, toA, List.length_cons]; omega
 | .d _ :: l => by have := qW l; simp only [yO, toA, List.length_cons]; omega
 | .p _ :: l => by have := qW l; simp only [yO, toA, List.length_cons]; omega
theorem zA6 : ∀ l : List Stp, (∀ s ∈ l, yL s) → l.length ≤ (zG l).length
 | [], _ => Nat.le_refl _
 | s :: l, h => by
  have := zA6 l (fun x hx => h x (List.mem_cons_of_mem _ hx))
  have h1 : 1 ≤ s.atoms.length := by
   rw [zBH]
   rcases h s List.mem_cons_self with ⟨h, _, _⟩ | ⟨_, h, _⟩ | ⟨_, _, h⟩
   ·omega
   ·have := List.length_pos_iff.2 h; omega
   ·have := List.length_pos_iff.2 h; omega
  rw [w7, List.length_append, List.length_cons]; omega
theorem zCc {α : Type} (l : List α) : l = [] ∨ ∃ ys s, l = ys ++ [s] := by
 rcases List.eq_nil_or_concat l with h | ⟨ys, s, h⟩
 ·exact .inl h
 ·exact .inr ⟨ys, s, by simpa using h⟩
end Go.Eng
namespace Go.Eng
open Go
def xL : List UInt8 → List Atm → Option (List UInt8)
 | _, [] => some []
 | s, .p b :: l => (xL s l).map (b :: ·)
 | c :: s, .k :: l => (xL s l).map (c :: ·)
 | c :: s, .d b :: l => if c = b then xL s l else none
 | [], .k :: _ => none
 | [], .d _ :: _ => none
theorem zF5 (s : List UInt8) (b : UInt8) (l : List Atm) : xL s (.p b :: l) = (xL s l).map (b :: ·) := by cases s <;> rfl
theorem zCB (s : List UInt8) : xL s [] = some [] := by cases s <;> rfl
theorem zL7 (s : List UInt8) : ∀ (ds : List UInt8) (l : List Atm), xL s (ds.map .p ++ l) = (xL s l).map (ds ++ ·)
 | [], l => by simp
 | b :: ds, l => by rw [List.map_cons, List.cons_append, zF5, zL7 s ds l, Option.map_map]; rfl
theorem zL6 : ∀ (n : Nat) (s : List UInt8) (l : List Atm), n ≤ s.length → xL s (List.replicate n .k ++ l) = (xL (s.drop n) l).map (s.take n ++ ·)
 | 0, s, l, _ => by simp
 | n + 1, [], l, h => by simp at h
 | n + 1, c :: s, l, h => by
  rw [List.replicate_succ, List.cons_append, xL, zL6 n s l (by simpa using h), Option.map_map]; rfl
theorem zL5 : ∀ (ds s : List UInt8) (l : List Atm), ds.length ≤ s.length → xL s (ds.map .d ++ l) = if s.take ds.length = ds then xL (s.drop ds.length) l else none
 | [], s, l, _ => by simp
 | b :: ds, [], l, h => by simp at h
 | b :: ds, c :: s, l, h => by
  rw [List.map_cons, List.cons_append, xL, zL5 ds s l (by simpa using h)]
  by_cases hb : c = b
  ·subst hb; simp
  ·simp [hb]
end Go.Eng
namespace Go.Eng
open Go
def takeS (s : Stp) (n : Nat) : Stp := if 0 < s.k then ⟨n, [], []⟩ else if s.d ≠ [] then ⟨0, s.d.take n, []⟩ else ⟨0, [], s.p.take n⟩
def dropS (s : Stp) (n : Nat) : Stp := if 0 < s.k then ⟨s.k - n, [], []⟩ else if s.d ≠ [] then ⟨0, s.d.drop n, []⟩ else ⟨0, [], s.p.drop n⟩
def restS (s : Stp) (n : Nat) (X : List Stp) : List Stp := if n = s.atoms.length then X else dropS s n :: X
end Go.Eng
namespace Go.Eng
open Go
def compP (a b : List Stp) : Int ⊕ List Stp := match zT a, zT b with
 | some (_, mid), some (xD, _) => if mid ≠ xD then .inl 5 else match compA (nfOf (zO a)) (nfOf (zO b)) with
  | none => .inl 270
  | some o => .inr (Bld.start.run o).close.l
 | _, _ => .inl 2
end Go.Eng
namespace Go.Eng
open Go
def cmpT (B : Bld) (xs ys : List Atm) : Option (List Stp) := (compA xs ys).map fun o => (B.run o).close.l
theorem zCj {s : Stp} (h : yL s) : 0 ≤ s.k ∧ s.k ≤ s.atoms.length ∧ s.d.length ≤ s.atoms.length ∧ s.p.length ≤ s.atoms.length := by
 have := zBH s
 rcases h with ⟨h, _, _⟩ | ⟨h, _, _⟩ | ⟨h, _, _⟩ <;> omega
def midsA : Nat → List Atm → List (Int × UInt8)
 | _, [] => []
 | i, .k :: l => ((i : Int), 0) :: midsA (i + 1) l
 | i, .d _ :: l => midsA (i + 1) l
 | i, .p c :: l => (-1, c) :: midsA i l
def bytesA : List Atm → List UInt8
 | [] => []
 | .k :: l => 0 :: bytesA l
 | .d c :: l => c :: bytesA l
 | .p _ :: l => bytesA l
def midsTo (P : List (List UInt8)) (D : List Bool) : Nat → List (Int × UInt8)
 | 0 => []
 | p + 1 => midsTo P D p ++ (P.getD p []).map (fun c => (-1, c)) ++ (if D.getD p true = false then [((p : Int), 0)] else [])
end Go.Eng
namespace Go.Eng
open Go
def carA : List Atm → List Atm → Option (List Atm × List Atm)
 | .p b :: xs, ys => (carA xs ys).map fun o => (.p b :: o.1, .k :: o.2)
 | [], .p b :: ys => (carA [] ys).map fun o => (.k :: o.1, .p b :: o.2)
 | .k :: xs, .p b :: ys => (carA (.k :: xs) ys).map fun o => (.k :: o.1, .p b :: o.2)
 | .d c :: xs, .p b :: ys => (carA (.d c :: xs) ys).map fun o => (.k :: o.1, .p b :: o.2)
 | .k :: xs, .k :: ys => (carA xs ys).map fun o => (.k :: o.1, .k :: o.2)
 | .d b :: xs, .k :: ys => (carA xs ys).map fun o => (.d b :: o.1, o.2)
 | .k :: xs, .d b :: ys => (carA xs ys).map fun o => (o.1, .d b :: o.2)
 | .d b :: xs, .d c :: ys => if b = c then carA xs ys else none
 | [], [] => some ([], [])
 | [], .k :: _ => some ([], [])
 | [], .d _ :: _ => some ([], [])
 | .k :: _, [] => some ([], [])
 | .d _ :: _, [] => some ([], [])
termination_by xs ys => xs.length + ys.length
def carT (U V : Bld) (n : Nat) (xs ys : List Atm) : Option (List Stp × List Stp × Nat) := (carA xs ys).map fun o => ((U.run o.1).close.l, (V.run o.2).close.l, n + toA o.1)
def carP (a b : List Stp) : Int ⊕ (List Stp × List Stp) := match zT a, zT b with
 | some (xD, _), some (same, _) => if xD ≠ same then .inl 5 else match carT Bld.start Bld.start 0 (nfOf (zO a)) (nfOf (zO b)) with
  | none => .inl 270
  | some (u, v, n) => if 65536 < n then .inl 3 else .inr (u, v)
 | _, _ => .inl 2
end Go.Eng
namespace Go.Eng
open Go
theorem u6 (X Y : List Atm) (h : ∀ s, xL s X = xL s Y) : ∀ (pre : List Atm) (s : List UInt8), xL s (pre ++ X) = xL s (pre ++ Y)
 | [], s => h s
 | .p b :: pre, s => by rw [List.cons_append, List.cons_append, zF5, zF5, u6 X Y h pre s]
 | .k :: pre, [] => rfl
 | .k :: pre, c :: s => by rw [List.cons_append, List.cons_append, xL, xL, u6 X Y h pre s]
 | .d b :: pre, [] => rfl
 | .d b :: pre, c :: s => by rw [List.cons_append, List.cons_append, xL, xL, u6 X Y h pre s]
theorem zIr (c b : UInt8) (s : List UInt8) (l : List Atm) : xL (c :: s) (.d b :: l) = if c = b then xL s l else none := rfl
theorem zLN (c : UInt8) (L : List Atm) : ∀ (ds s : List UInt8), xL s (ds.map .d ++ .p c :: L) = xL s (.p c :: (ds.map .d ++ L))
 | [], s => rfl
 | b :: ds, [] => by rw [zF5]; rfl
 | b :: ds, e :: s => by
  rw [List.map_cons, List.cons_append, List.cons_append, zIr, zLN c L ds s, zF5, zF5, zIr]
  split <;> rfl
theorem zMS (g : Gs) (a : Atm) (L : List Atm) (s : List UInt8) : xL s (nfOf (g.atom a) ++ L) = xL s (nfOf g ++ a :: L) := by
 cases a with
 | k => simp [Gs.atom, nfOf, gapA]
 | d c => simp [Gs.atom, nfOf, gapA]
 | p c =>
  simp only [Gs.atom, nfOf, gapA, List.map_append, List.map_cons, List.map_nil, List.append_assoc, List.cons_append, List.nil_append]
  rw [← List.append_assoc, ← List.append_assoc (g.done.flatMap _)]
  exact u6 _ _ (fun s => (zLN c L g.cur.d s).symm) _ s
theorem zL9 : ∀ (L : List Atm) (g : Gs) (s : List UInt8), xL s (nfOf (g.run L)) = xL s (nfOf g ++ L)
 | [], g, s => by rw [List.append_nil]; rfl
 | a :: L, g, s => by
  rw [show g.run (a :: L) = (g.atom a).run L from rfl, zL9 L (g.atom a) s, zMS]
theorem zMn (L : List Atm) (s : List UInt8) : xL s (nfOf (Gs.start.run L)) = xL s L := zL9 L Gs.start s
theorem zND (l : List Stp) (h : ∀ s ∈ l, yL s) (s : List UInt8) : xL s (nfOf (zO l)) = xL s (zG l) := by rw [zGV l h, zMn]
theorem zJf (g : Gs) (a : Atm) : (bldGs g).atom a = bldGs (g.atom a) := by
 cases a with
 | k => simp [Bld.atom, bldGs, Gs.atom, xJ]
 | d c => simp [Bld.atom, bldGs, Gs.atom]
 | p c => simp [Bld.atom, bldGs, Gs.atom]
theorem zHK : ∀ (L : List Atm) (g : Gs), (bldGs g).run L = bldGs (g.run L)
 | [], _ => rfl
 | a :: L, g => by
  rw [show g.run (a :: L) = (g.atom a).run L from rfl, ← zHK L (g.atom a), ← zJf]; rfl
theorem zHr (L : List Atm) : Bld.start.run L = bldGs (Gs.start.run L) := zHK L Gs.start
def listOf (L : List Atm) : List Stp := (Bld.start.run L).close.l
theorem zIq (L : List Atm) : (∀ s ∈ listOf L, yL s) ∧ zG (listOf L) = nfOf (Gs.start.run L) := by
 unfold listOf
 rw [zHr]
 exact ⟨zDp _ (qM _).2, by rw [kL, (qM _).1]⟩
theorem zGH (L : List Atm) : yO (zG (listOf L)) = yO L ∧ toA (zG (listOf L)) = toA L := by
 obtain ⟨h1, h2⟩ := zHw L Gs.start
 rw [(zIq L).2, h1, h2]
 simp [Gs.start, nfOf, gapA, yO, toA]
theorem zCp (l : List Stp) : z7 l = listOf (nfOf (zO l)) := zHz l
theorem zEy : ∀ (l : List Stp) (f t : Int), (∀ s ∈ l, yL s) → 0 ≤ f → 0 ≤ t → f + (yO (zG l) : Int) ≤ maxT → t + (toA (zG l) : Int) ≤ maxT → xQ l f t = some (f + (yO (zG l) : Int), t + (toA (zG l) : Int))
 | [], f, t, _, _, _, _, _ => by simp [xQ, zG, yO, toA]
 | s :: l, f, t, h, h1, h2, h3, h4 => by
  have hs := h s List.mem_cons_self
  have hk : 0 ≤ s.k := by rcases hs with ⟨h, _, _⟩ | ⟨h, _, _⟩ | ⟨h, _, _⟩ <;> omega
  rw [w7] at h3 h4 ⊢
  rw [yD, zBF] at h3 ⊢
  rw [x7, zIa] at h4 ⊢
  rw [xQ, if_pos ⟨hs, by omega, by omega, by omega⟩, zEy l _ _ (fun x hx => h x (List.mem_cons_of_mem _ hx)) (by omega) (by omega) (by omega) (by omega)]
  simp only [Option.some.injEq, Prod.mk.injEq]
  omega
theorem zB8 {l : List Stp} (h : ∀ s ∈ l, yL s) (h1 : yO (zG l) ≤ 65536) (h2 : toA (zG l) ≤ 65536) : zT l = some ((yO (zG l) : Int), (toA (zG l) : Int)) := by
 unfold zT
 rw [zEy l 0 0 h (by omega) (by omega) (by unfold maxT; omega) (by unfold maxT; omega)]
 simp
theorem zAk : ∀ (A : List Atm) (s t : List UInt8), xL s A = some t → t.length = toA A
 | [], s, t, h => by rw [zCB] at h; cases h; rfl
 | .p b :: A, s, t, h => by
  rw [zF5] at h
  obtain ⟨t', h', rfl⟩ := Option.map_eq_some_iff.1 h
  simp [toA, zAk A s t' h']
 | .k :: A, [], t, h => by cases h
 | .k :: A, c :: s, t, h => by
  rw [xL] at h
  obtain ⟨t', h', rfl⟩ := Option.map_eq_some_iff.1 h
  simp [toA, zAk A s t' h']
 | .d b :: A, [], t, h => by cases h
 | .d b :: A, c :: s, t, h => by
  rw [xL] at h
  split at h
  ·simpa [toA] using zAk A s t h
  ·cases h
end Go.Eng
namespace Go.Eng
open Go
end Go.Eng
namespace Go.Eng
open Go
end Go.Eng
namespace Go.Eng
open Go
def Atm.inv : Atm → Atm
 | .k => .k
 | .d b => .p b
 | .p b => .d b
def Stp.inv (s : Stp) : Stp := ⟨s.k, s.p, s.d⟩
def Gap.inv (g : Gap) : Gap := ⟨g.d, g.p⟩
def Gs.inv (g : Gs) : Gs := ⟨g.done.map Gap.inv, g.cur.inv⟩
theorem zMx (l : List Stp) (h : ∀ s ∈ l, yL s) (s : List UInt8) : xL s (zG (z7 l)) = xL s (zG l) := by rw [uL, zND l h]
theorem zE9 {l : List Stp} {f t : Int} (hs : zT l = some (f, t)) : zT (z7 l) = some (f, t) := by
 obtain ⟨h1, h2, h3, h4, h5⟩ := uR hs
 have hok : ∀ s ∈ l, yL s := fun s hs => (h1 s hs).1
 obtain ⟨n1, n2⟩ := kY l hok
 unfold maxT at h4 h5
 rw [zB8 (zJa l) (by rw [uL]; omega) (by rw [uL]; omega), uL, n1, n2, h2, h3]
theorem zHL (c : UInt8) (s : List UInt8) (l : List Atm) : xL (c :: s) (.k :: l) = (xL s l).map (c :: ·) := rfl
end Go.Eng
namespace Go.Eng
open Go
theorem zAv (s : List UInt8) (L : List Atm) : ∀ t : List UInt8, xL s (t.map .p ++ L) = (xL s L).map (t ++ ·)
 | [] => by cases h : xL s L <;> simp [h]
 | b :: t => by
  rw [List.map_cons, List.cons_append, zF5, zAv s L t]
  cases xL s L <;> rfl
theorem kJ (s : List UInt8) (L : List Atm) : ∀ t : List UInt8, xL (t ++ s) (t.map .d ++ L) = xL s L
 | [] => rfl
 | b :: t => by rw [List.map_cons, List.cons_append, List.cons_append, zIr, if_pos rfl, kJ s L t]
theorem zBe (s : List UInt8) (L : List Atm) : ∀ t : List UInt8, xL (t ++ s) (List.replicate t.length .k ++ L) = (xL s L).map (t ++ ·)
 | [] => by cases h : xL s L <;> simp [h]
 | b :: t => by
  rw [List.length_cons, List.replicate_succ, List.cons_append, List.cons_append, zHL, zBe s L t]
  cases xL s L <;> rfl
def putT (t : List UInt8) : List Stp := if t = [] then [] else [⟨0, [], t⟩]
def dropT (t : List UInt8) : List Stp := if t = [] then [] else [⟨0, t, []⟩]
def keepT (t : List UInt8) : List Stp := [⟨(t.length : Int), [], []⟩]
theorem j9 (t : List UInt8) : zG (putT t) = t.map .p := by
 unfold putT
 split
 ·next h => rw [h]; rfl
 ·simp [zG, Stp.atoms]
theorem qY (t : List UInt8) : zG (dropT t) = t.map .d := by
 unfold dropT
 split
 ·next h => rw [h]; rfl
 ·simp [zG, Stp.atoms]
theorem zBw (t : List UInt8) : zG (keepT t) = List.replicate t.length .k := by
 simp [keepT, zG, Stp.atoms]
theorem zIw {t : List UInt8} {x : Stp} (h : x ∈ putT t) : yL x := by
 unfold putT at h
 split at h
 ·cases h
 ·next h1 => rw [List.mem_singleton] at h; subst h; exact .inr (.inr ⟨rfl, rfl, h1⟩)
theorem zFx {t : List UInt8} {x : Stp} (h : x ∈ dropT t) : yL x := by
 unfold dropT at h
 split at h
 ·cases h
 ·next h1 => rw [List.mem_singleton] at h; subst h; exact .inr (.inl ⟨rfl, h1, rfl⟩)
theorem zJy {t : List UInt8} {x : Stp} (ht : t ≠ []) (h : x ∈ keepT t) : yL x := by
 unfold keepT at h
 rw [List.mem_singleton] at h
 subst h
 have := List.length_pos_iff.2 ht
 exact .inl ⟨by simp only; omega, rfl, rfl⟩
def chGo (x y : List Tx) : List (Nat × Nat) → Nat → Nat → List Stp
 | [], i, k => putT (jn y k y.length) ++ dropT (jn x i x.length)
 | p :: l, i, k => putT (jn y k p.2) ++ (dropT (jn x i p.1) ++ (keepT (x.getD p.1 []) ++ chGo x y l (p.1 + 1) (p.2 + 1)))
theorem zEb {x y : List Tx} {p : Nat × Nat} {l : List (Nat × Nat)} {i k : Nat} : chGo x y (p :: l) i k = putT (jn y k p.2) ++ (dropT (jn x i p.1) ++ (keepT (x.getD p.1 []) ++ chGo x y l (p.1 + 1) (p.2 + 1))) := rfl
theorem zFc (t : List UInt8) : (putT t).length ≤ 1 := by unfold putT; split <;> simp
theorem zCY (t : List UInt8) : (dropT t).length ≤ 1 := by unfold dropT; split <;> simp
def chL (s t : List UInt8) : List Stp := chGo (toks s) (toks t) (yE (toks s) (toks t)) 0 0
theorem zCV {x : List Tx} {i n : Nat} (h : i ≤ n) : (x.drop i).flatten = jn x i n ++ (x.drop n).flatten := by
 unfold jn
 rw [← List.flatten_append]
 congr 1
 rw [List.drop_take, show x.drop n = (x.drop i).drop (n - i) by rw [List.drop_drop]; congr 1; omega, List.take_append_drop]
theorem zDv {x : List Tx} {i : Nat} : jn x i x.length = (x.drop i).flatten := by unfold jn; rw [List.take_length]
theorem zDs {x : List Tx} {n : Nat} {t : Tx} (h : x[n]? = some t) : (x.drop n).flatten = t ++ (x.drop (n + 1)).flatten := by
 obtain ⟨h1, h2⟩ := List.getElem?_eq_some_iff.1 h
 rw [List.drop_eq_getElem_cons h1, h2, List.flatten_cons]
theorem zA9 {x : List Tx} {n : Nat} {t : Tx} (h : x[n]? = some t) : x.getD n [] = t := by rw [List.getD_eq_getElem?_getD, h]; rfl
theorem zFj {x y : List Tx} : ∀ (l : List (Nat × Nat)) (i k : Nat), PrOk x y i k l x.length y.length → xL (x.drop i).flatten (zG (chGo x y l i k)) = some (y.drop k).flatten
 | [], i, k, _ => by
  rw [chGo, zV, j9, qY, zDv, zDv, zAv]
  have := kJ [] [] (x.drop i).flatten
  rw [List.append_nil, List.append_nil] at this
  rw [this, zCB]
  simp
 | p :: l, i, k, ⟨h1, h2, h3, h4, ⟨t, e1, e2⟩, h6⟩ => by
  have ih := zFj l (p.1 + 1) (p.2 + 1) h6
  rw [chGo, zV, zV, zV, j9, qY, zBw, zA9 e1, zAv, zCV h1, kJ, zDs e1, zBe, ih, zCV h2, zDs e2]
  rfl
theorem zHJ {x y : List Tx} : ∀ (l : List (Nat × Nat)) (i k : Nat), PrOk x y i k l x.length y.length → yO (zG (chGo x y l i k)) = (x.drop i).flatten.length
 | [], i, k, _ => by
  rw [chGo, zV, j9, qY, yD, zAt, zC6, Nat.zero_add, zDv]
 | p :: l, i, k, ⟨h1, h2, h3, h4, ⟨t, e1, e2⟩, h6⟩ => by
  have ih := zHJ l (p.1 + 1) (p.2 + 1) h6
  rw [chGo, zV, zV, zV, j9, qY, zBw, zA9 e1, yD, yD, yD, zAt, zC6, zHE, ih, zCV h1, zDs e1]
  simp only [List.length_append]; omega
theorem zKI {x y : List Tx} (hx : ∀ t ∈ x, t ≠ []) : ∀ (l : List (Nat × Nat)) (i k : Nat), PrOk x y i k l x.length y.length → ∀ s ∈ chGo x y l i k, yL s
 | [], i, k, _, s, hs => by
  rw [chGo] at hs
  rcases List.mem_append.1 hs with hs | hs
  ·exact zIw hs
  ·exact zFx hs
 | p :: l, i, k, ⟨h1, h2, h3, h4, ⟨t, e1, e2⟩, h6⟩, s, hs => by
  rw [chGo, zA9 e1] at hs
  rcases List.mem_append.1 hs with hs | hs
  ·exact zIw hs
  rcases List.mem_append.1 hs with hs | hs
  ·exact zFx hs
  rcases List.mem_append.1 hs with hs | hs
  ·exact zJy (hx t (List.mem_of_getElem? e1)) hs
  ·exact zKI hx l _ _ h6 s hs
theorem zIs (s t : List UInt8) : xL s (zG (chL s t)) = some t := by
 have := zFj _ 0 0 (wL (toks s) (toks t))
 rw [List.drop_zero, List.drop_zero, yR, yR] at this
 exact this
theorem zKE (s t : List UInt8) : ∀ x ∈ chL s t, yL x := zKI (zBk s) _ 0 0 (wL (toks s) (toks t))
theorem zAh {s t : List UInt8} (hs : s.length ≤ 65536) (ht : t.length ≤ 65536) : zT (chL s t) = some ((s.length : Int), (t.length : Int)) := by
 have h1 := zHJ _ 0 0 (wL (toks s) (toks t))
 rw [List.drop_zero, yR] at h1
 have h2 := zAk _ _ _ (zIs s t)
 have h3 : yO (zG (chL s t)) = s.length := h1
 rw [zB8 (zKE s t) (by omega) (by omega), h3, ← h2]
end Go.Eng
namespace Go.Eng
open Go
def keepA : List Atm → Nat
 | [] => 0
 | .k :: l => keepA l + 1
 | .d _ :: l => keepA l
 | .p _ :: l => keepA l
def keepN (l : List Stp) : Int := (l.map Stp.k).sum
def pairN (x : List Tx) (l : List (Nat × Nat)) : Nat := (l.map fun p => (x.getD p.1 []).length).sum
end Go.Eng
namespace Go.Eng
open Go
def txOf (L : List Dr) (k : Nat) : List UInt8 := (L[k]?).elim [] (·.t)
theorem xU {L : List Dr} {k : Nat} {d : Dr} (h : L[k]? = some d) : txOf L k = d.t := by unfold txOf; rw [h]; rfl
def setAll (src : List Nat) (M : List (Nat × Nat)) (row : List Nat) : List Nat := M.foldl (fun r x => r.set x.2 (src.getD x.1 0)) row
def orgStep (L : List Dr) (A : Nat → List Nat) (n : Nat) (row : List Nat) (p : Nat) : List Nat := setAll (A p) (yE (toks (txOf L p)) (toks (txOf L n))) row
def orgRow (L : List Dr) (A : Nat → List Nat) (n : Nat) : List Nat := (parsOf L n).reverse.foldl (orgStep L A n) (List.replicate (toks (txOf L n)).length n)
def orgAll (L : List Dr) : Nat → List (List Nat)
 | 0 => []
 | n + 1 => orgAll L n ++ [orgRow L (fun p => (orgAll L n).getD p []) n]
def orgK (L : List Dr) (n : Nat) : List Nat := orgRow L (fun p => (orgAll L n).getD p []) n
theorem j0 {α β : Type} {f g : α → β → α} : ∀ {l : List β} {a : α}, (∀ a, ∀ x ∈ l, f a x = g a x) → l.foldl f a = l.foldl g a
 | [], _, _ => rfl
 | x :: l, a, h => by
  rw [List.foldl_cons, List.foldl_cons, h a x List.mem_cons_self]
  exact j0 (fun a y hy => h a y (List.mem_cons_of_mem _ hy))
abbrev Ro := Option (Nat × List Nat)
def roV : Ro → List Value
 | none => [.slice none 0 0]
 | some x => [.slice (some ⟨x.1, 0, none⟩) x.2.length x.2.length]
def roH (T : TypeId) : Ro → SHeap
 | none => []
 | some x => [.row (some ⟨x.1, 0, none⟩) x.2.length T 1 (nums x.2)]
def rosH (T : TypeId) (R : List Ro) : SHeap := R.flatMap (roH T)
def allV (R : List Ro) (k : Nat) : List (List Value) := R.map roV ++ List.replicate (k - R.length) [.slice none 0 0]
end Go.Eng
namespace Go.Eng
open Go
def Un.sh (u : Un) (n : Nat) : Un := ⟨u.k, u.r, u.a + n, u.z + n, u.o⟩
def Tk.sh (t : Tk) (n : Nat) : Tk := ⟨t.k, t.a + n, t.z + n⟩
def Pc.mv (p : Pc) (n : Nat) : Pc := ⟨p.at_ + n, p.w, p.r, p.b⟩
end Go.Eng
namespace Go.Eng
open Go
abbrev Gp := List (List (List UInt8) × Nat)
def gAdd (G : Gp) (x : List UInt8 × Nat) : Gp :=
 match G.getLast? with
 | some g => if g.2 = x.2 then G.dropLast ++ [(g.1 ++ [x.1], g.2)] else G ++ [([x.1], x.2)]
 | none => [([x.1], x.2)]
theorem kT (x : List UInt8 × Nat) : gAdd [] x = [([x.1], x.2)] := rfl
theorem qC {G : Gp} {ts : List (List UInt8)} {d : Nat} {t : List UInt8} : gAdd (G ++ [(ts, d)]) (t, d) = G ++ [(ts ++ [t], d)] := by
 unfold gAdd
 simp
theorem kB {G : Gp} {ts : List (List UInt8)} {d e : Nat} {t : List UInt8} (h : d ≠ e) : gAdd (G ++ [(ts, d)]) (t, e) = G ++ [(ts, d)] ++ [([t], e)] := by
 unfold gAdd
 simp [h]
def gOf (Z : List (List UInt8 × Nat)) : Gp := Z.foldl gAdd []
structure Og where
 a : Nat
 z : Nat
 d : Nat
def ogL : Nat → Gp → List Og
 | _, [] => []
 | at_, g :: G => ⟨at_, at_ + g.1.flatten.length, g.2⟩ :: ogL (at_ + g.1.flatten.length) G
def Gp.size (G : Gp) : Nat := (G.map fun g => g.1.flatten.length).sum
structure GOk (Z : List (List UInt8 × Nat)) (G : Gp) : Prop where
 flat : G.flatMap (fun g => g.1.map fun t => (t, g.2)) = Z
 ne : ∀ g ∈ G, g.1 ≠ []
 adj : ∀ i g h, G[i]? = some g → G[i + 1]? = some h → g.2 ≠ h.2
theorem GOk.add {Z : List (List UInt8 × Nat)} {G : Gp} (h : GOk Z G) (x : List UInt8 × Nat) : GOk (Z ++ [x]) (gAdd G x) := by
 obtain ⟨t, e⟩ := x
 rcases List.eq_nil_or_concat G with rfl | ⟨F, ⟨ts, d⟩, rfl⟩
 ·have hz : Z = [] := h.flat.symm
  subst hz
  exact ⟨rfl, fun g hg => by rw [kT] at hg; rw [List.mem_singleton] at hg; subst hg; simp, fun i g k h1 h2 => by rw [kT] at h2; simp at h2⟩
 ·rw [List.concat_eq_append] at h ⊢
  by_cases he : d = e
  ·subst he
   rw [qC]
   refine ⟨?_, fun g hg => ?_, fun i g k h1 h2 => ?_⟩
   ·have := h.flat
    rw [List.flatMap_append] at this ⊢
    rw [← this]
    simp
   ·rcases List.mem_append.1 hg with hg | hg
    ·exact h.ne g (List.mem_append_left _ hg)
    ·rw [List.mem_singleton] at hg; subst hg; simp
   ·have hl := (List.getElem?_eq_some_iff.1 h2).1
    rw [List.length_append, List.length_singleton] at hl
    rw [List.getElem?_append_left (by omega)] at h1
    by_cases hi : i + 1 < F.length
    ·rw [List.getElem?_append_left hi] at h2
     exact h.adj i g k (by rw [List.getElem?_append_left (by omega)]; exact h1) (by rw [List.getElem?_append_left hi]; exact h2)
    ·have hi2 : i + 1 = F.length := by omega
     rw [hi2, List.getElem?_append_right (Nat.le_refl _), Nat.sub_self] at h2
     have hk : k.2 = d := by simp at h2; rw [← h2]
     have := h.adj i g (ts, d) (by rw [List.getElem?_append_left (by omega)]; exact h1) (by rw [hi2, List.getElem?_append_right (Nat.le_refl _), Nat.sub_self]; rfl)
     rw [hk]; exact this
  ·rw [kB he]
   refine ⟨?_, fun g hg => ?_, fun i g k h1 h2 => ?_⟩
   ·rw [List.flatMap_append, h.flat]; rfl
   ·rcases List.mem_append.1 hg with hg | hg
    ·exact h.ne g hg
    ·rw [List.mem_singleton] at hg; subst hg; simp
   ·have hl := (List.getElem?_eq_some_iff.1 h2).1
    rw [List.length_append, List.length_append, List.length_singleton, List.length_singleton] at hl
    rw [List.getElem?_append_left (by rw [List.length_append, List.length_singleton]; omega)] at h1
    by_cases hi : i + 1 < F.length + 1
    ·rw [List.getElem?_append_left (by rw [List.length_append, List.length_singleton]; exact hi)] at h2
     exact h.adj i g k h1 h2
    ·have hi2 : i = F.length := by omega
     subst hi2
     rw [List.getElem?_append_right (Nat.le_refl _), Nat.sub_self] at h1
     rw [List.getElem?_append_right (by rw [List.length_append, List.length_singleton]; exact Nat.le_refl _), List.length_append, List.length_singleton, Nat.sub_self] at h2
     simp at h1 h2
     rw [← h1, ← h2]; exact he
theorem GOk.texts {Z : List (List UInt8 × Nat)} {G : Gp} (h : GOk Z G) : Z.map (·.1) = G.flatMap (·.1) := by
 rw [← h.flat]
 clear h
 induction G with
 | nil => rfl
 | cons g G ih =>
  rw [List.flatMap_cons, List.flatMap_cons, List.map_append, ih, List.map_map]
  congr 1
  exact (List.map_congr_left fun _ _ => rfl).trans (List.map_id _)
def orgZ (L : List Dr) (k : Nat) : List (List UInt8 × Nat) := (toks (txOf L k)).zip (orgK L k)
def orgG (L : List Dr) (k : Nat) : Gp := gOf (orgZ L k)
end Go.Eng
namespace Go.Eng
open Go Go.RowKit
theorem zF6 {w0 : World} {m : Mem} {H : SHeap} {a : Option Addr} {cap : Nat} {T : TypeId} {sz : Nat} {es : List (List Value)} (hm : ∀ w, Sat w0 m H w → Item.holds w (.row a cap T sz es)) : RowR w0 m H sz a es := by
 intro w hs
 have h := hm w hs
 cases a with
 | none =>
  have h' : es = [] ∧ cap = 0 := h
  obtain ⟨rfl, _⟩ := h'
  exact ⟨fun _ h => (by cases h), rfl⟩
 | some a =>
  obtain ⟨arr, fz, h1, h2, h3, h4, h5, h6, _⟩ := h
  refine ⟨h6, fun j v hj => ?_⟩
  rw [w9 (by rw [h1])]
  have ho : a.off = 0 := by rw [h1]
  have hl := uW h6
  have hlt := (List.getElem?_eq_some_iff.1 hj).1
  have h8 : arr.toList[j]? = some v := by rw [← h5, List.getElem?_take_of_lt (by omega)] at hj; exact hj
  simp only [ho, Nat.zero_add, World.cell?, h2]
  rw [← Array.getElem?_toList]; exact h8
theorem Sat.persistRow {w0 : World} {m : Mem} {a : Option Addr} {cap : Nat} {T : TypeId} {sz : Nat} {es : List (List Value)} {H : SHeap} {w : World} (h : Sat w0 m (.row a cap T sz es :: H) w) :
  ∃ m', m.le m' ∧ Sat w0 m' H w ∧ ∀ w1 H1, RowR w1 m' H1 sz a es := by
 have hh := h.own _ List.mem_cons_self
 cases a with
 | none =>
  have h' : es = [] ∧ cap = 0 := hh
  obtain ⟨rfl, _⟩ := h'
  exact ⟨m, Mem.le.refl _, h.drop, fun _ _ _ _ => ⟨fun _ h => (by cases h), rfl⟩⟩
 | some a =>
  obtain ⟨arr, fz, h1, h2, h3, h4, h5, h6, h7, h8⟩ := hh
  have hs : Sat w0 m (.blk a.block (.cells arr T fz) :: H) w := by
   refine h.turn rfl rfl rfl (Nat.le_refl _) (fun _ _ _ => rfl) h2 (fun x hx => .inl ?_) (by simp [Item.foot])
   simpa [Item.foot] using hx
  obtain ⟨hp, hle⟩ := hs.persist
  refine ⟨_, hle, hp, fun w1 H1 => zF6 (cap := cap) (T := T) fun w2 hs2 => ?_⟩
  exact ⟨arr, fz, h1, hs2.pers _ _ (by simp [Mem.ins]), h3, h4, h5, h6, h7, h8⟩
section
theorem WL.persistRow {ops : Array Oper} {l : List Oper} {a : Option Addr} {cap : Nat} {T : TypeId} {sz : Nat} {es : List (List Value)} {H1 : SHeap} (ho : Out (.row a cap T sz es) H H1) (h : ∀ m', m.le m' → (∀ w1 H2, RowR w1 m' H2 sz a es) → WL P ro n w0 ops Q l r ds m' H1) : WL P ro n w0 ops Q l r ds m H :=
 fun tmps w hok hs => by
  obtain ⟨m', h1, h2, h3⟩ := (hs.perm ho.perm).persistRow
  exact h _ h1 h3 tmps w hok h2
theorem WC.persistRow {c : Code} {a : Option Addr} {cap : Nat} {T : TypeId} {sz : Nat} {es : List (List Value)} {H1 : SHeap} (ho : Out (.row a cap T sz es) H H1) (h : ∀ m', m.le m' → (∀ w1 H2, RowR w1 m' H2 sz a es) → WC P ro n w0 c Q r ds m' H1) : WC P ro n w0 c Q r ds m H :=
 fun tmps w hok hs => by
  obtain ⟨m', h1, h2, h3⟩ := (hs.perm ho.perm).persistRow
  exact h _ h1 h3 tmps w hok h2
theorem WQ.persistRow {e : Exit} {a : Option Addr} {cap : Nat} {T : TypeId} {sz : Nat} {es : List (List Value)} {H1 : SHeap} (ho : Out (.row a cap T sz es) H H1) (h : ∀ m', m.le m' → (∀ w1 H2, RowR w1 m' H2 sz a es) → WQ n w0 Q e r ds m' H1) : WQ n w0 Q e r ds m H :=
 fun tmps w hok hs => by
  obtain ⟨m', h1, h2, h3⟩ := (hs.perm ho.perm).persistRow
  exact h _ h1 h3 tmps w hok h2
end
end Go.Eng
namespace Go.Eng
open Go
def dfr (D : Nat) : Item := .blk D (.deferred (some []))
def NumR (m : Mem) (b : Nat) (O : List Nat) : Prop := ∀ w1 H1, RowR w1 m H1 1 (some ⟨b, 0, none⟩) (nums O)
theorem NumR.le {m m' : Mem} {b : Nat} {O : List Nat} (h : NumR m b O) (hm : m.le m') : NumR m' b O := fun w1 H1 => (h w1 H1).le hm
end Go.Eng
namespace ZP
open Go Go.Eng
attribute [local irreducible] WL WC WQ QFun zJ Does Q1 zD zB Go.Addr.add
attribute [local irreducible] setAll
namespace ZD59aa
theorem zal {G G' : Prop} (next : G') (h : Bx G' → G := by intro zzn; (first | (refine WL.indexAddrA rfl rfl (by exact znz) rfl rfl (by omega) rfl rfl ?_)); (repeat revert zzf); exact zzn.out) : G := h ⟨next⟩
end ZD59aa
end ZP
namespace ZP
open Go Go.Eng
attribute [local irreducible] WL WC WQ QFun zJ Does Q1 zD zB Go.Addr.add
attribute [local irreducible] lnM mapO lineK orgK toks yE allV setAll
namespace ZD59a
theorem zal {G G' : Prop} (next : G') (h : Bx G' → G := by intro zzn; (first | (refine WL.indexAddrA rfl rfl (by exact znz) rfl rfl (by omega) rfl rfl ?_)); (repeat revert zzf); exact zzn.out) : G := h ⟨next⟩
end ZD59a
end ZP
